/- maslinref07: Deg, rest, Mod, May, Mul, Gcd, Up: what they return. -/
import Derived.Test.YtpkbhihkhnkhnaaUp
namespace Go.Proofs.Ytpkbhihkhnkhnaa
open Go.RowKit
theorem bit_cast (a k : Nat) : ((a : Int) / 2 ^ k).tmod 2 = ((a / 2 ^ k % 2 : Nat) : Int) := by
  have e : (a : Int) / 2 ^ k = ((a / 2 ^ k : Nat) : Int) := by rw [Int.natCast_ediv, Int.natCast_pow]; rfl
  rw [e, Int.tmod_eq_emod_of_nonneg (Int.natCast_nonneg _), Int.natCast_emod]; rfl
theorem bit_yes {a k : Nat} (h : a / 2 ^ k % 2 = 1) : (((a : Int) / 2 ^ k).tmod 2 == 1) = true := by rw [bit_cast, h]; rfl
theorem bit_no {a k : Nat} (h : ¬ a / 2 ^ k % 2 = 1) : (((a : Int) / 2 ^ k).tmod 2 == 1) = false := by
  rw [bit_cast]; have : a / 2 ^ k % 2 = 0 := by omega
  rw [this]; rfl
theorem mod_split (a k : Nat) : a % 2 ^ (k + 1) = a % 2 ^ k + 2 ^ k * (a / 2 ^ k % 2) := by
  rw [Nat.pow_succ]; exact Nat.mod_mul
theorem dg_bit_yes {a k : Nat} (h : a / 2 ^ k % 2 = 1) : (k : Int) = dg (a % 2 ^ (k + 1)) := by
  have e := mod_split a k
  rw [h, Nat.mul_one] at e
  have h1 : a % 2 ^ k < 2 ^ k := Nat.mod_lt _ (Nat.two_pow_pos k)
  have h0 : a % 2 ^ (k + 1) ≠ 0 := by have := Nat.two_pow_pos k; omega
  rw [dg_of h0, Gf2.log_of_band (i := k) (by omega) (Nat.mod_lt _ (Nat.two_pow_pos _))]
theorem dg_bit_no {a k : Nat} (h : ¬ a / 2 ^ k % 2 = 1) : dg (a % 2 ^ k) = dg (a % 2 ^ (k + 1)) := by
  have e := mod_split a k
  have h1 : a / 2 ^ k % 2 = 0 := by omega
  rw [h1, Nat.mul_zero] at e
  rw [e, Nat.add_zero]
set_option maxHeartbeats 400000 in
theorem rdeg_any (a : Int) (w : World) (ha0 : 0 ≤ a) (ha : a < 18446744073709551616) :
    Calls Try.prog 16 #[.int .u64 a] w fun e w' => e = .returned (.int .i64 (dg a.toNat)) ∧ w = w' := by
  obtain ⟨a, rfl⟩ := Int.eq_ofNat_of_zero_le ha0
  rw [Int.toNat_natCast]
  have ha' : a < 18446744073709551616 := by omega
  clear ha0 ha
  go_enter Try.func16, Try.ntmps16
  go_wp2
  go_loop [3, 4] (fun d i => ∃ k : Nat, k ≤ 64 ∧ d = .int .i64 (dg (a % 2 ^ k)) ∧ i = .int .i64 k) (fun _ i => 64 - (intOf i).toNat)
  case atStart => exact ⟨0, by omega, by rw [Nat.pow_zero, Nat.mod_one]; rfl, rfl⟩
  case round =>
    obtain ⟨k, hk, rfl, rfl⟩ := hrel
    by_cases hlt : k < 64
    · by_cases ht : a / 2 ^ k % 2 = 1
      · have hb := bit_yes ht
        have HE := Lib.hid (dg_bit_yes ht)
        clear ht
        go_wp2
        exact ⟨⟨k + 1, by omega, by rw [← HE.out], by go_num⟩, by simp only [intOf]; omega⟩
      · have hb := bit_no ht
        have HE := Lib.hid (dg_bit_no ht)
        clear ht
        go_wp2
        exact ⟨⟨k + 1, by omega, by rw [← HE.out], by go_num⟩, by simp only [intOf]; omega⟩
    · obtain rfl : k = 64 := by omega
      have HE := Lib.hid (show a % 2 ^ 64 = a from Nat.mod_eq_of_lt ha')
      generalize a % 2 ^ 64 = c at *
      go_wp2
      go_ret
      exact ⟨ret_int (by rw [HE.out]), rfl⟩
/-- one round of 'rest', the bit being set -/
theorem rest_yes {a b p m : Nat} (hp0 : p ≠ 0) (hm : p.log2 ≤ m) (hb : b < 2 ^ (m + 1)) (ht : b / 2 ^ m % 2 = 1) (HB : Hid (Gf2.pm b p = Gf2.pm a p)) :
    b ^^^ p * 2 ^ (m - p.log2) < 2 ^ m ∧ Hid (Gf2.pm (b ^^^ p * 2 ^ (m - p.log2)) p = Gf2.pm a p) := by
  have h2 : 2 ^ m ≤ b := by
    apply Nat.le_of_not_lt; intro h; rw [Nat.div_eq_of_lt h] at ht; omega
  have e := Gf2.log_of_band h2 hb
  have h3 := Gf2.top_drop hp0 (a := b) (Nat.le_trans (Nat.pow_le_pow_right (by omega) hm) h2)
  rw [e] at h3
  exact ⟨h3, by rw [Gf2.pm_shift _ _ hp0]; exact HB⟩
theorem rest_no {b m : Nat} (hb : b < 2 ^ (m + 1)) (ht : ¬ b / 2 ^ m % 2 = 1) : b < 2 ^ m := by
  apply Nat.lt_of_not_le; intro h
  apply ht
  have : b / 2 ^ m = 1 := by
    apply Nat.div_eq_of_lt_le
    · omega
    · rw [Nat.pow_succ] at hb; omega
  rw [this]
theorem rest_shl {b p m : Nat} (hb : b < 18446744073709551616) (hp0 : p ≠ 0) (hm : p.log2 ≤ m) (hm2 : m < 64) :
    bits .xor .u64 (b : Int) (IntKind.u64.wrap ((p : Int) * 2 ^ (m - p.log2))) = ((b ^^^ p * 2 ^ (m - p.log2) : Nat) : Int) := by
  have h1 := (Gf2.log_band hp0).2
  have h3 : 2 ^ (p.log2 + 1) * 2 ^ (m - p.log2) ≤ 2 ^ 64 := by rw [← Nat.pow_add]; exact Nat.pow_le_pow_right (by omega) (by omega)
  have h4 := Nat.mul_lt_mul_of_pos_right h1 (Nat.two_pow_pos (m - p.log2))
  have hs : p * 2 ^ (m - p.log2) < 18446744073709551616 := Nat.lt_of_lt_of_le h4 h3
  have e2 : (p : Int) * 2 ^ (m - p.log2) = ((p * 2 ^ (m - p.log2) : Nat) : Int) := by rw [Int.natCast_mul, Int.natCast_pow]; rfl
  rw [e2, wrap_u64 _ hs, u64_xor_nat b _ hb hs]
set_option maxHeartbeats 400000 in
theorem rest_any (a p : Int) (w : World) (ha0 : 0 ≤ a) (ha : a < 18446744073709551616) (hp1 : 1 ≤ p) (hp : p < 18446744073709551616) :
    Calls Try.prog 37 #[.int .u64 a, .int .u64 p] w fun e w' => e = .returned (.int .u64 (Gf2.pm a.toNat p.toNat : Nat)) ∧ w = w' := by
  obtain ⟨a, rfl⟩ := Int.eq_ofNat_of_zero_le ha0
  obtain ⟨p, rfl⟩ := Int.eq_ofNat_of_zero_le (show 0 ≤ p by omega)
  rw [Int.toNat_natCast, Int.toNat_natCast]
  have hp0 : p ≠ 0 := by omega
  have ha' : a < 18446744073709551616 := by omega
  have hp' : p < 18446744073709551616 := by omega
  clear ha0 ha hp1 hp
  have hd := (Nat.log2_lt hp0).2 (show p < 2 ^ 64 from hp')
  have HD := Lib.hid (dg_of hp0)
  go_enter Try.func37, Try.ntmps37
  go_wp2_with fail
  refine (rdeg_any _ _ (by omega) (by omega)).mono ?_
  rintro e w' ⟨rfl, rfl⟩
  rw [Int.toNat_natCast, HD.out]
  clear HD
  generalize hl : p.log2 = l at *
  have HL := Lib.hid hl
  clear hl
  go_wp2_with fail
  go_loop [0, 6] (fun x i => ∃ b j : Nat, l ≤ j ∧ j ≤ 64 ∧ Hid (b < 2 ^ j) ∧ b < 18446744073709551616 ∧ Hid (Gf2.pm b p = Gf2.pm a p) ∧ x = .int .u64 b ∧ i = .int .i64 ((j : Int) - 1)) (fun _ i => (intOf i + 1).toNat)
  case atStart => exact ⟨a, 64, by omega, by omega, ha', ha', rfl, rfl, rfl⟩
  case round =>
    obtain ⟨b, j, hj1, hj2, HB1, hb, HB, rfl, rfl⟩ := hrel
    by_cases hlt : l < j
    · obtain ⟨m, rfl⟩ : ∃ m, j = m + 1 := ⟨j - 1, by omega⟩
      have em : ((m + 1 : Nat) : Int) - 1 = (m : Int) := by omega
      rw [em]
      clear em
      by_cases ht : b / 2 ^ m % 2 = 1
      · have hbb := bit_yes ht
        obtain ⟨n1, n2⟩ := rest_yes hp0 (by rw [HL.out]; omega) HB1.out ht HB
        have HX := Lib.hid (rest_shl hb hp0 (m := m) (by rw [HL.out]; omega) (by omega))
        have N1 := Lib.hid n1
        rw [HL.out] at N1 HX n2
        clear ht n1
        have e2 : ((m : Int) - (l : Int)).toNat = m - l := by omega
        go_wp2
        rw [HX.out]
        generalize b ^^^ p * 2 ^ (m - l) = c at *
        have hc : c < 18446744073709551616 := show c < 2 ^ 64 from Nat.lt_of_lt_of_le N1.out (Nat.pow_le_pow_right (by omega) (by omega))
        refine ⟨⟨c, m, by omega, by omega, N1, hc, n2, rfl, rfl⟩, ?_⟩
        simp only [intOf]; omega
      · have hbb := bit_no ht
        have N1 := Lib.hid (rest_no HB1.out ht)
        clear ht
        go_wp2
        refine ⟨⟨b, m, by omega, by omega, N1, hb, HB, rfl, rfl⟩, ?_⟩
        simp only [intOf]; omega
    · obtain rfl : j = l := by omega
      have HE := Lib.hid (show b = Gf2.pm a p by rw [← HB.out, Gf2.pm_small]; rw [HL.out]; exact HB1.out)
      go_wp2
      go_ret
      exact ⟨ret_int (by rw [HE.out]), rfl⟩
theorem rmod_any (a p : Int) (w : World) (ha0 : 0 ≤ a) (ha : a < 18446744073709551616) (hp1 : 1 ≤ p) (hp : p < 18446744073709551616) :
    Calls Try.prog 12 #[.int .u64 a, .int .u64 p] w fun e w' => e = .returned (.tuple #[.int .u64 (Gf2.pm a.toNat p.toNat : Nat), .int .i64 0]) ∧ w = w' := by
  have hpb : (p == 0) = false := by simp; omega
  go_enter Try.func12, Try.ntmps12
  go_wp2_with (go_at_call 37; refine (rest_any _ _ _ ha0 ha hp1 hp).mono ?_; rintro e w' ⟨rfl, rfl⟩)
  go_ret2
  exact ⟨rfl, rfl⟩
end Go.Proofs.Ytpkbhihkhnkhnaa
