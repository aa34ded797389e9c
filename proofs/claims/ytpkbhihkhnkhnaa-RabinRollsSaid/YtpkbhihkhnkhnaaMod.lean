/- poly.Mod, poly.may, poly.Mul, poly.Gcd: what they return. -/
import Derived.Test.YtpkbhihkhnkhnaaDeg
namespace Go.Proofs.Ytpkbhihkhnkhnaa
open Go.RowKit
theorem ret_u2 {a b c : Int} (h : a = b) : Ending.returned (.tuple #[.int .u64 a, .int .i64 c]) = .returned (.tuple #[.int .u64 b, .int .i64 c]) := by rw [h]
theorem int_u {a b : Int} (h : a = b) : Value.int .u64 a = .int .u64 b := by rw [h]
theorem wrap_u64 (n : Nat) (h : n < 18446744073709551616) : IntKind.u64.wrap (n : Int) = n := by
  simp [IntKind.wrap, IntKind.bits, IntKind.signed]; omega
theorem xor_lt64 {a b : Nat} (ha : a < 18446744073709551616) (hb : b < 18446744073709551616) : a ^^^ b < 18446744073709551616 := Nat.xor_lt_two_pow (n := 64) ha hb
theorem shl_lt {b p : Nat} (hb : b < 18446744073709551616) (hp0 : p ≠ 0) (h : dg p ≤ dg b) : b ≠ 0 ∧ p.log2 ≤ b.log2 ∧ p * 2 ^ (b.log2 - p.log2) < 18446744073709551616 := by
  have hb0 : b ≠ 0 := by rintro rfl; rw [dg_zero, dg_of hp0] at h; omega
  rw [dg_of hb0, dg_of hp0] at h
  have hl : p.log2 ≤ b.log2 := by omega
  refine ⟨hb0, hl, ?_⟩
  have h1 := (Gf2.log_band hp0).2
  have h2 := (Nat.log2_lt hb0).2 (show b < 2 ^ 64 from hb)
  have h3 : 2 ^ (p.log2 + 1) * 2 ^ (b.log2 - p.log2) ≤ 2 ^ 64 := by rw [← Nat.pow_add]; exact Nat.pow_le_pow_right (by omega) (by omega)
  have h4 := Nat.mul_lt_mul_of_pos_right h1 (Nat.two_pow_pos (b.log2 - p.log2))
  exact Nat.lt_of_lt_of_le h4 h3
theorem xor_shl {b p : Nat} (hb : b < 18446744073709551616) (hp0 : p ≠ 0) (h : dg p ≤ dg b) :
    bits .xor .u64 (b : Int) (IntKind.u64.wrap ((p : Int) * 2 ^ (dg b - dg p).toNat)) = ((b ^^^ p * 2 ^ (b.log2 - p.log2) : Nat) : Int) := by
  obtain ⟨hb0, hl, hs⟩ := shl_lt hb hp0 h
  rw [dg_of hb0, dg_of hp0]
  have e : ((b.log2 : Int) - (p.log2 : Int)).toNat = b.log2 - p.log2 := by omega
  rw [e]
  have e2 : (p : Int) * 2 ^ (b.log2 - p.log2) = ((p * 2 ^ (b.log2 - p.log2) : Nat) : Int) := by rw [Int.natCast_mul, Int.natCast_pow]; rfl
  rw [e2, wrap_u64 _ hs, u64_xor_nat b _ hb hs]
theorem mod_step {a b p : Nat} (hb : b < 18446744073709551616) (hp0 : p ≠ 0) (h : dg p ≤ dg b) (HB : Hid (Gf2.pm b p = Gf2.pm a p)) :
    b ^^^ p * 2 ^ (b.log2 - p.log2) < 18446744073709551616 ∧ Hid (Gf2.pm (b ^^^ p * 2 ^ (b.log2 - p.log2)) p = Gf2.pm a p) ∧ b ^^^ p * 2 ^ (b.log2 - p.log2) < b := by
  obtain ⟨hb0, hl, hs⟩ := shl_lt hb hp0 h
  refine ⟨xor_lt64 hb hs, ?_, ?_⟩
  · rw [Gf2.pm_shift _ _ hp0]; exact HB
  · have h1 := Gf2.top_drop hp0 ((Nat.le_log2 hb0).1 hl)
    exact Nat.lt_of_lt_of_le h1 (Gf2.log_band hb0).1
theorem lt_of_dg {b p : Nat} (hp0 : p ≠ 0) (h : dg b < dg p) : b < 2 ^ p.log2 := by
  rw [dg_of hp0] at h
  by_cases hb0 : b = 0
  · subst hb0; exact Nat.two_pow_pos _
  · rw [dg_of hb0] at h; exact (Nat.log2_lt hb0).1 (by omega)
theorem mod_end {a b p : Nat} (hp0 : p ≠ 0) (h : dg b < dg p) (HB : Hid (Gf2.pm b p = Gf2.pm a p)) : b = Gf2.pm a p := by
  rw [← HB.out, Gf2.pm_small (lt_of_dg hp0 h)]
set_option maxHeartbeats 400000 in
theorem mod_any (a p : Int) (w : World) (ha0 : 0 ≤ a) (ha : a < 18446744073709551616) (hp1 : 1 ≤ p) (hp : p < 18446744073709551616) :
    Calls Try.prog 11 #[.int .u64 a, .int .u64 p] w fun e w' => e = .returned (.tuple #[.int .u64 (Gf2.pm a.toNat p.toNat : Nat), .int .i64 0]) ∧ w = w' := by
  obtain ⟨a, rfl⟩ := Int.eq_ofNat_of_zero_le ha0
  obtain ⟨p, rfl⟩ := Int.eq_ofNat_of_zero_le (show 0 ≤ p by omega)
  rw [Int.toNat_natCast, Int.toNat_natCast]
  have hp0 : p ≠ 0 := by omega
  have ha' : a < 18446744073709551616 := by omega
  have hp' : p < 18446744073709551616 := by omega
  have hpb : ((p : Int) == 0) = false := by simp; omega
  clear ha0 ha hp1 hp
  have hd1 := dg_lo p
  have hd2 := dg_hi hp'
  go_enter Try.func11, Try.ntmps11
  go_wp2_with (go_at_call 15; refine (deg_any _ _ (by omega) (by omega)).mono ?_; rintro e w' ⟨rfl, rfl⟩)
  go_loop [0] (fun t => ∃ b : Nat, b < 18446744073709551616 ∧ Hid (Gf2.pm b p = Gf2.pm a p) ∧ t = .int .u64 b) (fun t => (intOf t).toNat)
  case atStart => exact ⟨a, ha', rfl, rfl⟩
  case round =>
    obtain ⟨b, hb, HB, rfl⟩ := hrel
    have hb1 := dg_lo b
    have hb2 := dg_hi hb
    by_cases hlt : dg p ≤ dg b
    · go_wp2_with (go_at_call 15; refine (deg_any _ _ (by omega) (by omega)).mono ?_; rintro e w' ⟨rfl, rfl⟩)
      obtain ⟨g1, g2, g3⟩ := mod_step hb hp0 hlt HB
      rw [xor_shl hb hp0 hlt]
      generalize b ^^^ p * 2 ^ (b.log2 - p.log2) = c at *
      refine ⟨⟨c, g1, g2, rfl⟩, ?_⟩
      simp only [intOf, Int.toNat_natCast]
      exact g3
    · go_wp2_with (go_at_call 15; refine (deg_any _ _ (by omega) (by omega)).mono ?_; rintro e w' ⟨rfl, rfl⟩)
      go_ret2
      exact ⟨ret_u2 (by rw [mod_end hp0 (by omega) HB]), rfl⟩
theorem mod_zero (a : Int) (w : World) :
    Calls Try.prog 11 #[.int .u64 a, .int .u64 0] w fun e w' => e = .returned (.tuple #[.int .u64 0, .int .i64 2]) ∧ w = w' := by
  go_enter Try.func11, Try.ntmps11
  go_wp2
  go_ret2
  exact ⟨rfl, rfl⟩
theorem may_yes (p : Int) (w : World) (h0 : 0 ≤ p) (h1 : p < 18446744073709551616) (h : 1 ≤ dg p.toNat) (h' : dg p.toNat ≤ 56) :
    Calls Try.prog 38 #[.int .u64 p] w fun e w' => e = .returned (.bool true) ∧ w = w' := by
  go_enter Try.func38, Try.ntmps38
  go_wp2_with (go_at_call 15; refine (deg_any _ _ (by omega) (by omega)).mono ?_; rintro e w' ⟨rfl, rfl⟩)
  go_ret
  exact ⟨rfl, rfl⟩
theorem may_no (p : Int) (w : World) (h0 : 0 ≤ p) (h1 : p < 18446744073709551616) (h : dg p.toNat < 1 ∨ 56 < dg p.toNat) :
    Calls Try.prog 38 #[.int .u64 p] w fun e w' => e = .returned (.bool false) ∧ w = w' := by
  rcases h with h | h
  · go_enter Try.func38, Try.ntmps38
    go_wp2_with (go_at_call 15; refine (deg_any _ _ (by omega) (by omega)).mono ?_; rintro e w' ⟨rfl, rfl⟩)
    go_ret
    exact ⟨rfl, rfl⟩
  · have h2 : 1 ≤ dg p.toNat := by omega
    have h3 : decide (dg p.toNat ≤ 56) = false := by simp; omega
    go_enter Try.func38, Try.ntmps38
    go_wp2_with (go_at_call 15; refine (deg_any _ _ (by omega) (by omega)).mono ?_; rintro e w' ⟨rfl, rfl⟩)
    go_ret
    exact ⟨rfl, rfl⟩
theorem dg_56 {p : Nat} (h : 1 ≤ dg p) (h' : dg p ≤ 56) : p ≠ 0 ∧ 2 ≤ p ∧ p < 144115188075855872 ∧ 1 ≤ p.log2 ∧ p.log2 ≤ 56 := by
  have h0 : p ≠ 0 := by rintro rfl; rw [dg_zero] at h; omega
  rw [dg_of h0] at h h'
  refine ⟨h0, ?_, ?_, by omega, by omega⟩
  · have := (Nat.le_log2 h0).1 (show 1 ≤ p.log2 by omega); omega
  · exact (Nat.log2_lt h0).1 (show p.log2 < 57 by omega)
theorem pm_56 (a : Nat) {p : Nat} (h0 : p ≠ 0) (h : p.log2 ≤ 56) : Gf2.pm a p < 72057594037927936 :=
  Nat.lt_of_lt_of_le (Gf2.pm_lt a h0) (Nat.pow_le_pow_right (n := 2) (by omega) h)
/-- one round of the product -/
theorem mul_odd {a b s p m : Nat} (hp0 : p ≠ 0) (hb : b % 2 = 1) (H : Hid (s ^^^ Gf2.pm (Gf2.cm a b) p = m)) (ha : a < 2 ^ p.log2) : Hid ((s ^^^ a) ^^^ Gf2.pm (Gf2.cm (Gf2.pm (a * 2) p) (b / 2)) p = m) := by
  rw [← H.out, Gf2.cm_step a b, if_pos hb, Gf2.pm_cm_left _ _ hp0, Gf2.pm_xor _ _ hp0, Nat.mul_comm a 2, Gf2.two_cm, Gf2.pm_small ha, Nat.xor_assoc]
  exact rfl
theorem mul_even {a b s p m : Nat} (hp0 : p ≠ 0) (hb : b % 2 = 0) (H : Hid (s ^^^ Gf2.pm (Gf2.cm a b) p = m)) : Hid (s ^^^ Gf2.pm (Gf2.cm (Gf2.pm (a * 2) p) (b / 2)) p = m) := by
  rw [← H.out, Gf2.cm_step a b, if_neg (by omega), Gf2.pm_cm_left _ _ hp0, Nat.mul_comm a 2, Gf2.two_cm, Nat.zero_xor]
  exact rfl
set_option maxHeartbeats 400000 in
theorem mul_any (a b p : Int) (w : World) (ha0 : 0 ≤ a) (ha : a < 18446744073709551616) (hb0 : 0 ≤ b) (hb : b < 18446744073709551616) (hp0 : 0 ≤ p) (hp : p < 18446744073709551616) (h1 : 1 ≤ dg p.toNat) (h2 : dg p.toNat ≤ 56) :
    Calls Try.prog 13 #[.int .u64 a, .int .u64 b, .int .u64 p] w fun e w' => e = .returned (.tuple #[.int .u64 (Gf2.pm (Gf2.cm a.toNat b.toNat) p.toNat : Nat), .int .i64 0]) ∧ w = w' := by
  obtain ⟨a, rfl⟩ := Int.eq_ofNat_of_zero_le ha0
  obtain ⟨b, rfl⟩ := Int.eq_ofNat_of_zero_le hb0
  obtain ⟨p, rfl⟩ := Int.eq_ofNat_of_zero_le hp0
  rw [Int.toNat_natCast] at h1 h2
  rw [Int.toNat_natCast, Int.toNat_natCast, Int.toNat_natCast]
  obtain ⟨q0, q1, q2, q3, q4⟩ := dg_56 h1 h2
  have hm := pm_56 a q0 q4
  have hm' := pm_56 a q0 q4
  have HM : Hid (0 ^^^ Gf2.pm (Gf2.cm (Gf2.pm a p) b) p = Gf2.pm (Gf2.cm a b) p) := by rw [Nat.zero_xor, Gf2.pm_cm_left _ _ q0]; exact rfl
  go_enter Try.func13, Try.ntmps13
  go_wp2_with (first | (go_at_call 38; refine (may_yes _ _ (by omega) (by omega) (by simpa using h1) (by simpa using h2)).mono ?_; rintro e w' ⟨rfl, rfl⟩) | (go_at_call 11; refine (mod_any _ _ _ (by omega) (by omega) (by omega) (by omega)).mono ?_; rintro e w' ⟨rfl, rfl⟩))
  clear hm
  go_loop [0, 1, 6] (fun x y z => ∃ a' b' s' : Nat, a' < 2 ^ p.log2 ∧ a' < 72057594037927936 ∧ b' < 18446744073709551616 ∧ s' < 2 ^ p.log2 ∧ s' < 72057594037927936 ∧ Hid (s' ^^^ Gf2.pm (Gf2.cm a' b') p = Gf2.pm (Gf2.cm a b) p) ∧ x = .int .u64 a' ∧ y = .int .u64 b' ∧ z = .int .u64 s') (fun _ y _ => (intOf y).toNat)
  case atStart => exact ⟨Gf2.pm a p, b, 0, Gf2.pm_lt a q0, hm', by omega, Nat.two_pow_pos _, by omega, HM, rfl, rfl, rfl⟩
  case round =>
    obtain ⟨a', b', s', r1, r2, r3, r4, r5, HR, rfl, rfl, rfl⟩ := hrel
    by_cases hz : b' = 0
    · subst hz
      have he : s' = Gf2.pm (Gf2.cm a b) p := by rw [← HR.out, Gf2.cm_zero, Gf2.pm_zero, Nat.xor_zero]
      have He := Lib.hid he
      clear he
      go_wp2
      go_ret2
      exact ⟨ret_u2 (by rw [He.out]), rfl⟩
    · have hz1 : ((b' : Int) != 0) = true := by simp; omega
      have hlt : b' / 2 < b' := by omega
      clear hz
      by_cases ho : b' % 2 = 1
      · have hob : (bits .and .u64 (b' : Int) 1 == 1) = true := by rw [and_one_u64 _ (by omega) (by omega)]; simp; omega
        have HN := mul_odd q0 ho HR r1
        clear ho
        go_wp2_with (go_at_call 11; refine (mod_any _ _ _ (by omega) (by omega) (by omega) (by omega)).mono ?_; rintro e w' ⟨rfl, rfl⟩)
        rw [u64_xor_nat s' a' (by omega) (by omega)]
        refine ⟨⟨Gf2.pm (a' * 2) p, b' / 2, s' ^^^ a', Gf2.pm_lt _ q0, pm_56 _ q0 q4, by omega, Nat.xor_lt_two_pow r4 r1, Nat.xor_lt_two_pow (n := 56) r5 r2, HN, rfl, int_u (by omega), rfl⟩, ?_⟩
        simp only [intOf, Int.toNat_natCast]
        omega
      · have hob : (bits .and .u64 (b' : Int) 1 == 1) = false := by rw [and_one_u64 _ (by omega) (by omega)]; simp; omega
        have HN := mul_even q0 (by omega) HR
        clear ho
        go_wp2_with (go_at_call 11; refine (mod_any _ _ _ (by omega) (by omega) (by omega) (by omega)).mono ?_; rintro e w' ⟨rfl, rfl⟩)
        refine ⟨⟨Gf2.pm (a' * 2) p, b' / 2, s', Gf2.pm_lt _ q0, pm_56 _ q0 q4, by omega, r4, r5, HN, rfl, int_u (by omega), rfl⟩, ?_⟩
        simp only [intOf, Int.toNat_natCast]
        omega
theorem mul_no (a b p : Int) (w : World) (hp0 : 0 ≤ p) (hp : p < 18446744073709551616) (h : dg p.toNat < 1 ∨ 56 < dg p.toNat) :
    Calls Try.prog 13 #[.int .u64 a, .int .u64 b, .int .u64 p] w fun e w' => e = .returned (.tuple #[.int .u64 0, .int .i64 2]) ∧ w = w' := by
  have H := Lib.hid h
  clear h
  go_enter Try.func13, Try.ntmps13
  go_wp2_with (go_at_call 38; refine (may_no _ _ hp0 hp H.out).mono ?_; rintro e w' ⟨rfl, rfl⟩)
  go_ret2
  exact ⟨rfl, rfl⟩
end Go.Proofs.Ytpkbhihkhnkhnaa
