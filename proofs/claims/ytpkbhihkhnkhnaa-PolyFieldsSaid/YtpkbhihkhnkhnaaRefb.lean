/- poly.Gcd; maslinref07: May, Mul, Gcd, Up: what they return. -/
import Derived.Test.YtpkbhihkhnkhnaaRef
namespace Go.Proofs.Ytpkbhihkhnkhnaa
open Go.RowKit
theorem pg_lt {a b : Nat} (ha : a < 18446744073709551616) (hb : b < 18446744073709551616) : Gf2.pg a b < 18446744073709551616 := by
  induction b using Nat.strongRecOn generalizing a with
  | _ b ih =>
    by_cases h : b = 0
    · subst h; rw [Gf2.pg_zero]; exact ha
    · rw [Gf2.pg_step h]
      have h1 := Nat.lt_of_lt_of_le (Gf2.pm_lt a h) (Gf2.log_band h).1
      exact ih _ h1 hb (by omega)
set_option maxHeartbeats 400000 in
theorem gcd_any (a b : Int) (w : World) (ha0 : 0 ≤ a) (ha : a < 18446744073709551616) (hb0 : 0 ≤ b) (hb : b < 18446744073709551616) :
    Calls Try.prog 17 #[.int .u64 a, .int .u64 b] w fun e w' => e = .returned (.int .u64 (Gf2.pg a.toNat b.toNat : Nat)) ∧ w = w' := by
  obtain ⟨a, rfl⟩ := Int.eq_ofNat_of_zero_le ha0
  obtain ⟨b, rfl⟩ := Int.eq_ofNat_of_zero_le hb0
  rw [Int.toNat_natCast, Int.toNat_natCast]
  have ha' : a < 18446744073709551616 := by omega
  have hb' : b < 18446744073709551616 := by omega
  clear ha0 ha hb0 hb
  go_enter Try.func17, Try.ntmps17
  go_wp2
  go_loop [0, 1] (fun x y => ∃ c d : Nat, c < 18446744073709551616 ∧ d < 18446744073709551616 ∧ Hid (Gf2.pg c d = Gf2.pg a b) ∧ x = .int .u64 c ∧ y = .int .u64 d) (fun _ y => (intOf y).toNat)
  case atStart => exact ⟨a, b, ha', hb', rfl, rfl, rfl⟩
  case round =>
    obtain ⟨c, d, hc, hd, HR, rfl, rfl⟩ := hrel
    by_cases hz : d = 0
    · subst hz
      have He := Lib.hid (show c = Gf2.pg a b by rw [← HR.out, Gf2.pg_zero])
      go_wp2
      go_ret
      exact ⟨ret_int (by rw [He.out]), rfl⟩
    · have hz1 : ((d : Int) != 0) = true := by simp; omega
      have hd1 : 1 ≤ d := by omega
      have hlt : Gf2.pm c d < d := Nat.lt_of_lt_of_le (Gf2.pm_lt c hz) (Gf2.log_band hz).1
      have HN := Lib.hid (show Gf2.pg d (Gf2.pm c d) = Gf2.pg a b by rw [← HR.out, Gf2.pg_step hz])
      clear hz
      go_wp2_with (go_at_call 11; refine (mod_any _ _ _ (by omega) (by omega) (by omega) (by omega)).mono ?_; rintro e w' ⟨rfl, rfl⟩)
      refine ⟨⟨d, Gf2.pm c d, hd, by omega, HN, rfl, rfl⟩, ?_⟩
      simp only [intOf, Int.toNat_natCast]
      exact hlt
theorem rmod_zero (a : Int) (w : World) :
    Calls Try.prog 12 #[.int .u64 a, .int .u64 0] w fun e w' => e = .returned (.tuple #[.int .u64 0, .int .i64 2]) ∧ w = w' := by
  go_enter Try.func12, Try.ntmps12
  go_wp2
  go_ret2
  exact ⟨rfl, rfl⟩
theorem rmay_yes (p : Int) (w : World) (h0 : 0 ≤ p) (h1 : p < 18446744073709551616) (h : 1 ≤ dg p.toNat) (h' : dg p.toNat ≤ 56) :
    Calls Try.prog 39 #[.int .u64 p] w fun e w' => e = .returned (.bool true) ∧ w = w' := by
  go_enter Try.func39, Try.ntmps39
  go_wp2_with (go_at_call 16; refine (rdeg_any _ _ (by omega) (by omega)).mono ?_; rintro e w' ⟨rfl, rfl⟩)
  go_ret
  exact ⟨rfl, rfl⟩
theorem rmay_no (p : Int) (w : World) (h0 : 0 ≤ p) (h1 : p < 18446744073709551616) (h : dg p.toNat < 1 ∨ 56 < dg p.toNat) :
    Calls Try.prog 39 #[.int .u64 p] w fun e w' => e = .returned (.bool false) ∧ w = w' := by
  rcases h with h | h
  · go_enter Try.func39, Try.ntmps39
    go_wp2_with (go_at_call 16; refine (rdeg_any _ _ (by omega) (by omega)).mono ?_; rintro e w' ⟨rfl, rfl⟩)
    go_ret
    exact ⟨rfl, rfl⟩
  · have h2 : 1 ≤ dg p.toNat := by omega
    have h3 : decide (dg p.toNat ≤ 56) = false := by simp; omega
    go_enter Try.func39, Try.ntmps39
    go_wp2_with (go_at_call 16; refine (rdeg_any _ _ (by omega) (by omega)).mono ?_; rintro e w' ⟨rfl, rfl⟩)
    go_ret
    exact ⟨rfl, rfl⟩
set_option maxHeartbeats 400000 in
theorem rgcd_any (a b : Int) (w : World) (ha0 : 0 ≤ a) (ha : a < 18446744073709551616) (hb0 : 0 ≤ b) (hb : b < 18446744073709551616) :
    Calls Try.prog 18 #[.int .u64 a, .int .u64 b] w fun e w' => e = .returned (.int .u64 (Gf2.pg a.toNat b.toNat : Nat)) ∧ w = w' := by
  obtain ⟨a, rfl⟩ := Int.eq_ofNat_of_zero_le ha0
  obtain ⟨b, rfl⟩ := Int.eq_ofNat_of_zero_le hb0
  rw [Int.toNat_natCast, Int.toNat_natCast]
  have ha' : a < 18446744073709551616 := by omega
  have hb' : b < 18446744073709551616 := by omega
  clear ha0 ha hb0 hb
  go_enter Try.func18, Try.ntmps18
  go_wp2
  go_loop [0, 1] (fun x y => ∃ c d : Nat, c < 18446744073709551616 ∧ d < 18446744073709551616 ∧ Hid (Gf2.pg c d = Gf2.pg a b) ∧ x = .int .u64 c ∧ y = .int .u64 d) (fun _ y => (intOf y).toNat)
  case atStart => exact ⟨a, b, ha', hb', rfl, rfl, rfl⟩
  case round =>
    obtain ⟨c, d, hc, hd, HR, rfl, rfl⟩ := hrel
    by_cases hz : d = 0
    · subst hz
      have He := Lib.hid (show c = Gf2.pg a b by rw [← HR.out, Gf2.pg_zero])
      go_wp2
      go_ret
      exact ⟨ret_int (by rw [He.out]), rfl⟩
    · have hz1 : ((d : Int) != 0) = true := by simp; omega
      have hd1 : 1 ≤ d := by omega
      have hlt : Gf2.pm c d < d := Nat.lt_of_lt_of_le (Gf2.pm_lt c hz) (Gf2.log_band hz).1
      have HN := Lib.hid (show Gf2.pg d (Gf2.pm c d) = Gf2.pg a b by rw [← HR.out, Gf2.pg_step hz])
      clear hz
      go_wp2_with (go_at_call 37; refine (rest_any _ _ _ (by omega) (by omega) (by omega) (by omega)).mono ?_; rintro e w' ⟨rfl, rfl⟩)
      refine ⟨⟨d, Gf2.pm c d, hd, by omega, HN, rfl, rfl⟩, ?_⟩
      simp only [intOf, Int.toNat_natCast]
      exact hlt
/-- one round of the reference's product -/
theorem rmul_yes {a b s p k : Nat} (hp0 : p ≠ 0) (ht : b / 2 ^ k % 2 = 1) (H : Hid (s = Gf2.pm (Gf2.cm a (b / 2 ^ (k + 1))) p)) (ha : a < 2 ^ p.log2) : Hid (Gf2.pm (s * 2) p ^^^ a = Gf2.pm (Gf2.cm a (b / 2 ^ k)) p) := by
  have e : b / 2 ^ k / 2 = b / 2 ^ (k + 1) := by rw [Nat.div_div_eq_div_mul, Nat.pow_succ]
  rw [H.out, Gf2.cm_step a (b / 2 ^ k), if_pos ht, e, Gf2.pm_xor _ _ hp0, Gf2.pm_small ha, Nat.mul_comm, Gf2.pm_two _ hp0, Nat.xor_comm]
  exact rfl
theorem rmul_no {a b s p k : Nat} (hp0 : p ≠ 0) (ht : ¬ b / 2 ^ k % 2 = 1) (H : Hid (s = Gf2.pm (Gf2.cm a (b / 2 ^ (k + 1))) p)) : Hid (Gf2.pm (s * 2) p = Gf2.pm (Gf2.cm a (b / 2 ^ k)) p) := by
  have e : b / 2 ^ k / 2 = b / 2 ^ (k + 1) := by rw [Nat.div_div_eq_div_mul, Nat.pow_succ]
  rw [H.out, Gf2.cm_step a (b / 2 ^ k), if_neg ht, e, Nat.zero_xor, Nat.mul_comm, Gf2.pm_two _ hp0]
  exact rfl
set_option maxHeartbeats 400000 in
theorem rmul_any (a b p : Int) (w : World) (ha0 : 0 ≤ a) (ha : a < 18446744073709551616) (hb0 : 0 ≤ b) (hb : b < 18446744073709551616) (hp0 : 0 ≤ p) (hp : p < 18446744073709551616) (h1 : 1 ≤ dg p.toNat) (h2 : dg p.toNat ≤ 56) :
    Calls Try.prog 14 #[.int .u64 a, .int .u64 b, .int .u64 p] w fun e w' => e = .returned (.tuple #[.int .u64 (Gf2.pm (Gf2.cm a.toNat b.toNat) p.toNat : Nat), .int .i64 0]) ∧ w = w' := by
  obtain ⟨a, rfl⟩ := Int.eq_ofNat_of_zero_le ha0
  obtain ⟨b, rfl⟩ := Int.eq_ofNat_of_zero_le hb0
  obtain ⟨p, rfl⟩ := Int.eq_ofNat_of_zero_le hp0
  rw [Int.toNat_natCast] at h1 h2
  rw [Int.toNat_natCast, Int.toNat_natCast, Int.toNat_natCast]
  have ha' : a < 18446744073709551616 := by omega
  have hb' : b < 18446744073709551616 := by omega
  have hp' : p < 18446744073709551616 := by omega
  clear ha0 ha hb0 hb hp0 hp
  obtain ⟨q0, q1, q2, q3, q4⟩ := dg_56 h1 h2
  have hm := pm_56 a q0 q4
  have hm2 := Gf2.pm_lt a q0
  have HM := Lib.hid (Gf2.pm_cm_left a b q0)
  go_enter Try.func14, Try.ntmps14
  go_wp2_with (first | (go_at_call 39; refine (rmay_yes _ _ (by omega) (by omega) (by simpa using h1) (by simpa using h2)).mono ?_; rintro e w' ⟨rfl, rfl⟩) | (go_at_call 37; refine (rest_any _ _ _ (by omega) (by omega) (by omega) (by omega)).mono ?_; rintro e w' ⟨rfl, rfl⟩))
  generalize Gf2.pm a p = r at *
  go_loop [8, 9] (fun x i => ∃ s j : Nat, j ≤ 64 ∧ Hid (s < 2 ^ p.log2) ∧ s < 72057594037927936 ∧ Hid (s = Gf2.pm (Gf2.cm r (b / 2 ^ j)) p) ∧ x = .int .u64 s ∧ i = .int .i64 ((j : Int) - 1)) (fun _ i => (intOf i + 1).toNat)
  case atStart =>
    have e : b / 2 ^ 64 = 0 := Nat.div_eq_of_lt (show b < 2 ^ 64 from hb')
    exact ⟨0, 64, by omega, Nat.two_pow_pos _, by omega, by rw [e, Gf2.cm_zero, Gf2.pm_zero]; exact rfl, rfl, rfl⟩
  case round =>
    obtain ⟨s, j, hj2, HS1, hs, HS, rfl, rfl⟩ := hrel
    by_cases hlt : 0 < j
    · obtain ⟨m, rfl⟩ : ∃ m, j = m + 1 := ⟨j - 1, by omega⟩
      have em : ((m + 1 : Nat) : Int) - 1 = (m : Int) := by omega
      rw [em]
      clear em hlt
      have hx1 := pm_56 (s * 2) q0 q4
      have hx2 := Gf2.pm_lt (s * 2) q0
      by_cases ht : b / 2 ^ m % 2 = 1
      · have hbb := bit_yes ht
        have N1 := rmul_yes q0 ht HS hm2
        clear ht
        go_wp2_with (go_at_call 37; refine (rest_any _ _ _ (by omega) (by omega) (by omega) (by omega)).mono ?_; rintro e w' ⟨rfl, rfl⟩)
        generalize Gf2.pm (s * 2) p = c at *
        rw [u64_xor_nat c r (by omega) (by omega)]
        refine ⟨⟨c ^^^ r, m, by omega, Nat.xor_lt_two_pow hx2 hm2, Nat.xor_lt_two_pow (n := 56) hx1 hm, N1, rfl, rfl⟩, ?_⟩
        simp only [intOf]; omega
      · have hbb := bit_no ht
        have N1 := rmul_no q0 ht HS
        clear ht
        go_wp2_with (go_at_call 37; refine (rest_any _ _ _ (by omega) (by omega) (by omega) (by omega)).mono ?_; rintro e w' ⟨rfl, rfl⟩)
        refine ⟨⟨_, m, by omega, hx2, hx1, N1, rfl, rfl⟩, ?_⟩
        simp only [intOf]; omega
    · obtain rfl : j = 0 := by omega
      have HE := Lib.hid (show s = Gf2.pm (Gf2.cm a b) p by rw [HS.out, ← HM.out, Nat.pow_zero, Nat.div_one])
      go_wp2
      go_ret2
      exact ⟨ret_u2 (by rw [HE.out]), rfl⟩
theorem rmul_err (a b p : Int) (w : World) (hp0 : 0 ≤ p) (hp : p < 18446744073709551616) (h : dg p.toNat < 1 ∨ 56 < dg p.toNat) :
    Calls Try.prog 14 #[.int .u64 a, .int .u64 b, .int .u64 p] w fun e w' => e = .returned (.tuple #[.int .u64 0, .int .i64 2]) ∧ w = w' := by
  have H := Lib.hid h
  clear h
  go_enter Try.func14, Try.ntmps14
  go_wp2_with (go_at_call 39; refine (rmay_no _ _ hp0 hp H.out).mono ?_; rintro e w' ⟨rfl, rfl⟩)
  go_ret2
  exact ⟨rfl, rfl⟩
set_option maxHeartbeats 400000 in
theorem rup_any (n p : Int) (w : World) (hn : 0 ≤ n) (hn2 : n < 9223372036854775807) (hp0 : 0 ≤ p) (hp : p < 18446744073709551616) (h1 : 1 ≤ dg p.toNat) (h2 : dg p.toNat ≤ 56) :
    Calls Try.prog 21 #[.int .i64 n, .int .u64 p] w fun e w' => e = .returned (.tuple #[.int .u64 (Gf2.pm (2 ^ n.toNat) p.toNat : Nat), .int .i64 0]) ∧ w = w' := by
  obtain ⟨n, rfl⟩ := Int.eq_ofNat_of_zero_le hn
  obtain ⟨p, rfl⟩ := Int.eq_ofNat_of_zero_le hp0
  rw [Int.toNat_natCast] at h1 h2
  rw [Int.toNat_natCast, Int.toNat_natCast]
  have hn2' : n < 9223372036854775807 := by omega
  have hp' : p < 18446744073709551616 := by omega
  clear hn hn2 hp0 hp
  obtain ⟨q0, q1, q2, q3, q4⟩ := dg_56 h1 h2
  have hm := pm_56 1 q0 q4
  go_enter Try.func21, Try.ntmps21
  go_wp2_with (first | (go_at_call 39; refine (rmay_yes _ _ (by omega) (by omega) (by simpa using h1) (by simpa using h2)).mono ?_; rintro e w' ⟨rfl, rfl⟩) | (go_at_call 37; refine (rest_any _ _ _ (by omega) (by omega) (by omega) (by omega)).mono ?_; rintro e w' ⟨rfl, rfl⟩))
  go_loop [6, 7] (fun x i => ∃ k : Nat, k ≤ n ∧ x = .int .u64 (Gf2.pm (2 ^ k) p : Nat) ∧ i = .int .i64 k) (fun _ i => n - (intOf i).toNat)
  case atStart => exact ⟨0, by omega, rfl, rfl⟩
  case round =>
    obtain ⟨k, hk, rfl, rfl⟩ := hrel
    have hx := pm_56 (2 ^ k) q0 q4
    have HE := Lib.hid (show Gf2.pm (Gf2.pm (2 ^ k) p * 2) p = Gf2.pm (2 ^ (k + 1)) p by rw [Nat.mul_comm, Gf2.pm_two _ q0, Nat.pow_succ, Nat.mul_comm])
    by_cases hlt : k < n
    · go_wp2_with (go_at_call 37; refine (rest_any _ _ _ (by omega) (by omega) (by omega) (by omega)).mono ?_; rintro e w' ⟨rfl, rfl⟩)
      refine ⟨⟨k + 1, by omega, by rw [show ((Gf2.pm (2 ^ k) p : Nat) * 2 : Int).toNat = Gf2.pm (2 ^ k) p * 2 by omega, HE.out], by go_num⟩, ?_⟩
      simp only [intOf]; omega
    · obtain rfl : k = n := by omega
      go_wp2
      go_ret2
      exact ⟨rfl, rfl⟩
theorem rup_err (n p : Int) (w : World) (h : n < 0 ∨ 0 ≤ n ∧ 0 ≤ p ∧ p < 18446744073709551616 ∧ (dg p.toNat < 1 ∨ 56 < dg p.toNat)) :
    Calls Try.prog 21 #[.int .i64 n, .int .u64 p] w fun e w' => e = .returned (.tuple #[.int .u64 0, .int .i64 2]) ∧ w = w' := by
  rcases h with h | ⟨h, h1, h2, h3⟩
  · go_enter Try.func21, Try.ntmps21
    go_wp2_with fail
    go_ret2
    exact ⟨rfl, rfl⟩
  · have H := Lib.hid h3
    clear h3
    go_enter Try.func21, Try.ntmps21
    go_wp2_with (go_at_call 39; refine (rmay_no _ _ h1 h2 H.out).mono ?_; rintro e w' ⟨rfl, rfl⟩)
    go_ret2
    exact ⟨rfl, rfl⟩
end Go.Proofs.Ytpkbhihkhnkhnaa
