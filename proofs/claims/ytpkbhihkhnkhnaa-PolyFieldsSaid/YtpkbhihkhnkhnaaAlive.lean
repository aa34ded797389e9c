/- maslinref07.Prime, up to degree 16; maslinlaw07.alive. -/
import Derived.Test.YtpkbhihkhnkhnaaPrime
import Derived.Test.YtpkbhihkhnkhnaaPolyD
namespace Go.Proofs.Ytpkbhihkhnkhnaa
open Go.RowKit
open Classical in
noncomputable def trB (p : Nat) : Bool := decide (Gf2.Trial p)
open Classical in
theorem tr_false {p : Nat} (h : ¬ Gf2.Trial p) : trB p = false := by unfold trB; rw [decide_eq_false_iff_not]; exact h
open Classical in
theorem tr_true {p : Nat} (h : Gf2.Trial p) : trB p = true := by unfold trB; rw [decide_eq_true_eq]; exact h
open Classical in
theorem pr_eq_tr {p : Nat} (h1 : 1 ≤ dg p) (h2 : dg p ≤ 56) (h16 : p.log2 ≤ 16) : prB p = trB p := by
  obtain ⟨q0, q1, q2, q3, q4⟩ := dg_56 h1 h2
  have h := Gf2.ask_iff_trial q1 h16
  unfold prB trB PrP
  rw [decide_eq_decide]
  exact ⟨fun g => h.1 g.2.2, fun g => ⟨h1, h2, h.2 g⟩⟩
theorem log_mono {a b : Nat} (h : a ≤ b) (ha : a ≠ 0) : a.log2 ≤ b.log2 := (Nat.le_log2 (by omega)).2 (Nat.le_trans (Gf2.log_band ha).1 h)
theorem tr_end {p q : Nat} (hp : 2 ≤ p) (h2 : 2 ≤ q) (hd : p.log2 < 2 * q.log2) (h : ∀ r, 2 ≤ r → r < q → ¬ Gf2.Dv r p) : trB p = true := by
  refine tr_true ⟨hp, fun r hr hl hdv => ?_⟩
  by_cases hlt : r < q
  · exact h r hr hlt hdv
  · have := log_mono (a := q) (b := r) (by omega) (by omega); omega
theorem tr_hit {p q : Nat} (h2 : 2 ≤ q) (hd : 2 * q.log2 ≤ p.log2) (h : Gf2.pm p q = 0) : trB p = false :=
  tr_false fun ht => ht.2 q h2 hd ((Gf2.dv_iff_pm (by omega)).2 h)
theorem tr_next {p q : Nat} (h2 : 2 ≤ q) (h : ∀ r, 2 ≤ r → r < q → ¬ Gf2.Dv r p) (hm : ¬ Gf2.pm p q = 0) : ∀ r, 2 ≤ r → r < q + 1 → ¬ Gf2.Dv r p := by
  intro r hr hlt
  by_cases e : r = q
  · subst e; exact fun hd => hm ((Gf2.dv_iff_pm (by omega)).1 hd)
  · exact h r hr (by omega)
set_option maxHeartbeats 400000 in
theorem rprime_any (p : Int) (w : World) (h0 : 0 ≤ p) (hp : p < 18446744073709551616) (h1 : 1 ≤ dg p.toNat) (h2 : dg p.toNat ≤ 16) :
    Calls Try.prog 23 #[.int .u64 p] w fun e w' => e = .returned (.bool (trB p.toNat)) ∧ w = w' := by
  obtain ⟨p, rfl⟩ := Int.eq_ofNat_of_zero_le h0
  rw [Int.toNat_natCast] at h1 h2 ⊢
  have hp' : p < 18446744073709551616 := by omega
  clear h0 hp
  obtain ⟨q0, q1, q2, q3, q4⟩ := dg_56 h1 (by omega)
  have HD := Lib.hid (dg_of q0)
  have hdl : p.log2 ≤ 16 := by have := HD.out; omega
  go_enter Try.func23, Try.ntmps23
  go_wp2_with (go_at_call 16; refine (rdeg_any _ _ (by omega) (by omega)).mono ?_; rintro e w' ⟨rfl, rfl⟩)
  go_loop [4] (fun x => ∃ q : Nat, 2 ≤ q ∧ q ≤ 512 ∧ Hid (∀ r, 2 ≤ r → r < q → ¬ Gf2.Dv r p) ∧ x = .int .u64 q) (fun x => 1000 - (intOf x).toNat)
  case atStart => exact ⟨2, by omega, by omega, fun r a b => absurd a (by omega), rfl⟩
  case round =>
    obtain ⟨q, hq1, hq2, HR, rfl⟩ := hrel
    have hdq := dg_lo q
    have hdq2 := dg_hi (x := q) (by omega)
    have HQ := Lib.hid (dg_of (x := q) (by omega))
    by_cases hlt : 2 * dg q ≤ dg p
    · have hq3 : q < 512 := (Nat.log2_lt (show q ≠ 0 by omega)).1 (show q.log2 < 9 by have := HQ.out; have := HD.out; omega)
      have hl : 2 * q.log2 ≤ p.log2 := by have := HQ.out; have := HD.out; omega
      by_cases hz : Gf2.pm p q = 0
      · have HT := Lib.hid (tr_hit hq1 hl hz)
        have hzb : (((Gf2.pm p q : Nat) : Int) == 0) = true := by rw [hz]; rfl
        clear hz hl
        go_wp2_with (first | (go_at_call 16; refine (rdeg_any _ _ (by omega) (by omega)).mono ?_; rintro e w' ⟨rfl, rfl⟩) | (go_at_call 37; refine (rest_any _ _ _ (by omega) (by omega) (by omega) (by omega)).mono ?_; rintro e w' ⟨rfl, rfl⟩))
        go_ret
        exact ⟨by rw [HT.out]; rfl, rfl⟩
      · have HN := Lib.hid (tr_next hq1 HR.out hz)
        have hzb : (((Gf2.pm p q : Nat) : Int) == 0) = false := by rw [beq_eq_false_iff_ne]; omega
        clear hz hl
        go_wp2_with (first | (go_at_call 16; refine (rdeg_any _ _ (by omega) (by omega)).mono ?_; rintro e w' ⟨rfl, rfl⟩) | (go_at_call 37; refine (rest_any _ _ _ (by omega) (by omega) (by omega) (by omega)).mono ?_; rintro e w' ⟨rfl, rfl⟩))
        refine ⟨⟨q + 1, by omega, by omega, HN, int_u (by omega)⟩, ?_⟩
        simp only [intOf]; omega
    · have HT := Lib.hid (tr_end q1 hq1 (by have := HQ.out; have := HD.out; omega) HR.out)
      go_wp2_with (go_at_call 16; refine (rdeg_any _ _ (by omega) (by omega)).mono ?_; rintro e w' ⟨rfl, rfl⟩)
      go_ret
      exact ⟨by rw [HT.out]; rfl, rfl⟩
theorem rprime_no (p : Int) (w : World) (h0 : 0 ≤ p) (hp : p < 18446744073709551616) (h1 : dg p.toNat < 1) :
    Calls Try.prog 23 #[.int .u64 p] w fun e w' => e = .returned (.bool false) ∧ w = w' := by
  go_enter Try.func23, Try.ntmps23
  go_wp2_with (go_at_call 16; refine (rdeg_any _ _ h0 hp).mono ?_; rintro e w' ⟨rfl, rfl⟩)
  go_ret
  exact ⟨rfl, rfl⟩
/- the values that the examples ask for -/
theorem v1 : Gf2.pm 21 7 = 0 := by rw [← Gf2.pmf_eq 10 21 7 (by omega) (by omega)]; decide +kernel
theorem v2 : Gf2.pm (Gf2.cm 2 8) 19 = 3 := by rw [← Gf2.cmf_eq 10 2 8 (by omega), show Gf2.cmf 10 2 8 = 16 by decide +kernel, ← Gf2.pmf_eq 10 16 19 (by omega) (by omega)]; decide +kernel
theorem v3 : Gf2.pm (2 ^ 4) 19 = 3 := by rw [← Gf2.pmf_eq 10 (2 ^ 4) 19 (by omega) (by omega)]; decide +kernel
theorem v4 : Gf2.pg 6 5 = 3 := by rw [← Gf2.pgf_eq 10 6 5 (by omega) (by omega) (by omega)]; decide +kernel
theorem v5 : dg 19 = 4 := by decide +kernel
theorem v5b : dg 21 = 4 := by decide +kernel
theorem v5c : dg 1 = 0 := by decide +kernel
theorem v5d : Nat.log2 19 = 4 := by decide +kernel
theorem ask_of {p k : Nat} (hp : p ≠ 0) (h : p < 70) (a b c : Nat) (ha : 2 ^ 2 ^ k < 2 ^ 70) (e1 : Gf2.pmf 70 (2 ^ 2 ^ k) p = a) (e2 : Gf2.pmf 70 2 p = b) (hc : a ^^^ b < 70) (e3 : Gf2.pgf 70 p (a ^^^ b) = c) : (Gf2.Ask p k ↔ c = 1) := by
  unfold Gf2.Ask
  rw [← Gf2.pmf_eq 70 _ p hp ha, ← Gf2.pmf_eq 70 2 p hp (by omega), e1, e2, ← Gf2.pgf_eq 70 p _ hc (by omega) (by omega), e3]
open Classical in
theorem v6 : prB 19 = true := by
  unfold prB; rw [decide_eq_true_eq]
  refine ⟨by rw [v5]; omega, by rw [v5]; omega, fun k h1 h2 => ?_⟩
  rw [v5d] at h2
  have : k = 1 ∨ k = 2 := by omega
  rcases this with rfl | rfl
  · exact (ask_of (by omega) (by omega) _ _ _ (by decide +kernel) rfl rfl (by decide +kernel) rfl).2 (by decide +kernel)
  · exact (ask_of (by omega) (by omega) _ _ _ (by decide +kernel) rfl rfl (by decide +kernel) rfl).2 (by decide +kernel)
theorem v7 : prB 21 = false := by
  refine pr_false (k := 1) (by decide +kernel) (fun h => ?_)
  have := (ask_of (by omega) (by omega) _ _ _ (by decide +kernel) rfl rfl (by decide +kernel) rfl).1 h
  revert this; decide +kernel
set_option maxRecDepth 100000 in
set_option maxHeartbeats 1000000 in
theorem alive_any (w : World) : Calls Try.prog 19 #[] w fun e w' => e = .returned (.bool true) ∧ Below w.heap.size w w' := by
  go_enter Try.func19, Try.ntmps19
  go_wp2_with fail
  refine (mod_any 21 7 _ (by omega) (by omega) (by omega) (by omega)).mono ?_
  rintro e w' ⟨rfl, rfl⟩
  rw [show Int.toNat 21 = 21 from rfl, show Int.toNat 7 = 7 from rfl, v1]
  go_wp2_with fail
  refine (mul_any 2 8 19 _ (by omega) (by omega) (by omega) (by omega) (by omega) (by omega) (by rw [show Int.toNat 19 = 19 from rfl, v5]; omega) (by rw [show Int.toNat 19 = 19 from rfl, v5]; omega)).mono ?_
  rintro e w' ⟨rfl, rfl⟩
  rw [show Int.toNat 2 = 2 from rfl, show Int.toNat 8 = 8 from rfl, show Int.toNat 19 = 19 from rfl, v2]
  go_wp2_with fail
  refine (up_any 4 19 _ (by omega) (by omega) (by omega) (by omega) (by rw [show Int.toNat 19 = 19 from rfl, v5]; omega) (by rw [show Int.toNat 19 = 19 from rfl, v5]; omega)).mono ?_
  rintro e w1 ⟨rfl, hb1⟩
  rw [show Int.toNat 4 = 4 from rfl, show Int.toNat 19 = 19 from rfl, v3]
  go_wp2_with fail
  refine (mod_zero 1 _).mono ?_
  rintro e w' ⟨rfl, rfl⟩
  go_wp2_with fail
  refine (mul_no 1 1 1 _ (by omega) (by omega) (by left; decide)).mono ?_
  rintro e w' ⟨rfl, rfl⟩
  go_wp2_with fail
  refine (deg_any 0 _ (by omega) (by omega)).mono ?_
  rintro e w' ⟨rfl, rfl⟩
  rw [show Int.toNat 0 = 0 from rfl, dg_zero]
  go_wp2_with fail
  refine (deg_any 1 _ (by omega) (by omega)).mono ?_
  rintro e w' ⟨rfl, rfl⟩
  rw [show Int.toNat 1 = 1 from rfl, v5c]
  go_wp2_with fail
  refine (deg_any 19 _ (by omega) (by omega)).mono ?_
  rintro e w' ⟨rfl, rfl⟩
  rw [show Int.toNat 19 = 19 from rfl, v5]
  go_wp2_with fail
  refine (gcd_any 6 5 _ (by omega) (by omega) (by omega) (by omega)).mono ?_
  rintro e w' ⟨rfl, rfl⟩
  rw [show Int.toNat 6 = 6 from rfl, show Int.toNat 5 = 5 from rfl, v4]
  go_wp2_with fail
  refine (prime_may 19 _ (by omega) (by omega) (by rw [show Int.toNat 19 = 19 from rfl, v5]; omega) (by rw [show Int.toNat 19 = 19 from rfl, v5]; omega)).mono ?_
  rintro e w2 ⟨rfl, hb2⟩
  rw [show Int.toNat 19 = 19 from rfl, v6]
  go_wp2_with fail
  refine (prime_may 21 _ (by omega) (by omega) (by rw [show Int.toNat 21 = 21 from rfl, v5b]; omega) (by rw [show Int.toNat 21 = 21 from rfl, v5b]; omega)).mono ?_
  rintro e w3 ⟨rfl, hb3⟩
  rw [show Int.toNat 21 = 21 from rfl, v7]
  go_wp2_with fail
  refine (prime_no 1 _ (by omega) (by omega) (by left; decide)).mono ?_
  rintro e w4 ⟨rfl, hb4⟩
  go_wp2_with fail
  go_ret
  exact ⟨rfl, ((hb1.trans (hb2.mono hb1.size)).trans (hb3.mono (by have := hb1.size; have := hb2.size; omega))).trans (hb4.mono (by have := hb1.size; have := hb2.size; have := hb3.size; omega))⟩
end Go.Proofs.Ytpkbhihkhnkhnaa
