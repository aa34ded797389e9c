/- The test's other half, for k up to 8: x^(2^k) + x is a product of polynomials of a degree of at most k. -/
import Derived.Test.YtpkbhihkhnkhnaaPolyB
namespace Gf2
def cmf : Nat → Nat → Nat → Nat
  | 0, _, _ => 0
  | n + 1, a, b => (if b % 2 = 1 then a else 0) ^^^ 2 * cmf n a (b / 2)
theorem cmf_eq (n a b : Nat) (h : b < 2 ^ n) : cmf n a b = cm a b := by
  induction n generalizing b with
  | zero => have : b = 0 := by simpa using h
            subst this; rw [cm_zero]; rfl
  | succ n ih => rw [cmf, cm_step, ih (b / 2) (by rw [Nat.pow_succ] at h; omega)]
def prf : List Nat → Nat
  | [] => 1
  | x :: l => cmf 10 (prf l) x
theorem prf_eq (l : List Nat) (h : l.all (fun x => decide (x < 1024)) = true) : prf l = pr l := by
  induction l with
  | nil => rfl
  | cons x l ih =>
    simp only [List.all_cons, Bool.and_eq_true, decide_eq_true_eq] at h
    rw [prf, pr, cmf_eq _ _ _ h.1, ih (by simpa using h.2), cm_comm]
def parts : Nat → List Nat
  | 1 => [2, 3]
  | 2 => [2, 3, 7]
  | 3 => [2, 3, 11, 13]
  | 4 => [2, 3, 7, 19, 25, 31]
  | 5 => [2, 3, 37, 41, 47, 55, 59, 61]
  | 6 => [2, 3, 7, 11, 13, 67, 73, 87, 91, 97, 103, 109, 115, 117]
  | 7 => [2, 3, 131, 137, 143, 145, 157, 167, 171, 185, 191, 193, 203, 211, 213, 229, 239, 241, 247, 253]
  | 8 => [2, 3, 7, 19, 25, 31, 283, 285, 299, 301, 313, 319, 333, 351, 355, 357, 361, 369, 375, 379, 391, 395, 397, 415, 419, 425, 433, 445, 451, 463, 471, 477, 487, 499, 501, 505]
  | _ => []
theorem parts_ok (k : Nat) (h1 : 1 ≤ k) (h2 : k ≤ 8) : pr (parts k) = 2 ^ 2 ^ k ^^^ 2 ∧ ∀ x ∈ parts k, x ≠ 0 ∧ x.log2 ≤ k := by
  have h : ∀ j : Fin 9, 1 ≤ j.val → (prf (parts j.val) = 2 ^ 2 ^ j.val ^^^ 2 ∧ (parts j.val).all (fun x => decide (x < 1024)) = true ∧ (parts j.val).all (fun x => decide (x ≠ 0) && decide (x < 2 ^ (j.val + 1))) = true) := by
    decide +kernel
  obtain ⟨a, b, c⟩ := h ⟨k, by omega⟩ h1
  refine ⟨by rw [← prf_eq _ b]; exact a, fun x hx => ?_⟩
  have := List.all_eq_true.1 c x hx
  simp only [Bool.and_eq_true, decide_eq_true_eq] at this
  refine ⟨this.1, ?_⟩
  have := (Nat.log2_lt this.1).2 this.2; omega

theorem ask_of_none {p : Nat} (hp : 2 ≤ p) (h16 : p.log2 ≤ 16) (h : ∀ q, 2 ≤ q → 2 * q.log2 ≤ p.log2 → ¬ Dv q p) (k : Nat) (hk : 1 ≤ k) (hk2 : 2 * k ≤ p.log2) : Ask p k := by
  have hp0 : p ≠ 0 := by omega
  apply Classical.byContradiction; intro hno
  obtain ⟨h1, h2, _⟩ := pg_spec p (pm (2 ^ 2 ^ k) p ^^^ pm 2 p)
  unfold Ask at hno
  generalize pg p (pm (2 ^ 2 ^ k) p ^^^ pm 2 p) = g at *
  have hg0 : g ≠ 0 := by rintro rfl; obtain ⟨c, hc⟩ := h1; rw [cm_zero] at hc; omega
  obtain ⟨q, hq, hqg⟩ := irr_divisor g (by omega)
  have hq0 : q ≠ 0 := by have := hq.1; omega
  have hqp := dv_trans hqg h1
  have hq2 := dv_trans hqg h2
  rw [← pm_xor _ _ hp0] at hq2
  have hq3 : Dv q (2 ^ 2 ^ k ^^^ 2) := by
    have := dv_xor (dv_trans hqp (pm_dv (2 ^ 2 ^ k ^^^ 2) hp0)) hq2
    rwa [xor_cancel] at this
  obtain ⟨e1, e2⟩ := parts_ok k hk (by omega)
  rw [← e1] at hq3
  obtain ⟨x, hx, hd⟩ := irr_pr hq hq3
  obtain ⟨hx0, hxl⟩ := e2 x hx
  obtain ⟨c, hc⟩ := hd
  have hc0 : c ≠ 0 := by rintro rfl; rw [zero_cm] at hc; exact hx0 hc
  have hl : q.log2 ≤ x.log2 := by rw [hc, cm_log hc0 hq0]; omega
  exact h q hq.1 (by omega) hqp
end Gf2
