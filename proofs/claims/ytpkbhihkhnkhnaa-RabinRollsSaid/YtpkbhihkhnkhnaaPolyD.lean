/- Values of remainders and greatest common divisors at given numbers; the two tests for primes are one up to degree 16; inverses by a prime. -/
import Derived.Test.YtpkbhihkhnkhnaaPolyC
namespace Gf2
def pmf : Nat → Nat → Nat → Nat
  | 0, a, _ => a
  | n + 1, a, p => if a < 2 ^ p.log2 then a else pmf n (a ^^^ p * 2 ^ (a.log2 - p.log2)) p
theorem pmf_eq (n a p : Nat) (hp : p ≠ 0) (h : a < 2 ^ n) : pmf n a p = pm a p := by
  induction n generalizing a with
  | zero =>
    have : a = 0 := by simpa using h
    subst this; rw [pm_zero]; rfl
  | succ n ih =>
    rw [pmf, pm]
    by_cases hlt : a < 2 ^ p.log2
    · rw [if_pos hlt, dif_pos (.inr hlt)]
    · rw [if_neg hlt, dif_neg (by simp only [not_or]; exact ⟨hp, hlt⟩)]
      refine ih _ ?_
      have h1 := top_drop hp (Nat.le_of_not_lt hlt)
      have ha : a ≠ 0 := by have := Nat.one_le_two_pow (n := p.log2); omega
      have h2 := (Nat.log2_lt ha).2 h
      exact Nat.lt_of_lt_of_le h1 (Nat.pow_le_pow_right (by omega) (by omega))
def pgf : Nat → Nat → Nat → Nat
  | 0, a, _ => a
  | n + 1, a, b => if b = 0 then a else pgf n b (pmf 70 a b)
theorem pgf_eq (n a b : Nat) (h : b < n) (ha : a < 2 ^ 70) (hb : b < 2 ^ 70) : pgf n a b = pg a b := by
  induction n generalizing a b with
  | zero => omega
  | succ n ih =>
    rw [pgf]
    by_cases hz : b = 0
    · subst hz; rw [if_pos rfl, pg_zero]
    · rw [if_neg hz, pg_step hz, pmf_eq 70 a b hz ha]
      have h1 := Nat.lt_of_lt_of_le (pm_lt a hz) (log_band hz).1
      exact ih _ _ (by omega) hb (by omega)
/-- none of at most half the degree divides -/
def Trial (p : Nat) : Prop := 2 ≤ p ∧ ∀ q, 2 ≤ q → 2 * q.log2 ≤ p.log2 → ¬ Dv q p
theorem trial_of_irr {p : Nat} (h : Irr p) : Trial p := by
  refine ⟨h.1, fun q hq hl hd => ?_⟩
  obtain ⟨c, hc⟩ := hd
  have hp0 : p ≠ 0 := by have := h.1; omega
  have h1 : 1 ≤ p.log2 := (Nat.le_log2 hp0).2 (by have := h.1; omega)
  rcases h.2 c q hc with e | e
  · subst e; rw [one_cm] at hc; subst hc; omega
  · omega
theorem ask_iff_trial {p : Nat} (hp : 2 ≤ p) (h16 : p.log2 ≤ 16) : (∀ k, 1 ≤ k → 2 * k ≤ p.log2 → Ask p k) ↔ Trial p :=
  ⟨fun h => trial_of_irr (irr_of_ask hp h), fun h => ask_of_none hp h16 h.2⟩
/-- r^(2^(i+1) - 2) and r^(2^i), step by step -/
theorem pw_pm (a n : Nat) {p : Nat} (hp : p ≠ 0) : pm (pw (pm a p) n) p = pm (pw a n) p := by
  induction n with
  | zero => rfl
  | succ n ih => rw [pw, pw, pm_cm_right _ _ hp, ← pm_cm_left _ _ hp, ih, pm_cm_left _ _ hp]
theorem inv_step {p r q i k : Nat} (hp : p ≠ 0) (hq : q = pm (pw r (2 ^ i)) p) (hk : k = pm (pw r (2 ^ (i + 1) - 2)) p) :
    pm (cm q q) p = pm (pw r (2 ^ (i + 1))) p ∧ pm (cm k (pm (cm q q) p)) p = pm (pw r (2 ^ (i + 2) - 2)) p := by
  have e : pm (cm q q) p = pm (pw r (2 ^ (i + 1))) p := by
    subst hq
    rw [pm_cm_left _ _ hp, pm_cm_right _ _ hp, ← pw_dbl, Nat.pow_succ, Nat.mul_comm]
  refine ⟨e, ?_⟩
  rw [e, hk, pm_cm_left _ _ hp, pm_cm_right _ _ hp, ← pw_add]
  have h1 : 2 ≤ 2 ^ (i + 1) := by rw [Nat.pow_succ]; have := Nat.one_le_two_pow (n := i); omega
  congr 2
  rw [Nat.pow_succ 2 (i + 1)]; omega
theorem inv_end {p r k d : Nat} (hp : Irr p) (hd : d = p.log2) (h1 : 1 ≤ d) (hr : ¬ Dv p r) (hk : k = pm (pw r (2 ^ d - 2)) p) : pm (cm r k) p = 1 := by
  have hp0 : p ≠ 0 := by have := hp.1; omega
  have hf := fermat hp hr
  have e : 2 ^ d - 2 + 1 = 2 ^ p.log2 - 1 := by
    have : 2 ≤ 2 ^ d := by
      have := Nat.pow_le_pow_right (n := 2) (by omega) h1; simpa using this
    rw [← hd]; omega
  rw [hk, pm_cm_right _ _ hp0, cm_comm, show cm (pw r (2 ^ d - 2)) r = pw r (2 ^ d - 2 + 1) from rfl, e]
  rw [pm_congr hp0 hf, pm_small]
  have := Nat.pow_le_pow_right (n := 2) (by omega) (show 1 ≤ p.log2 by omega); omega
theorem gcd_irr {p r : Nat} (hp : Irr p) (hr : ¬ Dv p r) : pg r p = 1 := by
  obtain ⟨h1, ⟨c, hc⟩, _⟩ := pg_spec r p
  rcases hp.2 c _ hc with e | e
  · exfalso; rw [e, one_cm] at hc; rw [← hc] at h1; exact hr h1
  · exact e
end Gf2
