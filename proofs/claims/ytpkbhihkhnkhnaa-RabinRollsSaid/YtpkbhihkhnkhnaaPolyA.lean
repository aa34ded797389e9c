/- Plain facts on polynomials over two elements, held as natural numbers: sums are exclusive ors; products, degrees, remainders. -/
namespace Gf2

theorem two_mul_xor (a b : Nat) : 2 * (a ^^^ b) = 2 * a ^^^ 2 * b := by
  apply Nat.eq_of_testBit_eq; intro i
  rw [Nat.testBit_xor]
  have h : ∀ x : Nat, (2 * x).testBit i = (decide (i ≥ 1) && x.testBit (i - 1)) := fun x => by
    have := Nat.testBit_two_pow_mul (i := 1) (a := x) (j := i); simpa using this
  rw [h, h, h, Nat.testBit_xor]
  cases decide (i ≥ 1) <;> simp

theorem xor_mod_two (a b : Nat) : (a ^^^ b) % 2 = (a % 2) ^^^ (b % 2) := by
  have := Nat.xor_mod_two_pow (a := a) (b := b) (n := 1); simpa using this

theorem xor_swap (a b c d : Nat) : (a ^^^ b) ^^^ (c ^^^ d) = (a ^^^ c) ^^^ (b ^^^ d) := by
  rw [Nat.xor_assoc, ← Nat.xor_assoc b c d, Nat.xor_comm b c, Nat.xor_assoc c b d, ← Nat.xor_assoc]

theorem xor_cancel (a b : Nat) : (a ^^^ b) ^^^ b = a := by rw [Nat.xor_assoc, Nat.xor_self, Nat.xor_zero]
theorem xor_cancel' (a b : Nat) : a ^^^ (a ^^^ b) = b := by rw [← Nat.xor_assoc, Nat.xor_self, Nat.zero_xor]
theorem xor_eq_zero {a b : Nat} (h : a ^^^ b = 0) : a = b := by
  have := xor_cancel a b; rw [h, Nat.zero_xor] at this; exact this.symm
theorem xor_move {a b c : Nat} (h : a ^^^ b = c) : a = c ^^^ b := by rw [← h, xor_cancel]

/-- a number by its lowest bit -/
theorem bit_split (b : Nat) : b = (b % 2) ^^^ 2 * (b / 2) := by
  apply Nat.eq_of_testBit_eq; intro i
  rw [Nat.testBit_xor]
  have h : ∀ x : Nat, (2 * x).testBit i = (decide (i ≥ 1) && x.testBit (i - 1)) := fun x => by
    have := Nat.testBit_two_pow_mul (i := 1) (a := x) (j := i); simpa using this
  rw [h]
  cases i with
  | zero => simp [Nat.testBit_zero]
  | succ i =>
    have h2 : (b % 2).testBit (i + 1) = false := by
      apply Nat.testBit_lt_two_pow
      have : b % 2 < 2 := Nat.mod_lt _ (by omega)
      have : 2 ≤ 2 ^ (i + 1) := by rw [Nat.pow_succ]; have := Nat.one_le_two_pow (n := i); omega
      omega
    rw [h2]; simp [Nat.testBit_succ]

/-- the product, by the bits of the second -/
def cm (a b : Nat) : Nat :=
  if h : b = 0 then 0 else (if b % 2 = 1 then a else 0) ^^^ 2 * cm a (b / 2)
  termination_by b
  decreasing_by omega

theorem cm_zero (a : Nat) : cm a 0 = 0 := by rw [cm]; simp
theorem cm_step (a b : Nat) : cm a b = (if b % 2 = 1 then a else 0) ^^^ 2 * cm a (b / 2) := by
  by_cases h : b = 0
  · subst h; simp [cm_zero]
  · conv => lhs; rw [cm]
    rw [dif_neg h]
theorem cm_one (a : Nat) : cm a 1 = a := by rw [cm_step]; simp [cm_zero]
theorem zero_cm (b : Nat) : cm 0 b = 0 := by
  induction b using Nat.strongRecOn with
  | _ b ih =>
    by_cases h : b = 0
    · subst h; exact cm_zero 0
    · rw [cm_step, ih (b / 2) (by omega)]; simp

theorem xor_cm (a a' b : Nat) : cm (a ^^^ a') b = cm a b ^^^ cm a' b := by
  induction b using Nat.strongRecOn with
  | _ b ih =>
    by_cases h : b = 0
    · subst h; simp [cm_zero]
    · rw [cm_step (a ^^^ a'), cm_step a, cm_step a', ih (b / 2) (by omega), two_mul_xor, xor_swap]
      congr 1
      split <;> simp

theorem cm_xor (a b b' : Nat) : cm a (b ^^^ b') = cm a b ^^^ cm a b' := by
  induction b using Nat.strongRecOn generalizing b' with
  | _ b ih =>
    by_cases h : b = 0
    · subst h; simp [cm_zero]
    · rw [cm_step a (b ^^^ b'), cm_step a b, cm_step a b', Nat.xor_div_two, ih (b / 2) (by omega), two_mul_xor, xor_swap]
      congr 1
      rw [xor_mod_two]
      rcases Nat.mod_two_eq_zero_or_one b with h1 | h1 <;> rcases Nat.mod_two_eq_zero_or_one b' with h2 | h2 <;> simp [h1, h2]

theorem two_cm (a b : Nat) : cm (2 * a) b = 2 * cm a b := by
  induction b using Nat.strongRecOn with
  | _ b ih =>
    by_cases h : b = 0
    · subst h; simp [cm_zero]
    · rw [cm_step (2 * a), cm_step a, ih (b / 2) (by omega), two_mul_xor]
      congr 1
      split <;> simp
theorem cm_two (a b : Nat) : cm a (2 * b) = 2 * cm a b := by
  rw [cm_step]; simp

theorem one_cm (b : Nat) : cm 1 b = b := by
  induction b using Nat.strongRecOn with
  | _ b ih =>
    by_cases h : b = 0
    · subst h; exact cm_zero 1
    · rw [cm_step, ih (b / 2) (by omega)]
      conv => rhs; rw [bit_split b]
      congr 1
      rcases Nat.mod_two_eq_zero_or_one b with h1 | h1 <;> simp [h1]

theorem cm_comm (a b : Nat) : cm a b = cm b a := by
  induction b using Nat.strongRecOn with
  | _ b ih =>
    by_cases h : b = 0
    · subst h; rw [cm_zero, zero_cm]
    · rw [cm_step, ih (b / 2) (by omega), ← two_cm]
      conv => rhs; rw [bit_split b, xor_cm]
      congr 1
      rcases Nat.mod_two_eq_zero_or_one b with h1 | h1 <;> simp [h1, zero_cm, one_cm]

theorem cm_assoc (a b c : Nat) : cm (cm a b) c = cm a (cm b c) := by
  induction c using Nat.strongRecOn with
  | _ c ih =>
    by_cases h : c = 0
    · subst h; simp [cm_zero]
    · rw [cm_step (cm a b), cm_step b c, cm_xor, cm_two, ih (c / 2) (by omega)]
      congr 1
      split <;> simp [cm_zero]

theorem cm_pow (a n : Nat) : cm a (2 ^ n) = a * 2 ^ n := by
  induction n with
  | zero => simp [cm_one]
  | succ n ih => rw [Nat.pow_succ, Nat.mul_comm _ 2, cm_two, ih, Nat.mul_left_comm]

/-- what is at least 2^n and below its double stays so under what is below 2^n -/
theorem band_xor {x y n : Nat} (h1 : 2 ^ n ≤ x) (h2 : x < 2 ^ (n + 1)) (hy : y < 2 ^ n) : 2 ^ n ≤ x ^^^ y ∧ x ^^^ y < 2 ^ (n + 1) := by
  have hy' : y < 2 ^ (n + 1) := by rw [Nat.pow_succ]; omega
  refine ⟨?_, Nat.xor_lt_two_pow h2 hy'⟩
  apply Nat.le_of_not_lt; intro hlt
  have := Nat.xor_lt_two_pow hlt hy
  rw [xor_cancel] at this; omega

theorem cm_band {a b i j : Nat} (ha1 : 2 ^ i ≤ a) (ha2 : a < 2 ^ (i + 1)) (hb1 : 2 ^ j ≤ b) (hb2 : b < 2 ^ (j + 1)) :
    2 ^ (i + j) ≤ cm a b ∧ cm a b < 2 ^ (i + j + 1) := by
  induction j generalizing b with
  | zero =>
    have : b = 1 := by simp at hb1 hb2; omega
    subst this; rw [cm_one]; exact ⟨ha1, ha2⟩
  | succ j ih =>
    have e1 : 2 ^ (j + 1) = 2 * 2 ^ j := by rw [Nat.pow_succ]; omega
    have e2 : 2 ^ (j + 1 + 1) = 2 * 2 ^ (j + 1) := by rw [Nat.pow_succ]; omega
    obtain ⟨h1, h2⟩ := ih (b := b / 2) (by omega) (by omega)
    rw [cm_step, Nat.xor_comm]
    have e3 : 2 ^ (i + (j + 1)) = 2 * 2 ^ (i + j) := by rw [← Nat.add_assoc, Nat.pow_succ]; omega
    have e4 : 2 ^ (i + (j + 1) + 1) = 2 * 2 ^ (i + j + 1) := by rw [show i + (j + 1) + 1 = (i + j + 1) + 1 by omega, Nat.pow_succ]; omega
    refine band_xor (by omega) (by omega) ?_
    have e5 : 2 ^ (i + 1) ≤ 2 ^ (i + (j + 1)) := Nat.pow_le_pow_right (by omega) (by omega)
    split <;> omega

theorem log_band {a : Nat} (h : a ≠ 0) : 2 ^ a.log2 ≤ a ∧ a < 2 ^ (a.log2 + 1) := ⟨Nat.log2_self_le h, Nat.lt_log2_self⟩

theorem log_of_band {a i : Nat} (h1 : 2 ^ i ≤ a) (h2 : a < 2 ^ (i + 1)) : a.log2 = i := by
  have h0 : a ≠ 0 := by have := Nat.one_le_two_pow (n := i); omega
  have h3 := (Nat.log2_lt h0).2 h2
  have h4 := (Nat.le_log2 h0).2 h1
  omega

theorem cm_ne {a b : Nat} (ha : a ≠ 0) (hb : b ≠ 0) : cm a b ≠ 0 := by
  have h := (cm_band (log_band ha).1 (log_band ha).2 (log_band hb).1 (log_band hb).2).1
  have := Nat.one_le_two_pow (n := a.log2 + b.log2); omega

theorem cm_log {a b : Nat} (ha : a ≠ 0) (hb : b ≠ 0) : (cm a b).log2 = a.log2 + b.log2 := by
  have h := cm_band (log_band ha).1 (log_band ha).2 (log_band hb).1 (log_band hb).2
  exact log_of_band h.1 h.2

theorem cm_lt {a b i j : Nat} (ha : a < 2 ^ (i + 1)) (hb : b < 2 ^ (j + 1)) : cm a b < 2 ^ (i + j + 1) := by
  by_cases h0 : a = 0
  · subst h0; rw [zero_cm]; exact Nat.two_pow_pos _
  by_cases h1 : b = 0
  · subst h1; rw [cm_zero]; exact Nat.two_pow_pos _
  have h := (cm_band (log_band h0).1 (log_band h0).2 (log_band h1).1 (log_band h1).2).2
  have h2 := (Nat.log2_lt h0).2 ha
  have h3 := (Nat.log2_lt h1).2 hb
  exact Nat.lt_of_lt_of_le h (Nat.pow_le_pow_right (by omega) (by omega))

/-- p divides a -/
def Dv (p a : Nat) : Prop := ∃ q, a = cm q p
theorem dv_zero (p : Nat) : Dv p 0 := ⟨0, (zero_cm p).symm⟩
theorem dv_refl (p : Nat) : Dv p p := ⟨1, (one_cm p).symm⟩
theorem dv_xor {p a b : Nat} (h : Dv p a) (k : Dv p b) : Dv p (a ^^^ b) := by
  obtain ⟨q, rfl⟩ := h; obtain ⟨r, rfl⟩ := k; exact ⟨q ^^^ r, (xor_cm q r p).symm⟩
theorem dv_cm {p a : Nat} (h : Dv p a) (c : Nat) : Dv p (cm c a) := by
  obtain ⟨q, rfl⟩ := h; exact ⟨cm c q, (cm_assoc c q p).symm⟩
theorem dv_trans {p q r : Nat} (h : Dv p q) (k : Dv q r) : Dv p r := by
  obtain ⟨c, rfl⟩ := k; exact dv_cm h c
theorem dv_low {p a : Nat} (h : Dv p a) (hp : p ≠ 0) (ha : a < 2 ^ p.log2) : a = 0 := by
  obtain ⟨q, rfl⟩ := h
  by_cases hq : q = 0
  · subst hq; exact zero_cm p
  · exfalso
    have h1 := (cm_band (log_band hq).1 (log_band hq).2 (log_band hp).1 (log_band hp).2).1
    have h2 : 2 ^ p.log2 ≤ 2 ^ (q.log2 + p.log2) := Nat.pow_le_pow_right (by omega) (by omega)
    omega

theorem top_drop {a p : Nat} (hp : p ≠ 0) (h : 2 ^ p.log2 ≤ a) : a ^^^ p * 2 ^ (a.log2 - p.log2) < 2 ^ a.log2 := by
  have ha : a ≠ 0 := by have := Nat.one_le_two_pow (n := p.log2); omega
  have hl : p.log2 ≤ a.log2 := (Nat.le_log2 ha).2 h
  have hb := log_band ha
  have hpb := log_band hp
  have e : 2 ^ a.log2 = 2 ^ p.log2 * 2 ^ (a.log2 - p.log2) := by rw [← Nat.pow_add]; congr 1; omega
  have h1 : 2 ^ a.log2 ≤ p * 2 ^ (a.log2 - p.log2) := by rw [e]; exact Nat.mul_le_mul_right _ hpb.1
  have h2 : p * 2 ^ (a.log2 - p.log2) < 2 ^ (a.log2 + 1) := by
    have : 2 ^ (a.log2 + 1) = 2 ^ (p.log2 + 1) * 2 ^ (a.log2 - p.log2) := by rw [← Nat.pow_add]; congr 1; omega
    rw [this]; exact Nat.mul_lt_mul_of_pos_right hpb.2 (Nat.two_pow_pos _)
  -- both have their top bit at log2 a
  apply Nat.lt_pow_two_of_testBit
  intro i hi
  rw [Nat.testBit_xor]
  by_cases hii : i = a.log2
  · subst hii
    have t : ∀ x, 2 ^ a.log2 ≤ x → x < 2 ^ (a.log2 + 1) → x.testBit a.log2 = true := fun x hx1 hx2 => by
      rw [Nat.testBit_eq_decide_div_mod_eq]
      have : x / 2 ^ a.log2 = 1 := by
        apply Nat.div_eq_of_lt_le
        · omega
        · rw [Nat.pow_succ] at hx2; omega
      rw [this]; rfl
    rw [t _ hb.1 hb.2, t _ h1 h2]; rfl
  · have t : ∀ x, x < 2 ^ (a.log2 + 1) → x.testBit i = false := fun x hx => Nat.testBit_lt_two_pow (Nat.lt_of_lt_of_le hx (Nat.pow_le_pow_right (by omega) (by omega)))
    rw [t _ hb.2, t _ h2]; rfl

/-- the remainder (by 0: the number itself) -/
def pm (a p : Nat) : Nat :=
  if h : p = 0 ∨ a < 2 ^ p.log2 then a else pm (a ^^^ p * 2 ^ (a.log2 - p.log2)) p
  termination_by a
  decreasing_by
  have h' := not_or.1 h
  have h1 := top_drop h'.1 (Nat.le_of_not_lt h'.2)
  have ha : a ≠ 0 := by have := Nat.one_le_two_pow (n := p.log2); omega
  exact Nat.lt_of_lt_of_le h1 (log_band ha).1

theorem pm_spec (a : Nat) {p : Nat} (hp : p ≠ 0) : pm a p < 2 ^ p.log2 ∧ Dv p (a ^^^ pm a p) := by
  induction a using Nat.strongRecOn with
  | _ a ih =>
    rw [pm]
    by_cases h : p = 0 ∨ a < 2 ^ p.log2
    · rw [dif_pos h]
      refine ⟨h.resolve_left hp, ?_⟩
      rw [Nat.xor_self]; exact dv_zero p
    · rw [dif_neg h]
      have h' := not_or.1 h
      have h1 := top_drop hp (Nat.le_of_not_lt h'.2)
      have ha : a ≠ 0 := by have := Nat.one_le_two_pow (n := p.log2); omega
      obtain ⟨g1, g2⟩ := ih _ (Nat.lt_of_lt_of_le h1 (log_band ha).1)
      refine ⟨g1, ?_⟩
      have hd : Dv p (p * 2 ^ (a.log2 - p.log2)) := ⟨2 ^ (a.log2 - p.log2), by rw [cm_comm, cm_pow]⟩
      have := dv_xor g2 hd
      rw [Nat.xor_assoc, Nat.xor_comm (pm _ _) _, ← Nat.xor_assoc, xor_cancel] at this
      exact this

theorem pm_lt (a : Nat) {p : Nat} (hp : p ≠ 0) : pm a p < 2 ^ p.log2 := (pm_spec a hp).1
theorem pm_dv (a : Nat) {p : Nat} (hp : p ≠ 0) : Dv p (a ^^^ pm a p) := (pm_spec a hp).2
theorem pm_unique {a p r : Nat} (hp : p ≠ 0) (hr : r < 2 ^ p.log2) (h : Dv p (a ^^^ r)) : pm a p = r := by
  have h2 := dv_xor (pm_dv a hp) h
  rw [Nat.xor_comm a, xor_swap, Nat.xor_comm (pm a p)] at h2
  have e : (a ^^^ a) = 0 := Nat.xor_self a
  have h3 : (pm a p ^^^ a) ^^^ (a ^^^ r) = pm a p ^^^ r := by rw [Nat.xor_assoc, xor_cancel']
  have h4 := dv_xor (pm_dv a hp) h
  rw [Nat.xor_comm a (pm a p), h3] at h4
  exact xor_eq_zero (dv_low h4 hp (Nat.xor_lt_two_pow (pm_lt a hp) hr))
theorem pm_small {a p : Nat} (h : a < 2 ^ p.log2) : pm a p = a := by rw [pm, dif_pos (Or.inr h)]
theorem pm_congr {a b p : Nat} (hp : p ≠ 0) (h : Dv p (a ^^^ b)) : pm a p = pm b p := by
  refine pm_unique hp (pm_lt b hp) ?_
  have := dv_xor h (pm_dv b hp)
  rwa [Nat.xor_assoc, xor_cancel'] at this
theorem dv_of_pm {a b p : Nat} (hp : p ≠ 0) (h : pm a p = pm b p) : Dv p (a ^^^ b) := by
  have := dv_xor (pm_dv a hp) (pm_dv b hp)
  rw [h, xor_swap, Nat.xor_self, Nat.xor_zero] at this; exact this
theorem pm_xor (a b : Nat) {p : Nat} (hp : p ≠ 0) : pm (a ^^^ b) p = pm a p ^^^ pm b p := by
  refine pm_unique hp (Nat.xor_lt_two_pow (pm_lt a hp) (pm_lt b hp)) ?_
  rw [xor_swap]; exact dv_xor (pm_dv a hp) (pm_dv b hp)
theorem pm_pm (a : Nat) {p : Nat} (hp : p ≠ 0) : pm (pm a p) p = pm a p := pm_small (pm_lt a hp)
theorem pm_shift (a k : Nat) {p : Nat} (hp : p ≠ 0) : pm (a ^^^ p * 2 ^ k) p = pm a p := by
  refine pm_congr hp ?_
  rw [Nat.xor_comm a, xor_cancel]
  exact ⟨2 ^ k, by rw [cm_comm, cm_pow]⟩
theorem pm_cm_right (a b : Nat) {p : Nat} (hp : p ≠ 0) : pm (cm a (pm b p)) p = pm (cm a b) p := by
  refine pm_congr hp ?_
  rw [← cm_xor, Nat.xor_comm]; exact dv_cm (pm_dv b hp) a
theorem pm_cm_left (a b : Nat) {p : Nat} (hp : p ≠ 0) : pm (cm (pm a p) b) p = pm (cm a b) p := by
  rw [cm_comm, pm_cm_right _ _ hp, cm_comm]
theorem pm_two (a : Nat) {p : Nat} (hp : p ≠ 0) : pm (2 * pm a p) p = pm (2 * a) p := by
  have h := pm_cm_right 2 a hp
  have e : ∀ x, cm 2 x = 2 * x := fun x => by rw [cm_comm, ← Nat.pow_one 2, cm_pow, Nat.mul_comm]
  rwa [e, e] at h
theorem pm_mul_pow (a k : Nat) {p : Nat} (hp : p ≠ 0) : pm (pm a p * 2 ^ k) p = pm (a * 2 ^ k) p := by
  rw [← cm_pow, ← cm_pow, pm_cm_left _ _ hp]
theorem dv_iff_pm {a p : Nat} (hp : p ≠ 0) : Dv p a ↔ pm a p = 0 := by
  constructor
  · intro h; exact pm_unique hp (Nat.two_pow_pos _) (by simpa using h)
  · intro h; have := pm_dv a hp; rw [h, Nat.xor_zero] at this; exact this
theorem pm_zero (p : Nat) : pm 0 p = 0 := by
  rw [pm, dif_pos (Or.inr (Nat.two_pow_pos _))]
end Gf2
