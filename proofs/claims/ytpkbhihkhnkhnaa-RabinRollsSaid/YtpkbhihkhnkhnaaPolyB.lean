/- Greatest common divisors, primes, powers by a prime: a^(2^d) is a by a prime of degree d; what the prime test tells. -/
import Derived.Test.YtpkbhihkhnkhnaaPolyA
namespace Gf2

/-- Euclid's -/
def pg (a b : Nat) : Nat := if _h : b = 0 then a else pg b (pm a b)
  termination_by b
  decreasing_by exact Nat.lt_of_lt_of_le (pm_lt a _h) (log_band _h).1

theorem pg_zero (a : Nat) : pg a 0 = a := by rw [pg, dif_pos rfl]
theorem pg_step {a b : Nat} (h : b ≠ 0) : pg a b = pg b (pm a b) := by rw [pg, dif_neg h]

theorem pg_spec (a b : Nat) : Dv (pg a b) a ∧ Dv (pg a b) b ∧ ∃ u v, pg a b = cm u a ^^^ cm v b := by
  induction b using Nat.strongRecOn generalizing a with
  | _ b ih =>
    by_cases h : b = 0
    · subst h; rw [pg_zero]; exact ⟨dv_refl a, dv_zero a, 1, 0, by rw [one_cm, zero_cm, Nat.xor_zero]⟩
    · rw [pg_step h]
      obtain ⟨h1, h2, u, v, h3⟩ := ih _ (Nat.lt_of_lt_of_le (pm_lt a h) (log_band h).1) b
      have h4 := dv_xor (dv_trans h1 (pm_dv a h)) h2
      rw [xor_cancel] at h4
      refine ⟨h4, h1, v, ?_⟩
      obtain ⟨q, hq⟩ := pm_dv a h
      refine ⟨u ^^^ cm v q, ?_⟩
      have e : pm a b = a ^^^ cm q b := by rw [← hq, xor_cancel']
      rw [h3]
      generalize pm a b = r at *
      rw [e, cm_xor, xor_cm, cm_assoc, ← Nat.xor_assoc, Nat.xor_comm (cm u b), Nat.xor_assoc]

/-- prime: of a degree of at least 1, and no product but by 1 -/
def Irr (q : Nat) : Prop := 2 ≤ q ∧ ∀ a b, q = cm a b → a = 1 ∨ b = 1

theorem log_lt_of_proper {a b q : Nat} (h : q = cm a b) (hq : q ≠ 0) (ha : a ≠ 1) : b.log2 < q.log2 := by
  have ha0 : a ≠ 0 := by rintro rfl; rw [zero_cm] at h; exact hq h
  have hb0 : b ≠ 0 := by rintro rfl; rw [cm_zero] at h; exact hq h
  rw [h, cm_log ha0 hb0]
  have : 1 ≤ a.log2 := (Nat.le_log2 ha0).2 (by omega)
  omega

theorem irr_divisor (n : Nat) (h : 2 ≤ n) : ∃ q, Irr q ∧ Dv q n := by
  generalize hk : n.log2 = k
  induction k using Nat.strongRecOn generalizing n with
  | _ k ih =>
    by_cases hi : Irr n
    · exact ⟨n, hi, dv_refl n⟩
    · have : ∃ a b, n = cm a b ∧ a ≠ 1 ∧ b ≠ 1 := by
        apply Classical.byContradiction; intro hno
        apply hi; refine ⟨h, fun a b hab => ?_⟩
        apply Classical.byContradiction; intro hor
        exact hno ⟨a, b, hab, fun e => hor (.inl e), fun e => hor (.inr e)⟩
      obtain ⟨a, b, hab, ha, hb⟩ := this
      have hb0 : b ≠ 0 := by rintro rfl; rw [cm_zero] at hab; omega
      have hlt := log_lt_of_proper hab (by omega) ha
      obtain ⟨q, hq1, hq2⟩ := ih b.log2 (by omega) b (by omega) rfl
      exact ⟨q, hq1, dv_trans hq2 ⟨a, hab⟩⟩

theorem irr_gcd {q a : Nat} (hq : Irr q) (h : ¬ Dv q a) : ∃ u, Dv q (cm u a ^^^ 1) := by
  obtain ⟨h1, ⟨c, hc⟩, u, v, h3⟩ := pg_spec a q
  rcases hq.2 c _ hc with e | e
  · exfalso; rw [e, one_cm] at hc; rw [← hc] at h1; exact h h1
  · refine ⟨u, v, ?_⟩
    rw [e] at h3
    rw [h3, xor_cancel']

theorem irr_euclid {q a b : Nat} (hq : Irr q) (h : Dv q (cm a b)) : Dv q a ∨ Dv q b := by
  by_cases ha : Dv q a
  · exact .inl ha
  · right
    obtain ⟨u, hu⟩ := irr_gcd hq ha
    have h1 := dv_cm hu b
    rw [cm_xor, cm_one, ← cm_assoc, cm_comm b u, cm_assoc, cm_comm b a] at h1
    have h2 := dv_xor h1 (dv_cm h u)
    rwa [Nat.xor_comm, xor_cancel'] at h2

theorem irr_not_one {q : Nat} (hq : Irr q) : ¬ Dv q 1 := by
  rintro ⟨c, hc⟩
  have hc0 : c ≠ 0 := by rintro rfl; rw [zero_cm] at hc; omega
  have hq0 : q ≠ 0 := by have := hq.1; omega
  have := cm_log hc0 hq0
  rw [← hc] at this
  have h1 : 1 ≤ q.log2 := (Nat.le_log2 hq0).2 (by have := hq.1; omega)
  have h2 : Nat.log2 1 = 0 := by decide
  omega

/-- powers -/
def pw (a : Nat) : Nat → Nat
  | 0 => 1
  | n + 1 => cm (pw a n) a
theorem pw_add (a m n : Nat) : pw a (m + n) = cm (pw a m) (pw a n) := by
  induction n with
  | zero => rw [Nat.add_zero, pw, cm_one]
  | succ n ih => rw [← Nat.add_assoc, pw, ih, pw, cm_assoc]
theorem pw_two (n : Nat) : pw 2 n = 2 ^ n := by
  induction n with
  | zero => rfl
  | succ n ih => rw [pw, ih, cm_comm, cm_pow, Nat.pow_succ, Nat.mul_comm]
theorem pw_dbl (a n : Nat) : pw a (2 * n) = cm (pw a n) (pw a n) := by rw [Nat.two_mul, pw_add]

/-- products of a list -/
def pr : List Nat → Nat
  | [] => 1
  | x :: l => cm x (pr l)
theorem pr_perm {l m : List Nat} (h : l.Perm m) : pr l = pr m := by
  induction h with
  | nil => rfl
  | cons x _ ih => simp [pr, ih]
  | swap x y l => simp only [pr]; rw [← cm_assoc, cm_comm y x, cm_assoc]
  | trans _ _ h1 h2 => exact h1.trans h2
theorem pr_map {p : Nat} (hp : p ≠ 0) (a : Nat) (l : List Nat) : pm (pr (l.map fun x => pm (cm a x) p)) p = pm (cm (pw a l.length) (pr l)) p := by
  induction l with
  | nil => simp [pr, pw, cm_one]
  | cons x l ih =>
    simp only [List.map_cons, pr, List.length_cons, pw]
    rw [pm_cm_left _ _ hp, ← pm_cm_right _ _ hp, ih, pm_cm_right _ _ hp]
    congr 1
    rw [cm_assoc, ← cm_assoc x, cm_comm x, cm_assoc (pw a l.length) x, ← cm_assoc a, cm_comm a (pw a l.length)]
theorem irr_pr {q : Nat} (hq : Irr q) {l : List Nat} (h : Dv q (pr l)) : ∃ x ∈ l, Dv q x := by
  induction l with
  | nil => exact absurd h (irr_not_one hq)
  | cons x l ih =>
    rcases irr_euclid hq h with h1 | h1
    · exact ⟨x, by simp, h1⟩
    · obtain ⟨y, hy, hd⟩ := ih h1; exact ⟨y, by simp [hy], hd⟩

theorem perm_of_sub {l m : List Nat} (hn : l.Nodup) (hs : ∀ x ∈ l, x ∈ m) (hl : m.length ≤ l.length) : l.Perm m := by
  induction l generalizing m with
  | nil => have : m = [] := List.length_eq_zero_iff.1 (by simpa using hl); subst this; exact .nil
  | cons x l ih =>
    have hx : x ∈ m := hs x (by simp)
    have hp := List.perm_cons_erase hx
    have hn' := List.nodup_cons.1 hn
    refine (List.Perm.cons x (ih hn'.2 (fun y hy => ?_) ?_)).trans hp.symm
    · have hne : y ≠ x := by rintro rfl; exact hn'.1 hy
      exact (List.mem_erase_of_ne hne).2 (hs y (by simp [hy]))
    · have := hp.length_eq; simp at this hl; omega

theorem nodup_map_of {f : Nat → Nat} {l : List Nat} (hn : l.Nodup) (hf : ∀ x ∈ l, ∀ y ∈ l, f x = f y → x = y) : (l.map f).Nodup := by
  induction l with
  | nil => simp
  | cons x l ih =>
    have hn' := List.nodup_cons.1 hn
    rw [List.map_cons, List.nodup_cons]
    refine ⟨?_, ih hn'.2 (fun a ha b hb => hf a (by simp [ha]) b (by simp [hb]))⟩
    intro hm
    obtain ⟨y, hy, he⟩ := List.mem_map.1 hm
    have := hf y (by simp [hy]) x (by simp) he
    subst this; exact hn'.1 hy

/-- by a prime of degree d: a^(2^d - 1) is 1 -/
theorem fermat {q a : Nat} (hq : Irr q) (ha : ¬ Dv q a) : Dv q (pw a (2 ^ q.log2 - 1) ^^^ 1) := by
  have hq0 : q ≠ 0 := by have := hq.1; omega
  let L := List.range' 1 (2 ^ q.log2 - 1)
  have hL : ∀ x, x ∈ L ↔ 1 ≤ x ∧ x < 2 ^ q.log2 := fun x => by
    rw [List.mem_range'_1]; have := Nat.two_pow_pos q.log2; omega
  have hnd : ∀ x ∈ L, ¬ Dv q x := fun x hx h => by
    have h1 := (hL x).1 hx
    have := dv_low h hq0 h1.2; omega
  have hperm : (L.map fun x => pm (cm a x) q).Perm L := by
    refine perm_of_sub (nodup_map_of List.nodup_range' ?_) ?_ (by simp)
    · intro x hx y hy he
      have h1 := dv_of_pm hq0 he
      rw [← cm_xor] at h1
      rcases irr_euclid hq h1 with h2 | h2
      · exact absurd h2 ha
      · exact xor_eq_zero (dv_low h2 hq0 (Nat.xor_lt_two_pow ((hL x).1 hx).2 ((hL y).1 hy).2))
    · intro z hz
      obtain ⟨x, hx, rfl⟩ := List.mem_map.1 hz
      refine (hL _).2 ⟨?_, pm_lt _ hq0⟩
      apply Nat.pos_of_ne_zero; intro h0
      rcases irr_euclid hq ((dv_iff_pm hq0).2 h0) with h2 | h2
      · exact ha h2
      · exact hnd x hx h2
  have h1 := pr_map hq0 a L
  rw [pr_perm hperm] at h1
  have h2 := dv_of_pm hq0 h1
  have hlen : L.length = 2 ^ q.log2 - 1 := by simp [L]
  rw [hlen] at h2
  have h3 : pr L ^^^ cm (pw a (2 ^ q.log2 - 1)) (pr L) = cm (pw a (2 ^ q.log2 - 1) ^^^ 1) (pr L) := by
    rw [xor_cm, one_cm, Nat.xor_comm]
  rw [h3] at h2
  rcases irr_euclid hq h2 with h4 | h4
  · exact h4
  · obtain ⟨x, hx, hd⟩ := irr_pr hq h4; exact absurd hd (hnd x hx)

theorem fermat' {q : Nat} (hq : Irr q) (a : Nat) : Dv q (pw a (2 ^ q.log2) ^^^ a) := by
  have e : 2 ^ q.log2 = (2 ^ q.log2 - 1) + 1 := by have := Nat.two_pow_pos q.log2; omega
  by_cases ha : Dv q a
  · rw [e, pw]; exact dv_xor (dv_cm ha _) ha
  · have h := dv_cm (fermat hq ha) a
    rw [cm_xor, cm_one, cm_comm] at h
    rw [e, pw]; exact h

/-- x^(2^k), k times squared, by p -/
theorem sq_step {p s k : Nat} (hp : p ≠ 0) (h : s = pm (2 ^ 2 ^ k) p) : pm (cm s s) p = pm (2 ^ 2 ^ (k + 1)) p := by
  subst h
  rw [pm_cm_left _ _ hp, pm_cm_right _ _ hp, cm_pow]
  congr 1
  rw [← Nat.pow_add, Nat.pow_succ]; congr 1; omega

/-- what the test asks at k -/
def Ask (p k : Nat) : Prop := pg p (pm (2 ^ 2 ^ k) p ^^^ pm 2 p) = 1

theorem dv_pow_of_irr {q : Nat} (hq : Irr q) : Dv q (2 ^ 2 ^ q.log2 ^^^ 2) := by
  have := fermat' hq 2; rwa [pw_two] at this

theorem dv_of_pm_dv {q p a : Nat} (hp : p ≠ 0) (h : Dv q p) (ha : Dv q a) : Dv q (pm a p) := by
  have := dv_xor (dv_trans h (pm_dv a hp)) ha
  rwa [Nat.xor_comm, xor_cancel'] at this

/-- if the test says yes at all k up to half the degree then p is prime -/
theorem irr_of_ask {p : Nat} (hp : 2 ≤ p) (h : ∀ k, 1 ≤ k → 2 * k ≤ p.log2 → Ask p k) : Irr p := by
  have hp0 : p ≠ 0 := by omega
  refine ⟨hp, fun a b hab => ?_⟩
  apply Classical.byContradiction; intro hor
  have ha1 : a ≠ 1 := fun e => hor (.inl e)
  have hb1 : b ≠ 1 := fun e => hor (.inr e)
  have ha0 : a ≠ 0 := by rintro rfl; rw [zero_cm] at hab; omega
  have hb0 : b ≠ 0 := by rintro rfl; rw [cm_zero] at hab; omega
  have hlog : p.log2 = a.log2 + b.log2 := by rw [hab, cm_log ha0 hb0]
  -- the lesser of both
  have hc : ∃ c, 2 ≤ c ∧ 2 * c.log2 ≤ p.log2 ∧ Dv c p := by
    by_cases hle : a.log2 ≤ b.log2
    · exact ⟨a, by omega, by omega, b, by rw [hab, cm_comm]⟩
    · exact ⟨b, by omega, by omega, a, hab⟩
  obtain ⟨c, hc2, hcl, hcd⟩ := hc
  obtain ⟨q, hq, hqd⟩ := irr_divisor c hc2
  have hq0 : q ≠ 0 := by have := hq.1; omega
  have hql : q.log2 ≤ c.log2 := by
    obtain ⟨e, he⟩ := hqd
    have he0 : e ≠ 0 := by rintro rfl; rw [zero_cm] at he; omega
    rw [he, cm_log he0 hq0]; omega
  have hq1 : 1 ≤ q.log2 := (Nat.le_log2 hq0).2 (by have := hq.1; omega)
  have hqp := dv_trans hqd hcd
  have hask := h q.log2 hq1 (by omega)
  obtain ⟨_, _, u, v, hg⟩ := pg_spec p (pm (2 ^ 2 ^ q.log2) p ^^^ pm 2 p)
  rw [hask] at hg
  apply irr_not_one hq
  rw [hg]
  refine dv_xor (dv_cm hqp u) (dv_cm ?_ v)
  rw [← pm_xor _ _ hp0]
  exact dv_of_pm_dv hp0 hqp (dv_pow_of_irr hq)
end Gf2
