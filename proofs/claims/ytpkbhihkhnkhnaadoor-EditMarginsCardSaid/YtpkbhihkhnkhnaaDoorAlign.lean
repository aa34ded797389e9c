/- Records, aligned places, aligned cuts: plain facts. -/
import Derived.Test.YtpkbhihkhnkhnaaDoorMeets
import Derived.Lib.Bytealg
namespace Go.Proofs.YtpkbhihkhnkhnaaDoor
theorem sorted_ext {a b : List Nat} (ha : a.Pairwise (· < ·)) (hb : b.Pairwise (· < ·)) (h : ∀ x, x ∈ a ↔ x ∈ b) : a = b := by
  apply List.Perm.eq_of_pairwise (le := fun x y => x < y) (fun x y _ _ h1 h2 => by omega) ha hb
  rw [List.perm_ext_iff_of_nodup (ha.imp (fun h => Nat.ne_of_lt h)) (hb.imp (fun h => Nat.ne_of_lt h))]
  exact h
theorem snoc_ind {α : Type} {Q : List α → Prop} (h0 : Q []) (h1 : ∀ l a, Q l → Q (l ++ [a])) (l : List α) : Q l := by
  have h : ∀ l : List α, Q l.reverse := fun l => by
    induction l with
    | nil => exact h0
    | cons a l ih => rw [List.reverse_cons]; exact h1 _ _ ih
  have := h l.reverse
  rwa [List.reverse_reverse] at this
theorem lastD_mem {l : List Nat} (h : l ≠ []) : l.getLastD 0 ∈ l := by
  rcases l.eq_nil_or_concat with rfl | ⟨l, x, rfl⟩
  · exact absurd rfl h
  · simp
/-- does a record end at a place? -/
def isE (l : List UInt8) (i : Nat) : Bool := decide (0 < i) && (decide (i = l.length) || decide (l[i - 1]? = some 10))
theorem isE_iff {l : List UInt8} {i : Nat} : isE l i = true ↔ 0 < i ∧ (i = l.length ∨ l[i - 1]? = some 10) := by simp [isE]
theorem isE_le {l : List UInt8} {i : Nat} (h : isE l i = true) : i ≤ l.length := by
  rw [isE_iff] at h
  rcases h.2 with e | e
  · omega
  · have := (List.getElem?_eq_some_iff.1 e).1; omega
theorem isE_len {l : List UInt8} (h : 0 < l.length) : isE l l.length = true := isE_iff.2 ⟨h, .inl rfl⟩
/-- the place that one is aligned to -/
def al (l : List UInt8) (k : Nat) : Nat := ((List.range (l.length + 1)).find? (fun i => decide (k ≤ i) && isE l i)).getD l.length
theorem al_cases (l : List UInt8) (k : Nat) : (k ≤ al l k ∧ isE l (al l k) = true ∧ ∀ j, k ≤ j → j < al l k → isE l j = false) ∨ (al l k = l.length ∧ ∀ j, k ≤ j → isE l j = false) := by
  unfold al
  rcases h : (List.range (l.length + 1)).find? (fun i => decide (k ≤ i) && isE l i) with _ | i
  · right
    refine ⟨rfl, fun j hj => ?_⟩
    rw [List.find?_range_eq_none] at h
    rcases Nat.lt_or_ge j (l.length + 1) with g | g
    · have := h j g; simpa [hj] using this
    · rw [Bool.eq_false_iff]; intro he; have := isE_le he; omega
  · left
    rw [List.find?_range_eq_some] at h
    obtain ⟨h1, h2, h3⟩ := h
    simp only [Bool.and_eq_true, decide_eq_true_eq] at h1
    refine ⟨h1.1, h1.2, fun j hj hlt => ?_⟩
    have := h3 j hlt
    simpa [hj] using this
theorem al_le (l : List UInt8) (k : Nat) : al l k ≤ l.length := by
  rcases al_cases l k with ⟨_, h, _⟩ | ⟨h, _⟩
  · exact isE_le h
  · omega
theorem al_isE {l : List UInt8} (k : Nat) (h : 0 < l.length) : isE l (al l k) = true := by
  rcases al_cases l k with ⟨_, h, _⟩ | ⟨h1, _⟩
  · exact h
  · rw [h1]; exact isE_len h
theorem al_ge {l : List UInt8} {k : Nat} (h : k ≤ l.length) : k ≤ al l k := by
  rcases al_cases l k with ⟨h, _, _⟩ | ⟨h1, _⟩
  · exact h
  · omega
theorem al_min {l : List UInt8} {k i : Nat} (h : k ≤ i) (he : isE l i = true) : al l k ≤ i := by
  rcases al_cases l k with ⟨_, _, h3⟩ | ⟨_, h3⟩
  · rcases Nat.lt_or_ge i (al l k) with g | g
    · rw [h3 i h g] at he; cases he
    · exact g
  · rw [h3 i h] at he; cases he
theorem al_self {l : List UInt8} {k : Nat} (h : isE l k = true) : al l k = k :=
  Nat.le_antisymm (al_min (Nat.le_refl _) h) (al_ge (isE_le h))
theorem al_gt {l : List UInt8} {k : Nat} (h : l.length ≤ k) : al l k = l.length := by
  rcases al_cases l k with ⟨h1, h2, _⟩ | ⟨h1, _⟩
  · have := isE_le h2; omega
  · exact h1
theorem al_idem (l : List UInt8) (k : Nat) : al l (al l k) = al l k := by
  rcases al_cases l k with ⟨_, h, _⟩ | ⟨h1, _⟩
  · exact al_self h
  · rw [h1]; exact al_gt (Nat.le_refl _)
theorem al_mono {l : List UInt8} {a b : Nat} (h : a ≤ b) : al l a ≤ al l b := by
  rcases al_cases l b with ⟨h1, h2, _⟩ | ⟨h1, _⟩
  · exact al_min (by omega) h2
  · rw [h1]; exact al_le l a
theorem al_pos {l : List UInt8} (k : Nat) (h : 0 < l.length) : 0 < al l k := (isE_iff.1 (al_isE k h)).1
theorem al_none {l : List UInt8} {a b j : Nat} (h : a ≤ j) (hj : j < al l a) (_hb : b = al l a) : isE l j = false := by
  rcases al_cases l a with ⟨_, _, h3⟩ | ⟨_, h3⟩
  · exact h3 j h hj
  · exact h3 j h
theorem al_eq {l : List UInt8} {k i : Nat} (h : k ≤ i) (he : isE l i = true) (hn : ∀ j, k ≤ j → j < i → isE l j = false) : al l k = i := by
  have h1 := al_min h he
  rcases al_cases l k with ⟨h2, h3, _⟩ | ⟨h2, h3⟩
  · rcases Nat.lt_or_ge (al l k) i with g | g
    · rw [hn _ h2 g] at h3; cases h3
    · omega
  · rw [h3 i h] at he; cases he
theorem al_zero (l : List UInt8) : al l 0 = al l 1 := by
  rcases al_cases l 1 with ⟨h1, h2, h3⟩ | ⟨h1, h3⟩
  · refine al_eq (by omega) h2 (fun j _ hj => ?_)
    rcases Nat.eq_zero_or_pos j with rfl | g
    · simp [isE]
    · exact h3 j g hj
  · rw [h1]
    rcases al_cases l 0 with ⟨g1, g2, _⟩ | ⟨g1, _⟩
    · have := (isE_iff.1 g2).1
      rw [h3 _ this] at g2; cases g2
    · exact g1
theorem indexByte_spec (l : List UInt8) (c : UInt8) : (Lib.indexByte l c = -1 ∧ ∀ i : Nat, l[i]? ≠ some c) ∨ ∃ i : Nat, Lib.indexByte l c = i ∧ l[i]? = some c ∧ ∀ j : Nat, j < i → l[j]? ≠ some c := by
  induction l with
  | nil => left; exact ⟨rfl, fun i => by simp⟩
  | cons b l ih =>
    unfold Lib.indexByte
    by_cases hb : (b == c) = true
    · right
      rw [if_pos hb]
      refine ⟨0, rfl, by simpa using hb, fun j hj => by omega⟩
    · rw [if_neg hb]
      have hb' : b ≠ c := by simpa using hb
      rcases ih with ⟨h1, h2⟩ | ⟨i, h1, h2, h3⟩
      · left
        rw [h1]
        refine ⟨rfl, fun i => ?_⟩
        cases i with
        | zero => simpa using hb'
        | succ i => simpa using h2 i
      · right
        have hne : (Lib.indexByte l c == -1) = false := by rw [h1, beq_eq_false_iff_ne]; omega
        rw [hne, h1]
        refine ⟨i + 1, by simp, by simpa using h2, fun j hj => ?_⟩
        cases j with
        | zero => simpa using hb'
        | succ j => simpa using h3 j (by omega)
theorem al_index {l : List UInt8} {k : Nat} (h1 : 1 ≤ k) (h2 : k ≤ l.length) : (Lib.indexByte (l.drop (k - 1)) 10 = -1 ∧ al l k = l.length) ∨ ∃ i : Nat, Lib.indexByte (l.drop (k - 1)) 10 = i ∧ al l k = k + i ∧ k + i ≤ l.length := by
  rcases indexByte_spec (l.drop (k - 1)) 10 with ⟨h, h3⟩ | ⟨i, h, h3, h4⟩
  · left
    refine ⟨h, ?_⟩
    refine al_eq (by omega) (isE_len (by omega)) (fun j hj hlt => ?_)
    rw [Bool.eq_false_iff]; intro he
    rw [isE_iff] at he
    rcases he.2 with e | e
    · omega
    · have := h3 (j - k)
      rw [List.getElem?_drop, show k - 1 + (j - k) = j - 1 by omega] at this
      exact this e
  · right
    rw [List.getElem?_drop] at h3
    have hl := (List.getElem?_eq_some_iff.1 h3).1
    refine ⟨i, h, ?_, by omega⟩
    refine al_eq (by omega) (isE_iff.2 ⟨by omega, .inr (by rw [show k + i - 1 = k - 1 + i by omega]; exact h3)⟩) (fun j hj hlt => ?_)
    rw [Bool.eq_false_iff]; intro he
    rw [isE_iff] at he
    rcases he.2 with e | e
    · omega
    · have := h4 (j - k) (by omega)
      rw [List.getElem?_drop, show k - 1 + (j - k) = j - 1 by omega] at this
      exact this e
/-- where records end -/
def re (l : List UInt8) : List Nat := (List.range (l.length + 1)).filter (isE l)
theorem mem_re {l : List UInt8} {x : Nat} : x ∈ re l ↔ isE l x = true := by
  unfold re
  rw [List.mem_filter, List.mem_range]
  exact ⟨fun h => h.2, fun h => ⟨by have := isE_le h; omega, h⟩⟩
theorem re_cutting (l : List UInt8) : Cutting l.length (re l) := by
  refine ⟨List.Pairwise.filter _ List.pairwise_lt_range, fun x hx => (isE_iff.1 (mem_re.1 hx)).1, fun x hx => isE_le (mem_re.1 hx), ?_⟩
  unfold re
  rcases Nat.eq_zero_or_pos l.length with h | h
  · rw [h]; simp [isE]
  · rw [List.range_succ, List.filter_append]; simp [isE_len h]
/-- the aligned ones of cuts -/
def ac (l : List UInt8) (cs : List Nat) : List Nat := cs.foldl (fun acc c => if acc.getLastD 0 < al l c then acc ++ [al l c] else acc) []
theorem ac_nil (l : List UInt8) : ac l [] = [] := rfl
theorem ac_snoc (l : List UInt8) (cs : List Nat) (c : Nat) : ac l (cs ++ [c]) = if (ac l cs).getLastD 0 < al l c then ac l cs ++ [al l c] else ac l cs := by
  unfold ac; rw [List.foldl_append]; rfl
theorem ac_len (l : List UInt8) (cs : List Nat) : (ac l cs).length ≤ cs.length := by
  induction cs using snoc_ind with
  | h0 => simp [ac_nil]
  | h1 cs c ih => rw [ac_snoc]; split <;> simp <;> omega
theorem sorted_init {cs : List Nat} {c : Nat} (h : (cs ++ [c]).Pairwise (· < ·)) : cs.Pairwise (· < ·) ∧ ∀ x ∈ cs, x < c := by
  rw [List.pairwise_append] at h
  exact ⟨h.1, fun x hx => h.2.2 x hx c (by simp)⟩
theorem ac_all (l : List UInt8) (hl : 0 < l.length) (cs : List Nat) (h : cs.Pairwise (· < ·)) :
    (ac l cs).Pairwise (· < ·) ∧ (∀ x, x ∈ ac l cs ↔ ∃ c, c ∈ cs ∧ al l c = x) ∧ ∀ x ∈ ac l cs, x ≤ (ac l cs).getLastD 0 := by
  induction cs using snoc_ind with
  | h0 => simp [ac_nil]
  | h1 cs c ih =>
    obtain ⟨h1, h2⟩ := sorted_init h
    obtain ⟨i1, i2, i3⟩ := ih h1
    have hm : ∀ x ∈ ac l cs, x ≤ al l c := fun x hx => by
      obtain ⟨c', hc', rfl⟩ := (i2 x).1 hx
      exact al_mono (Nat.le_of_lt (h2 c' hc'))
    rw [ac_snoc]
    by_cases hlt : (ac l cs).getLastD 0 < al l c
    · rw [if_pos hlt]
      refine ⟨?_, fun x => ?_, fun x hx => ?_⟩
      · rw [List.pairwise_append]
        refine ⟨i1, by simp, fun x hx y hy => ?_⟩
        simp at hy; subst hy
        have := i3 x hx; omega
      · rw [List.mem_append, i2]
        simp only [List.mem_append, List.mem_singleton]
        constructor
        · rintro (⟨c', h3, h4⟩ | rfl)
          · exact ⟨c', .inl h3, h4⟩
          · exact ⟨c, .inr rfl, rfl⟩
        · rintro ⟨c', h3 | rfl, h4⟩
          · exact .inl ⟨c', h3, h4⟩
          · exact .inr h4.symm
      · rw [List.getLastD_concat]
        rw [List.mem_append, List.mem_singleton] at hx
        rcases hx with hx | rfl
        · exact hm x hx
        · exact Nat.le_refl _
    · rw [if_neg hlt]
      refine ⟨i1, fun x => ?_, i3⟩
      rw [i2]
      have hpos := al_pos c hl
      have hne : ac l cs ≠ [] := by intro e; rw [e] at hlt; simp at hlt; omega
      have hlast := lastD_mem hne
      have heq : (ac l cs).getLastD 0 = al l c := by have := hm _ hlast; omega
      constructor
      · rintro ⟨c', h3, h4⟩; exact ⟨c', by simp [h3], h4⟩
      · rintro ⟨c', h3, h4⟩
        rw [List.mem_append, List.mem_singleton] at h3
        rcases h3 with h3 | rfl
        · exact ⟨c', h3, h4⟩
        · rw [heq] at hlast; rw [h4] at hlast; exact (i2 x).1 hlast
theorem ac_cutting {l : List UInt8} {cs : List Nat} (h : Cutting l.length cs) : Cutting l.length (ac l cs) := by
  rcases Nat.eq_zero_or_pos l.length with hz | hl
  · have : cs = [] := by
      rcases cs with _ | ⟨x, cs⟩
      · rfl
      · have h1 := h.pos x (by simp)
        have h2 := h.le x (by simp)
        omega
    subst this
    exact ⟨by simp [ac_nil], by simp [ac_nil], by simp [ac_nil], by simp [ac_nil]; omega⟩
  · obtain ⟨i1, i2, i3⟩ := ac_all l hl cs h.inc
    have hle : ∀ x ∈ ac l cs, x ≤ l.length := fun x hx => by obtain ⟨c, _, rfl⟩ := (i2 x).1 hx; exact al_le l c
    refine ⟨i1, fun x hx => ?_, hle, ?_⟩
    · obtain ⟨c, _, rfl⟩ := (i2 x).1 hx; exact al_pos c hl
    · have hne : cs ≠ [] := by rintro rfl; have := h.last; simp at this; omega
      have hN : l.length ∈ cs := by
        have := lastD_mem hne
        rwa [h.last] at this
      have hm : l.length ∈ ac l cs := (i2 _).2 ⟨l.length, hN, al_gt (Nat.le_refl _)⟩
      have h3 := i3 _ hm
      have hne2 : ac l cs ≠ [] := List.ne_nil_of_mem hm
      have hlast := lastD_mem hne2
      have := hle _ hlast
      omega
theorem mem_ac {l : List UInt8} {cs : List Nat} (h : Cutting l.length cs) {x : Nat} : x ∈ ac l cs ↔ ∃ c, c ∈ cs ∧ al l c = x := by
  rcases Nat.eq_zero_or_pos l.length with hz | hl
  · have : cs = [] := by
      rcases cs with _ | ⟨x, cs⟩
      · rfl
      · have h1 := h.pos x (by simp)
        have h2 := h.le x (by simp)
        omega
    subst this
    simp [ac_nil]
  · exact (ac_all l hl cs h.inc).2.1 x
end Go.Proofs.YtpkbhihkhnkhnaaDoor
