/- EditStays, EditMargins: the plain part: which pieces of two texts that begin alike are the same, and what a margin leaves outside. -/
import Derived.Test.YtpkbhihkhnkhnaaDoorLmt
import Derived.Test.YtpkbhihkhnkhnaaDoorLtile
import Derived.Test.YtpkbhihkhnkhnaaDoorOf
namespace Go.Proofs.YtpkbhihkhnkhnaaDoor
/-- where two texts begin alike, an aligned cut of the one within that is one of the other -/
theorem stay_half (c : CutN) (s t : ByteArray) (a b b' : List UInt8) (hs : s.data.toList = a ++ b) (ht : t.data.toList = a ++ b') {y : Nat} (hy : y ∈ acsOf c s) (h1 : y ≤ a.length) (h2 : y < s.size) : y ∈ acsOf c t := by
  have cu1 := cutsOf_cutting c s
  have cu2 := cutsOf_cutting c t
  have lt' : t.size = a.length + b'.length := by rw [ba_size, ht, List.length_append]
  have ls' : s.size = a.length + b.length := by rw [ba_size, hs, List.length_append]
  have cu1' := cu1
  have cu2' := cu2
  rw [ba_size] at cu1' cu2'
  unfold acsOf at hy ⊢
  rw [mem_ac cu1'] at hy
  rw [mem_ac cu2']
  obtain ⟨k, hk, hak⟩ := hy
  have hk1 := cu1.le _ hk
  have hk0 := cu1.pos _ hk
  have hky : k ≤ y := by have := al_ge (l := s.data.toList) (k := k) (by rw [← ba_size]; exact hk1); omega
  have hsp : 0 < s.data.toList.length := by rw [← ba_size]; omega
  have hE := al_isE (l := s.data.toList) k hsp
  rw [hak] at hE
  have byte : ∀ j, j < a.length → s.data.toList[j]? = t.data.toList[j]? := fun j hj => by
    rw [hs, ht, List.getElem?_append_left hj, List.getElem?_append_left hj]
  have hyn : s.data.toList[y - 1]? = some 10 := by
    rcases (isE_iff.1 hE).2 with e | e
    · rw [← ba_size] at e; omega
    · exact e
  have hyp : 0 < y := (isE_iff.1 hE).1
  have hE2 : isE t.data.toList y = true := isE_iff.2 ⟨hyp, .inr (by rw [← byte _ (by omega)]; exact hyn)⟩
  by_cases hkt : k < t.size
  · refine ⟨k, ?_, ?_⟩
    · unfold cutsOf at hk ⊢
      rw [mem_cl] at hk ⊢
      refine ⟨by omega, ?_⟩
      rw [← begins_isC (L := a.length) (m1 := mark c.p c.n c.bi s) (N1 := s.size) (fun j hj => mark_begin c.p c.n c.bi a b b' j s t hs ht hj) k (by omega) hkt (by omega)]
      exact hk.2
    · refine al_eq hky hE2 (fun j hj hjy => ?_)
      rw [Bool.eq_false_iff]
      intro hj2
      obtain ⟨g1, g2⟩ := isE_iff.1 hj2
      rcases g2 with g2 | g2
      · rw [← ba_size] at g2; omega
      · have : isE s.data.toList j = true := isE_iff.2 ⟨g1, .inr (by rw [byte _ (by omega)]; exact g2)⟩
        have h := al_min hj this
        omega
  · have : k = t.size := by omega
    subst this
    have hyt : y = t.size := by omega
    refine ⟨t.size, ?_, by rw [al_gt (by rw [← ba_size]; exact Nat.le_refl _), ← ba_size, hyt]⟩
    unfold cutsOf; rw [mem_cl]
    have hl := cl_cutting (N := t.size) (mi := c.mi) (ma := c.ma) (m := mark c.p c.n c.bi t)
    refine ⟨Nat.le_refl _, ?_⟩
    have h1 : (cl t.size c.mi c.ma (mark c.p c.n c.bi t) t.size).getLastD 0 ∈ cl t.size c.mi c.ma (mark c.p c.n c.bi t) t.size := lastD_mem (fun e => by
      have := hl.last; rw [e] at this; simp at this; omega)
    rw [hl.last, mem_cl] at h1
    exact h1.2
theorem cp_ge {α : Type} [DecidableEq α] {a b : List α} {k : Nat} (h1 : k < a.length) (h2 : k < b.length) (h : ∀ i, i ≤ k → a[i]? = b[i]?) : k < cp a b := by
  rcases Nat.lt_or_ge k (cp a b) with g | g
  · exact g
  · exact absurd (h _ g) (cp_at (by omega) (by omega))
/-- the pieces of the text ahead that end at or ahead of the edit, but the last one, are the first ones of the text behind it -/
theorem stays_at (c : CutN) (s t : ByteArray) (a b b' : List UInt8) (hs : s.data.toList = a ++ b) (ht : t.data.toList = a ++ b') {k : Nat} (hk : k + 1 < (acsOf c s).length) (h : P (acsOf c s) (k + 1) ≤ a.length) :
    k < (acsOf c t).length ∧ k < cp (txts s (acsOf c s)) (txts t (acsOf c t)) := by
  have c1 := acsOf_cutting c s
  have c2 := acsOf_cutting c t
  have lt' : t.size = a.length + b'.length := by rw [ba_size, ht, List.length_append]
  have hxs : P (acsOf c s) (k + 1) < s.size := by
    have := c1.mono hk
    have := c1.le_N (i := k + 1 + 1) (by omega); omega
  have hx : P (acsOf c s) (k + 1) ∈ acsOf c s := mem_P (by omega)
  have key : ∀ z, z < P (acsOf c s) (k + 1) + 1 → (z ∈ acsOf c s ↔ z ∈ acsOf c t) := fun z hz => by
    constructor
    · intro g; exact stay_half c s t a b b' hs ht g (by omega) (by omega)
    · intro g
      rcases Nat.eq_or_lt_of_le (show z ≤ P (acsOf c s) (k + 1) by omega) with e | e
      · rw [e]; exact hx
      · exact stay_half c t s a b' b ht hs g (by omega) (by omega)
  have hf := same_below c1.inc c2.inc key
  have each : ∀ i, i ≤ k → ∃ h : i < (acsOf c t).length, P (acsOf c t) (i + 1) = P (acsOf c s) (i + 1) := fun i hi => by
    have hi1 : i < (acsOf c s).length := by omega
    have e1 : (acsOf c s)[i] = P (acsOf c s) (i + 1) := by rw [P_succ]; simp [hi1]
    have hle : P (acsOf c s) (i + 1) ≤ P (acsOf c s) (k + 1) := c1.P_le (by omega) (by omega)
    have g1 := take_filter c1.inc (L := P (acsOf c s) (k + 1) + 1) hi1 (by rw [e1]; omega)
    rw [hf] at g1
    have g2 := (filter_get c2.inc g1).1
    obtain ⟨q1, q2⟩ := List.getElem?_eq_some_iff.1 g2
    exact ⟨q1, by rw [P_succ, List.getD_eq_getElem?_getD, g2, ← e1]; rfl⟩
  have eachP : ∀ i, i ≤ k + 1 → P (acsOf c t) i = P (acsOf c s) i := fun i hi => by
    cases i with
    | zero => rfl
    | succ i => exact (each i (by omega)).2
  obtain ⟨hkt, -⟩ := each k (Nat.le_refl _)
  refine ⟨hkt, cp_ge (by rw [txts_len]; omega) (by rw [txts_len]; exact hkt) (fun i hi => ?_)⟩
  rw [txts_get _ _ _ (by omega), txts_get _ _ _ (by omega), eachP i (by omega), eachP (i + 1) (by omega)]
  congr 1
  apply ba_ext
  have hle : P (acsOf c s) (i + 1) ≤ P (acsOf c s) (k + 1) := c1.P_le (by omega) (by omega)
  rw [ba_extract, ba_extract, hs, ht, List.take_append_of_le_length (by omega), List.take_append_of_le_length (by omega)]
/-- the text behind an edit begins as the one ahead -/
theorem edit_begin {s put t : ByteArray} {a k : Int} (h : EMay s a k) (ht : t = s.extract 0 a.toNat ++ put ++ s.extract (a.toNat + k.toNat) s.size) :
    ∃ p b b' : List UInt8, s.data.toList = p ++ b ∧ t.data.toList = p ++ b' ∧ (p.length : Int) = a := by
  obtain ⟨h1, h2, h3, h4⟩ := h
  refine ⟨s.data.toList.take a.toNat, s.data.toList.drop a.toNat, put.data.toList ++ (s.extract (a.toNat + k.toNat) s.size).data.toList, (List.take_append_drop _ _).symm, ?_, ?_⟩
  · rw [ht, ba_append, ba_append, ba_extract, List.drop_zero, List.append_assoc]
  · rw [List.length_take, ← ba_size]; omega
/-- a piece behind the margin is one of the text ahead, told from the end -/
theorem behind_at {α : Type} [DecidableEq α] {A B : List α} {n k : Nat} (hn : n ≤ A.length) (hn' : n ≤ B.length) (hk : k < B.length) (h : B.length - cp (A.drop n).reverse (B.drop n).reverse ≤ k) :
    B.length - k ≤ A.length ∧ A[A.length - (B.length - k)]? = B[k]? := by
  have hl := cp_le (A.drop n).reverse (B.drop n).reverse
  simp only [List.length_reverse, List.length_drop] at hl
  have g : B.length - 1 - k < cp (A.drop n).reverse (B.drop n).reverse := by omega
  have q := cp_lt g
  rw [List.getElem?_reverse (by simp; omega), List.getElem?_reverse (by simp; omega), List.getElem?_drop, List.getElem?_drop, List.length_drop, List.length_drop] at q
  refine ⟨by omega, ?_⟩
  rw [show n + (A.length - n - 1 - (B.length - 1 - k)) = A.length - (B.length - k) by omega, show n + (B.length - n - 1 - (B.length - 1 - k)) = k by omega] at q
  exact q
end Go.Proofs.YtpkbhihkhnkhnaaDoor
