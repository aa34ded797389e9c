/- EditMargins: the plain part: the document's margin is the program's, and what is fresh lies in it. -/
import Derived.Test.YtpkbhihkhnkhnaaDoorStay
import Derived.Test.YtpkbhihkhnkhnaaDoorFreshr
namespace Go.Proofs.YtpkbhihkhnkhnaaDoor
open Go.RowKit
theorem txt_eq {s t : ByteArray} {ca cb : List Nat} (ha : Cutting s.size ca) (hb : Cutting t.size cb) {i k : Nat} (hi : i < ca.length) (hk : k < cb.length) (h : (txts s ca)[i]? = (txts t cb)[k]?) :
    s.extract (P ca i) (P ca (i + 1)) = t.extract (P cb k) (P cb (k + 1)) ∧ P ca (i + 1) - P ca i = P cb (k + 1) - P cb k := by
  rw [txts_get _ _ _ hi, txts_get _ _ _ hk] at h
  have e := Option.some.inj h
  refine ⟨e, ?_⟩
  rw [← ha.txt_size hi, ← hb.txt_size hk, e]
theorem mg_first {s t : ByteArray} {ca cb : List Nat} (ha : Cutting s.size ca) (hb : Cutting t.size cb) : ∀ i, i ≤ cp (txts s ca) (txts t cb) → P ca i = P cb i
  | 0, _ => rfl
  | i + 1, h => by
    have e := mg_first ha hb i (by omega)
    have hl := cp_le (txts s ca) (txts t cb)
    rw [txts_len, txts_len] at hl
    have q := (txt_eq ha hb (i := i) (k := i) (by omega) (by omega) (cp_lt (by omega))).2
    have m1 := ha.mono (i := i) (by omega)
    have m2 := hb.mono (i := i) (by omega)
    omega
theorem mg_last {s t : ByteArray} {ca cb : List Nat} (ha : Cutting s.size ca) (hb : Cutting t.size cb) {n : Nat} (hn : n ≤ ca.length) (hn' : n ≤ cb.length) : ∀ j, j ≤ cp ((txts s ca).drop n).reverse ((txts t cb).drop n).reverse → s.size - P ca (ca.length - j) = t.size - P cb (cb.length - j)
  | 0, _ => by rw [Nat.sub_zero, Nat.sub_zero, ha.P_end, hb.P_end]; omega
  | j + 1, h => by
    have e := mg_last ha hb hn hn' j (by omega)
    have hl := cp_le ((txts s ca).drop n).reverse ((txts t cb).drop n).reverse
    simp only [List.length_reverse, List.length_drop, txts_len] at hl
    have q := (behind_at (A := txts s ca) (B := txts t cb) (n := n) (k := cb.length - (j + 1)) (by rw [txts_len]; exact hn) (by rw [txts_len]; exact hn') (by rw [txts_len]; omega) (by rw [txts_len]; omega)).2
    rw [txts_len, txts_len, show ca.length - (cb.length - (cb.length - (j + 1))) = ca.length - (j + 1) by omega] at q
    have q := (txt_eq ha hb (by omega) (by omega) q).2
    have m1 := ha.mono (i := ca.length - (j + 1)) (by omega)
    have m2 := hb.mono (i := cb.length - (j + 1)) (by omega)
    have m3 := ha.le_N (i := ca.length - (j + 1) + 1) (by omega)
    have m4 := hb.le_N (i := cb.length - (j + 1) + 1) (by omega)
    rw [show ca.length - (j + 1) + 1 = ca.length - j by omega] at q m1 m3
    rw [show cb.length - (j + 1) + 1 = cb.length - j by omega] at q m2 m4
    omega
/-- what the document's margin asks at a place ahead of, and at, the first one -/
theorem mg_fwd {s t : ByteArray} {ca cb : List Nat} (ha : Cutting s.size ca) (hb : Cutting t.size cb) {n : Nat} (hn : n = cp (txts s ca) (txts t cb)) {k : Nat} (hk : k < n) :
    P ca k = P cb k ∧ P ca (k + 1) = P cb (k + 1) ∧ s.extract (P ca k) (P ca (k + 1)) = t.extract (P cb k) (P cb (k + 1)) := by
  subst hn
  have hl := cp_le (txts s ca) (txts t cb)
  rw [txts_len, txts_len] at hl
  exact ⟨mg_first ha hb k (by omega), mg_first ha hb (k + 1) (by omega), (txt_eq ha hb (by omega) (by omega) (cp_lt hk)).1⟩
theorem mg_stop {s t : ByteArray} {ca cb : List Nat} {n : Nat} (hn : n = cp (txts s ca) (txts t cb)) (h1 : n < ca.length) (h2 : n < cb.length) :
    ¬ s.extract (P ca n) (P ca (n + 1)) = t.extract (P cb n) (P cb (n + 1)) := fun e => by
  have := cp_at (a := txts s ca) (b := txts t cb) (by rw [← hn, txts_len]; exact h1) (by rw [← hn, txts_len]; exact h2)
  rw [← hn, txts_get _ _ _ h1, txts_get _ _ _ h2, e] at this
  exact this rfl
theorem mg_back {s t : ByteArray} {ca cb : List Nat} (ha : Cutting s.size ca) (hb : Cutting t.size cb) {n e : Nat} (hn : n ≤ ca.length) (hn' : n ≤ cb.length) (he : e = cp ((txts s ca).drop n).reverse ((txts t cb).drop n).reverse) {j : Nat} (hj : j < e) :
    s.size - P ca (ca.length - (j + 1)) = t.size - P cb (cb.length - (j + 1)) ∧ P ca (ca.length - (j + 1) + 1) - P ca (ca.length - (j + 1)) = P cb (cb.length - (j + 1) + 1) - P cb (cb.length - (j + 1)) ∧
      s.extract (P ca (ca.length - (j + 1))) (P ca (ca.length - (j + 1) + 1)) = t.extract (P cb (cb.length - (j + 1))) (P cb (cb.length - (j + 1) + 1)) := by
  subst he
  have hl := cp_le ((txts s ca).drop n).reverse ((txts t cb).drop n).reverse
  simp only [List.length_reverse, List.length_drop, txts_len] at hl
  have q := (behind_at (A := txts s ca) (B := txts t cb) (n := n) (k := cb.length - (j + 1)) (by rw [txts_len]; exact hn) (by rw [txts_len]; exact hn') (by rw [txts_len]; omega) (by rw [txts_len]; omega)).2
  rw [txts_len, txts_len, show ca.length - (cb.length - (cb.length - (j + 1))) = ca.length - (j + 1) by omega] at q
  have g := txt_eq ha hb (by omega) (by omega) q
  exact ⟨mg_last ha hb hn hn' (j + 1) (by omega), g.2, g.1⟩
theorem mg_halt {s t : ByteArray} {ca cb : List Nat} {n e : Nat} (hn : n ≤ ca.length) (hn' : n ≤ cb.length) (he : e = cp ((txts s ca).drop n).reverse ((txts t cb).drop n).reverse) (h1 : n + e < ca.length) (h2 : n + e < cb.length) :
    ¬ s.extract (P ca (ca.length - (e + 1))) (P ca (ca.length - (e + 1) + 1)) = t.extract (P cb (cb.length - (e + 1))) (P cb (cb.length - (e + 1) + 1)) := fun q => by
  have := cp_at (a := ((txts s ca).drop n).reverse) (b := ((txts t cb).drop n).reverse) (by rw [← he]; simp only [List.length_reverse, List.length_drop, txts_len]; omega) (by rw [← he]; simp only [List.length_reverse, List.length_drop, txts_len]; omega)
  rw [← he, List.getElem?_reverse (by simp only [List.length_drop, txts_len]; omega), List.getElem?_reverse (by simp only [List.length_drop, txts_len]; omega), List.getElem?_drop, List.getElem?_drop, List.length_drop, List.length_drop, txts_len, txts_len,
    show n + (ca.length - n - 1 - e) = ca.length - (e + 1) by omega, show n + (cb.length - n - 1 - e) = cb.length - (e + 1) by omega, txts_get _ _ _ (by omega), txts_get _ _ _ (by omega), q] at this
  exact this rfl
theorem isin_of {A : List ByteArray} {i : Nat} {x : ByteArray} (h : A[i]? = some x) : isin x A = true :=
  List.any_eq_true.2 ⟨x, List.mem_of_getElem? h, by simp⟩
theorem frs_in {A B : List ByteArray} {n e : Nat} (hn : n = cp A B) (he : e = cp (A.drop n).reverse (B.drop n).reverse) {i : Nat} (hi : i ∈ frs A B B.length) : n ≤ i ∧ i < B.length - e := by
  obtain ⟨h1, h2⟩ := List.mem_filter.1 hi
  have h1 := List.mem_range.1 h1
  have hB : B[i]? = some (B.getD i ⟨#[]⟩) := by rw [List.getD_eq_getElem?_getD, List.getElem?_eq_getElem h1]; rfl
  have hl := cp_le A B
  constructor
  · rcases Nat.lt_or_ge i n with g | g
    · exfalso
      rw [isin_of ((cp_lt (by rw [← hn]; exact g)).trans hB)] at h2
      cases h2
    · exact g
  · rcases Nat.lt_or_ge i (B.length - e) with g | g
    · exact g
    · exfalso
      have q := (behind_at (A := A) (B := B) (n := n) (k := i) (by rw [hn]; exact hl.1) (by rw [hn]; exact hl.2) h1 (by rw [← he]; exact g)).2
      rw [isin_of (q.trans hB)] at h2
      cases h2
end Go.Proofs.YtpkbhihkhnkhnaaDoor
