/- Two texts that end alike, or begin alike, and their cuts: plain facts. -/
import Derived.Test.YtpkbhihkhnkhnaaDoorCuts
namespace Go.Proofs.YtpkbhihkhnkhnaaDoor
section
variable {A B E mi ma : Nat} {m1 m2 : Nat → Bool}
theorem cutQ_shift {x d y : Nat} (hm : ∀ k, mi ≤ k → k ≤ E → m1 (A + k) = m2 (B + k)) (hy : y ≤ x + d) (hE : x + d ≤ E) :
    cutQ (A + E) mi ma m1 (A + y) (A + (x + d)) = cutQ (B + E) mi ma m2 (B + y) (B + (x + d)) := by
  unfold cutQ
  have e1 : A + (x + d) - (A + y) = x + d - y := by omega
  have e2 : B + (x + d) - (B + y) = x + d - y := by omega
  have e3 : decide (A + (x + d) = A + E) = decide (B + (x + d) = B + E) := by congr 1; apply propext; omega
  rw [e1, e2, e3]
  by_cases h : mi ≤ x + d - y
  · rw [hm (x + d) (by omega) hE]
  · simp [h]
theorem meets_lc {x : Nat} (hm : ∀ k, mi ≤ k → k ≤ E → m1 (A + k) = m2 (B + k)) (h1 : lc (A + E) mi ma m1 (A + x) = A + x) (h2 : lc (B + E) mi ma m2 (B + x) = B + x) (d : Nat) (hd : x + d ≤ E) :
    ∃ y, x ≤ y ∧ y ≤ x + d ∧ lc (A + E) mi ma m1 (A + (x + d)) = A + y ∧ lc (B + E) mi ma m2 (B + (x + d)) = B + y := by
  induction d with
  | zero => exact ⟨x, Nat.le_refl _, Nat.le_refl _, h1, h2⟩
  | succ d ih =>
    obtain ⟨y, y1, y2, y3, y4⟩ := ih (by omega)
    have e := cutQ_shift (A := A) (B := B) (E := E) (ma := ma) (x := x) (d := d + 1) (y := y) hm (by omega) (by omega)
    have q1 : isC (A + E) mi ma m1 (A + (x + d) + 1) = cutQ (A + E) mi ma m1 (A + y) (A + (x + (d + 1))) := by rw [isC_succ, y3]; congr 1
    have q2 : isC (B + E) mi ma m2 (B + (x + d) + 1) = cutQ (B + E) mi ma m2 (B + y) (B + (x + (d + 1))) := by rw [isC_succ, y4]; congr 1
    rcases h : cutQ (A + E) mi ma m1 (A + y) (A + (x + (d + 1))) with _ | _
    · rw [h] at q1; rw [← e, h] at q2
      refine ⟨y, y1, by omega, ?_, ?_⟩
      · rw [← y3]; exact lc_no q1
      · rw [← y4]; exact lc_no q2
    · rw [h] at q1; rw [← e, h] at q2
      exact ⟨x + (d + 1), by omega, Nat.le_refl _, lc_yes q1, lc_yes q2⟩
theorem meets_isC {x : Nat} (hm : ∀ k, mi ≤ k → k ≤ E → m1 (A + k) = m2 (B + k)) (h1 : lc (A + E) mi ma m1 (A + x) = A + x) (h2 : lc (B + E) mi ma m2 (B + x) = B + x) {k : Nat} (hk : x < k) (hE : k ≤ E) :
    isC (A + E) mi ma m1 (A + k) = isC (B + E) mi ma m2 (B + k) := by
  obtain ⟨d, rfl⟩ := Nat.exists_eq_add_of_le hk
  obtain ⟨y, y1, y2, y3, y4⟩ := meets_lc (ma := ma) hm h1 h2 d (by omega)
  have e := cutQ_shift (A := A) (B := B) (E := E) (ma := ma) (x := x) (d := d + 1) (y := y) hm (by omega) (by omega)
  have q1 : isC (A + E) mi ma m1 (A + (x + d) + 1) = cutQ (A + E) mi ma m1 (A + y) (A + (x + (d + 1))) := by rw [isC_succ, y3]; congr 1
  have q2 : isC (B + E) mi ma m2 (B + (x + d) + 1) = cutQ (B + E) mi ma m2 (B + y) (B + (x + (d + 1))) := by rw [isC_succ, y4]; congr 1
  rw [show A + (x + 1 + d) = A + (x + d) + 1 by omega, show B + (x + 1 + d) = B + (x + d) + 1 by omega, q1, q2, e]
end
theorem lc_of_isC {N mi ma : Nat} {m : Nat → Bool} {k : Nat} (h : isC N mi ma m k = true) : lc N mi ma m k = k := by
  cases k with
  | zero => rfl
  | succ k => exact lc_yes h
/-- a sorted row, from behind one of its own on, is those that are greater -/
theorem drop_filter {l : List Nat} (h : l.Pairwise (· < ·)) {i : Nat} (hi : i < l.length) : l.drop (i + 1) = l.filter (fun y => decide (l[i] < y)) := by
  have e : l = l.take (i + 1) ++ l.drop (i + 1) := (List.take_append_drop _ _).symm
  have h' := List.pairwise_iff_getElem.1 h
  have e1 : (l.take (i + 1)).filter (fun y => decide (l[i] < y)) = [] := by
    rw [List.filter_eq_nil_iff]
    intro y hy
    obtain ⟨j, hj, rfl⟩ := List.getElem_of_mem hy
    rw [List.getElem_take]
    simp at hj ⊢
    rcases Nat.lt_or_ge j i with hlt | hge
    · exact Nat.le_of_lt (h' j i (by omega) hi hlt)
    · obtain rfl : j = i := by omega
      exact Nat.le_refl _
  have e2 : (l.drop (i + 1)).filter (fun y => decide (l[i] < y)) = l.drop (i + 1) := by
    rw [List.filter_eq_self]
    intro y hy
    obtain ⟨j, hj, rfl⟩ := List.getElem_of_mem hy
    rw [List.getElem_drop]
    simp at hj ⊢
    exact h' i (i + 1 + j) hi (by omega) (by omega)
  calc l.drop (i + 1) = (l.take (i + 1)).filter (fun y => decide (l[i] < y)) ++ (l.drop (i + 1)).filter (fun y => decide (l[i] < y)) := by rw [e1, e2]; rfl
    _ = l.filter (fun y => decide (l[i] < y)) := by rw [← List.filter_append, ← e]
/-- what is in a filtered stretch of numbers, moved -/
theorem filter_shift (A N : Nat) (p : Nat → Bool) (q : Nat → Bool) (hp : ∀ k, k < A → p k = false) (h : ∀ k, k < N → p (A + k) = q k) :
    (List.range (A + N)).filter p = ((List.range N).filter q).map (A + ·) := by
  rw [List.range_add, List.filter_append]
  have e1 : (List.range A).filter p = [] := by
    rw [List.filter_eq_nil_iff]; intro y hy; rw [hp y (List.mem_range.1 hy)]; simp
  rw [e1, List.nil_append, List.filter_map]
  congr 1
  apply List.filter_congr
  intro y hy
  exact h y (List.mem_range.1 hy)
theorem meets_rows {A B E mi ma : Nat} {m1 m2 : Nat → Bool} {x : Nat} (hm : ∀ k, mi ≤ k → k ≤ E → m1 (A + k) = m2 (B + k)) (h1 : isC (A + E) mi ma m1 (A + x) = true) (h2 : isC (B + E) mi ma m2 (B + x) = true) :
    ∃ q : List Nat, (cl (A + E) mi ma m1 (A + E)).filter (fun y => decide (A + x < y)) = q.map (A + ·) ∧ (cl (B + E) mi ma m2 (B + E)).filter (fun y => decide (B + x < y)) = q.map (B + ·) := by
  have key := fun k hk hE => meets_isC (E := E) (ma := ma) hm (lc_of_isC h1) (lc_of_isC h2) (k := k) hk hE
  refine ⟨(List.range (E + 1)).filter (fun k => isC (A + E) mi ma m1 (A + k) && decide (x < k)), ?_, ?_⟩
  · unfold cl
    rw [List.filter_filter, Nat.add_assoc]
    apply filter_shift
    · intro k hk; simp; intro h; omega
    · intro k _; rw [Bool.and_comm]; congr 1; simp
  · unfold cl
    rw [List.filter_filter, Nat.add_assoc]
    apply filter_shift
    · intro k hk; simp; intro h; omega
    · intro k hE
      by_cases hk : x < k
      · rw [key k hk (by omega), Bool.and_comm]; congr 1; simp
      · simp [hk]
/-- where both rows hold one place of what is alike, all behind is the same -/
theorem meets_at {A B E mi ma : Nat} {m1 m2 : Nat → Bool} (hm : ∀ k, mi ≤ k → k ≤ E → m1 (A + k) = m2 (B + k)) {a b : List Nat} (ha : a = cl (A + E) mi ma m1 (A + E)) (hb : b = cl (B + E) mi ma m2 (B + E))
    {i k : Nat} (hi : i < a.length) (hk : k < b.length) {x : Nat} (h1 : a[i] = A + x) (h2 : b[k] = B + x) : ∃ q : List Nat, a.drop (i + 1) = q.map (A + ·) ∧ b.drop (k + 1) = q.map (B + ·) := by
  have g1 : isC (A + E) mi ma m1 (A + x) = true := by have := List.getElem_mem hi; rw [h1, ha, mem_cl] at this; exact this.2
  have g2 : isC (B + E) mi ma m2 (B + x) = true := by have := List.getElem_mem hk; rw [h2, hb, mem_cl] at this; exact this.2
  obtain ⟨q, q1, q2⟩ := meets_rows hm g1 g2
  refine ⟨q, ?_, ?_⟩
  · rw [drop_filter (by rw [ha]; exact cl_sorted _) hi, h1, ha]; exact q1
  · rw [drop_filter (by rw [hb]; exact cl_sorted _) hk, h2, hb]; exact q2
section
variable {N1 N2 L mi ma : Nat} {m1 m2 : Nat → Bool}
theorem begins_lc (hm : ∀ k, k ≤ L → m1 k = m2 k) (k : Nat) (hk : k < N1) (hk2 : k < N2) (hL : k ≤ L) : lc N1 mi ma m1 k = lc N2 mi ma m2 k := by
  induction k with
  | zero => rfl
  | succ k ih =>
    have e := ih (by omega) (by omega) (by omega)
    have : cutQ N1 mi ma m1 (lc N1 mi ma m1 k) (k + 1) = cutQ N2 mi ma m2 (lc N2 mi ma m2 k) (k + 1) := by
      unfold cutQ; rw [e, hm (k + 1) hL]
      have : decide (k + 1 = N1) = decide (k + 1 = N2) := by congr 1; apply propext; omega
      rw [this]
    rw [lc, lc, this, e]
theorem begins_isC (hm : ∀ k, k ≤ L → m1 k = m2 k) (k : Nat) (hk : k < N1) (hk2 : k < N2) (hL : k ≤ L) : isC N1 mi ma m1 k = isC N2 mi ma m2 k := by
  unfold isC
  rw [begins_lc (N2 := N2) (m2 := m2) hm (k - 1) (by omega) (by omega) (by omega)]
  congr 1
  unfold cutQ; rw [hm k hL]
  have : decide (k = N1) = decide (k = N2) := by congr 1; apply propext; omega
  rw [this]
end
theorem lt_of_sorted {l : List Nat} (h : l.Pairwise (· < ·)) {i j : Nat} (hi : i < l.length) (hj : j < l.length) : l[i] < l[j] ↔ i < j := by
  have h' := List.pairwise_iff_getElem.1 h
  constructor
  · intro hl
    rcases Nat.lt_trichotomy i j with g | g | g
    · exact g
    · subst g; omega
    · have := h' j i hj hi g; omega
  · intro g; exact h' i j hi hj g
/-- sorted rows that hold the same below L: the i-th of both -/
theorem same_below {a b : List Nat} {L : Nat} (ha : a.Pairwise (· < ·)) (hb : b.Pairwise (· < ·)) (h : ∀ x, x < L → (x ∈ a ↔ x ∈ b)) : a.filter (fun y => decide (y < L)) = b.filter (fun y => decide (y < L)) := by
  have pa : (a.filter (fun y => decide (y < L))).Pairwise (· < ·) := ha.filter _
  have pb : (b.filter (fun y => decide (y < L))).Pairwise (· < ·) := hb.filter _
  apply List.Perm.eq_of_pairwise (le := fun x y => x < y) (fun x y _ _ h1 h2 => by omega) pa pb
  rw [List.perm_ext_iff_of_nodup (pa.imp (fun h => Nat.ne_of_lt h)) (pb.imp (fun h => Nat.ne_of_lt h))]
  intro x
  simp only [List.mem_filter, decide_eq_true_eq]
  constructor
  · rintro ⟨h1, h2⟩; exact ⟨(h x h2).1 h1, h2⟩
  · rintro ⟨h1, h2⟩; exact ⟨(h x h2).2 h1, h2⟩
theorem take_filter {l : List Nat} (h : l.Pairwise (· < ·)) {L : Nat} {i : Nat} (hi : i < l.length) (hl : l[i] < L) : (l.filter (fun y => decide (y < L)))[i]? = some l[i] := by
  have e : l = l.take (i + 1) ++ l.drop (i + 1) := (List.take_append_drop _ _).symm
  have h' := List.pairwise_iff_getElem.1 h
  have e1 : (l.take (i + 1)).filter (fun y => decide (y < L)) = l.take (i + 1) := by
    rw [List.filter_eq_self]
    intro y hy
    obtain ⟨j, hj, rfl⟩ := List.getElem_of_mem hy
    rw [List.getElem_take]
    simp at hj ⊢
    rcases Nat.lt_or_ge j i with hlt | hge
    · exact Nat.lt_trans (h' j i (by omega) hi hlt) hl
    · obtain rfl : j = i := by omega
      exact hl
  have e2 : l.filter (fun y => decide (y < L)) = l.take (i + 1) ++ (l.drop (i + 1)).filter (fun y => decide (y < L)) := by
    conv => lhs; rw [e]
    rw [List.filter_append, e1]
  rw [e2, List.getElem?_append_left (by simp; omega)]
  simp [hi]
theorem filter_get {l : List Nat} (h : l.Pairwise (· < ·)) {L : Nat} {i x : Nat} (hx : (l.filter (fun y => decide (y < L)))[i]? = some x) : l[i]? = some x ∧ x < L := by
  obtain ⟨hi, hx'⟩ := List.getElem?_eq_some_iff.1 hx
  have hm := List.getElem_mem hi
  rw [hx', List.mem_filter] at hm
  obtain ⟨j, hj, hjx⟩ := List.getElem_of_mem hm.1
  have hlt : x < L := by simpa using hm.2
  have := take_filter h hj (by rw [hjx]; exact hlt)
  rw [hjx] at this
  have pa : (l.filter (fun y => decide (y < L))).Pairwise (· < ·) := h.filter _
  obtain ⟨hj', hjx'⟩ := List.getElem?_eq_some_iff.1 this
  have hij : i = j := by
    rcases Nat.lt_trichotomy i j with g | g | g
    · have := (lt_of_sorted pa hi hj').2 g; omega
    · exact g
    · have := (lt_of_sorted pa hj' hi).2 g; omega
  subst hij
  exact ⟨by rw [List.getElem?_eq_getElem hj, hjx], hlt⟩
/-- what ChunkBegins asks at an index -/
theorem begins_at {N1 N2 L mi ma : Nat} {m1 m2 : Nat → Bool} (hm : ∀ k, k ≤ L → m1 k = m2 k) (l1 : L ≤ N1) (l2 : L ≤ N2) {a b : List Nat} (ha : a = cl N1 mi ma m1 N1) (hb : b = cl N2 mi ma m2 N2) {i : Nat} (hi : i < a.length) (hk : i < b.length) :
    (a[i] ≤ L ∧ b[i] ≤ L ∧ a[i] = b[i]) ∨ ((L < a[i] ∨ L < b[i]) ∧ (L < a[i] ∨ N1 = L ∧ i = a.length - 1) ∧ (L < b[i] ∨ N2 = L ∧ i = b.length - 1)) := by
  have sa : a.Pairwise (· < ·) := by rw [ha]; exact cl_sorted _
  have sb : b.Pairwise (· < ·) := by rw [hb]; exact cl_sorted _
  have same := same_below (L := L) sa sb (fun x hx => by
    rw [ha, hb, mem_cl, mem_cl, begins_isC (N2 := N2) (m2 := m2) hm x (by omega) (by omega) (by omega)]
    constructor <;> (rintro ⟨_, h⟩; exact ⟨by omega, h⟩))
  have mem1 : ∀ x ∈ a, x ≤ N1 := fun x hx => by rw [ha, mem_cl] at hx; exact hx.1
  have mem2 : ∀ x ∈ b, x ≤ N2 := fun x hx => by rw [hb, mem_cl] at hx; exact hx.1
  have last1 : a[i] = N1 → i = a.length - 1 := fun h => by
    rcases Nat.lt_or_ge i (a.length - 1) with g | g
    · have h1 := (lt_of_sorted sa hi (show a.length - 1 < a.length by omega)).2 g
      have h2 := mem1 _ (List.getElem_mem (show a.length - 1 < a.length by omega))
      omega
    · omega
  have last2 : b[i] = N2 → i = b.length - 1 := fun h => by
    rcases Nat.lt_or_ge i (b.length - 1) with g | g
    · have h1 := (lt_of_sorted sb hk (show b.length - 1 < b.length by omega)).2 g
      have h2 := mem2 _ (List.getElem_mem (show b.length - 1 < b.length by omega))
      omega
    · omega
  have lt1 : a[i] < L → a[i] = b[i] := fun h => by
    have h1 := take_filter sa hi h
    rw [same] at h1
    have h2 := filter_get sb h1
    rw [List.getElem?_eq_getElem hk] at h2
    exact (Option.some.inj h2.1).symm
  have lt2 : b[i] < L → a[i] = b[i] := fun h => by
    have h1 := take_filter sb hk h
    rw [← same] at h1
    have h2 := filter_get sa h1
    rw [List.getElem?_eq_getElem hi] at h2
    exact Option.some.inj h2.1
  have ia : a[i] ∈ cl N1 mi ma m1 N1 := by rw [← ha]; exact List.getElem_mem hi
  have ib : b[i] ∈ cl N2 mi ma m2 N2 := by rw [← hb]; exact List.getElem_mem hk
  -- the place L in both
  have atL1 : a[i] = L → L < b[i] → N1 = L := fun h h' => by
    rcases Nat.lt_or_ge L N1 with g | g
    · exfalso
      have hc : isC N2 mi ma m2 L = true := by
        rw [h, mem_cl] at ia
        rcases Nat.lt_or_ge L N2 with g2 | g2
        · rw [← begins_isC (N1 := N1) (m1 := m1) hm L g g2 (Nat.le_refl _)]; exact ia.2
        · obtain rfl : L = N2 := by omega
          have hp := pos_of_isC ia.2
          obtain ⟨k, rfl⟩ : ∃ k, L = k + 1 := ⟨L - 1, by omega⟩
          rw [isC_succ]; simp [cutQ]
      have hmL : L ∈ b := by rw [hb, mem_cl]; exact ⟨l2, hc⟩
      obtain ⟨j, hj, hjL⟩ := List.getElem_of_mem hmL
      have hji : j < i := (lt_of_sorted sb hj hk).1 (by omega)
      have h1 := (lt_of_sorted sa (show j < a.length by omega) hi).2 hji
      have h2 : a[j] < L := by omega
      have h3 := take_filter sa (show j < a.length by omega) h2
      rw [same] at h3
      have h4 := filter_get sb h3
      rw [List.getElem?_eq_getElem hj] at h4
      have := Option.some.inj h4.1
      omega
    · omega
  have atL2 : b[i] = L → L < a[i] → N2 = L := fun h h' => by
    rcases Nat.lt_or_ge L N2 with g | g
    · exfalso
      have hc : isC N1 mi ma m1 L = true := by
        rw [h, mem_cl] at ib
        rcases Nat.lt_or_ge L N1 with g2 | g2
        · rw [begins_isC (N2 := N2) (m2 := m2) hm L g2 g (Nat.le_refl _)]; exact ib.2
        · obtain rfl : L = N1 := by omega
          have hp := pos_of_isC ib.2
          obtain ⟨k, rfl⟩ : ∃ k, L = k + 1 := ⟨L - 1, by omega⟩
          rw [isC_succ]; simp [cutQ]
      have hmL : L ∈ a := by rw [ha, mem_cl]; exact ⟨l1, hc⟩
      obtain ⟨j, hj, hjL⟩ := List.getElem_of_mem hmL
      have hji : j < i := (lt_of_sorted sa hj hi).1 (by omega)
      have h1 := (lt_of_sorted sb (show j < b.length by omega) hk).2 hji
      have h2 : b[j] < L := by omega
      have h3 := take_filter sb (show j < b.length by omega) h2
      rw [← same] at h3
      have h4 := filter_get sa h3
      rw [List.getElem?_eq_getElem hj] at h4
      have := Option.some.inj h4.1
      omega
    · omega
  rcases Nat.lt_trichotomy a[i] L with h | h | h
  · have := lt1 h; left; omega
  · rcases Nat.lt_trichotomy b[i] L with g | g | g
    · have := lt2 g; left; omega
    · left; omega
    · right
      have := atL1 h g
      exact ⟨.inr g, .inr ⟨this, last1 (by omega)⟩, .inl g⟩
  · rcases Nat.lt_trichotomy b[i] L with g | g | g
    · have := lt2 g; omega
    · right
      have := atL2 g h
      exact ⟨.inl h, .inl h, .inr ⟨this, last2 (by omega)⟩⟩
    · right; exact ⟨.inl h, .inl h, .inl g⟩
/-- is a place of a text a mark? -/
def mkL (p n bi : Nat) (l : List UInt8) : Bool := decide (fp p (lastN n l) &&& (2 ^ bi - 1) = 2 ^ bi - 1)
def mark (p n bi : Nat) (s : ByteArray) (k : Nat) : Bool := mkL p n bi (s.data.toList.take k)
theorem mark_end (p n bi : Nat) (a b e : List UInt8) (k : Nat) (hk : n ≤ k) (s t : ByteArray) (hs : s.data.toList = a ++ e) (ht : t.data.toList = b ++ e) (hke : k ≤ e.length) : mark p n bi s (a.length + k) = mark p n bi t (b.length + k) := by
  unfold mark mkL
  rw [hs, ht, List.take_length_add_append, List.take_length_add_append, lastN_eq _ _ _ (by simp; omega), lastN_eq _ _ _ (by simp; omega)]
theorem mark_begin (p n bi : Nat) (a : List UInt8) (b c : List UInt8) (k : Nat) (s t : ByteArray) (hs : s.data.toList = a ++ b) (ht : t.data.toList = a ++ c) (hk : k ≤ a.length) : mark p n bi s k = mark p n bi t k := by
  unfold mark
  rw [hs, ht, List.take_append_of_le_length hk, List.take_append_of_le_length hk]
end Go.Proofs.YtpkbhihkhnkhnaaDoor
