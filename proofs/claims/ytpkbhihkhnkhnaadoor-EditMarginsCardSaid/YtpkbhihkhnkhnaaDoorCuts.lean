/- Cuts of a text, by places: plain facts. -/
import Derived.Test.YtpkbhihkhnkhnaaDoorWin
namespace Go.Proofs.YtpkbhihkhnkhnaaDoor
/-- is place k + 1 a cut, where the last cut ahead is at a? -/
def cutQ (N mi ma : Nat) (m : Nat → Bool) (a k : Nat) : Bool := decide (k = N) || decide (ma ≤ k - a) || (decide (mi ≤ k - a) && m k)
/-- the last cut up to a place -/
def lc (N mi ma : Nat) (m : Nat → Bool) : Nat → Nat
  | 0 => 0
  | k + 1 => if cutQ N mi ma m (lc N mi ma m k) (k + 1) then k + 1 else lc N mi ma m k
/-- is a place a cut? -/
def isC (N mi ma : Nat) (m : Nat → Bool) (k : Nat) : Bool := decide (0 < k) && cutQ N mi ma m (lc N mi ma m (k - 1)) k
/-- all cuts up to a place -/
def cl (N mi ma : Nat) (m : Nat → Bool) (k : Nat) : List Nat := (List.range (k + 1)).filter (isC N mi ma m)
section
variable {N mi ma : Nat} {m : Nat → Bool}
theorem isC_succ (k : Nat) : isC N mi ma m (k + 1) = cutQ N mi ma m (lc N mi ma m k) (k + 1) := by simp [isC]
theorem isC_zero : isC N mi ma m 0 = false := by simp [isC]
theorem cl_zero : cl N mi ma m 0 = [] := by simp [cl, isC]
theorem cl_yes {k : Nat} (h : isC N mi ma m (k + 1) = true) : cl N mi ma m (k + 1) = cl N mi ma m k ++ [k + 1] := by
  unfold cl; rw [List.range_succ, List.filter_append]; simp [h]
theorem cl_no {k : Nat} (h : isC N mi ma m (k + 1) = false) : cl N mi ma m (k + 1) = cl N mi ma m k := by
  unfold cl; rw [List.range_succ, List.filter_append]; simp [h]
theorem lc_yes {k : Nat} (h : isC N mi ma m (k + 1) = true) : lc N mi ma m (k + 1) = k + 1 := by
  rw [isC_succ] at h; rw [lc, if_pos h]
theorem lc_no {k : Nat} (h : isC N mi ma m (k + 1) = false) : lc N mi ma m (k + 1) = lc N mi ma m k := by
  rw [isC_succ] at h; rw [lc, if_neg (by simp [h])]
theorem lc_le (k : Nat) : lc N mi ma m k ≤ k := by
  induction k with
  | zero => simp [lc]
  | succ k ih =>
    rcases h : isC N mi ma m (k + 1) with _ | _
    · rw [lc_no h]; omega
    · rw [lc_yes h]; exact Nat.le_refl _
theorem lc_last (k : Nat) : (cl N mi ma m k).getLastD 0 = lc N mi ma m k := by
  induction k with
  | zero => simp [cl_zero, lc]
  | succ k ih =>
    rcases h : isC N mi ma m (k + 1) with _ | _
    · rw [lc_no h, cl_no h, ih]
    · rw [lc_yes h, cl_yes h]; simp
theorem lc_N : lc N mi ma m N = N := by
  cases N with
  | zero => rfl
  | succ N => exact lc_yes (by rw [isC_succ]; simp [cutQ])
theorem lc_near (k : Nat) (hma : 1 ≤ ma) : k < lc N mi ma m k + ma := by
  induction k with
  | zero => simp [lc]; omega
  | succ k ih =>
    rcases h : isC N mi ma m (k + 1) with _ | _
    · rw [lc_no h]
      rw [isC_succ] at h
      simp [cutQ] at h
      omega
    · rw [lc_yes h]; omega
theorem mem_cl {k x : Nat} : x ∈ cl N mi ma m k ↔ x ≤ k ∧ isC N mi ma m x = true := by
  unfold cl; simp; omega
theorem pos_of_isC {x : Nat} (h : isC N mi ma m x = true) : 0 < x := by simp [isC] at h; exact h.1
theorem cl_len (k : Nat) : (cl N mi ma m k).length ≤ k := by
  induction k with
  | zero => simp [cl_zero]
  | succ k ih =>
    rcases h : isC N mi ma m (k + 1) with _ | _
    · rw [cl_no h]; omega
    · rw [cl_yes h]; simp; omega
theorem cl_sorted (k : Nat) : (cl N mi ma m k).Pairwise (· < ·) := List.Pairwise.filter _ List.pairwise_lt_range
end
/-- the place ahead of the i-th of a row of places: the one before it -/
def P (cs : List Nat) (i : Nat) : Nat := (0 :: cs).getD i 0
theorem P_zero (cs : List Nat) : P cs 0 = 0 := rfl
theorem P_succ (cs : List Nat) (i : Nat) : P cs (i + 1) = cs.getD i 0 := by simp [P]
theorem P_app (cs ds : List Nat) (i : Nat) (h : i ≤ cs.length) : P (cs ++ ds) i = P cs i := by
  cases i with
  | zero => rfl
  | succ i => rw [P_succ, P_succ]; simp [List.getElem?_append_left (show i < cs.length by omega)]
theorem P_len (cs : List Nat) : P cs cs.length = cs.getLastD 0 := by
  rcases cs.eq_nil_or_concat with rfl | ⟨l, x, rfl⟩
  · rfl
  · rw [List.concat_eq_append, List.length_append, List.length_singleton, P_succ]; simp
theorem P_mono {cs : List Nat} (h : cs.Pairwise (· < ·)) (h0 : ∀ x ∈ cs, 0 < x) {i : Nat} (hi : i < cs.length) : P cs i < P cs (i + 1) := by
  rw [P_succ]
  cases i with
  | zero => rw [P_zero]; apply h0; simp [hi]
  | succ i =>
    rw [P_succ]
    have := List.pairwise_iff_getElem.1 h i (i + 1) (by omega) hi (by omega)
    simpa [hi, show i < cs.length by omega] using this
theorem P_le_last {cs : List Nat} (h : cs.Pairwise (· < ·)) (h0 : ∀ x ∈ cs, 0 < x) {i j : Nat} (hij : i ≤ j) (hj : j ≤ cs.length) : P cs i ≤ P cs j := by
  obtain ⟨d, rfl⟩ := Nat.exists_eq_add_of_le hij
  clear hij
  induction d with
  | zero => exact Nat.le_refl _
  | succ d ih =>
    have := ih (by omega)
    have := P_mono h h0 (i := i + d) (by omega)
    rw [← Nat.add_assoc]; omega
/-- the pieces between places -/
def pcs (cs : List Nat) : List (Nat × Nat) := (List.range cs.length).map fun i => (P cs i, P cs (i + 1) - P cs i)
theorem pcs_len (cs : List Nat) : (pcs cs).length = cs.length := by simp [pcs]
theorem pcs_nil : pcs [] = [] := rfl
theorem pcs_snoc (cs : List Nat) (c : Nat) : pcs (cs ++ [c]) = pcs cs ++ [(cs.getLastD 0, c - cs.getLastD 0)] := by
  unfold pcs
  rw [List.length_append, List.length_singleton, List.range_succ, List.map_append, List.map_singleton]
  congr 1
  · apply List.map_congr_left
    intro i hi
    rw [List.mem_range] at hi
    rw [P_app _ _ _ (by omega), P_app _ _ _ (by omega)]
  · rw [P_app _ _ _ (Nat.le_refl _), P_len, P_succ]; simp
/-- the texts between places -/
def txts (s : ByteArray) (cs : List Nat) : List ByteArray := (List.range cs.length).map fun i => s.extract (P cs i) (P cs (i + 1))
theorem txts_len (s : ByteArray) (cs : List Nat) : (txts s cs).length = cs.length := by simp [txts]
theorem txts_get (s : ByteArray) (cs : List Nat) (i : Nat) (h : i < cs.length) : (txts s cs)[i]? = some (s.extract (P cs i) (P cs (i + 1))) := by simp [txts, h]
/-- a row of cuts of a text of N bytes -/
structure Cutting (N : Nat) (cs : List Nat) : Prop where
  inc : cs.Pairwise (· < ·)
  pos : ∀ x ∈ cs, 0 < x
  le : ∀ x ∈ cs, x ≤ N
  last : cs.getLastD 0 = N
theorem Cutting.mono {N : Nat} {cs : List Nat} (h : Cutting N cs) {i : Nat} (hi : i < cs.length) : P cs i < P cs (i + 1) := P_mono h.inc h.pos hi
theorem Cutting.P_le {N : Nat} {cs : List Nat} (h : Cutting N cs) {i j : Nat} (hij : i ≤ j) (hj : j ≤ cs.length) : P cs i ≤ P cs j := P_le_last h.inc h.pos hij hj
theorem Cutting.le_N {N : Nat} {cs : List Nat} (h : Cutting N cs) {i : Nat} (hi : i ≤ cs.length) : P cs i ≤ N := by
  have := h.P_le hi (Nat.le_refl _); rw [P_len, h.last] at this; exact this
theorem Cutting.P_end {N : Nat} {cs : List Nat} (h : Cutting N cs) : P cs cs.length = N := by rw [P_len, h.last]
theorem cl_cutting {N mi ma : Nat} {m : Nat → Bool} : Cutting N (cl N mi ma m N) :=
  ⟨cl_sorted N, fun _ hx => pos_of_isC (mem_cl.1 hx).2, fun _ hx => (mem_cl.1 hx).1, by rw [lc_last, lc_N]⟩
theorem Cutting.txt_size {s : ByteArray} {cs : List Nat} (h : Cutting s.size cs) {i : Nat} (hi : i < cs.length) : (s.extract (P cs i) (P cs (i + 1))).size = P cs (i + 1) - P cs i := by
  have := h.le_N (i := i + 1) (by omega); simp; omega
theorem mem_P {cs : List Nat} {i : Nat} (h : i < cs.length) : P cs (i + 1) ∈ cs := by rw [P_succ]; simp [h]
end Go.Proofs.YtpkbhihkhnkhnaaDoor
