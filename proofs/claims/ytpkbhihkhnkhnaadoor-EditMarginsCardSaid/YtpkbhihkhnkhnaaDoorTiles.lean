/- What the pieces of a text are like: plain facts for ChunkTiles. -/
import Derived.Test.YtpkbhihkhnkhnaaDoorCmarks
namespace Go.Proofs.YtpkbhihkhnkhnaaDoor
section
variable {N mi ma : Nat} {m : Nat → Bool}
theorem lc_cut (x : Nat) : lc N mi ma m x = 0 ∨ isC N mi ma m (lc N mi ma m x) = true := by
  induction x with
  | zero => left; rfl
  | succ x ih =>
    rcases h : isC N mi ma m (x + 1) with _ | _
    · rw [lc_no h]; exact ih
    · rw [lc_yes h]; right; exact h
theorem lc_max {x y : Nat} (hy : isC N mi ma m y = true) (h : y ≤ x) : y ≤ lc N mi ma m x := by
  induction x with
  | zero => omega
  | succ x ih =>
    rcases hx : isC N mi ma m (x + 1) with _ | _
    · rw [lc_no hx]
      rcases Nat.eq_or_lt_of_le h with e | e
      · rw [e, hx] at hy; cases hy
      · exact ih (by omega)
    · rw [lc_yes hx]; exact h
theorem P_isC {k : Nat} (hk : k ≤ (cl N mi ma m N).length) : P (cl N mi ma m N) k = 0 ∨ isC N mi ma m (P (cl N mi ma m N) k) = true := by
  cases k with
  | zero => left; rfl
  | succ k => right; exact (mem_cl.1 (mem_P (cs := cl N mi ma m N) (by omega))).2
/-- between two cuts the last one is the one ahead -/
theorem lc_between {k x : Nat} (hk : k < (cl N mi ma m N).length) (h1 : P (cl N mi ma m N) k ≤ x) (h2 : x < P (cl N mi ma m N) (k + 1)) : lc N mi ma m x = P (cl N mi ma m N) k := by
  have hc : Cutting N (cl N mi ma m N) := cl_cutting
  have le1 : P (cl N mi ma m N) k ≤ lc N mi ma m x := by
    rcases P_isC (N := N) (mi := mi) (ma := ma) (m := m) (k := k) (by omega) with h | h
    · omega
    · exact lc_max h h1
  have le2 : lc N mi ma m x ≤ P (cl N mi ma m N) k := by
    rcases lc_cut (N := N) (mi := mi) (ma := ma) (m := m) x with h | h
    · omega
    · have hx := lc_le (N := N) (mi := mi) (ma := ma) (m := m) x
      have hN := hc.le_N (i := k + 1) (by omega)
      have hmem : lc N mi ma m x ∈ cl N mi ma m N := mem_cl.2 ⟨by omega, h⟩
      obtain ⟨j, hj, hjx⟩ := List.getElem_of_mem hmem
      have e : P (cl N mi ma m N) (j + 1) = lc N mi ma m x := by rw [P_succ]; simp [hj, hjx]
      rcases Nat.lt_or_ge k (j + 1) with g | g
      · have := hc.P_le (i := k + 1) (j := j + 1) (by omega) (by omega); omega
      · have := hc.P_le (i := j + 1) (j := k) (by omega) (by omega); omega
  omega
theorem piece_ok {k : Nat} (hma : 1 ≤ ma) (hmm : mi ≤ ma) (hk : k < (cl N mi ma m N).length) :
    P (cl N mi ma m N) (k + 1) ≤ P (cl N mi ma m N) k + ma ∧ (k + 1 < (cl N mi ma m N).length → P (cl N mi ma m N) k + mi ≤ P (cl N mi ma m N) (k + 1) ∧ (P (cl N mi ma m N) (k + 1) < P (cl N mi ma m N) k + ma → m (P (cl N mi ma m N) (k + 1)) = true)) := by
  have hc : Cutting N (cl N mi ma m N) := cl_cutting
  have h1 := hc.mono hk
  have h2 : isC N mi ma m (P (cl N mi ma m N) (k + 1)) = true := (mem_cl.1 (mem_P (cs := cl N mi ma m N) hk)).2
  have h3 := lc_between (x := P (cl N mi ma m N) (k + 1) - 1) hk (by omega) (by omega)
  have h4 := lc_near (N := N) (mi := mi) (m := m) (P (cl N mi ma m N) (k + 1) - 1) hma
  rw [h3] at h4
  refine ⟨by omega, fun hk2 => ?_⟩
  have h5 := hc.mono hk2
  have h6 := hc.le_N (i := k + 1 + 1) (by omega)
  obtain ⟨x, hx⟩ : ∃ x, P (cl N mi ma m N) (k + 1) = x + 1 := ⟨P (cl N mi ma m N) (k + 1) - 1, by omega⟩
  rw [hx] at h2 h3 h4 h5 h1 ⊢
  rw [isC_succ, show x = x + 1 - 1 by omega, h3] at h2
  simp only [cutQ, Bool.or_eq_true, Bool.and_eq_true, decide_eq_true_eq] at h2
  have e : x + 1 - 1 + 1 = x + 1 := by omega
  rw [e] at h2
  rcases h2 with (h2 | h2) | h2
  · omega
  · exact ⟨by omega, fun h => by omega⟩
  · exact ⟨by omega, fun _ => h2.2⟩
end
theorem most_ge {N mi : Nat} {cs : List Nat} (hmi : 1 ≤ mi) (hc : Cutting N cs) (h : ∀ k, k + 1 < cs.length → P cs k + mi ≤ P cs (k + 1)) : cs.length ≤ N / mi + min (N % mi) 1 := by
  have key : ∀ k, k < cs.length → k * mi ≤ P cs k := by
    intro k
    induction k with
    | zero => intro _; simp
    | succ k ih => intro hk; have := ih (by omega); have := h k (by omega); rw [Nat.succ_mul]; omega
  rcases Nat.eq_zero_or_pos cs.length with h0 | h0
  · rw [h0]; exact Nat.zero_le _
  · obtain ⟨n, hn⟩ : ∃ n, cs.length = n + 1 := ⟨cs.length - 1, by omega⟩
    have h1 := key n (by omega)
    have h2 := hc.mono (i := n) (by omega)
    have h3 := hc.le_N (i := n + 1) (by omega)
    have e := Nat.div_add_mod N mi
    have e2 := Nat.mod_lt N (show 0 < mi by omega)
    have h4 : n * mi < N := by omega
    rw [hn]
    rcases Nat.eq_zero_or_pos (N % mi) with hr | hr
    · have : n < N / mi := by
        apply Nat.lt_of_mul_lt_mul_right (a := mi)
        rw [Nat.mul_comm (N / mi)]; omega
      omega
    · have : n < N / mi + 1 := by
        apply Nat.lt_of_mul_lt_mul_right (a := mi)
        rw [Nat.add_mul, Nat.mul_comm (N / mi)]; omega
      omega
theorem mlK_sorted (c : CutN) (s : ByteArray) (k : Nat) : (mlK c s k).Pairwise (· < ·) := List.Pairwise.filter _ List.pairwise_lt_range
theorem mem_mlK {c : CutN} {s : ByteArray} {k x : Nat} : x ∈ mlK c s k ↔ x ≤ k ∧ 0 < x ∧ mark c.p c.n c.bi s x = true := by
  unfold mlK; simp; omega
/-- the marks below a place have been passed: the next one is the place, if that is a mark -/
theorem at_mark {l : List Nat} (h : l.Pairwise (· < ·)) {t x : Nat} (hx : x ∈ l) (h1 : ∀ j, (hj : j < l.length) → j < t → l[j] < x) (h2 : ∀ ht : t < l.length, x ≤ l[t]) : ∃ ht : t < l.length, l[t] = x := by
  obtain ⟨j, hj, rfl⟩ := List.getElem_of_mem hx
  rcases Nat.lt_trichotomy j t with g | g | g
  · have := h1 j hj g; omega
  · subst g; exact ⟨hj, rfl⟩
  · have := h2 (by omega)
    have := (lt_of_sorted h (i := t) (j := j) (by omega) hj).2 g
    omega
end Go.Proofs.YtpkbhihkhnkhnaaDoor
