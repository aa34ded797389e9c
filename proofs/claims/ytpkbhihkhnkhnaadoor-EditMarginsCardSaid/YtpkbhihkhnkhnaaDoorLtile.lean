/- LinesTile: plain facts. -/
import Derived.Test.YtpkbhihkhnkhnaaDoorAlivt
import Derived.Test.YtpkbhihkhnkhnaaDoorTiles
namespace Go.Proofs.YtpkbhihkhnkhnaaDoor
theorem exists_min {p : Nat → Prop} (h : ∃ n, p n) : ∃ n, p n ∧ ∀ m, m < n → ¬ p m := by
  obtain ⟨n, hn⟩ := h
  induction n using Nat.strongRecOn with
  | _ n ih =>
    by_cases g : ∃ m, m < n ∧ p m
    · obtain ⟨m, h1, h2⟩ := g
      exact ih m h1 h2
    · exact ⟨n, hn, fun m hm hp => g ⟨m, hm, hp⟩⟩
theorem P_mem_or {cs : List Nat} {k : Nat} (hk : k ≤ cs.length) : P cs k = 0 ∨ P cs k ∈ cs := by
  cases k with
  | zero => left; rfl
  | succ k => right; exact mem_P (by omega)
theorem acs_isE {c : CutN} {s : ByteArray} {k : Nat} (hk : k ≤ (acsOf c s).length) : P (acsOf c s) k = 0 ∨ isE s.data.toList (P (acsOf c s) k) = true := by
  rcases P_mem_or hk with h | h
  · exact .inl h
  · right
    have hc := cutsOf_cutting c s
    rw [ba_size] at hc
    unfold acsOf at h
    obtain ⟨d, hd, he⟩ := (mem_ac hc).1 h
    unfold acsOf
    rw [← he]
    have h1 := hc.pos d hd
    have h2 := hc.le d hd
    exact al_isE d (by omega)
/-- a piece has fewer bytes than Max and the longest record have together -/
theorem piece_long {c : CutN} {s : ByteArray} (hm : c.May) {k : Nat} (hk : k < (acsOf c s).length) : P (acsOf c s) (k + 1) < P (acsOf c s) k + c.ma + lgst (recs s) := by
  obtain ⟨m0, m1, m2, m3, m4, m5, m6, m7⟩ := hm
  have ca := acsOf_cutting c s
  have cc := cutsOf_cutting c s
  have cc' := cc
  rw [ba_size] at cc'
  have h1 := ca.mono hk
  have h2 := ca.le_N (i := k + 1) (by omega)
  have hN : 0 < s.data.toList.length := by rw [← ba_size]; omega
  have hmem : P (acsOf c s) (k + 1) ∈ ac s.data.toList (cutsOf c s) := mem_P hk
  obtain ⟨d, hd, he⟩ := (mem_ac cc').1 hmem
  obtain ⟨j0, hj0, hjd⟩ := List.getElem_of_mem hd
  obtain ⟨j, ⟨hj, hje⟩, hmin⟩ := exists_min (p := fun j => j < (cutsOf c s).length ∧ al s.data.toList (P (cutsOf c s) (j + 1)) = P (acsOf c s) (k + 1)) ⟨j0, hj0, by rw [P_succ]; simp [hj0, hjd, he]⟩
  have g1 := cc.mono hj
  have g2 := cc.le_N (i := j + 1) (by omega)
  have g3 := (piece_ok (N := s.size) (mi := c.mi) (ma := c.ma) (m := mark c.p c.n c.bi s) (by omega) (by omega) hj).1
  have g4 : P (cutsOf c s) (j + 1) ≤ P (cutsOf c s) j + c.ma := g3
  have g5 : P (cutsOf c s) j ≤ P (acsOf c s) k := by
    cases j with
    | zero => rw [P_zero]; omega
    | succ j =>
      have q1 := hmin j (by omega)
      have q2 : al s.data.toList (P (cutsOf c s) (j + 1)) ≤ al s.data.toList (P (cutsOf c s) (j + 1 + 1)) := al_mono (by omega)
      have q3 : al s.data.toList (P (cutsOf c s) (j + 1)) ≠ P (acsOf c s) (k + 1) := fun e => q1 ⟨by omega, e⟩
      have q4 : P (cutsOf c s) (j + 1) ≤ al s.data.toList (P (cutsOf c s) (j + 1)) := al_ge (by rw [← ba_size]; omega)
      have q5 : al s.data.toList (P (cutsOf c s) (j + 1)) ∈ acsOf c s := (mem_ac cc').2 ⟨_, mem_P (cs := cutsOf c s) (show j < (cutsOf c s).length by omega), rfl⟩
      obtain ⟨i, hi, hix⟩ := List.getElem_of_mem q5
      have e : P (acsOf c s) (i + 1) = al s.data.toList (P (cutsOf c s) (j + 1)) := by rw [P_succ]; simp [hi, hix]
      rcases Nat.lt_or_ge k (i + 1) with g | g
      · have := ca.P_le (i := k + 1) (j := i + 1) (by omega) (by omega); omega
      · have := ca.P_le (i := i + 1) (j := k) (by omega) (by omega); omega
  -- the record in which the cut lies
  have hE : isE s.data.toList (P (acsOf c s) (k + 1)) = true := by rw [← hje]; exact al_isE _ hN
  obtain ⟨i, hi, hix⟩ := List.getElem_of_mem (mem_re.2 hE)
  have e : P (reS s) (i + 1) = P (acsOf c s) (k + 1) := by rw [P_succ]; simp [hi, hix]
  have cr := reS_cutting s
  have r1 := cr.mono (i := i) hi
  have r2 : P (reS s) i < P (cutsOf c s) (j + 1) := by
    rcases Nat.lt_or_ge (P (reS s) i) (P (cutsOf c s) (j + 1)) with g | g
    · exact g
    · exfalso
      have q := al_none (l := s.data.toList) (a := P (cutsOf c s) (j + 1)) (j := P (reS s) i) (b := _) g (by rw [hje]; omega) rfl
      rcases P_mem_or (cs := reS s) (k := i) (Nat.le_of_lt hi) with g' | g'
      · omega
      · rw [mem_re.1 g'] at q; cases q
  have r3 : P (reS s) (i + 1) - P (reS s) i ≤ lgst (recs s) := by
    have : s.extract (P (reS s) i) (P (reS s) (i + 1)) ∈ recs s := List.mem_of_getElem? (txts_get s (reS s) i hi)
    have := lgst_ge this
    rwa [cr.txt_size hi] at this
  omega
theorem last_max {l : List Nat} {a : Nat} (h1 : ∀ x ∈ l, x ≤ a) (h : l.Pairwise (· < ·)) (h2 : a ∈ l) : l.getLastD 0 = a := by
  have hne : l ≠ [] := List.ne_nil_of_mem h2
  rcases l.eq_nil_or_concat with e | ⟨l', x, e⟩
  · exact absurd e hne
  · rw [e, List.concat_eq_append] at h h2 h1 ⊢
    rw [List.getLastD_concat]
    have hx := h1 x (by simp)
    rw [List.mem_append, List.mem_singleton] at h2
    rcases h2 with h2 | h2
    · have := (sorted_init h).2 a h2; omega
    · exact h2.symm
/-- the record ends up to a place -/
def fr (s : ByteArray) (a : Nat) : List Nat := (reS s).filter (fun x => decide (x ≤ a))
theorem mem_fr {s : ByteArray} {a x : Nat} : x ∈ fr s a ↔ isE s.data.toList x = true ∧ x ≤ a := by
  unfold fr; rw [List.mem_filter, decide_eq_true_eq]; rw [mem_re]
theorem fr_sorted (s : ByteArray) (a : Nat) : (fr s a).Pairwise (· < ·) := (reS_cutting s).inc.filter _
theorem fr_last {s : ByteArray} {a : Nat} (h : a = 0 ∨ isE s.data.toList a = true) : (fr s a).getLastD 0 = a := by
  rcases h with rfl | h
  · have : fr s 0 = [] := by
      apply List.eq_nil_iff_forall_not_mem.2
      intro x hx
      rw [mem_fr] at hx
      have := (isE_iff.1 hx.1).1; omega
    rw [this]; rfl
  · exact last_max (fun x hx => (mem_fr.1 hx).2) (fr_sorted s a) (mem_fr.2 ⟨h, Nat.le_refl _⟩)
theorem fr_next {s t : ByteArray} {a a' : Nat} (ht : t = s.extract a a') (h1 : a < a') (h2 : a' ≤ s.size) (h4 : isE s.data.toList a' = true) : fr s a' = fr s a ++ (reS t).map (a + ·) := by
  have htl : t.data.toList = (s.data.toList.take a').drop a := by rw [ht, ba_extract]
  have hlen : t.data.toList.length = a' - a := by rw [htl]; simp; omega
  have hg : ∀ i, i < a' - a → t.data.toList[i]? = s.data.toList[a + i]? := fun i hi => by
    rw [htl, List.getElem?_drop, List.getElem?_take, if_pos (by omega)]
  refine sorted_ext (fr_sorted s a') ?_ (fun x => ?_)
  · rw [List.pairwise_append]
    refine ⟨fr_sorted s a, ?_, fun x hx y hy => ?_⟩
    · rw [List.pairwise_map]; exact (reS_cutting t).inc.imp (fun h => by omega)
    · have q1 := (mem_fr.1 hx).2
      obtain ⟨z, hz, rfl⟩ := List.mem_map.1 hy
      have := (reS_cutting t).pos z hz
      omega
  · rw [mem_fr, List.mem_append, mem_fr, List.mem_map]
    constructor
    · rintro ⟨g1, g2⟩
      rcases Nat.lt_or_ge a x with g | g
      · right
        refine ⟨x - a, mem_re.2 ?_, by omega⟩
        rw [isE_iff] at g1 ⊢
        refine ⟨by omega, ?_⟩
        rw [hlen]
        rcases Nat.eq_or_lt_of_le g2 with e | e
        · left; omega
        · right
          rcases g1.2 with g3 | g3
          · rw [← ba_size] at g3; omega
          · rw [hg _ (by omega), show a + (x - a - 1) = x - 1 by omega]; exact g3
      · exact .inl ⟨g1, g⟩
    · rintro (⟨g1, g2⟩ | ⟨y, hy, rfl⟩)
      · exact ⟨g1, by omega⟩
      · have hy' := mem_re.1 hy
        rw [isE_iff, hlen] at hy'
        have hle := isE_le (mem_re.1 hy)
        rw [hlen] at hle
        refine ⟨?_, by omega⟩
        rcases hy'.2 with g | g
        · rw [show a + y = a' by omega]; exact h4
        · rw [isE_iff]
          refine ⟨by omega, .inr ?_⟩
          rw [hg _ (by omega), show a + (y - 1) = a + y - 1 by omega] at g; exact g
theorem txts_app {s t : ByteArray} {a a' : Nat} (ht : t = s.extract a a') (h1 : a ≤ a') (h2 : a' ≤ s.size) {f g : List Nat} (hf : f.getLastD 0 = a) (hg : Cutting t.size g) : txts s (f ++ g.map (a + ·)) = txts s f ++ txts t g := by
  apply List.ext_getElem?
  intro i
  rcases Nat.lt_or_ge i f.length with h | h
  · rw [List.getElem?_append_left (by rw [txts_len]; exact h), txts_get s f i h, txts_get s _ i (by simp; omega), P_app _ _ _ (by omega), P_app _ _ _ (by omega)]
  · rw [List.getElem?_append_right (by rw [txts_len]; exact h), txts_len]
    rcases Nat.lt_or_ge (i - f.length) g.length with hi | hi
    · rw [txts_get t g _ hi, txts_get s _ i (by simp; omega)]
      have key : ∀ j, j ≤ g.length → P (f ++ g.map (a + ·)) (f.length + j) = a + P g j := fun j hj => by
        cases j with
        | zero => rw [Nat.add_zero, P_app _ _ _ (Nat.le_refl _), P_len, hf, P_zero, Nat.add_zero]
        | succ j =>
          rw [← Nat.add_assoc, P_succ, P_succ]
          simp [show j < g.length by omega]
      have k1 := key (i - f.length) (by omega)
      have k2 := key (i - f.length + 1) (by omega)
      rw [show f.length + (i - f.length) = i by omega] at k1
      rw [show f.length + (i - f.length + 1) = i + 1 by omega] at k2
      rw [k1, k2]
      congr 1
      have hle := hg.le_N (i := i - f.length + 1) (by omega)
      have hsz : t.size ≤ a' - a := by rw [ht]; simp; omega
      apply ba_ext
      rw [ba_extract, ba_extract, ht, ba_extract, List.take_drop, List.drop_drop, List.take_take]
      rw [Nat.min_eq_left (by omega)]
    · rw [List.getElem?_eq_none (by rw [txts_len]; simp; omega), List.getElem?_eq_none (by rw [txts_len]; exact hi)]
theorem fr_all (s : ByteArray) : fr s s.size = reS s := by
  unfold fr
  rw [List.filter_eq_self]
  intro x hx
  rw [decide_eq_true_eq]
  exact (reS_cutting s).le x hx
/-- the records so far, and those of the next piece -/
theorem recs_next (c : CutN) (s : ByteArray) {k : Nat} (hk : k < (acsOf c s).length) {t : ByteArray} (ht : t = s.extract (P (acsOf c s) k) (P (acsOf c s) (k + 1))) :
    txts s (fr s (P (acsOf c s) (k + 1))) = txts s (fr s (P (acsOf c s) k)) ++ recs t := by
  have ca := acsOf_cutting c s
  have h1 := ca.mono hk
  have h2 := ca.le_N (i := k + 1) (by omega)
  have h4 : isE s.data.toList (P (acsOf c s) (k + 1)) = true := by
    rcases acs_isE (c := c) (s := s) (k := k + 1) (by omega) with h | h
    · omega
    · exact h
  rw [fr_next ht h1 h2 h4]
  exact txts_app ht (Nat.le_of_lt h1) h2 (fr_last (acs_isE (by omega))) (reS_cutting t)
/-- a piece that is not the last one ends with a line's end -/
theorem piece_nl (c : CutN) (s : ByteArray) {k : Nat} (hk : k + 1 < (acsOf c s).length) : s.data.toList[P (acsOf c s) (k + 1) - 1]? = some 10 := by
  have ca := acsOf_cutting c s
  have h1 := ca.mono (i := k) (by omega)
  have h2 := ca.mono hk
  have h3 := ca.le_N (i := k + 1 + 1) (by omega)
  rcases acs_isE (c := c) (s := s) (k := k + 1) (by omega) with h | h
  · omega
  · rcases (isE_iff.1 h).2 with g | g
    · rw [← ba_size] at g; omega
    · exact g
end Go.Proofs.YtpkbhihkhnkhnaaDoor
