/- lines.Records, lines.Longest. -/
import Derived.Test.YtpkbhihkhnkhnaaDoorLines
namespace Go.Proofs.YtpkbhihkhnkhnaaDoor
open Go.RowKit Go.Shelf
attribute [local go_sem] Oper.semAt_some
def RcI (w : World) (B D : Nat) (s : ByteArray) (k : Nat) (W : World) : Prop :=
  (∃ v, Boxed W B 24 v ∧ W.ownsRow (D + 2) 9 1 v k (((recs s).take k).map .string)) ∧ Below B w W
theorem RcI.stays {w : World} {B D k : Nat} {s : ByteArray} {W W' : World} {S : Nat → Prop} (h : RcI w B D s k W) (hk : Kept S W W') (hS : ∀ i, i ≤ B → S i) (hO : ∀ i, D + 2 ≤ i → S i) : RcI w B D s k W' := by
  obtain ⟨⟨v, i3, i4⟩, i9⟩ := h
  have hz : B ≤ W.heap.size := by have := i3.lt; omega
  exact ⟨⟨v, box_stays i3 hk (hS _ (Nat.le_refl _)), owns_kept i4 hk (fun g hg => hO g (owns_base i4 hg))⟩, i9.trans (hk.below hz (fun i hi => hS i (by omega)))⟩
theorem recs_len (s : ByteArray) : (recs s).length = (reS s).length := txts_len _ _
set_option maxRecDepth 100000 in
set_option maxHeartbeats 1000000 in
theorem records_all (s : ByteArray) (w : World) (hs : s.size ≤ 4000) :
    Calls Tryd.prog 37 #[.string s] w fun e w' => ∃ v, e = .returned v ∧ w'.ownsRow w.heap.size 9 1 v (recs s).length ((recs s).map .string) ∧ Below w.heap.size w w' := by
  have C2 := Lib.hid (fun W => records_any s W)
  have C3 := Lib.hid (fun W0 bs hb => records_seq 8 s bs W0 hs hb)
  have hlen : (recs s).length ≤ 4000 := by rw [recs_len]; have := reS_len s; omega
  have hfn : ∀ f, Fence.wide.fn f := fun _ => trivial
  have hdp : Fence.wide.depth.isSome = false := rfl
  refine (callsIn_wide (n := 9)).1 ?_
  refine callsIn_of_wp_marks Tryd.func37 rfl trivial ?_ rfl
  simp only [Tryd.ntmps37, List.size_toArray, List.length_cons, List.length_nil, Nat.reduceAdd, Nat.reduceSub, Array.replicate_succ, Array.replicate_zero, List.push_toArray, List.append_toArray, List.nil_append, List.cons_append]
  gi_wp2_with fail
  refine (callsIn_wide.2 (C2.out _)).mono ?_
  rintro e W0 ⟨rfl, hW0⟩
  have hz0 : W0.heap.size = w.heap.size + 2 := by rw [← hW0]; simp
  have hI0 : RcI w w.heap.size W0.heap.size s 0 W0 := by
    refine ⟨⟨.slice none 0 0, ?_, World.ownsRow_nil _ _ _ _⟩, ?_⟩
    · rw [← hW0]; exact (Boxed.new w _ _).alloc _
    · rw [← hW0]; exact ((Below.refl _ _).alloc (Nat.le_refl _) _).alloc (by simp) _
  have hbx : Boxed W0 (w.heap.size + 1) 9 (.string s) := by
    rw [← hW0]
    have := Boxed.new (w.alloc (.cells #[.slice none 0 0] 24)) 9 (.string s)
    rwa [World.size_alloc] at this
  have HI0 := Lib.hid hI0
  have HBX := Lib.hid hbx
  clear hW0 hI0 hbx C2
  gi_wp2_with fail
  generalize hB : w.heap.size = B at *
  have HB := Lib.hid hB
  have h2 : B + 2 ≤ W0.heap.size := by omega
  clear hB hz0
  refine wpIn_range rfl (by omega) (gf := 70) (lb := #[.pointer (some ⟨B + 1, 0, none⟩)]) rfl trivial (enters_of Tryd.func70 (by kernel_rfl) rfl) (fun W1 hb _ => C3.out W1 (B + 1) (box_stays HBX.out (Kept.of_below' (S := fun _ => True) hb) trivial)) (fun x => rfl) (fun Ow hO => ⟨fun h => by have := (hO _).1 h; omega, fun h => by have := (hO _).1 h; omega⟩)
    (fun _ k W => RcI w B W0.heap.size s k W) (fun _ _ => False)
    ?h0 ?hI ?hIx ?hcap ?hend ?hround ?hdone ?hstop
  case h0 =>
    intro Ow W1 hO hb _
    exact HI0.out.stays (Kept.of_below' (S := fun _ => True) hb) (fun _ _ => trivial) (fun _ _ => trivial)
  case hI =>
    intro Ow k A C hO hA hK
    exact hA.stays hK (fun i hi => ⟨fun h => by have := (hO _).1 h; omega, by omega⟩) (fun i hi => ⟨fun h => by have := (hO _).1 h; omega, by omega⟩)
  case hIx => rintro c A C h; exact h.elim
  case hcap => intros; trivial
  case hend => exact .inl trivial
  case hround =>
    rintro l Ow k W hk hO hOw hI hs'
    have HT := Lib.hid (show ((recs s).take (k + 1)).map Value.string = ((recs s).take k).map Value.string ++ [.string (recs s)[k]] by rw [List.take_succ_eq_append_getElem hk, List.map_append]; rfl)
    generalize (recs s)[k] = x at *
    gi_wp2_with fail
    refine ⟨trivial, ?_⟩
    rintro Wb hOw' ⟨⟨v, i3, i4⟩, i9⟩ hs2
    have e3 := i3.cell
    have f3 := i3.frozen
    have HV := Lib.hid (show ∀ i, i < W0.heap.size + 2 → v.ownBlock ≠ some i from fun i hi h => by have := owns_base i4 h; omega)
    have J3 := Lib.hid i3
    have J9 := Lib.hid i9
    have HZ := Lib.hid (show B ≤ Wb.heap.size by have := i3.lt; omega)
    have HO := Lib.hid hO
    clear i3 i9 hOw hOw' hI hO
    obtain ⟨i0, hi, hz0, hz1, hz2⟩ := info_parts infoS
    gi_wp2_with (gi_at_builtin; refine wpListIn_append_own_at _ rfl _ _ 24 rfl (W0.heap.size + 2) 9 i0 (.string ⟨#[]⟩) 1 16 Tryd.underlying24 hi hz0 hz1 hz2 rfl (by decide) v k _ rfl (i4.alloc _) ⟨Wb.heap.size, 0, none⟩ 1 1 [.string x] rfl rfl (cell_one_new _ _ _) (strs_oneCell [x]) (by unfold maxLen; omega) (by omega) (by simp; omega) ?_; intro v' w2 hown' hgrow hnil hloc; have hk1 := Lib.hid (((Kept.refl (fun i => v.ownBlock ≠ some i) Wb).alloc _).grown hgrow (fun k hk hne => hne hk)); obtain ⟨p', c', rfl⟩ := owns_form hown'; have G3 := box_stays J3.out hk1.out (HV.out _ (by omega)); have g3 := G3.cell; have gf3 := G3.frozen; have HG3 := Lib.hid G3; clear G3; have HOWN := Lib.hid hown'; clear hown' hgrow hnil hloc)
    have k2 : Kept (fun i => i ≠ B) w2 (w2.setCell ⟨B, 0, none⟩ (.slice p' (k + 1) c')) := (Kept.refl _ w2).setCell (by simp) _
    have kk := (hk1.out.mono (S' := fun i => v.ownBlock ≠ some i ∧ i ≠ B) (fun i hi => hi.1)).trans (k2.mono fun i hi => hi.2)
    refine ⟨kk.mono ?_, ⟨_, HG3.out.set _, ?_⟩, J9.out.trans (kk.below HZ.out (fun i hi => ⟨HV.out i (by omega), by omega⟩))⟩
    · rintro i (h | rfl | rfl)
      · have := (HO.out i).1 h
        exact ⟨HV.out _ (by omega), by omega⟩
      · exact ⟨HV.out _ (by omega), by omega⟩
      · exact ⟨HV.out _ (by omega), by omega⟩
    · rw [HT.out]
      exact owns_kept HOWN.out k2 (fun g hg => by have := owns_base HOWN.out hg; omega)
  case hdone =>
    intro Ow W hO hI hK
    obtain ⟨⟨v, i3, i4⟩, i9⟩ := hI
    rw [List.take_length] at i4
    obtain ⟨p', c', rfl⟩ := owns_form i4
    have e3 := i3.cell
    have f3 := i3.frozen
    have J3 := Lib.hid i3
    have J9 := Lib.hid i9
    have J4 := Lib.hid i4
    clear i3 i4 i9
    have hK2 : (W.setCell ⟨B, 0, none⟩ (.slice p' (recs s).length c')).heap[W0.heap.size]? = some (.deferred (some [])) := by
      rw [Below.heap_setCell _ _ _ _ (show W0.heap.size ≠ B by omega)]; exact hK
    have HK2 := Lib.hid hK2
    clear hK hK2
    gi_wp2_with fail
    refine ⟨by simp, .inl ⟨_, _, rfl, run_takeDeferred HK2.out, ?_⟩⟩
    have k1 : Kept (fun i => i ≠ B) W (W.setCell ⟨B, 0, none⟩ (.slice p' (recs s).length c')) := (Kept.refl _ _).setCell (by simp) _
    have k2 := Kept.putObj (W.setCell ⟨B, 0, none⟩ (.slice p' (recs s).length c')) W0.heap.size (.deferred none)
    have hc := (box_stays (J3.out.set (.slice p' (recs s).length c')) k2 (by omega)).cell
    refine ⟨.slice p' (recs s).length c', by simp [results, Tryd.results37, go_sem, hc], _, rfl, ?_, ?_⟩
    · rw [HB.out]
      refine owns_mono (owns_kept (S := fun i => i ≠ B ∧ i ≠ W0.heap.size) J4.out ((k1.mono fun i hi => hi.1).trans (k2.mono fun i hi => hi.2)) (fun g hg => ?_)) (show B ≤ W0.heap.size + 2 by omega)
      have := owns_base J4.out hg
      exact ⟨by omega, by omega⟩
    · rw [HB.out]
      have hz : B ≤ W.heap.size := by have := J3.out.lt; omega
      have kk : Kept (fun i => i ≠ B ∧ i ≠ W0.heap.size) W _ := (k1.mono fun i hi => hi.1).trans (k2.mono fun i hi => hi.2)
      exact J9.out.trans (kk.below hz (fun i hi => ⟨by omega, by omega⟩))
  case hstop => rintro c W h; exact h.elim
/-- how many bytes the longest of texts has -/
def lgst (l : List ByteArray) : Nat := l.foldl (fun n t => max n t.size) 0
theorem lgst_snoc (l : List ByteArray) (t : ByteArray) : lgst (l ++ [t]) = max (lgst l) t.size := by simp [lgst]
theorem lgst_ge {l : List ByteArray} {t : ByteArray} (h : t ∈ l) : t.size ≤ lgst l := by
  induction l using snoc_ind with
  | h0 => cases h
  | h1 l x ih =>
    rw [lgst_snoc]
    rw [List.mem_append, List.mem_singleton] at h
    rcases h with h | rfl
    · have := ih h; omega
    · omega
theorem lgst_le {l : List ByteArray} {n : Nat} (h : ∀ t ∈ l, t.size ≤ n) : lgst l ≤ n := by
  induction l using snoc_ind with
  | h0 => exact Nat.zero_le _
  | h1 l x ih =>
    rw [lgst_snoc]
    have h1 := ih (fun t ht => h t (by simp [ht]))
    have h2 := h x (by simp)
    omega
theorem recs_size {s t : ByteArray} (h : t ∈ recs s) : t.size ≤ s.size := by
  unfold recs txts at h
  obtain ⟨i, _, rfl⟩ := List.mem_map.1 h
  simp; omega
def LgI (w : World) (B : Nat) (s : ByteArray) (k : Nat) (W : World) : Prop :=
  Boxed W B 3 (.int .i64 (lgst ((recs s).take k) : Nat)) ∧ Below B w W
theorem LgI.stays {w : World} {B k : Nat} {s : ByteArray} {W W' : World} {S : Nat → Prop} (h : LgI w B s k W) (hk : Kept S W W') (hS : ∀ i, i ≤ B → S i) : LgI w B s k W' := by
  obtain ⟨i3, i9⟩ := h
  have hz : B ≤ W.heap.size := by have := i3.lt; omega
  exact ⟨box_stays i3 hk (hS _ (Nat.le_refl _)), i9.trans (hk.below hz (fun i hi => hS i (by omega)))⟩
set_option maxRecDepth 100000 in
set_option maxHeartbeats 1000000 in
theorem longest_any (s : ByteArray) (w : World) (hs : s.size ≤ 4000) :
    Calls Tryd.prog 36 #[.string s] w fun e w' => e = .returned (.int .i64 (lgst (recs s) : Nat)) ∧ Below w.heap.size w w' := by
  have C2 := Lib.hid (fun W => records_any s W)
  have C3 := Lib.hid (fun W0 bs hb => records_seq 8 s bs W0 hs hb)
  have hlg : ∀ k, lgst ((recs s).take k) ≤ 4000 := fun k => Nat.le_trans (lgst_le (fun t ht => recs_size (List.mem_of_mem_take ht))) hs
  have HLG := Lib.hid hlg
  clear hlg
  have hfn : ∀ f, Fence.wide.fn f := fun _ => trivial
  have hdp : Fence.wide.depth.isSome = false := rfl
  refine (callsIn_wide (n := 9)).1 ?_
  refine callsIn_of_wp_marks Tryd.func36 rfl trivial ?_ rfl
  simp only [Tryd.ntmps36, List.size_toArray, List.length_cons, List.length_nil, Nat.reduceAdd, Nat.reduceSub, Array.replicate_succ, Array.replicate_zero, List.push_toArray, List.append_toArray, List.nil_append, List.cons_append]
  gi_wp2_with fail
  refine (callsIn_wide.2 (C2.out _)).mono ?_
  rintro e W0 ⟨rfl, hW0⟩
  have hz0 : W0.heap.size = w.heap.size + 2 := by rw [← hW0]; simp
  have hI0 : LgI w w.heap.size s 0 W0 := by
    refine ⟨?_, ?_⟩
    · rw [← hW0]; exact (Boxed.new w _ _).alloc _
    · rw [← hW0]; exact ((Below.refl _ _).alloc (Nat.le_refl _) _).alloc (by simp) _
  have hbx : Boxed W0 (w.heap.size + 1) 9 (.string s) := by
    rw [← hW0]
    have := Boxed.new (w.alloc (.cells #[.int .i64 0] 3)) 9 (.string s)
    rwa [World.size_alloc] at this
  have HI0 := Lib.hid hI0
  have HBX := Lib.hid hbx
  clear hW0 hI0 hbx C2
  gi_wp2_with fail
  generalize hB : w.heap.size = B at *
  have HB := Lib.hid hB
  have h2 : B + 2 ≤ W0.heap.size := by omega
  clear hB hz0
  refine wpIn_range rfl (by omega) (gf := 70) (lb := #[.pointer (some ⟨B + 1, 0, none⟩)]) rfl trivial (enters_of Tryd.func70 (by kernel_rfl) rfl) (fun W1 hb _ => C3.out W1 (B + 1) (box_stays HBX.out (Kept.of_below' (S := fun _ => True) hb) trivial)) (fun x => rfl) (fun Ow hO => ⟨fun h => by have := (hO _).1 h; omega, fun h => by have := (hO _).1 h; omega⟩)
    (fun _ k W => LgI w B s k W) (fun _ _ => False)
    ?h0 ?hI ?hIx ?hcap ?hend ?hround ?hdone ?hstop
  case h0 =>
    intro Ow W1 hO hb _
    exact HI0.out.stays (Kept.of_below' (S := fun _ => True) hb) (fun _ _ => trivial)
  case hI =>
    intro Ow k A C hO hA hK
    exact hA.stays hK (fun i hi => ⟨fun h => by have := (hO _).1 h; omega, by omega⟩)
  case hIx => rintro c A C h; exact h.elim
  case hcap => intros; trivial
  case hend => exact .inl trivial
  case hround =>
    rintro l Ow k W hk hO hOw hI hs'
    have HT := Lib.hid (show lgst ((recs s).take (k + 1)) = max (lgst ((recs s).take k)) (recs s)[k].size by rw [List.take_succ_eq_append_getElem hk, lgst_snoc])
    have hxs : (recs s)[k].size ≤ 4000 := Nat.le_trans (recs_size (List.getElem_mem hk)) hs
    generalize (recs s)[k] = x at *
    gi_wp2_with fail
    refine ⟨trivial, ?_⟩
    rintro Wb hOw' ⟨i3, i9⟩ hs2
    have hlk := HLG.out k
    have HM : ∃ m, Hid (lgst ((recs s).take k) = m) := ⟨_, Lib.hid rfl⟩
    obtain ⟨m, HM⟩ := HM
    rw [HM.out] at HT hlk i3
    have e3 := i3.cell
    have f3 := i3.frozen
    have J3 := Lib.hid i3
    have J9 := Lib.hid i9
    have HZ := Lib.hid (show B ≤ Wb.heap.size by have := i3.lt; omega)
    have HO := Lib.hid hO
    have hfin : ∀ y : Int, y = ((max m x.size : Nat) : Int) → Kept (fun i => Ow i ∨ i = W0.heap.size ∨ i = W0.heap.size + 1) Wb (Wb.setCell ⟨B, 0, none⟩ (.int .i64 y)) ∧ LgI w B s (k + 1) (Wb.setCell ⟨B, 0, none⟩ (.int .i64 y)) := fun y hy => by
      have k2 : Kept (fun i => i ≠ B) Wb (Wb.setCell ⟨B, 0, none⟩ (.int .i64 y)) := (Kept.refl _ Wb).setCell (by simp) _
      refine ⟨k2.mono ?_, ?_, J9.out.trans (k2.below HZ.out (fun i hi => by omega))⟩
      · rintro i (h | rfl | rfl)
        · have := (HO.out i).1 h; omega
        · omega
        · omega
      · rw [HT.out, ← hy]; exact J3.out.set _
    have HF := Lib.hid hfin
    clear i3 i9 hOw hOw' hI hO hfin
    rcases Nat.le_total m x.size with g | g
    · have hmx : max (m : Int) (x.size : Int) = x.size := by omega
      gi_wp2_with fail
      all_goals exact HF.out _ (by omega)
    · have hmx : max (m : Int) (x.size : Int) = m := by omega
      gi_wp2_with fail
      all_goals exact HF.out _ (by omega)
  case hdone =>
    intro Ow W hO hI hK
    obtain ⟨i3, i9⟩ := hI
    rw [List.take_length] at i3
    have e3 := i3.cell
    have f3 := i3.frozen
    have J3 := Lib.hid i3
    have J9 := Lib.hid i9
    clear i3 i9
    have HM : ∃ m, Hid (lgst (recs s) = m) := ⟨_, Lib.hid rfl⟩
    obtain ⟨m, HM⟩ := HM
    rw [HM.out] at e3 J3
    have hK2 : (W.setCell ⟨B, 0, none⟩ (.int .i64 m)).heap[W0.heap.size]? = some (.deferred (some [])) := by
      rw [Below.heap_setCell _ _ _ _ (show W0.heap.size ≠ B by omega)]; exact hK
    have HK2 := Lib.hid hK2
    clear hK hK2
    gi_wp2_with fail
    refine ⟨by simp, .inl ⟨_, _, rfl, run_takeDeferred HK2.out, ?_⟩⟩
    have k1 : Kept (fun i => i ≠ B) W (W.setCell ⟨B, 0, none⟩ (.int .i64 m)) := (Kept.refl _ _).setCell (by simp) _
    have k2 := Kept.putObj (W.setCell ⟨B, 0, none⟩ (.int .i64 m)) W0.heap.size (.deferred none)
    have hc := (box_stays (J3.out.set (.int .i64 m)) k2 (by omega)).cell
    refine ⟨.int .i64 m, by simp [results, Tryd.results36, go_sem, hc], by rw [HM.out], ?_⟩
    rw [HB.out]
    have hz : B ≤ W.heap.size := by have := J3.out.lt; omega
    have kk : Kept (fun i => i ≠ B ∧ i ≠ W0.heap.size) W _ := (k1.mono fun i hi => hi.1).trans (k2.mono fun i hi => hi.2)
    exact J9.out.trans (kk.below hz (fun i hi => ⟨by omega, by omega⟩))
  case hstop => rintro c W h; exact h.elim
end Go.Proofs.YtpkbhihkhnkhnaaDoor
