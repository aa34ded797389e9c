/- chunk.Marks: which marks a text has. -/
import Derived.Test.YtpkbhihkhnkhnaaDoorCtexts
namespace Go.Proofs.YtpkbhihkhnkhnaaDoor
open Go.RowKit Go.Shelf
attribute [local go_sem] Oper.semAt_some
/-- the marks up to a place -/
def mlK (c : CutN) (s : ByteArray) (k : Nat) : List Nat := (List.range (k + 1)).filter fun i => decide (0 < i) && mark c.p c.n c.bi s i
theorem mlK_zero (c : CutN) (s : ByteArray) : mlK c s 0 = [] := by simp [mlK]
theorem mlK_yes {c : CutN} {s : ByteArray} {k : Nat} (h : mark c.p c.n c.bi s (k + 1) = true) : mlK c s (k + 1) = mlK c s k ++ [k + 1] := by
  unfold mlK; rw [List.range_succ, List.filter_append]; simp [h]
theorem mlK_no {c : CutN} {s : ByteArray} {k : Nat} (h : mark c.p c.n c.bi s (k + 1) = false) : mlK c s (k + 1) = mlK c s k := by
  unfold mlK; rw [List.range_succ, List.filter_append]; simp [h]
theorem mlK_len (c : CutN) (s : ByteArray) (k : Nat) : (mlK c s k).length ≤ k := by
  induction k with
  | zero => rw [mlK_zero]; exact Nat.le_refl _
  | succ k ih =>
    rcases h : mark c.p c.n c.bi s (k + 1) with _ | _
    · rw [mlK_no h]; omega
    · rw [mlK_yes h]; simp; omega
def CmI (w : World) (B b7 D : Nat) (c : CutN) (s : ByteArray) (Ow : Nat → Prop) (k : Nat) (W : World) : Prop :=
  (∃ v, Boxed W (B + 1) 32 v ∧ W.ownsRow (D + 2) 3 1 v (mlK c s k).length (icells (mlK c s k)) ∧ ∀ g, v.ownBlock = some g → ¬ Ow g) ∧ PlCap b7 (b7 + 1) c s W ∧ Below B w W
theorem CmI.stays {w : World} {B b7 D k : Nat} {c : CutN} {s : ByteArray} {Ow : Nat → Prop} {W W' : World} {S : Nat → Prop} (h : CmI w B b7 D c s Ow k W) (hk : Kept S W W') (hS : ∀ i, i < D → S i) (hO : ∀ i, D + 2 ≤ i → ¬ Ow i → S i) (h1 : B + 2 ≤ b7) (h2 : b7 + 2 ≤ D) : CmI w B b7 D c s Ow k W' := by
  obtain ⟨⟨v, i3, i4, i5⟩, ⟨i7, i8⟩, i9⟩ := h
  have hz : B ≤ W.heap.size := by have := i3.lt; omega
  exact ⟨⟨v, box_stays i3 hk (hS _ (by omega)), owns_kept i4 hk (fun g hg => hO g (owns_base i4 hg) (i5 g hg)), i5⟩, ⟨i7.stays hk (hS _ (by omega)), box_stays i8 hk (hS _ (by omega))⟩, i9.trans (hk.below hz (fun i hi => hS i (by omega)))⟩
theorem CmI.push {w : World} {B b7 D k N : Nat} {c : CutN} {s : ByteArray} {Ow : Nat → Prop} {Wb w2 : World} {v v' : Value} (h1 : B + 2 ≤ b7) (h2 : b7 + 2 ≤ D) (hO : ∀ i, Ow i → D + 2 ≤ i) (hOw : ∀ i, Ow i → i < Wb.heap.size) (hz : B ≤ Wb.heap.size)
    (J5 : ∀ g, v.ownBlock = some g → ¬ Ow g) (J7 : PlCap b7 (b7 + 1) c s Wb) (J9 : Below B w Wb) (HV : ∀ i, i < D + 2 → v.ownBlock ≠ some i)
    (hk1 : Kept (fun i => v.ownBlock ≠ some i) Wb w2) (G3 : Boxed w2 (B + 1) 32 v) (hown : w2.ownsRow (D + 2) 3 1 v' (N + 1) (icells (mlK c s k) ++ [.int .i64 ((k : Int) + 1)]))
    (hloc : v'.ownBlock = v.ownBlock ∨ v'.ownBlock = some (Wb.heap.size + 1)) (hN : N = (mlK c s k).length) (HK : mlK c s (k + 1) = mlK c s k ++ [k + 1]) :
    Kept (fun i => Ow i ∨ i = D ∨ i = D + 1) Wb (w2.setCell ⟨B + 1, 0, none⟩ v') ∧ CmI w B b7 D c s Ow (k + 1) (w2.setCell ⟨B + 1, 0, none⟩ v') := by
  have k2 : Kept (fun i => i ≠ B + 1) w2 (w2.setCell ⟨B + 1, 0, none⟩ v') := (Kept.refl _ w2).setCell (by simp) _
  have kk := (hk1.mono (S' := fun i => v.ownBlock ≠ some i ∧ i ≠ B + 1) (fun i hi => hi.1)).trans (k2.mono fun i hi => hi.2)
  have low : ∀ i, i < D + 2 → i ≠ B + 1 → (v.ownBlock ≠ some i ∧ i ≠ B + 1) := fun i h g1 => ⟨HV i h, g1⟩
  refine ⟨kk.mono ?_, ⟨v', ?_, ?_, ?_⟩, ⟨J7.1.stays kk (low _ (by omega) (by omega)), box_stays J7.2 kk (low _ (by omega) (by omega))⟩, J9.trans (kk.below hz (fun i hi => low _ (by omega) (by omega)))⟩
  · rintro i (h | rfl | rfl)
    · exact ⟨fun e => J5 i e h, by have := hO i h; omega⟩
    · exact low _ (by omega) (by omega)
    · exact low _ (by omega) (by omega)
  · exact G3.set v'
  · have e1 : (mlK c s (k + 1)).length = N + 1 := by rw [HK, hN]; simp
    have e2 : icells (mlK c s (k + 1)) = icells (mlK c s k) ++ [.int .i64 ((k : Int) + 1)] := by
      rw [HK]; simp [icells]
    rw [e1, e2]
    exact owns_kept hown k2 (fun g hg => by have := owns_base hown hg; omega)
  · intro g hg h
    rcases hloc with e | e
    · exact J5 g (by rw [← e]; exact hg) h
    · rw [e] at hg
      have := hOw g h
      have : Wb.heap.size + 1 = g := by simpa using hg
      omega
set_option maxRecDepth 100000 in
set_option maxHeartbeats 1000000 in
theorem cmarks_no (c : Cut5) (s : ByteArray) (n0 : Nat) (w : World) (hp : c.p < 18446744073709551616) (hN : Needs n0 w) (h : ¬ CMay c) :
    Calls Tryd.prog 26 #[.agg #[.int .u64 c.p, .int .i64 c.n, .int .i64 c.mi, .int .i64 c.ma, .int .i64 c.bi], .string s] w fun e w' => e = .returned (.tuple #[.slice none 0 0, .int .i64 2]) ∧ Below w.heap.size w w' := by
  have C := Lib.hid (fun W (hb : Below w.heap.size w W) => ck_any c n0 W hp (hN.below (hb.mono hN.size)))
  rw [ckE_no h] at C
  obtain ⟨p, n, mi, ma, bi⟩ := c
  simp only at C ⊢
  clear h hN hp
  go_enter Tryd.func26, Tryd.ntmps26
  go_wp2_with fail
  have hb0 : Below w.heap.size w ((w.alloc (.cells #[.int .u64 p, .int .i64 n, .int .i64 mi, .int .i64 ma, .int .i64 bi] 38)).alloc (.cells #[.slice none 0 0] 32)) :=
    ((Below.refl _ _).alloc (Nat.le_refl _) _).alloc (by simp) _
  refine (C.out _ hb0).mono ?_
  rintro e w1 ⟨rfl, hb1⟩
  have z1 := hb1.size
  simp at z1
  have hc : w1.heap[w.heap.size + 1]? = some (.cells #[.slice none 0 0] 32 (0, 0)) := by
    rw [hb1.block _ (by simp)]
    have := World.alloc_heap_new (w.alloc (.cells #[.int .u64 p, .int .i64 n, .int .i64 mi, .int .i64 ma, .int .i64 bi] 38)) (.cells #[.slice none 0 0] 32)
    rwa [World.size_alloc] at this
  obtain ⟨c1, f1⟩ := cell1 hc
  have HB := Lib.hid (hb0.trans (hb1.mono (by simp; omega)))
  clear hb1 hb0 hc C
  go_wp2_with fail
  refine bodyPost_ret (v := .tuple #[.slice none 0 0, .int .i64 2]) (by simp [results, Tryd.results26, go_sem, *]) rfl ⟨rfl, ?_⟩
  exact HB.out.setCell (show w.heap.size ≤ w.heap.size + 1 by omega) _
set_option maxRecDepth 100000 in
set_option maxHeartbeats 2000000 in
theorem cmarks_yes (c : CutN) (s : ByteArray) (n0 : Nat) (w : World) (hm : c.May) (hN : Needs n0 w) (hs : s.size ≤ 4000) :
    Calls Tryd.prog 26 #[.agg #[.int .u64 c.p, .int .i64 c.n, .int .i64 c.mi, .int .i64 c.ma, .int .i64 c.bi], .string s] w fun e w' => ∃ v, e = .returned (.tuple #[v, .int .i64 0]) ∧ w'.ownsRow w.heap.size 3 1 v (mlK c s s.size).length (icells (mlK c s s.size)) ∧ Below w.heap.size w w' := by
  have C := Lib.hid (fun W (hb : Below w.heap.size w W) => ck_any c.five n0 W hm.1 (hN.below (hb.mono hN.size)))
  rw [ckE_yes hm.five] at C
  have C2 := Lib.hid (fun W => places_any c s W)
  have C3 := Lib.hid (fun W0 bc bs => places_seq 8 c s bc bs W0 hm hs)
  simp only [CutN.five] at C
  clear hN
  have hfn : ∀ f, Fence.wide.fn f := fun _ => trivial
  have hdp : Fence.wide.depth.isSome = false := rfl
  refine (callsIn_wide (n := 9)).1 ?_
  refine callsIn_of_wp_marks Tryd.func26 rfl trivial ?_ rfl
  simp only [Tryd.ntmps26, List.size_toArray, List.length_cons, List.length_nil, Nat.reduceAdd, Nat.reduceSub, Array.replicate_succ, Array.replicate_zero, List.push_toArray, List.append_toArray, List.nil_append, List.cons_append]
  gi_wp2_with fail
  have hb0 : Below w.heap.size w ((w.alloc (.cells #[.int .u64 c.p, .int .i64 c.n, .int .i64 c.mi, .int .i64 c.ma, .int .i64 c.bi] 38)).alloc (.cells #[.slice none 0 0] 32)) :=
    ((Below.refl _ _).alloc (Nat.le_refl _) _).alloc (by simp) _
  have q0 : CutB ((w.alloc (.cells #[.int .u64 c.p, .int .i64 c.n, .int .i64 c.mi, .int .i64 c.ma, .int .i64 c.bi] 38)).alloc (.cells #[.slice none 0 0] 32)) w.heap.size c := by
    unfold CutB; rw [Below.heap_alloc _ _ _ (by simp)]; exact World.alloc_heap_new w _
  have q2 : Boxed ((w.alloc (.cells #[.int .u64 c.p, .int .i64 c.n, .int .i64 c.mi, .int .i64 c.ma, .int .i64 c.bi] 38)).alloc (.cells #[.slice none 0 0] 32)) (w.heap.size + 1) 32 (.slice none 0 0) := by
    have := Boxed.new (w.alloc (.cells #[.int .u64 c.p, .int .i64 c.n, .int .i64 c.mi, .int .i64 c.ma, .int .i64 c.bi] 38)) 32 (.slice none 0 0)
    rwa [World.size_alloc] at this
  refine (callsIn_wide.2 (C.out _ hb0)).mono ?_
  rintro e W2 ⟨rfl, hb1⟩
  have z1 := hb1.size
  simp only [World.size_alloc] at z1
  have hk1 : Kept (fun _ => True) _ W2 := Kept.of_below' hb1
  have q0 := q0.stays hk1 trivial
  have q2 := box_stays q2 hk1 trivial
  have B2 := Lib.hid (hb0.trans (hb1.mono (by simp; omega)))
  obtain ⟨d0, d1, d2, d3, d4⟩ := q0.cells
  have Q2 := Lib.hid q2
  clear hb1 hb0 q0 q2 hk1 C
  gi_wp2_with fail
  refine (callsIn_wide.2 (C2.out _)).mono ?_
  rintro e W0 ⟨rfl, p1, p2, p3, hb3⟩
  have hk3 : Kept (fun _ => True) W2 W0 := Kept.of_below' hb3
  have hI0 : ∀ Ow, (∀ i, Ow i → W0.heap.size + 2 ≤ i) → CmI w w.heap.size W2.heap.size W0.heap.size c s Ow 0 W0 := fun Ow hO =>
    ⟨⟨_, box_stays Q2.out hk3 trivial, by rw [mlK_zero]; exact World.ownsRow_nil _ _ _ _, fun g hg => by simp [Value.ownBlock] at hg⟩, ⟨p1, p2⟩, B2.out.trans (hb3.mono (by omega))⟩
  have HI0 := Lib.hid hI0
  clear p1 p2 hb3 hk3 B2 Q2 d0 d1 d2 d3 d4 C2 hI0
  gi_wp2_with fail
  generalize hB : w.heap.size = B at *
  generalize hb7 : W2.heap.size = b7 at *
  have HB := Lib.hid hB
  have h1 : B + 2 ≤ b7 := by omega
  have h2 : b7 + 2 ≤ W0.heap.size := by omega
  clear hB hb7 p3 z1
  refine wpIn_range rfl (by omega) (gf := 63) (lb := #[.pointer (some ⟨b7, 0, none⟩), .pointer (some ⟨b7 + 1, 0, none⟩)]) rfl trivial (enters_of Tryd.func63 (by kernel_rfl) rfl) (fun W1 _ hz => by have := C3.out W1 b7 (b7 + 1); rw [hz] at this; exact this) (fun x => rfl) (fun Ow hO => ⟨fun h => by have := hO _ h; omega, fun h => by have := hO _ h; omega⟩)
    (fun Ow k W => CmI w B b7 W0.heap.size c s Ow k W) (fun _ _ => False)
    ?h0 ?hI ?hIx ?hcap ?hend ?hround ?hdone ?hstop
  case h0 =>
    intro Ow W1 hO hb _
    exact (HI0.out Ow hO).stays (Kept.of_below' (S := fun _ => True) hb) (fun _ _ => trivial) (fun _ _ _ => trivial) h1 h2
  case hI =>
    intro Ow k A C hO hA hK
    exact hA.stays hK (fun i hi => ⟨fun h => by have := hO _ h; omega, by omega⟩) (fun i hi hn => ⟨hn, by omega⟩) h1 h2
  case hIx => rintro c A C h; exact h.elim
  case hcap =>
    rintro Ow k W hO h
    exact h.2.1
  case hend => exact .inl trivial
  case hround =>
    rintro l Ow k W hk hO hOw hI hs
    rw [List.getElem_range]
    gi_wp2_with fail
    refine ⟨trivial, ?_⟩
    rintro Wb hOw' ⟨⟨v, i3, i4, i5⟩, i7, i9⟩ hs2
    have e3 := i3.cell
    have f3 := i3.frozen
    have hk' : k < s.size := by simpa using hk
    have hcl := mlK_len c s k
    have HV := Lib.hid (show ∀ i, i < W0.heap.size + 2 → v.ownBlock ≠ some i from fun i hi h => by have := owns_base i4 h; omega)
    have J3 := Lib.hid i3
    have J5 := Lib.hid i5
    have J7 := Lib.hid i7
    have J9 := Lib.hid i9
    have HOw := Lib.hid hOw'
    have HZ := Lib.hid (show B ≤ Wb.heap.size by have := i3.lt; omega)
    clear i3 i5 i7 i9 hOw hOw' hI
    obtain ⟨i0, hi, hz0, hz1, hz2⟩ := info_parts infoI'
    obtain ⟨N, hNN⟩ : ∃ N, N = (mlK c s k).length := ⟨_, rfl⟩
    obtain ⟨X, hX⟩ : ∃ X, X = icells (mlK c s k) := ⟨_, rfl⟩
    rw [← hNN] at hcl i4
    rw [← hX] at i4
    have HN := Lib.hid hNN
    have HX := Lib.hid hX
    clear hNN hX hm
    cases hmk : mark c.p c.n c.bi s (k + 1)
    · have HK := Lib.hid (mlK_no hmk)
      clear hmk
      gi_wp2_with fail
      refine ⟨Kept.refl _ _, ⟨v, J3.out, ?_, J5.out⟩, J7.out, J9.out⟩
      rw [HK.out, ← HN.out, ← HX.out]; exact i4
    · have HK := Lib.hid (mlK_yes hmk)
      clear hmk
      gi_wp2_with (gi_at_builtin; refine wpListIn_append_own_at _ rfl _ _ 32 rfl (W0.heap.size + 2) 3 i0 (.int .i64 0) 1 8 Tryd.underlying32 hi hz0 hz1 hz2 rfl (by decide) v N X rfl (i4.alloc _) ⟨Wb.heap.size, 0, none⟩ 1 1 [.int .i64 ((k : Int) + 1)] rfl rfl (cell_one_new _ _ _) (ints_oneCell .i64 [(k : Int) + 1]) (by unfold maxLen; omega) (by omega) (by simp; omega) ?_; intro v' w2 hown' hgrow hnil hloc; have hk1 := Lib.hid (((Kept.refl (fun i => v.ownBlock ≠ some i) Wb).alloc _).grown hgrow (fun k hk hne => hne hk)); obtain ⟨p', c', rfl⟩ := owns_form hown'; have G3 := box_stays J3.out hk1.out (HV.out _ (by omega)); have g3 := G3.cell; have gf3 := G3.frozen; have HG3 := Lib.hid G3; clear G3; have HOWN := Lib.hid hown'; have HLOC := Lib.hid hloc; clear hown' hgrow hnil hloc)
      rw [HX.out] at HOWN
      simp only [World.size_alloc] at HLOC
      exact CmI.push h1 h2 hO HOw.out HZ.out J5.out J7.out J9.out HV.out hk1.out HG3.out HOWN.out HLOC.out HN.out HK.out
  case hdone =>
    intro Ow W hO hI hK
    rw [List.length_range] at hI
    obtain ⟨⟨v, i3, i4, i5⟩, i7, i9⟩ := hI
    obtain ⟨p', c', rfl⟩ := owns_form i4
    have e3 := i3.cell
    have f3 := i3.frozen
    have J3 := Lib.hid i3
    have J9 := Lib.hid i9
    have J4 := Lib.hid i4
    clear i3 i4 i5 i7 i9
    have hK2 : (W.setCell ⟨B + 1, 0, none⟩ (.slice p' (mlK c s s.size).length c')).heap[W0.heap.size]? = some (.deferred (some [])) := by
      rw [Below.heap_setCell _ _ _ _ (show W0.heap.size ≠ B + 1 by omega)]; exact hK
    have HK2 := Lib.hid hK2
    clear hK hK2
    gi_wp2_with fail
    refine ⟨by simp, .inl ⟨_, _, rfl, run_takeDeferred HK2.out, ?_⟩⟩
    have k1 : Kept (fun i => i ≠ B + 1) W (W.setCell ⟨B + 1, 0, none⟩ (.slice p' (mlK c s s.size).length c')) := (Kept.refl _ _).setCell (by simp) _
    have k2 := Kept.putObj (W.setCell ⟨B + 1, 0, none⟩ (.slice p' (mlK c s s.size).length c')) W0.heap.size (.deferred none)
    have hc := (box_stays (J3.out.set (.slice p' (mlK c s s.size).length c')) k2 (by omega)).cell
    refine ⟨.tuple #[.slice p' (mlK c s s.size).length c', .int .i64 0], by simp [results, Tryd.results26, go_sem, hc], _, rfl, ?_, ?_⟩
    · rw [HB.out]
      refine owns_mono (owns_kept (S := fun i => i ≠ B + 1 ∧ i ≠ W0.heap.size) J4.out ((k1.mono fun i hi => hi.1).trans (k2.mono fun i hi => hi.2)) (fun g hg => ?_)) (show B ≤ W0.heap.size + 2 by omega)
      have := owns_base J4.out hg
      exact ⟨by omega, by omega⟩
    · rw [HB.out]
      have hz : B ≤ W.heap.size := by have := J3.out.lt; omega
      have kk : Kept (fun i => i ≠ B + 1 ∧ i ≠ W0.heap.size) W _ := (k1.mono fun i hi => hi.1).trans (k2.mono fun i hi => hi.2)
      exact J9.out.trans (kk.below hz (fun i hi => ⟨by omega, by omega⟩))
  case hstop => rintro c W h; exact h.elim
end Go.Proofs.YtpkbhihkhnkhnaaDoor
