/- chunk.Cut by a cutter that may be: the pieces. -/
import Derived.Test.YtpkbhihkhnkhnaaDoorPlaces
import Derived.Test.YtpkbhihkhnkhnaaDoorFresh
import Derived.Maps.OwnIn
namespace Go.Proofs.YtpkbhihkhnkhnaaDoor
open Go.RowKit Go.Shelf
attribute [local go_sem] Oper.semAt_some
theorem CutN.May.five {c : CutN} (h : c.May) : CMay c.five := by
  obtain ⟨m0, m1, m2, m3, m4, m5, m6, m7⟩ := h
  refine ⟨m1, ⟨?_, ?_⟩, ⟨?_, ?_⟩, ⟨?_, ?_⟩⟩ <;> simp only [CutN.five] <;> omega
theorem owns_kept {S : Nat → Prop} {W W' : World} {base n sz : Nat} {e : TypeId} {v : Value} {xs : List Value} (h : W.ownsRow base e sz v n xs) (hk : Kept S W W') (hs : ∀ g, v.ownBlock = some g → S g) : W'.ownsRow base e sz v n xs := by
  obtain ⟨h0, h⟩ := h
  refine ⟨h0, ?_⟩
  rcases h with h | ⟨g, cap, cur, h1, h2, hg, h3⟩
  · exact .inl h
  · exact .inr ⟨g, cap, cur, h1, h2, by rw [hk.block g (Array.getElem?_eq_some_iff.1 hg).1 (hs g (by rw [h1]; rfl))]; exact hg, h3⟩
theorem CutB.stays {S : Nat → Prop} {A B : World} {b : Nat} {c : CutN} (h : CutB A b c) (k : Kept S A B) (hs : S b) : CutB B b c := k.heap h hs
theorem owns_form {w : World} {base : Nat} {e : TypeId} {size : Nat} {v : Value} {n : Nat} {xs : List Value} (h : w.ownsRow base e size v n xs) : ∃ p cap, v = .slice p n cap := by
  rcases h.2 with ⟨rfl, rfl⟩ | ⟨g', cap, cur, rfl, _⟩
  · exact ⟨_, _, rfl⟩
  · exact ⟨_, _, rfl⟩
/-- the cells of a row of pieces -/
def pcells (l : List (Nat × Nat)) : List Value := l.flatMap fun x => [.int .i64 (x.1 : Nat), .int .i64 (x.2 : Nat)]
theorem pcells_snoc (l : List (Nat × Nat)) (x : Nat × Nat) : pcells (l ++ [x]) = pcells l ++ [.int .i64 (x.1 : Nat), .int .i64 (x.2 : Nat)] := by simp [pcells]
theorem pcells_len (l : List (Nat × Nat)) : (pcells l).length = l.length * 2 := by
  induction l with
  | nil => rfl
  | cons x l ih => simp only [pcells, List.flatMap_cons, List.length_append, List.length_cons, List.length_nil] at ih ⊢; omega
theorem infoP : (Tryd.prog.info? 57).map (fun i => (i.zero, i.size, i.bytes)) = some (some (.agg #[.int .i64 0, .int .i64 0]), 2, 16) := by kernel_rfl
/-- all cuts of a text -/
def cutsOf (c : CutN) (s : ByteArray) : List Nat := cl s.size c.mi c.ma (mark c.p c.n c.bi s) s.size
abbrev lcK (c : CutN) (s : ByteArray) (k : Nat) : Nat := lc s.size c.mi c.ma (mark c.p c.n c.bi s) k
abbrev clK (c : CutN) (s : ByteArray) (k : Nat) : List Nat := cl s.size c.mi c.ma (mark c.p c.n c.bi s) k
def CcI (w : World) (B b7 D : Nat) (c : CutN) (s : ByteArray) (Ow : Nat → Prop) (k : Nat) (W : World) : Prop :=
  CutB W B c ∧ Boxed W (B + 1) 9 (.string s) ∧ (∃ v, Boxed W (B + 1 + 1) 46 v ∧ W.ownsRow (D + 2) 57 2 v (clK c s k).length (pcells (pcs (clK c s k))) ∧ ∀ g, v.ownBlock = some g → ¬ Ow g) ∧
  Boxed W b7 3 (.int .i64 (lcK c s k : Nat)) ∧ PlCap (b7 + 1) (b7 + 1 + 1) c s W ∧ Below B w W
theorem CcI.stays {w : World} {B b7 D k : Nat} {c : CutN} {s : ByteArray} {Ow : Nat → Prop} {W W' : World} {S : Nat → Prop} (h : CcI w B b7 D c s Ow k W) (hk : Kept S W W') (hS : ∀ i, i < D → S i) (hO : ∀ i, D + 2 ≤ i → ¬ Ow i → S i) (h1 : B + 3 ≤ b7) (h2 : b7 + 3 ≤ D) : CcI w B b7 D c s Ow k W' := by
  obtain ⟨i1, i2, ⟨v, i3, i4, i5⟩, i6, ⟨i7, i8⟩, i9⟩ := h
  have hz : B ≤ W.heap.size := by have := i1.lt; omega
  exact ⟨i1.stays hk (hS _ (by omega)), box_stays i2 hk (hS _ (by omega)), ⟨v, box_stays i3 hk (hS _ (by omega)), owns_kept i4 hk (fun g hg => hO g (owns_base i4 hg) (i5 g hg)), i5⟩, box_stays i6 hk (hS _ (by omega)), ⟨i7.stays hk (hS _ (by omega)), box_stays i8 hk (hS _ (by omega))⟩, i9.trans (hk.below hz (fun i hi => hS i (by omega)))⟩
theorem CcI.push {w : World} {B b7 D k a N : Nat} {c : CutN} {s : ByteArray} {Ow : Nat → Prop} {Wb w2 : World} {v v' : Value} (h1 : B + 3 ≤ b7) (h2 : b7 + 3 ≤ D) (hO : ∀ i, Ow i → D + 2 ≤ i) (hOw : ∀ i, Ow i → i < Wb.heap.size)
    (J1 : CutB Wb B c) (J2 : Boxed Wb (B + 1) 9 (.string s)) (J5 : ∀ g, v.ownBlock = some g → ¬ Ow g) (J7 : PlCap (b7 + 1) (b7 + 1 + 1) c s Wb) (J9 : Below B w Wb) (HV : ∀ i, i < D + 2 → v.ownBlock ≠ some i)
    (hk1 : Kept (fun i => v.ownBlock ≠ some i) Wb w2) (G3 : Boxed w2 (B + 1 + 1) 46 v) (G6 : Boxed w2 b7 3 (.int .i64 a)) (hown : w2.ownsRow (D + 2) 57 2 v' (N + 1) (pcells (pcs (clK c s k)) ++ [.int .i64 a, .int .i64 ((k : Int) + 1 - a)]))
    (hloc : v'.ownBlock = v.ownBlock ∨ v'.ownBlock = some (Wb.heap.size + 1)) (ha : a = lcK c s k) (hN : N = (clK c s k).length) (HK : clK c s (k + 1) = clK c s k ++ [k + 1]) (HK2 : lcK c s (k + 1) = k + 1) (hlk : a ≤ k) :
    Kept (fun i => Ow i ∨ i = D ∨ i = D + 1) Wb ((w2.setCell ⟨B + 1 + 1, 0, none⟩ v').setCell ⟨b7, 0, none⟩ (.int .i64 ((k : Int) + 1))) ∧ CcI w B b7 D c s Ow (k + 1) ((w2.setCell ⟨B + 1 + 1, 0, none⟩ v').setCell ⟨b7, 0, none⟩ (.int .i64 ((k : Int) + 1))) := by
  have k2 : Kept (fun i => i ≠ B + 1 + 1 ∧ i ≠ b7) w2 ((w2.setCell ⟨B + 1 + 1, 0, none⟩ v').setCell ⟨b7, 0, none⟩ (.int .i64 ((k : Int) + 1))) := ((Kept.refl _ w2).setCell (by simp) _).setCell (by simp) _
  have kk := (hk1.mono (S' := fun i => v.ownBlock ≠ some i ∧ i ≠ B + 1 + 1 ∧ i ≠ b7) (fun i hi => hi.1)).trans (k2.mono fun i hi => hi.2)
  have hz : B ≤ Wb.heap.size := by have := J1.lt; omega
  have low : ∀ i, i < D + 2 → i ≠ B + 1 + 1 → i ≠ b7 → (v.ownBlock ≠ some i ∧ i ≠ B + 1 + 1 ∧ i ≠ b7) := fun i h g1 g2 => ⟨HV i h, g1, g2⟩
  refine ⟨kk.mono ?_, J1.stays kk (low _ (by omega) (by omega) (by omega)), box_stays J2 kk (low _ (by omega) (by omega) (by omega)), ⟨v', ?_, ?_, ?_⟩, ?_, ⟨J7.1.stays kk (low _ (by omega) (by omega) (by omega)), box_stays J7.2 kk (low _ (by omega) (by omega) (by omega))⟩, J9.trans (kk.below hz (fun i hi => low _ (by omega) (by omega) (by omega)))⟩
  · rintro i (h | rfl | rfl)
    · exact ⟨fun e => J5 i e h, by have := hO i h; omega, by have := hO i h; omega⟩
    · exact low _ (by omega) (by omega) (by omega)
    · exact low _ (by omega) (by omega) (by omega)
  · exact box_stays (G3.set v') (((Kept.refl (fun i => i ≠ b7) _).setCell (p := ⟨b7, 0, none⟩) (by simp) _)) (by omega)
  · have e1 : (clK c s (k + 1)).length = N + 1 := by rw [HK, hN]; simp
    have e2 : pcells (pcs (clK c s (k + 1))) = pcells (pcs (clK c s k)) ++ [.int .i64 a, .int .i64 ((k : Int) + 1 - a)] := by
      rw [HK, pcs_snoc, pcells_snoc, show (clK c s k).getLastD 0 = lcK c s k from lc_last k, ← ha]
      congr 4
      omega
    rw [e1, e2]
    exact owns_kept hown k2 (fun g hg => by have := owns_base hown hg; omega)
  · intro g hg h
    rcases hloc with e | e
    · exact J5 g (by rw [← e]; exact hg) h
    · rw [e] at hg
      have := hOw g h
      have : Wb.heap.size + 1 = g := by simpa using hg
      omega
  · rw [HK2]
    have := (box_stays G6 ((Kept.refl (fun i => i ≠ B + 1 + 1) w2).setCell (p := ⟨B + 1 + 1, 0, none⟩) (by simp) v') (by omega)).set (.int .i64 ((k : Int) + 1))
    exact this
set_option maxRecDepth 100000 in
set_option maxHeartbeats 2000000 in
theorem ccut_yes (c : CutN) (s : ByteArray) (n0 : Nat) (w : World) (hm : c.May) (hN : Needs n0 w) (hs : s.size ≤ 4000) :
    Calls Tryd.prog 27 #[.agg #[.int .u64 c.p, .int .i64 c.n, .int .i64 c.mi, .int .i64 c.ma, .int .i64 c.bi], .string s] w fun e w' => ∃ v, e = .returned (.tuple #[v, .int .i64 0]) ∧ w'.ownsRow w.heap.size 57 2 v (cutsOf c s).length (pcells (pcs (cutsOf c s))) ∧ Below w.heap.size w w' := by
  have hfive : CMay c.five := hm.five
  have C := Lib.hid (fun W (hb : Below w.heap.size w W) => ck_any c.five n0 W hm.1 (hN.below (hb.mono hN.size)))
  rw [ckE_yes hfive] at C
  have C2 := Lib.hid (fun W => places_any c s W)
  have C3 := Lib.hid (fun W0 bc bs => places_seq 8 c s bc bs W0 hm hs)
  have HI := Lib.hid (show cutsOf c s = clK c s s.size from rfl)
  simp only [CutN.five] at C
  clear hN hfive
  have hfn : ∀ f, Fence.wide.fn f := fun _ => trivial
  have hdp : Fence.wide.depth.isSome = false := rfl
  refine (callsIn_wide (n := 9)).1 ?_
  refine callsIn_of_wp_marks Tryd.func27 rfl trivial ?_ rfl
  simp only [Tryd.ntmps27, List.size_toArray, List.length_cons, List.length_nil, Nat.reduceAdd, Nat.reduceSub, Array.replicate_succ, Array.replicate_zero, List.push_toArray, List.append_toArray, List.nil_append, List.cons_append]
  gi_wp2_with fail
  refine wpIn_wide.2 (wp_scope_straight ((wpIn_wide (n := 9)).1 ?_))
  gi_wp2_with fail
  have hb0 : Below w.heap.size w (((w.alloc (.cells #[.int .u64 c.p, .int .i64 c.n, .int .i64 c.mi, .int .i64 c.ma, .int .i64 c.bi] 38)).alloc (.cells #[.string s] 9)).alloc (.cells #[.slice none 0 0] 46)) :=
    (((Below.refl _ _).alloc (Nat.le_refl _) _).alloc (by simp) _).alloc (by simp; omega) _
  have q0 : CutB (((w.alloc (.cells #[.int .u64 c.p, .int .i64 c.n, .int .i64 c.mi, .int .i64 c.ma, .int .i64 c.bi] 38)).alloc (.cells #[.string s] 9)).alloc (.cells #[.slice none 0 0] 46)) w.heap.size c := by
    unfold CutB; rw [Below.heap_alloc _ _ _ (by simp; omega), Below.heap_alloc _ _ _ (by simp)]; exact World.alloc_heap_new w _
  have q1 : Boxed (((w.alloc (.cells #[.int .u64 c.p, .int .i64 c.n, .int .i64 c.mi, .int .i64 c.ma, .int .i64 c.bi] 38)).alloc (.cells #[.string s] 9)).alloc (.cells #[.slice none 0 0] 46)) (w.heap.size + 1) 9 (.string s) := by
    have := Boxed.new (w.alloc (.cells #[.int .u64 c.p, .int .i64 c.n, .int .i64 c.mi, .int .i64 c.ma, .int .i64 c.bi] 38)) 9 (.string s)
    rw [World.size_alloc] at this
    exact this.alloc _
  have q2 : Boxed (((w.alloc (.cells #[.int .u64 c.p, .int .i64 c.n, .int .i64 c.mi, .int .i64 c.ma, .int .i64 c.bi] 38)).alloc (.cells #[.string s] 9)).alloc (.cells #[.slice none 0 0] 46)) (w.heap.size + 1 + 1) 46 (.slice none 0 0) := by
    have := Boxed.new ((w.alloc (.cells #[.int .u64 c.p, .int .i64 c.n, .int .i64 c.mi, .int .i64 c.ma, .int .i64 c.bi] 38)).alloc (.cells #[.string s] 9)) 46 (.slice none 0 0)
    rwa [World.size_alloc, World.size_alloc] at this
  refine (callsIn_wide.2 (C.out _ hb0)).mono ?_
  rintro e w1 ⟨rfl, hb1⟩
  have z1 := hb1.size
  simp only [World.size_alloc] at z1
  have hk1 : Kept (fun _ => True) _ w1 := Kept.of_below' hb1
  have q0 := q0.stays hk1 trivial
  have q1 := box_stays q1 hk1 trivial
  have q2 := box_stays q2 hk1 trivial
  have B1 := Lib.hid (hb0.trans (hb1.mono (by simp; omega)))
  obtain ⟨d0, d1, d2, d3, d4⟩ := q0.cells
  have d5 := q1.cell
  have Q0 := Lib.hid q0
  have Q1 := Lib.hid q1
  have Q2 := Lib.hid q2
  clear hb1 hb0 q0 q1 q2 hk1 C
  gi_wp2_with fail
  refine wpIn_label ?_
  obtain ⟨W2, hW2⟩ : ∃ W2, W2 = w1.alloc (.cells #[.int .i64 0] 3) := ⟨_, rfl⟩
  have z2 : W2.heap.size = w1.heap.size + 1 := by rw [hW2]; simp
  have hk2 : Kept (fun _ => True) w1 W2 := by rw [hW2]; exact (Kept.refl _ _).alloc _
  have q3 : Boxed W2 w1.heap.size 3 (.int .i64 0) := by rw [hW2]; exact Boxed.new _ _ _
  have q0 := Q0.out.stays hk2 trivial
  have q1 := box_stays Q1.out hk2 trivial
  have q2 := box_stays Q2.out hk2 trivial
  have B2 := Lib.hid (B1.out.trans (hk2.below (by omega) (fun _ _ => trivial)))
  rw [← hW2]
  obtain ⟨d0, d1, d2, d3, d4⟩ := q0.cells
  have d5 := q1.cell
  have Q0 := Lib.hid q0
  have Q1 := Lib.hid q1
  have Q2 := Lib.hid q2
  have Q3 := Lib.hid q3
  clear hW2 q0 q1 q2 q3 hk2 B1
  gi_wp2_with fail
  refine (callsIn_wide.2 (C2.out _)).mono ?_
  rintro e W0 ⟨rfl, p1, p2, p3, hb3⟩
  have hk3 : Kept (fun _ => True) W2 W0 := Kept.of_below' hb3
  rw [z2] at p1 p2 p3 ⊢
  have hI0 : ∀ Ow, (∀ i, Ow i → W0.heap.size + 2 ≤ i) → CcI w w.heap.size w1.heap.size W0.heap.size c s Ow 0 W0 := fun Ow hO =>
    ⟨Q0.out.stays hk3 trivial, box_stays Q1.out hk3 trivial, ⟨_, box_stays Q2.out hk3 trivial, by rw [show clK c s 0 = [] from cl_zero, pcs_nil]; exact World.ownsRow_nil _ _ _ _, fun g hg => by simp [Value.ownBlock] at hg⟩, box_stays Q3.out hk3 trivial, ⟨p1, p2⟩, B2.out.trans (hb3.mono (by omega))⟩
  have HI0 := Lib.hid hI0
  clear p1 p2 hb3 hk3 B2 Q0 Q1 Q2 Q3 d0 d1 d2 d3 d4 d5 C2 hI0
  gi_wp2_with fail
  generalize hB : w.heap.size = B at *
  generalize hb7 : w1.heap.size = b7 at *
  have HB := Lib.hid hB
  have h1 : B + 3 ≤ b7 := by omega
  have h2 : b7 + 3 ≤ W0.heap.size := by omega
  clear hB hb7 p3 z2 z1
  refine wpIn_range rfl (by omega) (gf := 63) (lb := #[.pointer (some ⟨b7 + 1, 0, none⟩), .pointer (some ⟨b7 + 1 + 1, 0, none⟩)]) rfl trivial (enters_of Tryd.func63 (by kernel_rfl) rfl) (fun W1 _ hz => by have := C3.out W1 (b7 + 1) (b7 + 1 + 1); rw [hz] at this; exact this) (fun x => rfl) (fun Ow hO => ⟨fun h => by have := hO _ h; omega, fun h => by have := hO _ h; omega⟩)
    (fun Ow k W => CcI w B b7 W0.heap.size c s Ow k W) (fun _ _ => False)
    ?h0 ?hI ?hIx ?hcap ?hend ?hround ?hdone ?hstop
  case h0 =>
    intro Ow W1 hO hb _
    exact (HI0.out Ow hO).stays (Kept.of_below' (S := fun _ => True) hb) (fun _ _ => trivial) (fun _ _ _ => trivial) h1 h2
  case hI =>
    intro Ow k A C hO hA hK
    exact hA.stays hK (fun i hi => ⟨fun h => by have := hO _ h; omega, by omega⟩) (fun i hi hn => ⟨hn, by omega⟩) h1 h2
  case hIx => rintro c A C h; exact h.elim
  case hcap =>
    rintro Ow k W hO h
    exact h.2.2.2.2.1
  case hend => exact .inl trivial
  case hround =>
    rintro l Ow k W hk hO hOw hI hs
    rw [List.getElem_range]
    gi_wp2_with fail
    refine ⟨trivial, ?_⟩
    rintro Wb hOw' ⟨i1, i2, ⟨v, i3, i4, i5⟩, i6, i7, i9⟩ hs2
    obtain ⟨d0, d1, d2, d3, d4⟩ := i1.cells
    have e2 := i2.cell
    have e3 := i3.cell
    have f3 := i3.frozen
    have e6 := i6.cell
    have f6 := i6.frozen
    have hk' : k < s.size := by simpa using hk
    have hcl : (clK c s k).length ≤ k := cl_len k
    have hlk : lcK c s k ≤ k := lc_le k
    have HQ := Lib.hid (show isC s.size c.mi c.ma (mark c.p c.n c.bi s) (k + 1) = (decide (k + 1 = s.size) || decide (c.ma ≤ k + 1 - lcK c s k) || (decide (c.mi ≤ k + 1 - lcK c s k) && mark c.p c.n c.bi s (k + 1))) from isC_succ k)
    have HL := Lib.hid (show (clK c s k).getLastD 0 = lcK c s k from lc_last k)
    have KL := Lib.hid (show isC s.size c.mi c.ma (mark c.p c.n c.bi s) (k + 1) = true → lcK c s (k + 1) = k + 1 from lc_yes)
    have KC := Lib.hid (show isC s.size c.mi c.ma (mark c.p c.n c.bi s) (k + 1) = true → clK c s (k + 1) = clK c s k ++ [k + 1] from cl_yes)
    have NL := Lib.hid (show isC s.size c.mi c.ma (mark c.p c.n c.bi s) (k + 1) = false → lcK c s (k + 1) = lcK c s k from lc_no)
    have NC := Lib.hid (show isC s.size c.mi c.ma (mark c.p c.n c.bi s) (k + 1) = false → clK c s (k + 1) = clK c s k from cl_no)
    have HV := Lib.hid (show ∀ i, i < W0.heap.size + 2 → v.ownBlock ≠ some i from fun i hi h => by have := owns_base i4 h; omega)
    have J1 := Lib.hid i1
    have J2 := Lib.hid i2
    have J3 := Lib.hid i3
    have J5 := Lib.hid i5
    have J6 := Lib.hid i6
    have J7 := Lib.hid i7
    have J9 := Lib.hid i9
    have HOw := Lib.hid hOw'
    clear i1 i2 i3 i5 i6 i7 i9 hOw hOw' hI
    obtain ⟨i0, hi, hz0, hz1, hz2⟩ := info_parts infoP
    obtain ⟨m0, m1, m2, m3, m4, m5, m6, m7⟩ := hm
    generalize mark c.p c.n c.bi s (k + 1) = mk at *
    obtain ⟨a, ha⟩ : ∃ a, a = lcK c s k := ⟨_, rfl⟩
    obtain ⟨N, hNN⟩ : ∃ N, N = (clK c s k).length := ⟨_, rfl⟩
    obtain ⟨X, hX⟩ : ∃ X, X = pcells (pcs (clK c s k)) := ⟨_, rfl⟩
    rw [← ha] at HQ HL hlk e6 J6
    rw [← hNN] at hcl i4
    rw [← hX] at i4
    have HA := Lib.hid ha
    have HN := Lib.hid hNN
    have HX := Lib.hid hX
    clear ha hNN hX
    have hcase : (isC s.size c.mi c.ma (mark c.p c.n c.bi s) (k + 1) = true ∧ (k + 1 = s.size ∨ (k + 1 < s.size ∧ c.ma ≤ k + 1 - a) ∨ (k + 1 < s.size ∧ k + 1 - a < c.ma ∧ c.mi ≤ k + 1 - a ∧ mk = true))) ∨
        (isC s.size c.mi c.ma (mark c.p c.n c.bi s) (k + 1) = false ∧ (k + 1 < s.size ∧ k + 1 - a < c.ma ∧ (k + 1 - a < c.mi ∨ (c.mi ≤ k + 1 - a ∧ mk = false)))) := by
      rw [HQ.out]
      by_cases t1 : k + 1 = s.size
      · left; simp [t1]
      · by_cases t2 : c.ma ≤ k + 1 - a
        · left; simp only [t1, t2]; simp; omega
        · by_cases t3 : c.mi ≤ k + 1 - a
          · cases mk
            · right; simp only [t1, t2, t3]; simp; omega
            · left; simp only [t1, t2, t3]; simp; omega
          · right; simp only [t1, t2, t3]; simp; omega
    clear HQ
    rcases hcase with ⟨hc, hw⟩ | ⟨hc, g1, g2, hw⟩
    · have HK := Lib.hid (KC.out hc)
      have HK2 := Lib.hid (KL.out hc)
      clear hc KC KL NC NL
      rcases hw with g | ⟨g, g1⟩ | ⟨g, g1, g2, rfl⟩
      all_goals
        gi_wp2_with (gi_at_builtin; refine wpListIn_append_own_at _ rfl _ _ 46 rfl (W0.heap.size + 2) 57 i0 (.agg #[.int .i64 0, .int .i64 0]) 2 16 Tryd.underlying46 hi hz0 hz1 hz2 rfl (by decide) v N X rfl (i4.alloc _) ⟨Wb.heap.size, 0, none⟩ 1 1 [.int .i64 a, .int .i64 ((k : Int) + 1 - a)] rfl rfl (cell_two_new _ _ _ _) (ints_oneCell .i64 [(a : Int), (k : Int) + 1 - a]) (by unfold maxLen; omega) (by omega) (by simp; omega) ?_; intro v' w2 hown' hgrow hnil hloc; have hk1 := Lib.hid (((Kept.refl (fun i => v.ownBlock ≠ some i) Wb).alloc _).grown hgrow (fun k hk hne => hne hk)); obtain ⟨p', c', rfl⟩ := owns_form hown'; have G3 := box_stays J3.out hk1.out (HV.out _ (by omega)); have g3 := G3.cell; have gf3 := G3.frozen; have G6 := box_stays J6.out hk1.out (HV.out _ (by omega)); have g6 := G6.cell; have gf6 := G6.frozen; have HG3 := Lib.hid G3; have HG6 := Lib.hid G6; clear G3 G6; have HOWN := Lib.hid hown'; have HLOC := Lib.hid hloc; clear hown' hgrow hnil hloc)
        rw [HX.out] at HOWN
        simp only [World.size_alloc] at HLOC
        exact CcI.push h1 h2 hO HOw.out J1.out J2.out J5.out J7.out J9.out HV.out hk1.out HG3.out HG6.out HOWN.out HLOC.out HA.out HN.out HK.out HK2.out hlk
    · have HK := Lib.hid (NC.out hc)
      have HK2 := Lib.hid (NL.out hc)
      clear hc KC KL NC NL
      have hfin : CcI w B b7 W0.heap.size c s Ow (k + 1) Wb := by
        refine ⟨J1.out, J2.out, ⟨v, J3.out, ?_, J5.out⟩, ?_, J7.out, J9.out⟩
        · rw [HK.out, ← HN.out, ← HX.out]; exact i4
        · rw [HK2.out, ← HA.out]; exact J6.out
      have HF := Lib.hid hfin
      clear hfin
      rcases hw with g3 | ⟨g3, rfl⟩
      all_goals
        gi_wp2_with fail
        exact ⟨Kept.refl _ _, HF.out⟩
  case hdone =>
    intro Ow W hO hI hK
    rw [List.length_range] at hI
    obtain ⟨i1, i2, ⟨v, i3, i4, i5⟩, i6, i7, i9⟩ := hI
    obtain ⟨p', c', rfl⟩ := owns_form i4
    have e3 := i3.cell
    have f3 := i3.frozen
    have J3 := Lib.hid i3
    have J9 := Lib.hid i9
    have J4 := Lib.hid i4
    clear i1 i2 i3 i4 i5 i6 i7 i9
    have hK2 : (W.setCell ⟨B + 1 + 1, 0, none⟩ (.slice p' (clK c s s.size).length c')).heap[W0.heap.size]? = some (.deferred (some [])) := by
      rw [Below.heap_setCell _ _ _ _ (show W0.heap.size ≠ B + 1 + 1 by omega)]; exact hK
    have HK2 := Lib.hid hK2
    clear hK hK2
    gi_wp2_with fail
    rw [Exit.noGoto_ret]
    refine ⟨by simp, .inl ⟨_, _, rfl, run_takeDeferred HK2.out, ?_⟩⟩
    have k1 : Kept (fun i => i ≠ B + 1 + 1) W (W.setCell ⟨B + 1 + 1, 0, none⟩ (.slice p' (clK c s s.size).length c')) := (Kept.refl _ _).setCell (by simp) _
    have k2 := Kept.putObj (W.setCell ⟨B + 1 + 1, 0, none⟩ (.slice p' (clK c s s.size).length c')) W0.heap.size (.deferred none)
    have hc := (box_stays (J3.out.set (.slice p' (clK c s s.size).length c')) k2 (by omega)).cell
    refine ⟨.tuple #[.slice p' (clK c s s.size).length c', .int .i64 0], by simp [results, Tryd.results27, go_sem, hc], _, rfl, ?_, ?_⟩
    · rw [HI.out, HB.out]
      refine owns_mono (owns_kept (S := fun i => i ≠ B + 1 + 1 ∧ i ≠ W0.heap.size) J4.out ((k1.mono fun i hi => hi.1).trans (k2.mono fun i hi => hi.2)) (fun g hg => ?_)) (show B ≤ W0.heap.size + 2 by omega)
      have := owns_base J4.out hg
      exact ⟨by omega, by omega⟩
    · rw [HB.out]
      have hz : B ≤ W.heap.size := by have := J3.out.lt; omega
      have kk : Kept (fun i => i ≠ B + 1 + 1 ∧ i ≠ W0.heap.size) W _ := (k1.mono fun i hi => hi.1).trans (k2.mono fun i hi => hi.2)
      exact J9.out.trans (kk.below hz (fun i hi => ⟨by omega, by omega⟩))
  case hstop => rintro c W h; exact h.elim
end Go.Proofs.YtpkbhihkhnkhnaaDoor
