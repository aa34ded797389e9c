/- lines.Cut by a cutter that may be: the aligned pieces; lines.Texts. -/
import Derived.Test.YtpkbhihkhnkhnaaDoorLines
namespace Go.Proofs.YtpkbhihkhnkhnaaDoor
open Go.RowKit
/-- what lines.Cut keeps: the last aligned cut, and the pieces -/
def LcSt (W : World) (ba bl base : Nat) (cs : List Nat) : Prop :=
  Boxed W ba 3 (.int .i64 (cs.getLastD 0 : Nat)) ∧ ∃ v, Boxed W bl 46 v ∧ W.ownsRow base 57 2 v cs.length (pcells (pcs cs))
set_option maxRecDepth 100000 in
set_option maxHeartbeats 1000000 in
theorem put_any (cs : List Nat) (n ba bl base : Nat) (w : World) (h : LcSt w ba bl base cs) (h1 : ba < base) (h2 : bl < base) (h3 : ba ≠ bl) (hb : base ≤ w.heap.size) (hl : cs.length ≤ 100000) (hn : n ≤ 100000) (hla : cs.getLastD 0 ≤ 100000) :
    Calls Tryd.prog 69 #[.int .i64 n, .pointer (some ⟨ba, 0, none⟩), .pointer (some ⟨bl, 0, none⟩)] w fun e w' => (∃ v, e = .returned v) ∧ LcSt w' ba bl base (if cs.getLastD 0 < n then cs ++ [n] else cs) ∧ Kept (fun i => i < base ∧ i ≠ ba ∧ i ≠ bl) w w' := by
  obtain ⟨i1, v, i3, i4⟩ := h
  have HE := Lib.hid (fun (h : cs.getLastD 0 < n) => show pcells (pcs (cs ++ [n])) = pcells (pcs cs) ++ [.int .i64 (cs.getLastD 0 : Nat), .int .i64 ((n : Int) - (cs.getLastD 0 : Nat))] by
    rw [pcs_snoc, pcells_snoc]; congr 4; omega)
  have hA : ∃ a X N, Hid (cs.getLastD 0 = a) ∧ Hid (pcells (pcs cs) = X) ∧ Hid (cs.length = N) := ⟨_, _, _, Lib.hid rfl, Lib.hid rfl, Lib.hid rfl⟩
  obtain ⟨a, X, N, HA, HX, HN⟩ := hA
  rw [HA.out] at i1 hla HE ⊢
  rw [HX.out] at i4 HE
  rw [HN.out] at i4 hl
  have e1 := i1.cell
  have f1 := i1.frozen
  have e3 := i3.cell
  have f3 := i3.frozen
  have J1 := Lib.hid i1
  have J3 := Lib.hid i3
  obtain ⟨i0, hi, hz0, hz1, hz2⟩ := info_parts infoP
  by_cases hlt : a < n
  · rw [if_pos hlt]
    have HV := Lib.hid (show ∀ i, i < base → v.ownBlock ≠ some i from fun i hi h => by have := owns_base i4 h; omega)
    have HE2 := Lib.hid (HE.out hlt)
    clear i1 i3 HE
    go_enter Tryd.func69, Tryd.ntmps69
    go_wp2_with (first
      | (at_builtin; refine wpList_append_own_at _ rfl _ _ 46 rfl base 57 i0 (.agg #[.int .i64 0, .int .i64 0]) 2 16 Tryd.underlying46 hi hz0 hz1 hz2 rfl (by decide) v N X rfl (i4.alloc _) ⟨w.heap.size, 0, none⟩ 1 1 [.int .i64 (a : Nat), .int .i64 ((n : Int) - a)] rfl rfl (cell_two_new _ _ _ _) (ints_oneCell .i64 [(a : Int), (n : Int) - a]) (by unfold maxLen; omega) (by omega) (by simp; omega) ?_; intro v' w2 hown' hgrow hnil hloc; have hk1 := Lib.hid (((Kept.refl (fun i => v.ownBlock ≠ some i) w).alloc _).grown hgrow (fun k hk hne => hne hk)); obtain ⟨p', c', rfl⟩ := owns_form hown'; have G3 := box_stays J3.out hk1.out (HV.out _ (by omega)); have g3 := G3.cell; have gf3 := G3.frozen; have G1 := box_stays J1.out hk1.out (HV.out _ (by omega)); have g1 := G1.cell; have gf1 := G1.frozen; have HG3 := Lib.hid G3; have HG1 := Lib.hid G1; clear G3 G1; have HOWN := Lib.hid hown'; clear hown' hgrow hnil hloc)
      | fail)
    have k2 : Kept (fun i => i ≠ bl ∧ i ≠ ba) w2 ((w2.setCell ⟨bl, 0, none⟩ (.slice p' (N + 1) c')).setCell ⟨ba, 0, none⟩ (.int .i64 n)) := ((Kept.refl _ w2).setCell (by simp) _).setCell (by simp) _
    refine bodyPost_end (results_none rfl _ _ _) rfl ⟨⟨_, rfl⟩, ⟨?_, .slice p' (N + 1) c', ?_, ?_⟩, ?_⟩
    · rw [List.getLastD_concat]
      exact (box_stays HG1.out ((Kept.refl (fun i => i ≠ bl) w2).setCell (p := ⟨bl, 0, none⟩) (by simp) _) h3).set _
    · exact box_stays (HG3.out.set _) ((Kept.refl (fun i => i ≠ ba) _).setCell (p := ⟨ba, 0, none⟩) (by simp) _) (Ne.symm h3)
    · rw [HE2.out, List.length_append, HN.out]
      exact owns_kept HOWN.out k2 (fun g hg => by have := owns_base HOWN.out hg; omega)
    · exact (hk1.out.mono fun i hi => HV.out i hi.1).trans (k2.mono fun i hi => ⟨hi.2.2, hi.2.1⟩)
  · rw [if_neg hlt]
    have HI4 := Lib.hid i4
    clear i1 i3 HE i4
    go_enter Tryd.func69, Tryd.ntmps69
    go_wp2_with fail
    refine bodyPost_end (results_none rfl _ _ _) rfl ⟨⟨_, rfl⟩, ⟨?_, v, J3.out, ?_⟩, Kept.refl _ _⟩
    · rw [HA.out]; exact J1.out
    · rw [HX.out, HN.out]; exact HI4.out
/-- the aligned cuts of a text -/
def acsOf (c : CutN) (s : ByteArray) : List Nat := ac s.data.toList (cutsOf c s)
theorem acsOf_cutting (c : CutN) (s : ByteArray) : Cutting s.size (acsOf c s) := by
  have h := cutsOf_cutting c s
  rw [ba_size] at h
  have := ac_cutting h
  rwa [← ba_size] at this
theorem acsOf_len (c : CutN) (s : ByteArray) : (acsOf c s).length ≤ s.size := Nat.le_trans (ac_len _ _) (cutsOf_len c s)
theorem ac_last (l : List UInt8) (cs : List Nat) : (ac l cs).getLastD 0 ≤ l.length := by
  rcases (ac l cs).eq_nil_or_concat with h | ⟨l', x, h⟩
  · rw [h]; exact Nat.zero_le _
  · have hx : x ∈ ac l cs := by rw [h]; simp
    rw [h]
    simp only [List.concat_eq_append, List.getLastD_concat]
    have key : ∀ (ds : List Nat) y, y ∈ ac l ds → y ≤ l.length := by
      intro ds
      induction ds using snoc_ind with
      | h0 => intro y hy; simp [ac_nil] at hy
      | h1 ds d ih =>
        intro y hy
        rw [ac_snoc] at hy
        split at hy
        · rw [List.mem_append, List.mem_singleton] at hy
          rcases hy with hy | rfl
          · exact ih y hy
          · exact al_le _ _
        · exact ih y hy
    exact key cs x hx
set_option maxRecDepth 100000 in
set_option maxHeartbeats 1000000 in
theorem lcut_yes (c : CutN) (s : ByteArray) (n0 : Nat) (w : World) (hm : c.May) (hN : Needs n0 w) (hs : s.size ≤ 4000) :
    Calls Tryd.prog 53 #[.agg #[.int .u64 c.p, .int .i64 c.n, .int .i64 c.mi, .int .i64 c.ma, .int .i64 c.bi], .string s] w fun e w' => ∃ v, e = .returned (.tuple #[v, .int .i64 0]) ∧ w'.ownsRow w.heap.size 57 2 v (acsOf c s).length (pcells (pcs (acsOf c s))) ∧ Below w.heap.size w w' := by
  have C := Lib.hid (fun W (hb : Below w.heap.size w W) => ccut_yes c s n0 W hm (hN.below (hb.mono hN.size)) hs)
  have C2 := Lib.hid (fun (k : Nat) W => align_any s k W hs)
  simp only [Int.toNat_natCast] at C2
  have hcu := cutsOf_cutting c s
  have hle := cutsOf_len c s
  have HI := Lib.hid (show acsOf c s = ac s.data.toList (cutsOf c s) from rfl)
  have HAL := Lib.hid (fun k => show al s.data.toList k ≤ s.size by have := al_le s.data.toList k; rwa [← ba_size] at this)
  have HLA := Lib.hid (fun cs => show (ac s.data.toList cs).getLastD 0 ≤ s.size by have := ac_last s.data.toList cs; rwa [← ba_size] at this)
  clear hN hm
  generalize cutsOf c s = cs at *
  generalize s.data.toList = l at *
  have HC := Lib.hid hcu
  clear hcu
  go_enter Tryd.func53, Tryd.ntmps53
  go_wp2_with fail
  have hb0 : Below w.heap.size w ((w.alloc (.cells #[.int .u64 c.p, .int .i64 c.n, .int .i64 c.mi, .int .i64 c.ma, .int .i64 c.bi] 38)).alloc (.cells #[.slice none 0 0] 46)) :=
    ((Below.refl _ _).alloc (Nat.le_refl _) _).alloc (by simp) _
  have q2 : Boxed ((w.alloc (.cells #[.int .u64 c.p, .int .i64 c.n, .int .i64 c.mi, .int .i64 c.ma, .int .i64 c.bi] 38)).alloc (.cells #[.slice none 0 0] 46)) (w.heap.size + 1) 46 (.slice none 0 0) := by
    have := Boxed.new (w.alloc (.cells #[.int .u64 c.p, .int .i64 c.n, .int .i64 c.mi, .int .i64 c.ma, .int .i64 c.bi] 38)) 46 (.slice none 0 0)
    rwa [World.size_alloc] at this
  refine (C.out _ hb0).mono ?_
  rintro e w1 ⟨v, rfl, hown, hb1⟩
  have z1 := hb1.size
  simp at z1
  have Q2 := Lib.hid (box_stays q2 (Kept.of_below' (S := fun _ => True) hb1) trivial)
  have HB := Lib.hid (hb0.trans (hb1.mono (by simp; omega)))
  obtain ⟨-, p, cap, rfl, hrow⟩ := row_of_owns hown
  have HR := Lib.hid hrow
  have HOB := Lib.hid (fun b off (h : p = some ⟨b, off, none⟩) => show w.heap.size + 2 ≤ b by
    have := owns_base hown (g := b) (by rw [h]; rfl)
    simpa using this)
  clear hb1 hb0 C hrow hown q2
  go_wp2_with fail
  obtain ⟨W2, hW2⟩ : ∃ W2, W2 = w1.alloc (.cells #[.int .i64 0] 3) := ⟨_, rfl⟩
  have z2 : W2.heap.size = w1.heap.size + 1 := by rw [hW2]; simp
  have hk2 : Kept (fun _ => True) w1 W2 := by rw [hW2]; exact (Kept.refl _ _).alloc _
  have hst : LcSt W2 w1.heap.size (w.heap.size + 1) W2.heap.size (ac l (cs.take 0)) := by
    refine ⟨?_, _, box_stays Q2.out hk2 trivial, World.ownsRow_nil _ _ _ _⟩
    rw [hW2]; exact Boxed.new _ _ _
  have B2 := Lib.hid (HB.out.trans (hk2.below (by omega) (fun _ _ => trivial)))
  have HK2 := Lib.hid hk2
  have HST := Lib.hid hst
  have hz2 : w1.heap.size + 1 ≤ W2.heap.size := by omega
  rw [← hW2]
  clear hW2 hk2 hst HB Q2 z2
  go_loopw [10, 23] (fun _ i wr => ∃ k : Nat, k ≤ cs.length ∧ i = .int .i64 k ∧ LcSt wr w1.heap.size (w.heap.size + 1) W2.heap.size (ac l (cs.take k)) ∧ Kept (fun i => i < W2.heap.size ∧ i ≠ w1.heap.size ∧ i ≠ w.heap.size + 1) W2 wr) (fun _ i _ => cs.length - (intOf i).toNat)
  case atStart => exact ⟨0, Nat.zero_le _, rfl, HST.out, Kept.refl _ _⟩
  case round =>
    obtain ⟨k, hk, rfl, hst, hkr⟩ := hrel
    have zr := hkr.size
    by_cases hlt : k < cs.length
    · have hpl : k < (pcs cs).length := by rw [pcs_len]; exact hlt
      obtain ⟨g1, g2⟩ := pcells_get (pcs cs) k hpl
      rw [pcs_get cs k hpl] at g1 g2
      obtain ⟨b, off, rfl, hb, hc⟩ := HR.out _ _ g1
      obtain ⟨b', off', e', hb', hc'⟩ := HR.out _ _ g2
      obtain ⟨rfl, rfl⟩ : b = b' ∧ off = off' := by simpa using e'
      have m1 := HC.out.mono hlt
      have m2 := HC.out.le_N (i := k + 1) (by omega)
      rw [← Nat.add_assoc] at hc'
      simp only at hc hc'
      have hne : b ≠ w.heap.size + 1 := by have := HOB.out b off rfl; omega
      have d1 : wr.cell? ⟨b, off + k * 2, none⟩ = some (.int .i64 (P cs k : Nat)) := (hkr.cell (p := ⟨b, off + k * 2, none⟩) (by show b < _; omega) ⟨by show b < _; omega, by show b ≠ _; omega, hne⟩).trans ((HK2.out.cell (p := ⟨b, off + k * 2, none⟩) hb trivial).trans hc)
      have d2 : wr.cell? ⟨b, off + k * 2 + 1, none⟩ = some (.int .i64 (P cs (k + 1) - P cs k : Nat)) := (hkr.cell (p := ⟨b, off + k * 2 + 1, none⟩) (by show b < _; omega) ⟨by show b < _; omega, by show b ≠ _; omega, hne⟩).trans ((HK2.out.cell (p := ⟨b, off + k * 2 + 1, none⟩) hb trivial).trans hc')
      have HT := Lib.hid (show ac l (cs.take (k + 1)) = if (ac l (cs.take k)).getLastD 0 < al l (P cs (k + 1)) then ac l (cs.take k) ++ [al l (P cs (k + 1))] else ac l (cs.take k) by
        rw [take_snoc cs k 0 hlt, ac_snoc, P_succ])
      have hal := HAL.out (P cs (k + 1))
      have hla := HLA.out (cs.take k)
      have hlen : (ac l (cs.take k)).length ≤ 4000 := by have := ac_len l (cs.take k); simp at this; omega
      generalize P cs k = a at *
      generalize P cs (k + 1) = a' at *
      have C3 := Lib.hid (C2.out a')
      have HST2 := Lib.hid hst
      have HKR := Lib.hid hkr
      have hx : (a : Int) + ((a' - a : Nat) : Int) = a' := by omega
      clear e' g1 g2 hc hc' hb' hst hkr
      go_wp2_with fail
      refine (C3.out _).mono ?_
      rintro e w2 ⟨rfl, hw2⟩
      have ka : Kept (fun _ => True) wr w2 := by rw [← hw2]; exact (Kept.refl _ _).alloc _
      have z2 := ka.size
      have C4 := Lib.hid (put_any (ac l (cs.take k)) (al l a') w1.heap.size (w.heap.size + 1) W2.heap.size w2 (by
        obtain ⟨i1, v, i3, i4⟩ := HST2.out
        exact ⟨box_stays i1 ka trivial, v, box_stays i3 ka trivial, owns_kept i4 ka (fun _ _ => trivial)⟩) (by omega) (by omega) (by omega) (by omega) (by omega) (by omega) (by omega))
      rw [← HT.out] at C4
      have HKA := Lib.hid ka
      clear hw2 ka
      go_wp2_with fail
      refine C4.out.mono ?_
      rintro e w3 ⟨⟨v', rfl⟩, hst3, hk3⟩
      have HS3 := Lib.hid hst3
      have HK3 := Lib.hid hk3
      clear hst3 hk3
      go_wp2_with fail
      exact ⟨⟨k + 1, by omega, by go_num, HS3.out, (HKR.out.trans (HKA.out.mono fun _ _ => trivial)).trans HK3.out⟩, by simp only [intOf]; omega⟩
    · obtain rfl : k = cs.length := by omega
      rw [List.take_length] at hst
      obtain ⟨i1, v, i3, i4⟩ := hst
      rw [← HI.out] at i4
      obtain ⟨p', c', rfl⟩ := owns_form i4
      have e3 := i3.cell
      have f3 := i3.frozen
      have J3 := Lib.hid i3
      have J4 := Lib.hid i4
      have HKR := Lib.hid hkr
      clear i1 i3 i4 hkr
      go_wp2_with fail
      have k1 : Kept (fun i => i ≠ w.heap.size + 1) wr (wr.setCell ⟨w.heap.size + 1, 0, none⟩ (.slice p' (acsOf c s).length c')) := (Kept.refl _ _).setCell (by simp) _
      have hc := (J3.out.set (.slice p' (acsOf c s).length c')).cell
      refine bodyPost_ret (v := .tuple #[.slice p' (acsOf c s).length c', .int .i64 0]) (by simp [results, Tryd.results53, go_sem, hc]) rfl ⟨_, rfl, ?_, ?_⟩
      · refine owns_mono (owns_kept J4.out k1 (fun g hg => ?_)) (show w.heap.size ≤ W2.heap.size by omega)
        have := owns_base J4.out hg
        omega
      · have kk : Kept (fun i => i < W2.heap.size ∧ i ≠ w1.heap.size ∧ i ≠ w.heap.size + 1) W2 _ := HKR.out.trans (k1.mono fun i hi => hi.2.2)
        exact B2.out.trans (kk.below (by omega) (fun i hi => ⟨by omega, by omega, by omega⟩))
theorem ltext1_any (a n bs : Nat) (s : ByteArray) (w : World) (hb : Boxed w bs 9 (.string s)) (h : a + n ≤ s.size) (hs : s.size ≤ 4000) :
    Calls Tryd.prog 55 #[.agg #[.int .i64 a, .int .i64 n], .pointer (some ⟨bs, 0, none⟩)] w fun e w' => e = .returned (.string (s.extract a (a + n))) ∧ Below w.heap.size w w' := by
  have hlt := hb.lt
  have hc : ∀ o, (w.alloc o).cell? ⟨bs, 0, none⟩ = some (.string s) := fun o => (box_stays hb ((Kept.refl (fun _ => True) w).alloc o) trivial).cell
  clear hb
  go_enter Tryd.func55, Tryd.ntmps55
  go_wp2_with fail
  go_ret
  exact ⟨rfl, (Below.refl _ _).alloc (Nat.le_refl _) _⟩
set_option maxRecDepth 100000 in
set_option maxHeartbeats 1000000 in
theorem each_any (s : ByteArray) (cs : List Nat) (v : Value) (bs : Nat) (w : World) (hc : Cutting s.size cs) (hs : s.size ≤ 4000) (hl : cs.length ≤ 4000) (hr : Row w 2 v cs.length (pcells (pcs cs))) (hb : Boxed w bs 9 (.string s)) :
    Calls Tryd.prog 54 #[v, .func (.func 55) #[] #[.pointer (some ⟨bs, 0, none⟩)]] w fun e w' => ∃ v', e = .returned v' ∧ w'.ownsRow w.heap.size 9 1 v' cs.length ((txts s cs).map .string) ∧ Below w.heap.size w w' := by
  obtain ⟨-, p, cap, rfl, hrow⟩ := hr
  have HR := Lib.hid hrow
  have HC := Lib.hid hc
  have HBX := Lib.hid hb
  obtain ⟨i0, hi, hz0, hz1, hz2⟩ := info_parts infoS
  clear hrow hc hb
  go_enter Tryd.func54, Tryd.ntmps54
  go_wp2_with fail
  go_loopw [4, 6, 9] (fun v _ i wr => ∃ k : Nat, k ≤ cs.length ∧ i = .int .i64 k ∧ wr.ownsRow w.heap.size 9 1 v k (((txts s cs).take k).map .string) ∧ Below w.heap.size w wr) (fun _ _ i _ => cs.length - (intOf i).toNat)
  case atStart => exact ⟨0, Nat.zero_le _, rfl, World.ownsRow_nil _ _ _ _, Below.refl _ _⟩
  case round =>
    obtain ⟨k, hk, rfl, hrow, hbr⟩ := hrel
    have zr := hbr.size
    by_cases hlt : k < cs.length
    · have hpl : k < (pcs cs).length := by rw [pcs_len]; exact hlt
      obtain ⟨g1, g2⟩ := pcells_get (pcs cs) k hpl
      rw [pcs_get cs k hpl] at g1 g2
      obtain ⟨b, off, rfl, hb, hc⟩ := HR.out _ _ g1
      obtain ⟨b', off', e', hb', hc'⟩ := HR.out _ _ g2
      obtain ⟨rfl, rfl⟩ : b = b' ∧ off = off' := by simpa using e'
      have m1 := HC.out.mono hlt
      have m2 := HC.out.le_N (i := k + 1) (by omega)
      have HT := Lib.hid (txts_take s cs k hlt)
      rw [← Nat.add_assoc] at hc'
      simp only at hc hc'
      have d1 : wr.cell? ⟨b, off + k * 2, none⟩ = some (.int .i64 (P cs k : Nat)) := (hbr.cell (p := ⟨b, off + k * 2, none⟩) hb).trans hc
      have d2 : wr.cell? ⟨b, off + k * 2 + 1, none⟩ = some (.int .i64 (P cs (k + 1) - P cs k : Nat)) := (hbr.cell (p := ⟨b, off + k * 2 + 1, none⟩) hb).trans hc'
      generalize P cs k = a at *
      generalize P cs (k + 1) = a' at *
      clear e' g1 g2 hc hc' hb'
      have HB2 := Lib.hid hbr
      have HROW := Lib.hid hrow
      have hx : a + (a' - a) = a' := by omega
      have C1 := Lib.hid (ltext1_any a (a' - a) bs s (wr.alloc (.cells #[.int .i64 a, .int .i64 (a' - a : Nat)] 57)) (box_stays (box_stays HBX.out (Kept.of_below' (S := fun _ => True) hbr) trivial) ((Kept.refl (fun _ => True) wr).alloc _) trivial) (by omega) hs)
      rw [hx] at C1
      clear hrow hbr hx
      go_wp2_with fail
      refine C1.out.mono ?_
      rintro e w2 ⟨rfl, hb2⟩
      have z2 := hb2.size
      simp at z2
      have hr2 := owns_below (HROW.out.alloc (.cells #[.int .i64 a, .int .i64 (a' - a : Nat)] 57)) hb2
      have B3 := Lib.hid ((HB2.out.alloc (by omega) (.cells #[.int .i64 a, .int .i64 (a' - a : Nat)] 57)).trans (hb2.mono (by simp; omega)))
      clear hb2
      go_wp2_with (first
        | (at_builtin; refine wpList_append_own_at _ rfl _ _ 24 rfl w.heap.size 9 i0 (.string ⟨#[]⟩) 1 16 Tryd.underlying24 hi hz0 hz1 hz2 rfl (by decide) _ _ _ rfl (hr2.alloc _) ⟨w2.heap.size, 0, none⟩ 1 1 [.string (s.extract a a')] rfl rfl (cell_one_new _ _ _) (strs_oneCell [s.extract a a']) (by unfold maxLen; omega) (by omega) (by simp; omega) ?_; intro v' w3 hown' hgrow hnil hloc)
        | fail)
      refine ⟨⟨k + 1, by omega, by go_num, ?_, ?_⟩, by simp only [intOf]; omega⟩
      · rw [HT.out, List.map_append]; exact hown'
      · exact (B3.out.alloc (by omega) _).grown hgrow (by simp; omega) (fun j hj => owns_base hr2 hj)
    · obtain rfl : k = cs.length := by omega
      have HO := Lib.hid hrow
      clear hrow
      go_wp2_with fail
      go_ret
      refine ⟨_, rfl, ?_, hbr⟩
      have := HO.out
      rw [List.take_of_length_le (by rw [txts_len]; exact Nat.le_refl _)] at this
      exact this
set_option maxRecDepth 100000 in
set_option maxHeartbeats 1000000 in
theorem ltexts_yes (c : CutN) (s : ByteArray) (n0 : Nat) (w : World) (hm : c.May) (hN : Needs n0 w) (hs : s.size ≤ 4000) :
    Calls Tryd.prog 35 #[.agg #[.int .u64 c.p, .int .i64 c.n, .int .i64 c.mi, .int .i64 c.ma, .int .i64 c.bi], .string s] w fun e w' => ∃ v, e = .returned (.tuple #[v, .int .i64 0]) ∧ w'.ownsRow w.heap.size 9 1 v (acsOf c s).length ((txts s (acsOf c s)).map .string) ∧ Below w.heap.size w w' := by
  have C := Lib.hid (fun W (hb : Below w.heap.size w W) => lcut_yes c s n0 W hm (hN.below (hb.mono hN.size)) hs)
  have hcu := acsOf_cutting c s
  have hle := acsOf_len c s
  clear hN hm
  generalize acsOf c s = cs at *
  have C2 := Lib.hid (fun v bs W => each_any s cs v bs W hcu hs (by omega))
  clear hcu
  go_enter Tryd.func35, Tryd.ntmps35
  go_wp2_with fail
  have hb0 : Below w.heap.size w ((w.alloc (.cells #[.int .u64 c.p, .int .i64 c.n, .int .i64 c.mi, .int .i64 c.ma, .int .i64 c.bi] 38)).alloc (.cells #[.string s] 9)) :=
    ((Below.refl _ _).alloc (Nat.le_refl _) _).alloc (by simp) _
  have q2 : Boxed ((w.alloc (.cells #[.int .u64 c.p, .int .i64 c.n, .int .i64 c.mi, .int .i64 c.ma, .int .i64 c.bi] 38)).alloc (.cells #[.string s] 9)) (w.heap.size + 1) 9 (.string s) := by
    have := Boxed.new (w.alloc (.cells #[.int .u64 c.p, .int .i64 c.n, .int .i64 c.mi, .int .i64 c.ma, .int .i64 c.bi] 38)) 9 (.string s)
    rwa [World.size_alloc] at this
  refine (C.out _ hb0).mono ?_
  rintro e w1 ⟨v, rfl, hown, hb1⟩
  have z1 := hb1.size
  simp at z1
  have Q2 := box_stays q2 (Kept.of_below' (S := fun _ => True) hb1) trivial
  have HB := Lib.hid (hb0.trans (hb1.mono (by simp; omega)))
  have C3 := Lib.hid (C2.out v (w.heap.size + 1) w1 (row_of_owns hown) Q2)
  clear hb1 hb0 C hown q2 Q2 C2
  go_wp2_with fail
  refine C3.out.mono ?_
  rintro e w2 ⟨v', rfl, hown2, hb2⟩
  have HO := Lib.hid hown2
  have HB2 := Lib.hid hb2
  clear hown2 hb2
  go_wp2_with fail
  go_ret2
  exact ⟨_, rfl, owns_mono HO.out (by omega), HB.out.trans (HB2.out.mono (by omega))⟩
end Go.Proofs.YtpkbhihkhnkhnaaDoor
