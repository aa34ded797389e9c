/- maslinref09: next, Cut, May. -/
import Derived.Test.YtpkbhihkhnkhnaaDoorRefn
namespace Go.Proofs.YtpkbhihkhnkhnaaDoor
open Go.RowKit
theorem cut_next {N mi ma : Nat} {m : Nat → Bool} {k z : Nat} (hk : k < (cl N mi ma m N).length) (h1 : P (cl N mi ma m N) k < z) (h3 : cutQ N mi ma m (P (cl N mi ma m N) k) z = true)
    (h4 : ∀ x, P (cl N mi ma m N) k < x → x < z → cutQ N mi ma m (P (cl N mi ma m N) k) x = false) : P (cl N mi ma m N) (k + 1) = z := by
  have hc : Cutting N (cl N mi ma m N) := cl_cutting
  have g1 := hc.mono hk
  have g2 : isC N mi ma m (P (cl N mi ma m N) (k + 1)) = true := (mem_cl.1 (mem_P (cs := cl N mi ma m N) hk)).2
  have key : ∀ x, P (cl N mi ma m N) k < x → x ≤ P (cl N mi ma m N) (k + 1) → isC N mi ma m x = cutQ N mi ma m (P (cl N mi ma m N) k) x := fun x hx hx2 => by
    obtain ⟨y, rfl⟩ : ∃ y, x = y + 1 := ⟨x - 1, by omega⟩
    rw [isC_succ, lc_between hk (by omega) (by omega)]
  rcases Nat.lt_trichotomy (P (cl N mi ma m N) (k + 1)) z with g | g | g
  · have := h4 _ g1 g
    rw [← key _ g1 (Nat.le_refl _), g2] at this
    cases this
  · exact g
  · exfalso
    have hz := key z h1 (by omega)
    rw [h3] at hz
    have hN := hc.le_N (i := k + 1) (by omega)
    have hmem : z ∈ cl N mi ma m N := mem_cl.2 ⟨by omega, hz⟩
    obtain ⟨j, hj, hjz⟩ := List.getElem_of_mem hmem
    have e : P (cl N mi ma m N) (j + 1) = z := by rw [P_succ]; simp [hj, hjz]
    rcases Nat.lt_or_ge k (j + 1) with g' | g'
    · have := hc.P_le (i := k + 1) (j := j + 1) (by omega) (by omega); omega
    · have := hc.P_le (i := j + 1) (j := k) (by omega) (by omega); omega
theorem next_mark {c : CutN} {s : ByteArray} {k i : Nat} (hm : c.May) (hk : k < (cutsOf c s).length) (h1 : P (cutsOf c s) k + c.mi ≤ i) (h2 : i ≤ s.size) (h3 : i ≤ P (cutsOf c s) k + c.ma) (h4 : mark c.p c.n c.bi s i = true)
    (h5 : ∀ x, P (cutsOf c s) k + c.mi ≤ x → x < i → mark c.p c.n c.bi s x = false) : P (cutsOf c s) (k + 1) = i := by
  obtain ⟨m0, m1, m2, m3, m4, m5, m6, m7⟩ := hm
  refine cut_next hk (show P (cutsOf c s) k < i by omega) ?_ (fun x hx hx2 => ?_)
  · have : c.mi ≤ i - P (cl s.size c.mi c.ma (mark c.p c.n c.bi s) s.size) k := by have : P (cutsOf c s) k + c.mi ≤ i := h1; unfold cutsOf at this; omega
    simp [cutQ, h4, this]
  · have h1' : P (cl s.size c.mi c.ma (mark c.p c.n c.bi s) s.size) k + c.mi ≤ i := h1
    have h3' : i ≤ P (cl s.size c.mi c.ma (mark c.p c.n c.bi s) s.size) k + c.ma := h3
    have h5' := h5 x
    unfold cutsOf at h5'
    rw [Bool.eq_false_iff]
    intro h
    simp only [cutQ, Bool.or_eq_true, Bool.and_eq_true, decide_eq_true_eq] at h
    rcases h with (h | h) | ⟨h, h'⟩
    · omega
    · omega
    · rw [h5' (by omega) hx2] at h'; cases h'
theorem next_none {c : CutN} {s : ByteArray} {k : Nat} (hm : c.May) (hk : k < (cutsOf c s).length)
    (h5 : ∀ x, P (cutsOf c s) k + c.mi ≤ x → x ≤ s.size → x ≤ P (cutsOf c s) k + c.ma → mark c.p c.n c.bi s x = false) : P (cutsOf c s) (k + 1) = min (P (cutsOf c s) k + c.ma) s.size := by
  obtain ⟨m0, m1, m2, m3, m4, m5, m6, m7⟩ := hm
  have hc := cutsOf_cutting c s
  have g1 := hc.mono hk
  have g2 := hc.le_N (i := k + 1) (by omega)
  refine cut_next hk (show P (cutsOf c s) k < _ by omega) ?_ (fun x hx hx2 => ?_)
  · have e : min (P (cutsOf c s) k + c.ma) s.size = s.size ∨ c.ma ≤ min (P (cutsOf c s) k + c.ma) s.size - P (cutsOf c s) k := by omega
    unfold cutsOf at e
    unfold cutsOf
    simp only [cutQ, Bool.or_eq_true, Bool.and_eq_true, decide_eq_true_eq]
    rcases e with e | e
    · exact .inl (.inl e)
    · exact .inl (.inr e)
  · have h5' := h5 x
    unfold cutsOf at h5' hx2
    rw [Bool.eq_false_iff]
    intro h
    simp only [cutQ, Bool.or_eq_true, Bool.and_eq_true, decide_eq_true_eq] at h
    rcases h with (h | h) | ⟨h, h'⟩
    · omega
    · omega
    · rw [h5' (by omega) (by omega) (by omega)] at h'; cases h'
set_option maxRecDepth 100000 in
set_option maxHeartbeats 1000000 in
theorem rnext_any (c : CutN) (s : ByteArray) (k : Nat) (w : World) (hm : c.May) (hs : s.size ≤ 4000) (hk : k < (cutsOf c s).length) :
    Calls Tryd.prog 51 #[.agg #[.int .u64 c.p, .int .i64 c.n, .int .i64 c.mi, .int .i64 c.ma, .int .i64 c.bi], .string s, .int .i64 (P (cutsOf c s) k : Nat)] w fun e w' => e = .returned (.int .i64 (P (cutsOf c s) (k + 1) : Nat)) ∧ Below w.heap.size w w' := by
  have C1 := Lib.hid (fun i W (h : i ≤ s.size) => rmark_any c s i W hm hs h)
  have hc := cutsOf_cutting c s
  have g1 := hc.mono hk
  have g2 := hc.le_N (i := k + 1) (by omega)
  have NM := Lib.hid (fun i h1 h2 h3 h4 h5 => next_mark (c := c) (s := s) (k := k) (i := i) hm hk h1 h2 h3 h4 h5)
  have NN := Lib.hid (fun h5 => next_none (c := c) (s := s) (k := k) hm hk h5)
  obtain ⟨m0, m1, m2, m3, m4, m5, m6, m7⟩ := hm
  generalize P (cutsOf c s) k = a at *
  generalize P (cutsOf c s) (k + 1) = a' at *
  clear hc m0 m1 hk
  go_enter Tryd.func51, Tryd.ntmps51
  go_wp2_with fail
  obtain ⟨W1, hW1⟩ : ∃ W1, W1 = w.alloc (.cells #[.int .u64 c.p, .int .i64 c.n, .int .i64 c.mi, .int .i64 c.ma, .int .i64 c.bi] 38) := ⟨_, rfl⟩
  have hb1 : Below w.heap.size w W1 := by rw [hW1]; exact (Below.refl _ _).alloc (Nat.le_refl _) _
  have hc1 : CutB W1 w.heap.size c := by rw [hW1]; exact World.alloc_heap_new w _
  have z1 : w.heap.size + 1 = W1.heap.size := by rw [hW1]; simp
  rw [← hW1]
  have B1 := Lib.hid hb1
  have HC1 := Lib.hid hc1
  clear hW1 hb1 hc1
  go_loopw [7] (fun i wr => ∃ x : Nat, x ≤ s.size + 5000 ∧ a + c.mi ≤ x ∧ i = .int .i64 x ∧ Hid (∀ y, a + c.mi ≤ y → y < x → mark c.p c.n c.bi s y = false) ∧ Below W1.heap.size W1 wr) (fun i _ => s.size + 2 - (intOf i).toNat)
  case atStart => exact ⟨a + c.mi, by omega, Nat.le_refl _, by go_num, Lib.hid (fun y h1 h2 => by omega), Below.refl _ _⟩
  case round =>
    obtain ⟨x, hx, hx2, rfl, HM, hbr⟩ := hrel
    have zr := hbr.size
    obtain ⟨d0, d1, d2, d3, d4⟩ := (HC1.out.stays (Kept.of_below' (S := fun _ => True) hbr) trivial).cells
    have HBR := Lib.hid hbr
    clear hbr
    by_cases hlt : x ≤ s.size ∧ x ≤ a + c.ma
    · obtain ⟨h1, h2⟩ := hlt
      have C2 := Lib.hid (C1.out x wr h1)
      cases hmk : mark c.p c.n c.bi s x
      · rw [hmk] at C2
        have HM2 := Lib.hid (show ∀ y, a + c.mi ≤ y → y < x + 1 → mark c.p c.n c.bi s y = false from fun y h1 h2 => by
          rcases Nat.eq_or_lt_of_le (show y ≤ x by omega) with e | e
          · rw [e]; exact hmk
          · exact HM.out y h1 e)
        clear hmk HM
        go_wp2_with fail
        refine C2.out.mono ?_
        rintro e w2 ⟨rfl, hb2⟩
        have HB2 := Lib.hid hb2
        clear hb2
        go_wp2_with fail
        exact ⟨⟨x + 1, by omega, by omega, by go_num, HM2, HBR.out.trans (HB2.out.mono (by omega))⟩, by simp only [intOf]; omega⟩
      · rw [hmk] at C2
        have HE := Lib.hid (NM.out x hx2 h1 h2 hmk HM.out)
        clear hmk HM
        go_wp2_with fail
        refine C2.out.mono ?_
        rintro e w2 ⟨rfl, hb2⟩
        have HB2 := Lib.hid hb2
        clear hb2
        go_wp2_with fail
        go_ret
        exact ⟨ret_int (by rw [HE.out]), (B1.out.trans (HBR.out.mono (by omega))).trans (HB2.out.mono (by omega))⟩
    · have HE := Lib.hid (NN.out (fun y h1 h2 h3 => HM.out y h1 (by omega)))
      clear HM
      by_cases h1 : x ≤ s.size
      · have h2 : a + c.ma < x := by omega
        clear hlt
        go_wp2_with fail
        all_goals
          go_ret
          exact ⟨ret_int (by rw [HE.out]; omega), B1.out.trans (HBR.out.mono (by omega))⟩
      · clear hlt
        go_wp2_with fail
        all_goals
          go_ret
          exact ⟨ret_int (by rw [HE.out]; omega), B1.out.trans (HBR.out.mono (by omega))⟩
set_option maxRecDepth 100000 in
set_option maxHeartbeats 1000000 in
theorem rcut_any (c : CutN) (s : ByteArray) (w : World) (hm : c.May) (hs : s.size ≤ 4000) :
    Calls Tryd.prog 30 #[.agg #[.int .u64 c.p, .int .i64 c.n, .int .i64 c.mi, .int .i64 c.ma, .int .i64 c.bi], .string s] w fun e w' => ∃ v, e = .returned v ∧ w'.ownsRow w.heap.size 57 2 v (cutsOf c s).length (pcells (pcs (cutsOf c s))) ∧ Below w.heap.size w w' := by
  have C1 := Lib.hid (fun k W (h : k < (cutsOf c s).length) => rnext_any c s k W hm hs h)
  have hcu := cutsOf_cutting c s
  have l1 := cutsOf_len c s
  have HC := Lib.hid hcu
  obtain ⟨i0, hi, hz0, hz1, hz2⟩ := info_parts infoP
  clear hm hcu
  generalize cutsOf c s = cs at *
  go_enter Tryd.func30, Tryd.ntmps30
  go_wp2_with fail
  obtain ⟨W1, hW1⟩ : ∃ W1, W1 = w.alloc (.cells #[.int .u64 c.p, .int .i64 c.n, .int .i64 c.mi, .int .i64 c.ma, .int .i64 c.bi] 38) := ⟨_, rfl⟩
  have hb1 : Below w.heap.size w W1 := by rw [hW1]; exact (Below.refl _ _).alloc (Nat.le_refl _) _
  have hc1 : CutB W1 w.heap.size c := by rw [hW1]; exact World.alloc_heap_new w _
  have z1 : w.heap.size + 1 = W1.heap.size := by rw [hW1]; simp
  rw [← hW1]
  have B1 := Lib.hid hb1
  have HC1 := Lib.hid hc1
  clear hW1 hb1 hc1
  go_loopw [5, 6, 7] (fun v i _ wr => ∃ k : Nat, k ≤ cs.length ∧ i = .int .i64 (P cs k : Nat) ∧ wr.ownsRow W1.heap.size 57 2 v k (pcells ((pcs cs).take k)) ∧ Below W1.heap.size W1 wr) (fun _ i _ _ => s.size - (intOf i).toNat)
  case atStart => exact ⟨0, Nat.zero_le _, rfl, World.ownsRow_nil _ _ _ _, Below.refl _ _⟩
  case round =>
    obtain ⟨k, hk, rfl, hrow, hbr⟩ := hrel
    have zr := hbr.size
    obtain ⟨d0, d1, d2, d3, d4⟩ := (HC1.out.stays (Kept.of_below' (S := fun _ => True) hbr) trivial).cells
    have HBR := Lib.hid hbr
    have HROW := Lib.hid hrow
    clear hbr hrow
    by_cases hlt : k < cs.length
    · have C2 := Lib.hid (C1.out k wr hlt)
      have y1 := HC.out.mono hlt
      have y2 := HC.out.le_N (i := k + 1) (by omega)
      have hpl : k < (pcs cs).length := by rw [pcs_len]; exact hlt
      have HT := Lib.hid (show pcells ((pcs cs).take (k + 1)) = pcells ((pcs cs).take k) ++ [.int .i64 (P cs k : Nat), .int .i64 (P cs (k + 1) - P cs k : Nat)] by
        rw [List.take_succ_eq_append_getElem hpl, pcells_snoc, pcs_get cs k hpl])
      have hA : ∃ a a', Hid (P cs k = a) ∧ Hid (P cs (k + 1) = a') := ⟨_, _, Lib.hid rfl, Lib.hid rfl⟩
      obtain ⟨a, a', HA, HA'⟩ := hA
      rw [HA.out] at y1 HT C2 ⊢
      rw [HA'.out] at y1 y2 HT C2
      have hsub : ((a' - a : Nat) : Int) = (a' : Int) - a := by omega
      rw [hsub] at HT
      clear hsub
      go_wp2_with fail
      refine C2.out.mono ?_
      rintro e w2 ⟨rfl, hb2⟩
      have hr2 := owns_below HROW.out hb2
      have B2 := Lib.hid (HBR.out.trans (hb2.mono (by omega)))
      have z2 := hb2.size
      clear hb2
      go_wp2_with (first
        | (at_builtin; refine wpList_append_own_at _ rfl _ _ 46 rfl W1.heap.size 57 i0 (.agg #[.int .i64 0, .int .i64 0]) 2 16 Tryd.underlying46 hi hz0 hz1 hz2 rfl (by decide) _ k _ rfl (hr2.alloc _) ⟨w2.heap.size, 0, none⟩ 1 1 [.int .i64 (a : Nat), .int .i64 ((a' : Int) - a)] rfl rfl (cell_two_new _ _ _ _) (ints_oneCell .i64 [(a : Int), (a' : Int) - a]) (by unfold maxLen; omega) (by omega) (by simp; omega) ?_; intro v' w3 hown' hgrow hnil hloc)
        | fail)
      refine ⟨⟨k + 1, by omega, by rw [HA'.out], ?_, ?_⟩, by simp only [intOf]; omega⟩
      · rw [HT.out]; exact hown'
      · exact (B2.out.alloc (by omega) _).grown hgrow (by simp; omega) (fun j hj => owns_base hr2 hj)
    · obtain rfl : k = cs.length := by omega
      have hE := HC.out.P_end
      rw [hE]
      clear hE
      go_wp2_with fail
      go_ret
      refine ⟨_, rfl, ?_, B1.out.trans (HBR.out.mono (by omega))⟩
      have := HROW.out
      rw [List.take_of_length_le (by rw [pcs_len]; exact Nat.le_refl _)] at this
      exact owns_mono this (by omega)
end Go.Proofs.YtpkbhihkhnkhnaaDoor
