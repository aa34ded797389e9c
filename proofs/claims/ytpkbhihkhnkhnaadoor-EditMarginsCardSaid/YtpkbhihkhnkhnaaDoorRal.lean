/- maslinref10: Align, Cut; maslinref11: Texts, Cut. -/
import Derived.Test.YtpkbhihkhnkhnaaDoorLcut
import Derived.Test.YtpkbhihkhnkhnaaDoorRefc
import Derived.Test.YtpkbhihkhnkhnaaDoorRefm
import Derived.Test.YtpkbhihkhnkhnaaDoorOf
import Derived.Deep.RegionLaw
import Derived.Deep.AppendLies
namespace Go.Proofs.YtpkbhihkhnkhnaaDoor
open Go.RowKit
set_option maxRecDepth 100000 in
theorem ralign_any (s : ByteArray) (k : Nat) (w : World) (hs : s.size ≤ 4000) (hk : 1 ≤ k) (hk2 : k ≤ 100000) :
    Calls Tryd.prog 72 #[.string s, .int .i64 k] w fun e w' => e = .returned (.int .i64 (al s.data.toList k : Nat)) ∧ w = w' := by
  have hl : s.data.toList.length = s.size := by simp
  have HL := Lib.hid hl
  clear hl
  go_enter Tryd.func72, Tryd.ntmps72
  go_wp2_with fail
  go_loop [5] (fun v => ∃ i : Nat, k ≤ i ∧ (i ≤ s.size + 1 ∨ i ≤ k) ∧ v = .int .i64 i ∧ Hid (∀ j, k ≤ j → j < i → isE s.data.toList j = false)) (fun v => s.size + 1 - (intOf v).toNat)
  case atStart => exact ⟨k, Nat.le_refl _, .inr (Nat.le_refl _), rfl, Lib.hid (fun j h1 h2 => by omega)⟩
  case round =>
    obtain ⟨i, hi, hi2, rfl, HI⟩ := hrel
    by_cases hlt : i ≤ s.size
    · by_cases he : i = s.size
      · subst he
        have HE := Lib.hid (al_eq hi (isE_iff.2 ⟨by omega, .inl HL.out.symm⟩) HI.out)
        go_wp2_with fail
        go_ret
        exact ⟨ret_int (by rw [HE.out]), rfl⟩
      · have hlt' : i - 1 < s.size := by omega
        have hb1 : ((i : Int) == (s.size : Int)) = false := by rw [beq_eq_false_iff_ne]; omega
        have hx : (i : Int) - 1 = ((i - 1 : Nat) : Int) := by omega
        have hg : s.data.toList[i - 1]? = some s[i - 1] := ba_get s (i - 1) hlt'
        have HG := Lib.hid hg
        have HX := Lib.hid hx
        clear hg hx
        by_cases hc : s[i - 1] = 10
        · have HE := Lib.hid (al_eq hi (isE_iff.2 ⟨by omega, .inr (by rw [HG.out, hc])⟩) HI.out)
          have hc' : ((s[i - 1].toNat : Int) == 10) = true := by rw [hc]; rfl
          clear hc
          go_wp2_with fail
          go_ret
          exact ⟨ret_int (by rw [HE.out]), rfl⟩
        · have HN := Lib.hid (show isE s.data.toList i = false from by
            rw [Bool.eq_false_iff]; intro h
            rcases (isE_iff.1 h).2 with g | g
            · rw [HL.out] at g; omega
            · rw [HG.out] at g; exact hc (Option.some.inj g))
          have hc' : ((s[i - 1].toNat : Int) == 10) = false := by
            rw [beq_eq_false_iff_ne]; intro h
            exact hc (UInt8.toNat_inj.1 (by simpa using (Int.natCast_inj.1 (show (s[i - 1].toNat : Int) = ((10 : Nat) : Int) from h))))
          clear hc
          go_wp2_with fail
          go_round
          case rel => exact ⟨i + 1, by omega, by omega, by go_num, Lib.hid (fun j h1 h2 => by
            rcases Nat.lt_or_ge j i with g | g
            · exact HI.out j h1 g
            · rw [show j = i by omega]; exact HN.out)⟩
          case measure => simp only [intOf]; omega
    · have hki : i ≤ k ∨ i = s.size + 1 := by omega
      have HE := Lib.hid (show al s.data.toList k = s.size from by
        rcases al_cases s.data.toList k with ⟨h1, h2, h3⟩ | ⟨h1, h2⟩
        · have g1 := isE_le h2
          rw [HL.out] at g1
          have := HI.out (al s.data.toList k) h1 (by omega)
          rw [h2] at this; cases this
        · rw [h1, HL.out])
      clear hki
      go_wp2_with fail
      go_ret
      exact ⟨ret_int (by rw [HE.out]), rfl⟩
theorem ac_take (l : List UInt8) (cs : List Nat) (k : Nat) (h : k < cs.length) : ac l (cs.take (k + 1)) = if (ac l (cs.take k)).getLastD 0 < al l (P cs (k + 1)) then ac l (cs.take k) ++ [al l (P cs (k + 1))] else ac l (cs.take k) := by
  rw [List.take_succ_eq_append_getElem h, ac_snoc, P_succ]; simp [h]
set_option maxRecDepth 100000 in
set_option maxHeartbeats 1000000 in
theorem r10cut_any (c : CutN) (s : ByteArray) (w : World) (hm : c.May) (hs : s.size ≤ 4000) :
    Calls Tryd.prog 61 #[.agg #[.int .u64 c.p, .int .i64 c.n, .int .i64 c.mi, .int .i64 c.ma, .int .i64 c.bi], .string s] w fun e w' => ∃ v, e = .returned v ∧ w'.ownsRow w.heap.size 57 2 v (acsOf c s).length (pcells (pcs (acsOf c s))) ∧ Below w.heap.size w w' := by
  have C1 := Lib.hid (fun W => rcut_any c s W hm hs)
  have C2 := Lib.hid (fun (k : Nat) W (h1 : 1 ≤ k) (h2 : k ≤ 100000) => (ralign_any s k W hs h1 h2).mono (R' := fun e w' => e = .returned (.int .i64 (al s.data.toList k : Nat)) ∧ w' = W) (fun e w' h => ⟨h.1, h.2.symm⟩))
  have l1 := cutsOf_len c s
  have HC := Lib.hid (cutsOf_cutting c s)
  have HAL := Lib.hid (show ∀ k, al s.data.toList k ≤ s.size from fun k => by rw [ba_size]; exact al_le _ _)
  have HLA := Lib.hid (show ∀ cs, (ac s.data.toList cs).getLastD 0 ≤ s.size from fun cs => by rw [ba_size]; exact ac_last _ _)
  have HLN := Lib.hid (show ∀ k, (ac s.data.toList ((cutsOf c s).take k)).length ≤ 4000 from fun k => by
    have h1 := ac_len s.data.toList ((cutsOf c s).take k)
    have h2 := List.length_take_le k (cutsOf c s)
    have h3 : ((cutsOf c s).take k).length ≤ (cutsOf c s).length := by rw [List.length_take]; omega
    omega)
  obtain ⟨i0, hi, hz0, hz1, hz2⟩ := info_parts infoP
  unfold acsOf
  clear hm
  generalize cutsOf c s = cs at *
  go_enter Tryd.func61, Tryd.ntmps61
  go_wp2_with fail
  refine (C1.out _).mono ?_
  rintro e w1 ⟨v1, rfl, hv1, hb1⟩
  have z1 := hb1.size
  simp at z1
  have B1 := Lib.hid (((Below.refl w.heap.size w).alloc (Nat.le_refl _) (.cells #[.int .u64 c.p, .int .i64 c.n, .int .i64 c.mi, .int .i64 c.ma, .int .i64 c.bi] 38)).trans (hb1.mono (by simp)))
  obtain ⟨-, p, cap, rfl, hrow⟩ := row_of_owns hv1
  have HR := Lib.hid hrow
  clear hv1 hb1 hrow C1
  go_wp2_with fail
  go_loopw [6, 7, 8, 9] (fun v a i _ wr => ∃ k : Nat, k ≤ cs.length ∧ i = .int .i64 k ∧ a = .int .i64 ((ac s.data.toList (cs.take k)).getLastD 0 : Nat) ∧ wr.ownsRow w1.heap.size 57 2 v (ac s.data.toList (cs.take k)).length (pcells (pcs (ac s.data.toList (cs.take k)))) ∧ Below w1.heap.size w1 wr) (fun _ _ i _ _ => cs.length - (intOf i).toNat)
  case atStart => exact ⟨0, Nat.zero_le _, rfl, rfl, World.ownsRow_nil _ _ _ _, Below.refl _ _⟩
  case round =>
    obtain ⟨k, hk, rfl, rfl, hrow, hbr⟩ := hrel
    have zr := hbr.size
    by_cases hlt : k < cs.length
    · have hpl : k < (pcs cs).length := by rw [pcs_len]; exact hlt
      obtain ⟨g1, g2⟩ := pcells_get (pcs cs) k hpl
      rw [pcs_get cs k hpl] at g1 g2
      obtain ⟨b, off, rfl, hb, hc⟩ := HR.out _ _ g1
      obtain ⟨b', off', e', hb', hc'⟩ := HR.out _ _ g2
      obtain ⟨rfl, rfl⟩ : b = b' ∧ off = off' := by simpa using e'
      have m1 := HC.out.mono hlt
      have m2 := HC.out.le_N (i := k + 1) (by omega)
      have HT := Lib.hid (ac_take s.data.toList cs k hlt)
      have a1 := HAL.out (P cs (k + 1))
      have a2 := HLA.out (cs.take k)
      have a3 := HLN.out k
      rw [← Nat.add_assoc] at hc'
      simp only at hc hc'
      have d1 : wr.cell? ⟨b, off + k * 2, none⟩ = some (.int .i64 (P cs k : Nat)) := (hbr.cell (p := ⟨b, off + k * 2, none⟩) hb).trans hc
      have d2 : wr.cell? ⟨b, off + k * 2 + 1, none⟩ = some (.int .i64 (P cs (k + 1) - P cs k : Nat)) := (hbr.cell (p := ⟨b, off + k * 2 + 1, none⟩) hb).trans hc'
      have CQ := Lib.hid (fun W => C2.out (P cs (k + 1)) W (by omega) (by omega))
      clear e' g1 g2 hc hc' hb'
      have hsum : IntKind.i64.wrap ((P cs k : Nat) + ((P cs (k + 1) - P cs k : Nat) : Int)) = ((P cs (k + 1) : Nat) : Int) := by
        rw [show ((P cs k : Nat) + ((P cs (k + 1) - P cs k : Nat) : Int)) = ((P cs (k + 1) : Nat) : Int) by omega]
        exact IntWalk.i64_in _ (by omega)
      generalize P cs (k + 1) = a' at *
      generalize hd : a' - P cs k = dl at *
      clear hd
      generalize P cs k = a at *
      generalize al s.data.toList a' = z at *
      generalize hq : (ac s.data.toList (cs.take k)).getLastD 0 = q at *
      have HQ := Lib.hid hq
      clear hq
      have HB2 := Lib.hid hbr
      have HROW := Lib.hid hrow
      have hb1 : off + k * 2 = off + k * 2 := rfl
      clear hrow hbr hb1
      by_cases hqz : q < z
      · have HT := HT.out
        rw [if_pos hqz] at HT
        have HT := Lib.hid HT
        go_wp2_with fail
        go_quiet ((go_at_call 72; exact Calls.quiet_of_same (CQ.out _)))
        have bq := below_drewN (Below.refl wr.heap.size wr) nq
        have hr2 := owns_below HROW.out bq
        have B2 := Lib.hid (HB2.out.trans (bq.mono zr))
        have z2 : wr.heap.size ≤ (wr.drewN nq).heap.size := Nat.le_refl _
        generalize wr.drewN nq = w2 at *
        clear bq hsum
        go_wp2_with (first
          | (at_builtin; refine wpList_append_own_at _ rfl _ _ 46 rfl w1.heap.size 57 i0 (.agg #[.int .i64 0, .int .i64 0]) 2 16 Tryd.underlying46 hi hz0 hz1 hz2 rfl (by decide) _ _ _ rfl (hr2.alloc _) ⟨w2.heap.size, 0, none⟩ 1 1 [.int .i64 (q : Nat), .int .i64 ((z : Int) - q)] rfl rfl (cell_two_new _ _ _ _) (ints_oneCell .i64 [(q : Int), (z : Int) - q]) (by unfold maxLen; omega) (by omega) (by simp; omega) ?_; intro v' w3 hown' hgrow hnil hloc)
          | fail)
        refine ⟨⟨k + 1, by omega, by go_num, by rw [HT.out]; simp, ?_, ?_⟩, by simp only [intOf]; omega⟩
        · rw [HT.out, pcs_snoc, pcells_snoc, List.length_append, HQ.out, show ((q, z - q) : Nat × Nat).1 = q from rfl, show ((q, z - q) : Nat × Nat).2 = z - q from rfl, show ((z - q : Nat) : Int) = (z : Int) - q by omega]
          exact hown'
        · exact (B2.out.alloc (by omega) _).grown hgrow (by simp; omega) (fun j hj => owns_base hr2 hj)
      · have HT := HT.out
        rw [if_neg hqz] at HT
        have HT := Lib.hid HT
        go_wp2_with fail
        go_quiet ((go_at_call 72; exact Calls.quiet_of_same (CQ.out _)))
        go_wp2_with fail
        refine ⟨⟨k + 1, by omega, by go_num, ?_, ?_, ?_⟩, by simp only [intOf]; omega⟩
        · rw [HT.out, HQ.out]
        · rw [HT.out]; exact owns_below HROW.out (below_drewN (Below.refl _ _) _)
        · exact below_drewN HB2.out _
    · obtain rfl : k = cs.length := by omega
      have HO := Lib.hid hrow
      clear hrow
      go_wp2_with fail
      go_ret
      refine ⟨_, rfl, ?_, B1.out.trans (hbr.mono (by omega))⟩
      have := HO.out
      rw [List.take_length] at this
      exact owns_mono this (by omega)
set_option maxRecDepth 100000 in
set_option maxHeartbeats 1000000 in
theorem r11texts_any (s : ByteArray) (cs : List Nat) (v : Value) (w : World) (hc : Cutting s.size cs) (hs : s.size ≤ 4000) (hl : cs.length ≤ 4000) (hr : Row w 2 v cs.length (pcells (pcs cs))) :
    Calls Tryd.prog 62 #[.string s, v] w fun e w' => ∃ v', e = .returned v' ∧ w'.ownsRow w.heap.size 9 1 v' cs.length ((txts s cs).map .string) ∧ Below w.heap.size w w' := by
  obtain ⟨-, p, cap, rfl, hrow⟩ := hr
  have HR := Lib.hid hrow
  have HC := Lib.hid hc
  obtain ⟨i0, hi, hz0, hz1, hz2⟩ := info_parts infoS
  clear hrow hc
  go_enter Tryd.func62, Tryd.ntmps62
  go_wp2_with fail
  go_loopw [5, 6] (fun v i wr => ∃ k : Nat, k ≤ cs.length ∧ i = .int .i64 k ∧ wr.ownsRow w.heap.size 9 1 v k (((txts s cs).take k).map .string) ∧ Below w.heap.size w wr) (fun _ i _ => cs.length - (intOf i).toNat)
  case atStart => exact ⟨0, Nat.zero_le _, rfl, World.ownsRow_nil _ _ _ _, Below.refl _ _⟩
  case round =>
    obtain ⟨k, hk, rfl, hrow, hbr⟩ := hrel
    have zr := hbr.size
    by_cases hlt : k < cs.length
    · have hpl : k < (pcs cs).length := by rw [pcs_len]; exact hlt
      obtain ⟨g1, g2⟩ := pcells_get (pcs cs) k hpl
      rw [pcs_get cs k hpl] at g1 g2
      obtain ⟨b, off, rfl, hb, hc⟩ := HR.out _ _ g1
      obtain ⟨b', off', e', hb', hc'⟩ := HR.out _ _ g2
      obtain ⟨rfl, rfl⟩ : b = b' ∧ off = off' := by simpa using e'
      have m1 := HC.out.mono hlt
      have m2 := HC.out.le_N (i := k + 1) (by omega)
      have HT := Lib.hid (txts_take s cs k hlt)
      rw [← Nat.add_assoc] at hc'
      simp only at hc hc'
      have d1 : wr.cell? ⟨b, off + k * 2, none⟩ = some (.int .i64 (P cs k : Nat)) := (hbr.cell (p := ⟨b, off + k * 2, none⟩) hb).trans hc
      have d2 : wr.cell? ⟨b, off + k * 2 + 1, none⟩ = some (.int .i64 (P cs (k + 1) - P cs k : Nat)) := (hbr.cell (p := ⟨b, off + k * 2 + 1, none⟩) hb).trans hc'
      clear e' g1 g2 hc hc' hb'
      have hsum : IntKind.i64.wrap ((P cs k : Nat) + ((P cs (k + 1) - P cs k : Nat) : Int)) = ((P cs (k + 1) : Nat) : Int) := by
        rw [show ((P cs k : Nat) + ((P cs (k + 1) - P cs k : Nat) : Int)) = ((P cs (k + 1) : Nat) : Int) by omega]
        exact IntWalk.i64_in _ (by omega)
      generalize P cs (k + 1) = a' at *
      generalize hd : a' - P cs k = dl at *
      have hdl : dl ≤ 4000 := by omega
      clear hd
      generalize P cs k = a at *
      have m3 : a ≤ a' := by omega
      have HB2 := Lib.hid hbr
      have HROW := Lib.hid hrow
      clear hrow hbr
      go_wp2_with fail
      go_region_law ((refine step_append_lies _ (by rfl) _ _ 24 (by rfl) w.heap.size 9 i0 (.string ⟨#[]⟩) 1 16 Tryd.underlying24 hi hz0 hz1 hz2 rfl (by omega) u5 k _ (by rfl) ((HROW.out.alloc _).drew) ⟨wr.heap.size, 0, none⟩ 1 1 [.string (s.extract a a')] (by rfl) (by rfl) (cell_one_new _ _ _) (strs_oneCell [s.extract a a']) (by omega) (by unfold maxLen; omega) (by omega) (by simp; omega) _ rfl ?_; intro g cap w3 hown3 hgrow3 hat3 hlt3))
      all_goals
        go_wp2_with fail
        refine ⟨⟨k + 1, by omega, by go_num, ?_, ?_⟩, by simp only [intOf]; omega⟩
        · rw [HT.out, List.map_append]; exact hown3
        · exact ((HB2.out.alloc (by omega) _).drew).grown hgrow3 (by simp; omega) (fun j hj => owns_base HROW.out hj)
    · obtain rfl : k = cs.length := by omega
      have HO := Lib.hid hrow
      clear hrow
      go_wp2_with fail
      go_ret
      refine ⟨_, rfl, ?_, hbr⟩
      have := HO.out
      rw [List.take_of_length_le (by rw [txts_len]; exact Nat.le_refl _)] at this
      exact this
end Go.Proofs.YtpkbhihkhnkhnaaDoor
