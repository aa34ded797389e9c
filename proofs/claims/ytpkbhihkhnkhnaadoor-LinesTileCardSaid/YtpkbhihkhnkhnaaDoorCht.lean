/- ChunkTiles: the walk. -/
import Derived.Test.YtpkbhihkhnkhnaaDoorTiles
import Derived.Test.YtpkbhihkhnkhnaaDoorChm
namespace Go.Proofs.YtpkbhihkhnkhnaaDoor
open Go.RowKit
theorem cells5 {w : World} {g : Nat} {x0 x1 x2 x3 x4 : Value} {t : TypeId} (h : w.heap[g]? = some (.cells #[x0, x1, x2, x3, x4] t (0, 0))) :
    w.cell? ⟨g, 0, none⟩ = some x0 ∧ w.cell? ⟨g, 1, none⟩ = some x1 ∧ w.cell? ⟨g, 2, none⟩ = some x2 ∧ w.cell? ⟨g, 3, none⟩ = some x3 ∧ w.cell? ⟨g, 4, none⟩ = some x4 := by
  refine ⟨?_, ?_, ?_, ?_, ?_⟩ <;> simp [World.cell?, h]
theorem drew2 (w : World) (a b : Nat) : (w.drewN a).drewN b = w.drewN (a + b) := by simp [World.drewN, Nat.add_assoc]
set_option maxRecDepth 100000 in
set_option maxHeartbeats 4000000 in
theorem cht_yes (c : CutN) (s : ByteArray) (n0 : Nat) (w : World) (hc : c.May) (hs : s.size ≤ 3000) (hN : Needs n0 w) :
    Calls Tryd.prog 8 #[.agg #[.int .u64 c.p, .int .i64 c.n, .int .i64 c.mi, .int .i64 c.ma, .int .i64 c.bi], .string s] w fun e w' => e = .returned (.bool true) ∧ Below w.heap.size w w' := by
  have CA := Lib.hid (fun W (hb : Below w.heap.size w W) => alive9_any n0 W (hN.below (hb.mono hN.size)))
  have C1 := Lib.hid (fun W (hb : Below w.heap.size w W) => ctexts_yes c s n0 W hc (hN.below (hb.mono hN.size)) (by omega))
  have C2 := Lib.hid (fun W (hb : Below w.heap.size w W) => cmarks_yes c s n0 W hc (hN.below (hb.mono hN.size)) (by omega))
  have C3 := Lib.hid (fun W (hb : Below w.heap.size w W) => most_yes c s.size n0 W hc (hN.below (hb.mono hN.size)) (by omega))
  have hcu := cutsOf_cutting c s
  have l1 := cutsOf_len c s
  have l2 := mlK_len c s s.size
  obtain ⟨m0, m1, m2, m3, m4, m5, m6, m7⟩ := hc
  have hpk : ∀ k, k < (cutsOf c s).length → P (cutsOf c s) (k + 1) ≤ P (cutsOf c s) k + c.ma ∧ (k + 1 < (cutsOf c s).length → P (cutsOf c s) k + c.mi ≤ P (cutsOf c s) (k + 1) ∧ (P (cutsOf c s) (k + 1) < P (cutsOf c s) k + c.ma → P (cutsOf c s) (k + 1) ∈ mlK c s s.size)) := fun k hk => by
    have h := piece_ok (N := s.size) (mi := c.mi) (ma := c.ma) (m := mark c.p c.n c.bi s) (by omega) (by omega) hk
    refine ⟨h.1, fun h2 => ⟨(h.2 h2).1, fun h3 => mem_mlK.2 ⟨hcu.le_N (by omega), ?_, (h.2 h2).2 h3⟩⟩⟩
    have := hcu.mono hk; omega
  have hmost := most_ge (N := s.size) (mi := c.mi) (cs := cutsOf c s) (by omega) hcu (fun k hk => ((hpk k (by omega)).2 hk).1)
  have hso := mlK_sorted c s s.size
  have HPK := Lib.hid hpk
  have HC := Lib.hid hcu
  have HS := Lib.hid hso
  have hml : ∀ x ∈ mlK c s s.size, x ≤ 3000 := fun x hx => by have := (mem_mlK.1 hx).1; omega
  have HML := Lib.hid hml
  have hmx : s.size / c.mi + min (s.size % c.mi) 1 ≤ 4000 := by have := Nat.div_le_self s.size c.mi; omega
  clear hN m0 m1 hpk hcu hso hml
  generalize s.size / c.mi + min (s.size % c.mi) 1 = M at *
  generalize mlK c s s.size = ml at *
  generalize cutsOf c s = cs at *
  go_enter Tryd.func8, Tryd.ntmps8
  go_wp2_with fail
  have hb0 : Below w.heap.size w (w.alloc (.cells #[.int .u64 c.p, .int .i64 c.n, .int .i64 c.mi, .int .i64 c.ma, .int .i64 c.bi] 38)) := (Below.refl _ _).alloc (Nat.le_refl _) _
  have q0 : CutB (w.alloc (.cells #[.int .u64 c.p, .int .i64 c.n, .int .i64 c.mi, .int .i64 c.ma, .int .i64 c.bi] 38)) w.heap.size c := World.alloc_heap_new w _
  refine (C1.out _ hb0).mono ?_
  rintro e w1 ⟨v1, rfl, hv1, hb1⟩
  have z1 := hb1.size
  have q1 := q0.stays (Kept.of_below' (S := fun _ => True) hb1) trivial
  obtain ⟨d0, d1, d2, d3, d4⟩ := q1.cells
  have Q1 := Lib.hid q1
  have B1 := Lib.hid (hb0.trans (hb1.mono (by simp)))
  have R1 := Lib.hid (row_of_owns hv1)
  clear hb1 hb0 hv1 C1 q0 q1
  go_wp2_with fail
  refine (C2.out _ B1.out).mono ?_
  rintro e w2 ⟨v2, rfl, hv2, hb2⟩
  have z2 := hb2.size
  have zb1 := B1.out.size
  have B2 := Lib.hid (B1.out.trans (hb2.mono (by omega)))
  have R2 := Lib.hid (row_of_owns hv2)
  have R1 := Lib.hid (R1.out.below hb2)
  have q2 := Q1.out.stays (Kept.of_below' (S := fun _ => True) hb2) trivial
  obtain ⟨d0, d1, d2, d3, d4⟩ := q2.cells
  have Q2 := Lib.hid q2
  clear hb2 hv2 C2 B1 q2 Q1
  go_wp2_with fail
  refine (C3.out _ B2.out).mono ?_
  rintro e w3 ⟨rfl, hb3⟩
  have z3 := hb3.size
  have B3 := Lib.hid (B2.out.trans (hb3.mono (by omega)))
  have R2 := Lib.hid (R2.out.below hb3)
  have R1 := Lib.hid (R1.out.below hb3)
  obtain ⟨d0, d1, d2, d3, d4⟩ := (Q2.out.stays (Kept.of_below' (S := fun _ => True) hb3) trivial).cells
  clear hb3 C3 B2 Q2 d0 d1 d4
  obtain ⟨-, p1, c1, rfl, g1⟩ := R1.out
  obtain ⟨-, p2, c2, rfl, g2⟩ := R2.out
  have G1 := Lib.hid g1
  have G2 := Lib.hid g2
  clear g1 g2 R1 R2
  go_wp2_with fail
  go_loopw [11, 12, 13, 14] (fun va vt vi _ wr => ∃ (k t : Nat) (al : ByteArray), k ≤ cs.length ∧ t ≤ ml.length ∧ vi = .int .i64 k ∧ vt = .int .i64 t ∧ va = .string al ∧ al.size = P cs k ∧ Hid (al.data.toList = s.data.toList.take (P cs k)) ∧ Hid (∀ j, (hj : j < ml.length) → j < t → ml[j] < P cs k) ∧ ∃ nd, wr = w3.drewN nd) (fun _ _ vi _ _ => cs.length - (intOf vi).toNat)
  case atStart => exact ⟨0, 0, ⟨#[]⟩, Nat.zero_le _, Nat.zero_le _, rfl, rfl, rfl, rfl, Lib.hid rfl, Lib.hid (fun j _ hj => by omega), 0, rfl⟩
  case round =>
    obtain ⟨k, t, al, hk, ht, rfl, rfl, rfl, hal, HAL, HLT, nd, rfl⟩ := hrel
    by_cases hlt : k < cs.length
    · obtain ⟨b1, o1, rfl, k1, e1⟩ := G1.out k (.string (s.extract (P cs k) (P cs (k + 1)))) (by rw [List.getElem?_map, txts_get s cs k hlt]; rfl)
      have y1 := HC.out.mono hlt
      have y2 := HC.out.le_N (i := k + 1) (by omega)
      have y3 := HC.out.txt_size hlt
      obtain ⟨y4, HY⟩ := HPK.out k hlt
      have HY := Lib.hid HY
      have hA : ∃ a a', Hid (P cs k = a) ∧ Hid (P cs (k + 1) = a') := ⟨_, _, rfl, rfl⟩
      obtain ⟨a, a', HA, HA'⟩ := hA
      rw [HA.out] at HAL HLT hal y1 y3 y4 HY e1
      rw [HA'.out] at y1 y2 y3 y4 HY e1
      have HTK := Lib.hid (show (al ++ s.extract a a').data.toList = s.data.toList.take a' by
        have e : (s.data.toList.take a').take a = s.data.toList.take a := by rw [List.take_take, Nat.min_eq_left (by omega)]
        rw [ba_append, HAL.out, ba_extract, ← e, List.take_append_drop])
      generalize s.extract a a' = tx at *
      have htx : tx.size + a = a' := by omega
      have hts : (al ++ tx).size = a' := by rw [ba_append_size]; omega
      obtain ⟨A2, hA2⟩ : ∃ A2, Hid (al ++ tx = A2) := ⟨_, rfl⟩
      rw [hA2.out] at hts HTK
      have HLT2 := Lib.hid (show ∀ j, (hj : j < ml.length) → j < t → ml[j] < a' from fun j hj h => by have := HLT.out j hj h; omega)
      clear HAL HLT y3
      have hb1 : decide ((tx.size : Int) < 1) = false := by rw [decide_eq_false_iff_not]; omega
      have hb2 : decide ((c.ma : Int) < (tx.size : Int)) = false := by rw [decide_eq_false_iff_not]; omega
      have hc2 : decide (c.ma < tx.size) = false := by rw [decide_eq_false_iff_not]; omega
      by_cases hlast : k + 1 < cs.length
      · have y5 := (HY.out hlast).1
        have hb3 : decide ((k : Int) + 1 < (cs.length : Int)) = true := by rw [decide_eq_true_iff]; omega
        have hb4 : decide ((tx.size : Int) < (c.mi : Int)) = false := by rw [decide_eq_false_iff_not]; omega
        have hc4 : decide (tx.size < c.mi) = false := by rw [decide_eq_false_iff_not]; omega
        have y6 : a' < a + c.ma → a' ∈ ml := (HY.out hlast).2
        have HY6 := Lib.hid y6
        clear y6 HY
        go_wp2_with fail
        go_quiet (fail)
        rw [hA2.out]
        go_wp2_with fail
        go_loopw [12] (fun vt wr => ∃ t : Nat, t ≤ ml.length ∧ vt = .int .i64 t ∧ Hid (∀ j, (hj : j < ml.length) → j < t → ml[j] < a') ∧ ∃ nd, wr = w3.drewN nd) (fun vt _ => ml.length - (intOf vt).toNat)
        case atStart => exact ⟨t, ht, rfl, HLT2, _, drew2 _ _ _⟩
        case round =>
          clear HLT2
          obtain ⟨t2, ht2, rfl, HL3, nd2, rfl⟩ := hrel
          by_cases htl : t2 < ml.length
          · obtain ⟨b2, o2, rfl, k2, e2⟩ := G2.out t2 (.int .i64 (ml[t2] : Nat)) (by simp [icells, htl])
            have y7 := HML.out _ (List.getElem_mem htl)
            have HX := Lib.hid (show ∀ x, x = ml[t2] → x < a' → ∀ j, (hj : j < ml.length) → j < t2 + 1 → ml[j] < a' from fun x hx hlt j hj h => by
              rcases Nat.eq_or_lt_of_le (show j ≤ t2 by omega) with e | e
              · subst e; omega
              · exact HL3.out j hj e)
            have HM2 := Lib.hid (fun h h2 => at_mark HS.out (t := t2) (x := a') h HL3.out h2)
            obtain ⟨x, hx⟩ : ∃ x, Hid (ml[t2] = x) := ⟨_, Lib.hid rfl⟩
            rw [hx.out] at e2 y7
            by_cases hxa : x < a'
            · have HZ := Lib.hid (HX.out x hx.out.symm hxa)
              clear HX HM2 HL3
              go_wp2_with fail
              exact ⟨⟨t2 + 1, by omega, by go_num, HZ, _, rfl⟩, by simp only [intOf]; omega⟩
            · have hmm : a' ∈ ml → x = a' := fun h => by
                obtain ⟨_, h3⟩ := HM2.out h (fun _ => by rw [hx.out]; omega)
                rw [← h3, hx.out]
              have HL4 := Lib.hid HL3.out
              clear HX HM2 HL3
              by_cases hxe : x = a'
              · have hxb : ((x : Int) == (a' : Int)) = true := by rw [beq_iff_eq]; omega
                clear hmm hxe
                cases hb5 : decide (tx.size < c.ma)
                all_goals
                  go_wp2_with fail
                  go_quiet (fail)
                  go_wp2_with fail
                  exact ⟨⟨k + 1, t2, A2, by omega, by omega, by go_num, rfl, rfl, by rw [HA'.out]; exact hts, by rw [HA'.out]; exact HTK, by rw [HA'.out]; exact HL4, _, rfl⟩, by simp only [intOf]; omega⟩
              · have hxb : ((x : Int) == (a' : Int)) = false := by rw [beq_eq_false_iff_ne]; omega
                have hno : ¬ a' ∈ ml := fun h => hxe (hmm h)
                clear hmm hxe
                have y8 : a + c.ma ≤ a' := by
                  rcases Nat.lt_or_ge a' (a + c.ma) with g | g
                  · exact absurd (HY6.out g) hno
                  · exact g
                clear hno
                have hb5 : decide (tx.size < c.ma) = false := by rw [decide_eq_false_iff_not]; omega
                all_goals
                  go_wp2_with fail
                  go_quiet (fail)
                  go_wp2_with fail
                  exact ⟨⟨k + 1, t2, A2, by omega, by omega, by go_num, rfl, rfl, by rw [HA'.out]; exact hts, by rw [HA'.out]; exact HTK, by rw [HA'.out]; exact HL4, _, rfl⟩, by simp only [intOf]; omega⟩
          · obtain rfl : t2 = ml.length := by omega
            have hno : ¬ a' ∈ ml := fun h => by
              obtain ⟨h3, _⟩ := at_mark HS.out (t := ml.length) (x := a') h HL3.out (fun h3 => by omega)
              omega
            have HL4 := Lib.hid HL3.out
            clear HL3
            have y8 : a + c.ma ≤ a' := by
              rcases Nat.lt_or_ge a' (a + c.ma) with g | g
              · exact absurd (HY6.out g) hno
              · exact g
            clear hno
            have hb5 : decide (tx.size < c.ma) = false := by rw [decide_eq_false_iff_not]; omega
            all_goals
              go_wp2_with fail
              go_quiet (fail)
              go_wp2_with fail
              exact ⟨⟨k + 1, ml.length, A2, by omega, by omega, by go_num, rfl, rfl, by rw [HA'.out]; exact hts, by rw [HA'.out]; exact HTK, by rw [HA'.out]; exact HL4, _, rfl⟩, by simp only [intOf]; omega⟩
      · have y5 : True := trivial
        have hb3 : decide ((k : Int) + 1 < (cs.length : Int)) = false := by rw [decide_eq_false_iff_not]; omega
        have y6 : True := trivial
        have HY6 := Lib.hid y6
        clear y6 HY
        go_wp2_with fail
        go_quiet (fail)
        rw [hA2.out]
        go_wp2_with fail
        go_loopw [12] (fun vt wr => ∃ t : Nat, t ≤ ml.length ∧ vt = .int .i64 t ∧ Hid (∀ j, (hj : j < ml.length) → j < t → ml[j] < a') ∧ ∃ nd, wr = w3.drewN nd) (fun vt _ => ml.length - (intOf vt).toNat)
        case atStart => exact ⟨t, ht, rfl, HLT2, _, drew2 _ _ _⟩
        case round =>
          clear HLT2
          obtain ⟨t2, ht2, rfl, HL3, nd2, rfl⟩ := hrel
          by_cases htl : t2 < ml.length
          · obtain ⟨b2, o2, rfl, k2, e2⟩ := G2.out t2 (.int .i64 (ml[t2] : Nat)) (by simp [icells, htl])
            have y7 := HML.out _ (List.getElem_mem htl)
            have HX := Lib.hid (show ∀ x, x = ml[t2] → x < a' → ∀ j, (hj : j < ml.length) → j < t2 + 1 → ml[j] < a' from fun x hx hlt j hj h => by
              rcases Nat.eq_or_lt_of_le (show j ≤ t2 by omega) with e | e
              · subst e; omega
              · exact HL3.out j hj e)
            have HM2 := Lib.hid (fun h h2 => at_mark HS.out (t := t2) (x := a') h HL3.out h2)
            obtain ⟨x, hx⟩ : ∃ x, Hid (ml[t2] = x) := ⟨_, Lib.hid rfl⟩
            rw [hx.out] at e2 y7
            by_cases hxa : x < a'
            · have HZ := Lib.hid (HX.out x hx.out.symm hxa)
              clear HX HM2 HL3
              go_wp2_with fail
              exact ⟨⟨t2 + 1, by omega, by go_num, HZ, _, rfl⟩, by simp only [intOf]; omega⟩
            · have hmm : a' ∈ ml → x = a' := fun h => by
                obtain ⟨_, h3⟩ := HM2.out h (fun _ => by rw [hx.out]; omega)
                rw [← h3, hx.out]
              have HL4 := Lib.hid HL3.out
              clear HX HM2 HL3
              by_cases hxe : x = a'
              · have hxb : ((x : Int) == (a' : Int)) = true := by rw [beq_iff_eq]; omega
                clear hmm hxe
                cases hb5 : decide (tx.size < c.ma)
                all_goals
                  go_wp2_with fail
                  go_quiet (fail)
                  go_wp2_with fail
                  exact ⟨⟨k + 1, t2, A2, by omega, by omega, by go_num, rfl, rfl, by rw [HA'.out]; exact hts, by rw [HA'.out]; exact HTK, by rw [HA'.out]; exact HL4, _, rfl⟩, by simp only [intOf]; omega⟩
              · have hxb : ((x : Int) == (a' : Int)) = false := by rw [beq_eq_false_iff_ne]; omega
                have hno : ¬ a' ∈ ml := fun h => hxe (hmm h)
                clear hmm hxe
                have y8 := y5
                clear hno
                cases hb5 : decide (tx.size < c.ma)
                all_goals
                  go_wp2_with fail
                  go_quiet (fail)
                  go_wp2_with fail
                  exact ⟨⟨k + 1, t2, A2, by omega, by omega, by go_num, rfl, rfl, by rw [HA'.out]; exact hts, by rw [HA'.out]; exact HTK, by rw [HA'.out]; exact HL4, _, rfl⟩, by simp only [intOf]; omega⟩
          · obtain rfl : t2 = ml.length := by omega
            have hno : ¬ a' ∈ ml := fun h => by
              obtain ⟨h3, _⟩ := at_mark HS.out (t := ml.length) (x := a') h HL3.out (fun h3 => by omega)
              omega
            have HL4 := Lib.hid HL3.out
            clear HL3
            have y8 := y5
            clear hno
            cases hb5 : decide (tx.size < c.ma)
            all_goals
              go_wp2_with fail
              go_quiet (fail)
              go_wp2_with fail
              exact ⟨⟨k + 1, ml.length, A2, by omega, by omega, by go_num, rfl, rfl, by rw [HA'.out]; exact hts, by rw [HA'.out]; exact HTK, by rw [HA'.out]; exact HL4, _, rfl⟩, by simp only [intOf]; omega⟩
    · obtain rfl : k = cs.length := by omega
      have hE := HC.out.P_end
      have HSS := Lib.hid (show al = s from ba_ext (by rw [HAL.out, hE, ba_size, List.take_length]))
      rw [HSS.out]
      have B4 := below_drewN B3.out nd
      clear HAL HLT hal
      go_wp2_with fail
      refine (CA.out _ B4).mono ?_
      rintro e w6 ⟨rfl, hb6⟩
      have B6 := Lib.hid (B4.trans (hb6.mono (by simp; omega)))
      clear hb6 B4
      go_wp2_with fail
      go_ret
      exact ⟨rfl, B6.out⟩
set_option maxRecDepth 100000 in
set_option maxHeartbeats 1000000 in
theorem chunkTiles_any (c : Cut5) (s : ByteArray) (n0 : Nat) (w : World) (hp : c.p < 18446744073709551616) (r1 : s.size ≤ 140737488351232) (hN : Needs n0 w) :
    Calls Tryd.prog 8 #[c.v, .string s] w fun e w' => e = .returned (.bool true) ∧ Below w.heap.size w w' := by
  have CA := Lib.hid (fun W (hb : Below w.heap.size w W) => alive9_any n0 W (hN.below (hb.mono hN.size)))
  by_cases hs : s.size ≤ 3000
  · by_cases hc : CMay c
    · obtain ⟨d, hd, rfl⟩ := cut_nat hc hp
      exact cht_yes d s n0 w hd hs hN
    · have C1 := Lib.hid (fun W (hb : Below w.heap.size w W) => ctexts_no c s n0 W hp (hN.below (hb.mono hN.size)) hc)
      have C2 := Lib.hid (fun W (hb : Below w.heap.size w W) => cmarks_no c s n0 W hp (hN.below (hb.mono hN.size)) hc)
      have C3 := Lib.hid (fun W (hb : Below w.heap.size w W) => most_no c s.size n0 W hp (hN.below (hb.mono hN.size)) hc)
      obtain ⟨p, n, mi, ma, bi⟩ := c
      simp only [Cut5.v] at C1 C2 C3 ⊢
      clear hN hc hp
      go_enter Tryd.func8, Tryd.ntmps8
      go_wp2_with fail
      have hb0 : Below w.heap.size w (w.alloc (.cells #[.int .u64 p, .int .i64 n, .int .i64 mi, .int .i64 ma, .int .i64 bi] 38)) := (Below.refl _ _).alloc (Nat.le_refl _) _
      refine (C1.out _ hb0).mono ?_
      rintro e w1 ⟨rfl, hb1⟩
      have z1 := hb1.size
      have hc : w1.heap[w.heap.size]? = some (.cells #[.int .u64 p, .int .i64 n, .int .i64 mi, .int .i64 ma, .int .i64 bi] 38 (0, 0)) := by rw [hb1.block _ (by simp), World.alloc_heap_new]
      have HC := Lib.hid hc
      obtain ⟨c0, c1, c2, c3, c4⟩ := cells5 hc
      have B1 := Lib.hid (hb0.trans (hb1.mono (by simp)))
      have zb := B1.out.size
      clear hb1 hb0 hc
      simp at z1
      go_wp2_with fail
      refine (C2.out _ B1.out).mono ?_
      rintro e w2 ⟨rfl, hb2⟩
      have z2 := hb2.size
      have hc : w2.heap[w.heap.size]? = some (.cells #[.int .u64 p, .int .i64 n, .int .i64 mi, .int .i64 ma, .int .i64 bi] 38 (0, 0)) := by rw [hb2.block _ (by omega)]; exact HC.out
      obtain ⟨c0, c1, c2, c3, c4⟩ := cells5 hc
      have B2 := Lib.hid (B1.out.trans (hb2.mono (by omega)))
      clear hb2 hc
      go_wp2_with fail
      refine (C3.out _ B2.out).mono ?_
      rintro e w2b ⟨rfl, hb2⟩
      have B2 := B2.out.trans (hb2.mono (by have := B2.out.size; omega))
      clear hb2
      go_wp2_with fail
      refine (CA.out _ B2).mono ?_
      rintro e w3 ⟨rfl, hb3⟩
      have B3 := Lib.hid (B2.trans (hb3.mono (by have := B2.size; omega)))
      clear hb3 B2
      go_wp2_with fail
      go_ret
      exact ⟨rfl, B3.out⟩
  · obtain ⟨p, n, mi, ma, bi⟩ := c
    simp only [Cut5.v]
    clear hN hp
    have B0 : Below w.heap.size w (w.alloc (.cells #[.int .u64 p, .int .i64 n, .int .i64 mi, .int .i64 ma, .int .i64 bi] 38)) := (Below.refl _ _).alloc (Nat.le_refl _) _
    go_enter Tryd.func8, Tryd.ntmps8
    go_wp2_with fail
    refine (CA.out _ B0).mono ?_
    rintro e w2 ⟨rfl, hb2⟩
    go_wp2_with fail
    go_ret
    exact ⟨rfl, B0.trans (hb2.mono (by simp))⟩
end Go.Proofs.YtpkbhihkhnkhnaaDoor
