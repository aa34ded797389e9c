/- LinesMeet: the walk. -/
import Derived.Test.YtpkbhihkhnkhnaaDoorLmt
import Derived.Test.YtpkbhihkhnkhnaaDoorCht
namespace Go.Proofs.YtpkbhihkhnkhnaaDoor
open Go.RowKit
set_option maxRecDepth 100000 in
set_option maxHeartbeats 4000000 in
theorem lnm_yes (c : CutN) (one two en : ByteArray) (n0 : Nat) (w : World) (hc : c.May) (hs : one.size + two.size + en.size ≤ 2000) (hN : Needs n0 w) :
    Calls Tryd.prog 11 #[.agg #[.int .u64 c.p, .int .i64 c.n, .int .i64 c.mi, .int .i64 c.ma, .int .i64 c.bi], .string one, .string two, .string en] w fun e w' => e = .returned (.bool true) ∧ Below w.heap.size w w' := by
  have CA := Lib.hid (fun W (hb : Below w.heap.size w W) => alive10_any n0 W (hN.below (hb.mono hN.size)))
  have C1 := Lib.hid (fun W (hb : Below w.heap.size w W) => ctexts_yes c (one ++ en) n0 W hc (hN.below (hb.mono hN.size)) (by rw [ba_append_size]; omega))
  have C2 := Lib.hid (fun W (hb : Below w.heap.size w W) => ctexts_yes c (two ++ en) n0 W hc (hN.below (hb.mono hN.size)) (by rw [ba_append_size]; omega))
  have C3 := Lib.hid (fun W (hb : Below w.heap.size w W) => ltexts_yes c (one ++ en) n0 W hc (hN.below (hb.mono hN.size)) (by rw [ba_append_size]; omega))
  have C4 := Lib.hid (fun W (hb : Below w.heap.size w W) => ltexts_yes c (two ++ en) n0 W hc (hN.below (hb.mono hN.size)) (by rw [ba_append_size]; omega))
  have u1 := cutsOf_cutting c (one ++ en)
  have u2 := cutsOf_cutting c (two ++ en)
  have l1 := cutsOf_len c (one ++ en)
  have l2 := cutsOf_len c (two ++ en)
  have l3 := acsOf_len c (one ++ en)
  have l4 := acsOf_len c (two ++ en)
  rw [ba_append_size] at l1 l2 l3 l4
  have D1 := Lib.hid (fun v (W : World) => ends_any (one ++ en) (cutsOf c (one ++ en)) one.size v W u1 (by rw [ba_append_size]; omega) (by omega) (by omega))
  have D2 := Lib.hid (fun v (W : World) => ends_any (two ++ en) (cutsOf c (two ++ en)) two.size v W u2 (by rw [ba_append_size]; omega) (by omega) (by omega))
  have D3 := Lib.hid (fun m (hm : m ≤ 50000) v (W : World) => ends_any (one ++ en) (acsOf c (one ++ en)) (one.size + m) v W (acsOf_cutting _ _) (by rw [ba_append_size]; omega) (by omega) (by omega))
  have D4 := Lib.hid (fun m (hm : m ≤ 50000) v (W : World) => ends_any (two ++ en) (acsOf c (two ++ en)) (two.size + m) v W (acsOf_cutting _ _) (by rw [ba_append_size]; omega) (by omega) (by omega))
  have HM := Lib.hid (fun m (h0 : 0 < m) (h1 : m ∈ endsL (cutsOf c (one ++ en)) one.size) (h2 : m ∈ endsL (cutsOf c (two ++ en)) two.size) => lines_meet c hc one two en h0 (mem_endsL.1 h1) (mem_endsL.1 h2))
  have HX1 := Lib.hid (show ∀ x ∈ endsL (cutsOf c (one ++ en)) one.size, x ≤ 3000 from fun x hx => by have := u1.le _ (mem_endsL.1 hx); rw [ba_append_size] at this; omega)
  have HX2 := Lib.hid (show ∀ x ∈ endsL (cutsOf c (two ++ en)) two.size, x ≤ 3000 from fun x hx => by have := u2.le _ (mem_endsL.1 hx); rw [ba_append_size] at this; omega)
  have el1 := endsL_len (cutsOf c (one ++ en)) one.size
  have el2 := endsL_len (cutsOf c (two ++ en)) two.size
  have EL3 := Lib.hid (fun m => Nat.le_trans (endsL_len (acsOf c (one ++ en)) (one.size + m)) l3)
  clear hN u1 u2 hc
  generalize cutsOf c (one ++ en) = a at *
  generalize cutsOf c (two ++ en) = b at *
  generalize acsOf c (one ++ en) = aa at *
  generalize acsOf c (two ++ en) = bb at *
  obtain ⟨t1, ht1⟩ : ∃ t1, Hid (txts (one ++ en) a = t1) := ⟨_, Lib.hid rfl⟩
  obtain ⟨t2, ht2⟩ : ∃ t2, Hid (txts (two ++ en) b = t2) := ⟨_, Lib.hid rfl⟩
  obtain ⟨t3, ht3⟩ : ∃ t3, Hid (txts (one ++ en) aa = t3) := ⟨_, Lib.hid rfl⟩
  obtain ⟨t4, ht4⟩ : ∃ t4, Hid (txts (two ++ en) bb = t4) := ⟨_, Lib.hid rfl⟩
  rw [ht1.out] at C1 D1
  rw [ht2.out] at C2 D2
  rw [ht3.out] at C3 D3
  rw [ht4.out] at C4 D4
  go_enter Tryd.func11, Tryd.ntmps11
  go_wp2_with fail
  have hb0 : Below w.heap.size w (w.alloc (.cells #[.int .u64 c.p, .int .i64 c.n, .int .i64 c.mi, .int .i64 c.ma, .int .i64 c.bi] 38)) := (Below.refl _ _).alloc (Nat.le_refl _) _
  have q0 : CutB (w.alloc (.cells #[.int .u64 c.p, .int .i64 c.n, .int .i64 c.mi, .int .i64 c.ma, .int .i64 c.bi] 38)) w.heap.size c := World.alloc_heap_new w _
  refine (C1.out _ hb0).mono ?_
  rintro e w1 ⟨v1, rfl, hv1, hb1⟩
  have Q := Lib.hid (q0.stays (Kept.of_below' (S := fun _ => True) hb1) trivial)
  obtain ⟨d0, d1, d2, d3, d4⟩ := Q.out.cells
  have B1 := Lib.hid (hb0.trans (hb1.mono (by simp)))
  have R1 := Lib.hid (row_of_owns hv1)
  clear hb1 hb0 hv1 C1 q0
  go_wp2_with fail
  refine (C2.out _ B1.out).mono ?_
  rintro e w2 ⟨v2, rfl, hv2, hb2⟩
  have B2 := Lib.hid (B1.out.trans (hb2.mono B1.out.size))
  have R2 := Lib.hid (row_of_owns hv2)
  have R1 := Lib.hid (R1.out.below hb2)
  have Q := Lib.hid (Q.out.stays (Kept.of_below' (S := fun _ => True) hb2) trivial)
  obtain ⟨d0, d1, d2, d3, d4⟩ := Q.out.cells
  clear hb2 hv2 C2 B1
  go_wp2_with fail
  refine (C3.out _ B2.out).mono ?_
  rintro e w3 ⟨v3, rfl, hv3, hb3⟩
  have B3 := Lib.hid (B2.out.trans (hb3.mono B2.out.size))
  have R3 := Lib.hid (row_of_owns hv3)
  have R1 := Lib.hid (R1.out.below hb3)
  have R2 := Lib.hid (R2.out.below hb3)
  have Q := Lib.hid (Q.out.stays (Kept.of_below' (S := fun _ => True) hb3) trivial)
  obtain ⟨d0, d1, d2, d3, d4⟩ := Q.out.cells
  clear hb3 hv3 C3 B2
  go_wp2_with fail
  refine (C4.out _ B3.out).mono ?_
  rintro e w4 ⟨v4, rfl, hv4, hb4⟩
  have B4 := Lib.hid (B3.out.trans (hb4.mono B3.out.size))
  have R4 := Lib.hid (row_of_owns hv4)
  have R1 := Lib.hid (R1.out.below hb4)
  have R2 := Lib.hid (R2.out.below hb4)
  have R3 := Lib.hid (R3.out.below hb4)
  clear hb4 hv4 C4 B3 Q d0 d1 d2 d3 d4
  go_wp2_with fail
  refine (D1.out v1 _ R1.out).mono ?_
  rintro e w5 ⟨v5, rfl, hv5, hb5⟩
  have B5 := Lib.hid (B4.out.trans (hb5.mono B4.out.size))
  have R5 := Lib.hid (row_of_owns hv5)
  have R2 := Lib.hid (R2.out.below hb5)
  have R3 := Lib.hid (R3.out.below hb5)
  have R4 := Lib.hid (R4.out.below hb5)
  clear hb5 hv5 D1 B4 R1
  go_wp2_with fail
  refine (D2.out v2 _ R2.out).mono ?_
  rintro e w6 ⟨v6, rfl, hv6, hb6⟩
  have B6 := Lib.hid (B5.out.trans (hb6.mono B5.out.size))
  have R6 := Lib.hid (row_of_owns hv6)
  have R3 := Lib.hid (R3.out.below hb6)
  have R4 := Lib.hid (R4.out.below hb6)
  have R5 := Lib.hid (R5.out.below hb6)
  clear hb6 hv6 D2 B5 R2
  generalize endsL a one.size = x at *
  generalize endsL b two.size = y at *
  obtain ⟨-, p5, c5, rfl, g5⟩ := R5.out
  obtain ⟨-, p6, c6, rfl, g6⟩ := R6.out
  have G5 := Lib.hid g5
  have G6 := Lib.hid g6
  clear g5 g6 R5 R6
  go_wp2_with fail
  go_loopw [19, 20, 21] (fun vm vi _ wr => ∃ i m : Nat, i ≤ x.length ∧ m ≤ 3000 ∧ vi = .int .i64 i ∧ vm = .int .i64 m ∧ Hid (0 < m → m ∈ x ∧ m ∈ y) ∧ ∃ nd, wr = w6.drewN nd) (fun _ vi _ _ => x.length - (intOf vi).toNat)
  case atStart => exact ⟨0, 0, Nat.zero_le _, Nat.zero_le _, rfl, rfl, Lib.hid (fun h => by omega), 0, rfl⟩
  case round =>
    obtain ⟨i, m, hi, hm, rfl, rfl, HMM, nd, rfl⟩ := hrel
    by_cases hlt : i < x.length ∧ m = 0
    · obtain ⟨h1, rfl⟩ := hlt
      obtain ⟨b1, o1, rfl, k1, e1⟩ := G5.out i (.int .i64 (x[i] : Nat)) (by simp [icells, h1])
      have y1 := HX1.out _ (List.getElem_mem h1)
      have HXI := Lib.hid (List.getElem_mem h1)
      generalize x[i] = xi at *
      clear HMM
      go_wp2_with fail
      go_loopw [19, 21] (fun vm vk wr => ∃ k m : Nat, k ≤ y.length ∧ m ≤ 3000 ∧ vk = .int .i64 k ∧ vm = .int .i64 m ∧ Hid (0 < m → m ∈ x ∧ m ∈ y) ∧ ∃ nd, wr = w6.drewN nd) (fun _ vk _ => y.length - (intOf vk).toNat)
      case atStart => exact ⟨0, 0, Nat.zero_le _, Nat.zero_le _, rfl, rfl, Lib.hid (fun h => by omega), nd, rfl⟩
      case round =>
        obtain ⟨k, m, hk, hm, rfl, rfl, HMM, nd2, rfl⟩ := hrel
        by_cases h2 : k < y.length
        · obtain ⟨b2, o2, rfl, k2, e2⟩ := G6.out k (.int .i64 (y[k] : Nat)) (by simp [icells, h2])
          have y2 := HX2.out _ (List.getElem_mem h2)
          have HYI := Lib.hid (List.getElem_mem h2)
          generalize y[k] = yk at *
          by_cases hxy : xi = yk
          · subst hxy
            by_cases hp : 0 < xi
            · have hb : ((xi : Int) == (xi : Int)) = true := by simp
              have hb2 : decide ((0 : Int) < (xi : Int)) = true := by rw [decide_eq_true_iff]; omega
              go_wp2_with fail
              go_quiet (fail)
              go_wp2_with fail
              exact ⟨⟨k + 1, xi, by omega, by omega, by go_num, rfl, Lib.hid (fun _ => ⟨HXI.out, HYI.out⟩), _, rfl⟩, by simp only [intOf]; omega⟩
            · have hb : ((xi : Int) == (xi : Int)) = true := by simp
              have hb2 : decide ((0 : Int) < (xi : Int)) = false := by rw [decide_eq_false_iff_not]; omega
              go_wp2_with fail
              go_quiet (fail)
              go_wp2_with fail
              exact ⟨⟨k + 1, m, by omega, by omega, by go_num, rfl, HMM, _, rfl⟩, by simp only [intOf]; omega⟩
          · have hb : ((xi : Int) == (yk : Int)) = false := by rw [beq_eq_false_iff_ne]; omega
            go_wp2_with fail
            go_quiet (fail)
            go_wp2_with fail
            exact ⟨⟨k + 1, m, by omega, by omega, by go_num, rfl, HMM, _, rfl⟩, by simp only [intOf]; omega⟩
        · obtain rfl : k = y.length := by omega
          go_wp2_with fail
          exact ⟨⟨i + 1, m, by omega, by omega, by go_num, rfl, HMM, _, rfl⟩, by simp only [intOf]; omega⟩
    · rcases Nat.eq_zero_or_pos m with hm0 | hm0
      · subst hm0
        obtain rfl : i = x.length := by omega
        have B7 := below_drewN B6.out nd
        clear hlt
        go_wp2_with fail
        refine (CA.out _ B7).mono ?_
        rintro e w8 ⟨rfl, hb8⟩
        have B8 := Lib.hid (B7.trans (hb8.mono B7.size))
        clear hb8 B7
        go_wp2_with fail
        go_ret
        exact ⟨rfl, B8.out⟩
      · have hmm := HMM.out hm0
        have HEQ := Lib.hid (HM.out m hm0 hmm.1 hmm.2)
        have hmb : ((m : Int) == 0) = false := by rw [beq_eq_false_iff_ne]; omega
        obtain ⟨W7, hW7⟩ : ∃ W7, W7 = w6.drewN nd := ⟨_, rfl⟩
        have hb7 : Below w6.heap.size w6 W7 := by rw [hW7]; exact below_drewN (Below.refl _ _) nd
        have B7 := Lib.hid (B6.out.trans (hb7.mono B6.out.size))
        have R3 := Lib.hid (R3.out.below hb7)
        have R4 := Lib.hid (R4.out.below hb7)
        have C5 := Lib.hid (D3.out m (by omega) v3)
        have C6 := Lib.hid (D4.out m (by omega) v4)
        rw [← HEQ.out] at C6
        have el3 := EL3.out m
        have hI1 : ((one.size + m : Nat) : Int) = (one.size : Int) + m := by omega
        have hI2 : ((two.size + m : Nat) : Int) = (two.size : Int) + m := by omega
        rw [hI1] at C5
        rw [hI2] at C6
        rw [← hW7]
        clear hW7 hb7 hmm HMM B6 D3 D4 hI1 hI2 G5 G6
        generalize endsL aa (one.size + m) = u at *
        have hcase : i < x.length ∨ i = x.length := by omega
        have hcase2 : ∃ q : Bool, decide ((i : Int) < (x.length : Int)) = q := ⟨_, rfl⟩
        obtain ⟨q, hq⟩ := hcase2
        rcases hcase with hcs | hcs
        all_goals
          go_wp2_with fail
          refine (C5.out _ R3.out).mono ?_
          rintro e w8 ⟨v8, rfl, hv8, hb8⟩
          have B8 := Lib.hid (B7.out.trans (hb8.mono B7.out.size))
          have R8 := Lib.hid (row_of_owns hv8)
          have R4 := Lib.hid (R4.out.below hb8)
          clear hb8 hv8
          go_wp2_with fail
          refine (C6.out _ R4.out).mono ?_
          rintro e w9 ⟨v9, rfl, hv9, hb9⟩
          have B9 := Lib.hid (B8.out.trans (hb9.mono B8.out.size))
          have R9 := Lib.hid (row_of_owns hv9)
          have R8 := Lib.hid (R8.out.below hb9)
          clear hb9 hv9 B8
          obtain ⟨-, p8, c8, rfl, g8⟩ := R8.out
          obtain ⟨-, p9, c9, rfl, g9⟩ := R9.out
          have G8 := Lib.hid g8
          have G9 := Lib.hid g9
          clear g8 g9 R8 R9
          go_wp2_with fail
          go_loopw [24] (fun j wr => ∃ n : Nat, n ≤ u.length ∧ j = .int .i64 n ∧ ∃ nd, wr = w9.drewN nd) (fun j _ => u.length - (intOf j).toNat)
          case atStart => exact ⟨0, Nat.zero_le _, rfl, 0, rfl⟩
          case round =>
            obtain ⟨n, hn, rfl, nd3, rfl⟩ := hrel
            by_cases hlt2 : n < u.length
            · obtain ⟨b8, o8, rfl, k8, f8⟩ := G8.out n (.int .i64 (u[n] : Nat)) (by simp [icells, hlt2])
              obtain ⟨b9, o9, rfl, k9, f9⟩ := G9.out n (.int .i64 (u[n] : Nat)) (by simp [icells, hlt2])
              generalize u[n] = un at *
              go_wp2_with fail
              go_quiet (fail)
              go_wp2_with fail
              exact ⟨⟨n + 1, by omega, by go_num, _, rfl⟩, by simp only [intOf]; omega⟩
            · obtain rfl : n = u.length := by omega
              have B10 := below_drewN B9.out nd3
              go_wp2_with fail
              refine (CA.out _ B10).mono ?_
              rintro e w11 ⟨rfl, hb11⟩
              have B11 := Lib.hid (B10.trans (hb11.mono B10.size))
              clear hb11 B10
              go_wp2_with fail
              go_ret
              exact ⟨rfl, B11.out⟩
set_option maxRecDepth 100000 in
set_option maxHeartbeats 1000000 in
theorem linesMeet_any (c : Cut5) (one two en : ByteArray) (n0 : Nat) (w : World) (hp : c.p < 18446744073709551616) (r1 : one.size ≤ 140737488351232) (r2 : two.size ≤ 140737488351232) (r3 : en.size ≤ 140737488351232) (hN : Needs n0 w) :
    Calls Tryd.prog 11 #[c.v, .string one, .string two, .string en] w fun e w' => e = .returned (.bool true) ∧ Below w.heap.size w w' := by
  have CA := Lib.hid (fun W (hb : Below w.heap.size w W) => alive10_any n0 W (hN.below (hb.mono hN.size)))
  by_cases hs : one.size + two.size + en.size ≤ 2000
  · by_cases hc : CMay c
    · obtain ⟨d, hd, rfl⟩ := cut_nat hc hp
      exact lnm_yes d one two en n0 w hd hs hN
    · have C1 := Lib.hid (fun W (hb : Below w.heap.size w W) => ctexts_no c (one ++ en) n0 W hp (hN.below (hb.mono hN.size)) hc)
      have C2 := Lib.hid (fun W (hb : Below w.heap.size w W) => ctexts_no c (two ++ en) n0 W hp (hN.below (hb.mono hN.size)) hc)
      have C3 := Lib.hid (fun W (hb : Below w.heap.size w W) => ltexts_no c (one ++ en) n0 W hp (hN.below (hb.mono hN.size)) hc)
      have C4 := Lib.hid (fun W (hb : Below w.heap.size w W) => ltexts_no c (two ++ en) n0 W hp (hN.below (hb.mono hN.size)) hc)
      obtain ⟨p, n, mi, ma, bi⟩ := c
      simp only [Cut5.v] at C1 C2 C3 C4 ⊢
      clear hN hc hp
      go_enter Tryd.func11, Tryd.ntmps11
      go_wp2_with fail
      have hb0 : Below w.heap.size w (w.alloc (.cells #[.int .u64 p, .int .i64 n, .int .i64 mi, .int .i64 ma, .int .i64 bi] 38)) := (Below.refl _ _).alloc (Nat.le_refl _) _
      have q0 : (w.alloc (.cells #[.int .u64 p, .int .i64 n, .int .i64 mi, .int .i64 ma, .int .i64 bi] 38)).heap[w.heap.size]? = some (.cells #[.int .u64 p, .int .i64 n, .int .i64 mi, .int .i64 ma, .int .i64 bi] 38 (0, 0)) := World.alloc_heap_new w _
      refine (C1.out _ hb0).mono ?_
      rintro e w1 ⟨rfl, hb1⟩
      have Q := Lib.hid ((Kept.of_below' (S := fun _ => True) hb1).heap q0 trivial)
      obtain ⟨d0, d1, d2, d3, d4⟩ := cells5 Q.out
      have B1 := Lib.hid (hb0.trans (hb1.mono (by simp)))
      clear hb1 hb0 q0
      go_wp2_with fail
      refine (C2.out _ B1.out).mono ?_
      rintro e w2 ⟨rfl, hb1⟩
      have Q := Lib.hid ((Kept.of_below' (S := fun _ => True) hb1).heap Q.out trivial)
      obtain ⟨d0, d1, d2, d3, d4⟩ := cells5 Q.out
      have B2 := Lib.hid (B1.out.trans (hb1.mono B1.out.size))
      clear hb1 B1
      go_wp2_with fail
      refine (C3.out _ B2.out).mono ?_
      rintro e w3 ⟨rfl, hb1⟩
      have Q := Lib.hid ((Kept.of_below' (S := fun _ => True) hb1).heap Q.out trivial)
      obtain ⟨d0, d1, d2, d3, d4⟩ := cells5 Q.out
      have B3 := Lib.hid (B2.out.trans (hb1.mono B2.out.size))
      clear hb1 B2
      go_wp2_with fail
      refine (C4.out _ B3.out).mono ?_
      rintro e w4 ⟨rfl, hb1⟩
      have B4 := B3.out.trans (hb1.mono B3.out.size)
      clear hb1 B3 Q d0 d1 d2 d3 d4
      go_wp2_with fail
      refine (CA.out _ B4).mono ?_
      rintro e w5 ⟨rfl, hb3⟩
      have B5 := Lib.hid (B4.trans (hb3.mono B4.size))
      clear hb3 B4
      go_wp2_with fail
      go_ret
      exact ⟨rfl, B5.out⟩
  · obtain ⟨p, n, mi, ma, bi⟩ := c
    simp only [Cut5.v]
    clear hN hp
    have B0 : Below w.heap.size w (w.alloc (.cells #[.int .u64 p, .int .i64 n, .int .i64 mi, .int .i64 ma, .int .i64 bi] 38)) := (Below.refl _ _).alloc (Nat.le_refl _) _
    go_enter Tryd.func11, Tryd.ntmps11
    go_wp2_with fail
    refine (CA.out _ B0).mono ?_
    rintro e w2 ⟨rfl, hb2⟩
    go_wp2_with fail
    go_ret
    exact ⟨rfl, B0.trans (hb2.mono (by simp))⟩
end Go.Proofs.YtpkbhihkhnkhnaaDoor
