/- ChunkTells: the walk. -/
import Derived.Test.YtpkbhihkhnkhnaaDoorRefc
import Derived.Test.YtpkbhihkhnkhnaaDoorRefm
import Derived.Test.YtpkbhihkhnkhnaaDoorCht
import Derived.StillTailTactics
namespace Go.Proofs.YtpkbhihkhnkhnaaDoor
open Go.RowKit
theorem wrapEq (x : Int) : IntKind.i64.wrap x = wrap64 x := by rw [IntKind.wrap_i64]; unfold wrap64; omega
set_option maxRecDepth 100000 in
set_option maxHeartbeats 4000000 in
theorem che_yes (c : CutN) (s : ByteArray) (n : Int) (n0 : Nat) (w : World) (hc : c.May) (hs : s.size ≤ 500) (hn : n ≤ 9223372036854775807) (hN : Needs n0 w) :
    Calls Tryd.prog 7 #[.agg #[.int .u64 c.p, .int .i64 c.n, .int .i64 c.mi, .int .i64 c.ma, .int .i64 c.bi], .string s, .int .i64 n] w fun e w' => e = .returned (.bool true) ∧ Below w.heap.size w w' := by
  have CA := Lib.hid (fun W (hb : Below w.heap.size w W) => alive9_any n0 W (hN.below (hb.mono hN.size)))
  have C0 := Lib.hid (fun W (hb : Below w.heap.size w W) => ck_any c.five n0 W hc.1 (hN.below (hb.mono hN.size)))
  rw [ckE_yes hc.five] at C0
  simp only [CutN.five] at C0
  have C1 := Lib.hid (fun W (hb : Below w.heap.size w W) => cmarks_yes c s n0 W hc (hN.below (hb.mono hN.size)) (by omega))
  have C2 := Lib.hid (fun W (hb : Below w.heap.size w W) => ccut_yes c s n0 W hc (hN.below (hb.mono hN.size)) (by omega))
  have C3 := Lib.hid (fun W (hb : Below w.heap.size w W) => ctexts_yes c s n0 W hc (hN.below (hb.mono hN.size)) (by omega))
  obtain ⟨M, E, C4, hME⟩ : ∃ M E : Int, Hid (∀ W, Below w.heap.size w W → Calls Tryd.prog 28 #[.agg #[.int .u64 c.p, .int .i64 c.n, .int .i64 c.mi, .int .i64 c.ma, .int .i64 c.bi], .int .i64 n] W fun e w' => e = .returned (.tuple #[.int .i64 M, .int .i64 E]) ∧ Below W.heap.size W w') ∧
      ((n < 0 ∧ M = 0 ∧ E = 2) ∨ (0 ≤ n ∧ E = 0 ∧ (wrap64 (wrap64 (n / c.mi) + n % c.mi) = M ∧ n % c.mi ≤ 1 ∨ wrap64 (wrap64 (n / c.mi) + 1) = M ∧ 1 ≤ n % c.mi) ∧ (n % (c.mi : Int) = 0 ∨ wrap64 (wrap64 (n / c.mi) + 1) = M))) := by
    by_cases h : n < 0
    · exact ⟨0, 2, Lib.hid (fun W hb => most_neg c n n0 W hc (hN.below (hb.mono hN.size)) h), .inl ⟨h, rfl, rfl⟩⟩
    · obtain ⟨k, rfl⟩ := Int.eq_ofNat_of_zero_le (show 0 ≤ n by omega)
      obtain ⟨m0, m1, m2, m3, m4, m5, m6, m7⟩ := hc
      have hm := most_num k c.mi (by omega)
      refine ⟨_, 0, Lib.hid (fun W hb => most_yes c k n0 W ⟨m0, m1, m2, m3, m4, m5, m6, m7⟩ (hN.below (hb.mono hN.size)) (by omega)), .inr ⟨by omega, rfl, ?_, ?_⟩⟩
      all_goals
        obtain ⟨u1, u2, u3, u4⟩ := hm
        have e : ((k / c.mi + min (k % c.mi) 1 : Nat) : Int) = (k : Int) / c.mi + min ((k : Int) % c.mi) 1 := by rw [Int.natCast_add, Int.natCast_ediv, u4]
        rw [e]
        generalize (k : Int) / (c.mi : Int) = q at *
        generalize (k : Int) % (c.mi : Int) = r at *
        unfold wrap64
        omega
  have R0 := Lib.hid (fun W => rmay9_yes c.five W hc.1 hc.five)
  simp only [CutN.five] at R0
  have R1 := Lib.hid (fun W => rmarks_any c s W hc (by omega))
  have R2 := Lib.hid (fun W => rcut_any c s W hc (by omega))
  have hcu := cutsOf_cutting c s
  have l1 := cutsOf_len c s
  have l2 := mlK_len c s s.size
  obtain ⟨m0, m1, m2, m3, m4, m5, m6, m7⟩ := hc
  have HC := Lib.hid hcu
  clear hN m0 m1 hcu
  generalize mlK c s s.size = ml at *
  generalize cutsOf c s = cs at *
  go_enter Tryd.func7, Tryd.ntmps7
  go_wp2_with fail
  have hb0 : Below w.heap.size w (w.alloc (.cells #[.int .u64 c.p, .int .i64 c.n, .int .i64 c.mi, .int .i64 c.ma, .int .i64 c.bi] 38)) := (Below.refl _ _).alloc (Nat.le_refl _) _
  have q0 : CutB (w.alloc (.cells #[.int .u64 c.p, .int .i64 c.n, .int .i64 c.mi, .int .i64 c.ma, .int .i64 c.bi] 38)) w.heap.size c := World.alloc_heap_new w _
  refine (C0.out _ hb0).mono ?_
  rintro e w0 ⟨rfl, hb1⟩
  have z0 := hb1.size
  have Q := Lib.hid (q0.stays (Kept.of_below' (S := fun _ => True) hb1) trivial)
  obtain ⟨d0, d1, d2, d3, d4⟩ := Q.out.cells
  have B0 := Lib.hid (hb0.trans (hb1.mono (by simp)))
  clear hb1 hb0 q0 C0
  simp at z0
  go_wp2_with fail
  refine (C1.out _ B0.out).mono ?_
  rintro e w1 ⟨v1, rfl, hv1, hb1⟩
  have z1 := hb1.size
  have V1 := Lib.hid (row_of_owns hv1)
  have Q := Lib.hid (Q.out.stays (Kept.of_below' (S := fun _ => True) hb1) trivial)
  obtain ⟨d0, d1, d2, d3, d4⟩ := Q.out.cells
  have B1 := Lib.hid (B0.out.trans (hb1.mono (by omega)))
  clear hb1 hv1 C1 B0
  go_wp2_with fail
  refine (C2.out _ B1.out).mono ?_
  rintro e w2 ⟨v2, rfl, hv2, hb2⟩
  have z2 := hb2.size
  have V2 := Lib.hid (row_of_owns hv2)
  have V1 := Lib.hid (V1.out.below hb2)
  have Q := Lib.hid (Q.out.stays (Kept.of_below' (S := fun _ => True) hb2) trivial)
  obtain ⟨d0, d1, d2, d3, d4⟩ := Q.out.cells
  have B2 := Lib.hid (B1.out.trans (hb2.mono (by omega)))
  clear hb2 hv2 C2 B1
  go_wp2_with fail
  refine (C3.out _ B2.out).mono ?_
  rintro e w3 ⟨v3, rfl, hv3, hb3⟩
  have z3 := hb3.size
  have V3 := Lib.hid (row_of_owns hv3)
  have V1 := Lib.hid (V1.out.below hb3)
  have V2 := Lib.hid (V2.out.below hb3)
  have Q := Lib.hid (Q.out.stays (Kept.of_below' (S := fun _ => True) hb3) trivial)
  obtain ⟨d0, d1, d2, d3, d4⟩ := Q.out.cells
  have B3 := Lib.hid (B2.out.trans (hb3.mono (by omega)))
  clear hb3 hv3 C3 B2
  go_wp2_with fail
  refine (C4.out _ B3.out).mono ?_
  rintro e w4 ⟨rfl, hb4⟩
  have z4 := hb4.size
  have V1 := Lib.hid (V1.out.below hb4)
  have V2 := Lib.hid (V2.out.below hb4)
  have V3 := Lib.hid (V3.out.below hb4)
  have Q := Lib.hid (Q.out.stays (Kept.of_below' (S := fun _ => True) hb4) trivial)
  obtain ⟨d0, d1, d2, d3, d4⟩ := Q.out.cells
  have B4 := Lib.hid (B3.out.trans (hb4.mono (by omega)))
  clear hb4 C4 B3
  go_wp2_with fail
  refine (R0.out _).mono ?_
  rintro e w5 ⟨rfl, hb5⟩
  have z5 := hb5.size
  have V1 := Lib.hid (V1.out.below hb5)
  have V2 := Lib.hid (V2.out.below hb5)
  have V3 := Lib.hid (V3.out.below hb5)
  have Q := Lib.hid (Q.out.stays (Kept.of_below' (S := fun _ => True) hb5) trivial)
  obtain ⟨d0, d1, d2, d3, d4⟩ := Q.out.cells
  have B5 := Lib.hid (B4.out.trans (hb5.mono (by omega)))
  clear hb5 R0 B4
  go_wp2_with fail
  refine (R2.out _).mono ?_
  rintro e w6 ⟨v6, rfl, hv6, hb6⟩
  have z6 := hb6.size
  have V6 := Lib.hid (row_of_owns hv6)
  have V1 := Lib.hid (V1.out.below hb6)
  have V2 := Lib.hid (V2.out.below hb6)
  have V3 := Lib.hid (V3.out.below hb6)
  have Q := Lib.hid (Q.out.stays (Kept.of_below' (S := fun _ => True) hb6) trivial)
  obtain ⟨d0, d1, d2, d3, d4⟩ := Q.out.cells
  have B6 := Lib.hid (B5.out.trans (hb6.mono (by omega)))
  clear hb6 hv6 R2 B5
  go_wp2_with fail
  refine (R1.out _).mono ?_
  rintro e w7 ⟨v7, rfl, hv7, hb7⟩
  have z7 := hb7.size
  have V7 := Lib.hid (row_of_owns hv7)
  have V1 := Lib.hid (V1.out.below hb7)
  have V2 := Lib.hid (V2.out.below hb7)
  have V3 := Lib.hid (V3.out.below hb7)
  have V6 := Lib.hid (V6.out.below hb7)
  have Q := Lib.hid (Q.out.stays (Kept.of_below' (S := fun _ => True) hb7) trivial)
  have B7 := Lib.hid (B6.out.trans (hb7.mono (by omega)))
  clear hb7 hv7 R1 B6 d0 d1 d2 d3 d4
  go_wp2_with fail
  refine (ints_any ml v1 v7 w7 (by omega) V1.out V7.out).mono ?_
  rintro e w8 ⟨rfl, hb8⟩
  have z8 := hb8.size
  have V2 := Lib.hid (V2.out.below hb8)
  have V3 := Lib.hid (V3.out.below hb8)
  have V6 := Lib.hid (V6.out.below hb8)
  have Q := Lib.hid (Q.out.stays (Kept.of_below' (S := fun _ => True) hb8) trivial)
  have B8 := Lib.hid (B7.out.trans (hb8.mono (by omega)))
  clear hb8 V1 V7 B7
  go_wp2_with fail
  have hpl := pcs_len cs
  refine (same_any (pcs cs) v2 v6 w8 (by omega) (by rw [hpl]; exact V2.out) (by rw [hpl]; exact V6.out)).mono ?_
  rintro e w9 ⟨rfl, hb9⟩
  have z9 := hb9.size
  have V3 := Lib.hid (V3.out.below hb9)
  have V6 := Lib.hid (V6.out.below hb9)
  have Q := Lib.hid (Q.out.stays (Kept.of_below' (S := fun _ => True) hb9) trivial)
  obtain ⟨-, -, d2, -, -⟩ := Q.out.cells
  have B9 := Lib.hid (B8.out.trans (hb9.mono (by omega)))
  have HPL := Lib.hid hpl
  clear hb9 V2 B8 hpl Q
  obtain ⟨-, p3, c3, rfl, g3⟩ := V3.out
  obtain ⟨-, p6, c6, rfl, g6⟩ := V6.out
  have G3 := Lib.hid g3
  have G6 := Lib.hid g6
  clear g3 g6 V3 V6
  go_wp2_with fail
  go_loopw [17] (fun vi wr => ∃ k : Nat, k ≤ cs.length ∧ vi = .int .i64 k ∧ ∃ nd, wr = w9.drewN nd) (fun vi _ => cs.length - (intOf vi).toNat)
  case atStart => exact ⟨0, Nat.zero_le _, rfl, 0, rfl⟩
  case round =>
    obtain ⟨k, hk, rfl, nd, rfl⟩ := hrel
    by_cases hlt : k < cs.length
    · have hpl : k < (pcs cs).length := by rw [HPL.out]; exact hlt
      obtain ⟨g1, g2⟩ := pcells_get (pcs cs) k hpl
      rw [pcs_get cs k hpl] at g1 g2
      obtain ⟨b1, o1, rfl, k1, e1⟩ := G3.out k (.string (s.extract (P cs k) (P cs (k + 1)))) (by rw [List.getElem?_map, txts_get s cs k hlt]; rfl)
      obtain ⟨b2, o2, rfl, k2, e2⟩ := G6.out _ _ g1
      obtain ⟨b3, o3, e3', k3, e3⟩ := G6.out _ _ g2
      obtain ⟨rfl, rfl⟩ : b2 = b3 ∧ o2 = o3 := by simpa using e3'
      rw [← Nat.add_assoc] at e3
      have y1 := HC.out.mono hlt
      have y2 := HC.out.le_N (i := k + 1) (by omega)
      simp only at e2 e3
      clear g1 g2 e3' hpl
      generalize P cs k = a at *
      generalize P cs (k + 1) = a' at *
      have hx : a + (a' - a) = a' := by omega
      have hx2 : (a : Int) + ((a' - a : Nat) : Int) ≤ s.size := by omega
      have hx3 : (a : Int) ≤ (a : Int) + ((a' - a : Nat) : Int) := by omega
      go_wp2_with fail
      go_quiet (fail)
      go_wp2_with fail
      exact ⟨⟨k + 1, by omega, by go_num, _, rfl⟩, by simp only [intOf]; omega⟩
    · obtain rfl : k = cs.length := by omega
      have B10 := below_drewN B9.out nd
      rcases hME with ⟨h1, rfl, rfl⟩ | ⟨h1, rfl, h2, h3⟩
      · go_wp2_with fail
        refine (CA.out _ B10).mono ?_
        rintro e w11 ⟨rfl, hb11⟩
        have B11 := Lib.hid (B10.trans (hb11.mono (by simp; omega)))
        clear hb11 B10
        go_wp2_with fail
        go_ret
        exact ⟨rfl, B11.out⟩
      · have hmi : 1 ≤ c.mi := by omega
        have hne : ((c.mi : Int) == 0) = false := by simp; omega
        have h4 : (n % (c.mi : Int) < 1 ∧ wrap64 (wrap64 (n / c.mi) + n % c.mi) = M) ∨ (1 ≤ n % (c.mi : Int) ∧ wrap64 (wrap64 (n / c.mi) + 1) = M) := by
          have := Int.emod_nonneg n (show (c.mi : Int) ≠ 0 by omega)
          rcases h2 with ⟨g1, g2⟩ | ⟨g1, g2⟩
          · rcases Int.lt_or_le (n % (c.mi : Int)) 1 with g | g
            · exact .inl ⟨g, g1⟩
            · right
              rcases h3 with h3 | h3
              · omega
              · exact ⟨g, h3⟩
          · exact .inr ⟨g2, g1⟩
        clear h2 h3
        obtain ⟨n, rfl⟩ := Int.eq_ofNat_of_zero_le h1
        obtain ⟨W10, hW10⟩ : ∃ W10, W10 = w9.drewN nd := ⟨_, rfl⟩
        have d2' : W10.cell? ⟨w.heap.size, 2, none⟩ = some (.int .i64 c.mi) := by rw [hW10]; exact d2
        have B11 := Lib.hid (show Below w.heap.size w W10 by rw [hW10]; exact B10)
        rw [← hW10]
        clear hW10 B10 d2
        have hne0 : ¬ c.mi = 0 := by omega
        have hu := Int.emod_nonneg (n : Int) (show (c.mi : Int) ≠ 0 by omega)
        have hq : ∃ q, wrap64 ((n : Int) / c.mi) = q ∧ IntKind.i64.wrap ((n : Int) / c.mi) = q := ⟨_, rfl, wrapEq _⟩
        obtain ⟨q, hq1, hq⟩ := hq
        rw [hq1] at h4
        have h5 : ((n : Int) % (c.mi : Int) = 0 ∧ wrap64 q = M) ∨ ((n : Int) % (c.mi : Int) = 1 ∧ wrap64 (q + 1) = M) ∨ (2 ≤ (n : Int) % (c.mi : Int) ∧ wrap64 (q + 1) = M) := by
          rcases h4 with ⟨g1, g2⟩ | ⟨g1, g2⟩
          · have hr : (n : Int) % (c.mi : Int) = 0 := by omega
            rw [hr, Int.add_zero] at g2
            exact .inl ⟨hr, g2⟩
          · rcases Int.lt_or_le ((n : Int) % (c.mi : Int)) 2 with g | g
            · exact .inr (.inl ⟨by omega, g2⟩)
            · exact .inr (.inr ⟨g, g2⟩)
        clear h4 hu hq1
        rcases h5 with ⟨hr, f1⟩ | ⟨hr, f1⟩ | ⟨hr, f1⟩
        · have f2 : (M == wrap64 (q + (n : Int) % (c.mi : Int))) = true := by rw [hr, Int.add_zero, beq_iff_eq]; exact f1.symm
          have f3 : (M == wrap64 q) = true := by rw [beq_iff_eq]; exact f1.symm
          clear f1
          go_wp2_with fail
          go_still_tail 17, (by kernel_rfl)
          have B12 : Below w.heap.size w W10.drew := ⟨B11.out.os, B11.out.tape, B11.out.output, B11.out.size, B11.out.block⟩
          go_wp2_with fail
          · refine (CA.out _ B12).mono ?_
            rintro e w11 ⟨rfl, hb11⟩
            have B13 := Lib.hid (B12.trans (hb11.mono B12.size))
            clear hb11 B12
            go_wp2_with fail
            go_ret
            exact ⟨rfl, B13.out⟩
          all_goals
            first
              | exact absurd (beq_iff_eq.1 f3) (by assumption)
              | exact absurd (beq_iff_eq.1 f2) (by assumption)
        · have f2 : (M == wrap64 (q + (n : Int) % (c.mi : Int))) = true := by rw [hr, beq_iff_eq]; exact f1.symm
          have f3 : (M == wrap64 (q + 1)) = true := by rw [beq_iff_eq]; exact f1.symm
          clear f1
          go_wp2_with fail
          go_still_tail 17, (by kernel_rfl)
          have B12 : Below w.heap.size w W10.drew := ⟨B11.out.os, B11.out.tape, B11.out.output, B11.out.size, B11.out.block⟩
          go_wp2_with fail
          · refine (CA.out _ B12).mono ?_
            rintro e w11 ⟨rfl, hb11⟩
            have B13 := Lib.hid (B12.trans (hb11.mono B12.size))
            clear hb11 B12
            go_wp2_with fail
            go_ret
            exact ⟨rfl, B13.out⟩
          all_goals
            first
              | exact absurd (beq_iff_eq.1 f3) (by assumption)
              | exact absurd (beq_iff_eq.1 f2) (by assumption)
        · have f3 : (M == wrap64 (q + 1)) = true := by rw [beq_iff_eq]; exact f1.symm
          clear f1
          go_wp2_with fail
          go_still_tail 17, (by kernel_rfl)
          have B12 : Below w.heap.size w W10.drew := ⟨B11.out.os, B11.out.tape, B11.out.output, B11.out.size, B11.out.block⟩
          go_wp2_with fail
          · refine (CA.out _ B12).mono ?_
            rintro e w11 ⟨rfl, hb11⟩
            have B13 := Lib.hid (B12.trans (hb11.mono B12.size))
            clear hb11 B12
            go_wp2_with fail
            go_ret
            exact ⟨rfl, B13.out⟩
          all_goals
            first
              | exact absurd (beq_iff_eq.1 f3) (by assumption)
              | exact absurd (beq_iff_eq.1 f2) (by assumption)
set_option maxRecDepth 100000 in
set_option maxHeartbeats 2000000 in
theorem chunkTells_any (c : Cut5) (s : ByteArray) (n : Int) (n0 : Nat) (w : World) (hp : c.p < 18446744073709551616) (r1 : s.size ≤ 140737488351232) (hn : n ≤ 9223372036854775807) (hN : Needs n0 w) :
    Calls Tryd.prog 7 #[c.v, .string s, .int .i64 n] w fun e w' => e = .returned (.bool true) ∧ Below w.heap.size w w' := by
  have CA := Lib.hid (fun W (hb : Below w.heap.size w W) => alive9_any n0 W (hN.below (hb.mono hN.size)))
  by_cases hs : s.size ≤ 500
  · by_cases hc : CMay c
    · obtain ⟨d, hd, rfl⟩ := cut_nat hc hp
      exact che_yes d s n n0 w hd hs hn hN
    · have C0 := Lib.hid (fun W (hb : Below w.heap.size w W) => ck_any c n0 W hp (hN.below (hb.mono hN.size)))
      rw [ckE_no hc] at C0
      have C1 := Lib.hid (fun W (hb : Below w.heap.size w W) => cmarks_no c s n0 W hp (hN.below (hb.mono hN.size)) hc)
      have C2 := Lib.hid (fun W (hb : Below w.heap.size w W) => ccut_no c s n0 W hp (hN.below (hb.mono hN.size)) hc)
      have C3 := Lib.hid (fun W (hb : Below w.heap.size w W) => ctexts_no c s n0 W hp (hN.below (hb.mono hN.size)) hc)
      have C4 := Lib.hid (fun W (hb : Below w.heap.size w W) => most_no c n n0 W hp (hN.below (hb.mono hN.size)) hc)
      have R0 := Lib.hid (fun W => rmay9_no c W hp hc)
      obtain ⟨p, wn, mi, ma, bi⟩ := c
      simp only [Cut5.v] at C0 C1 C2 C3 C4 R0 ⊢
      clear hN hc hp
      go_enter Tryd.func7, Tryd.ntmps7
      go_wp2_with fail
      have hb0 : Below w.heap.size w (w.alloc (.cells #[.int .u64 p, .int .i64 wn, .int .i64 mi, .int .i64 ma, .int .i64 bi] 38)) := (Below.refl _ _).alloc (Nat.le_refl _) _
      have q0 : (w.alloc (.cells #[.int .u64 p, .int .i64 wn, .int .i64 mi, .int .i64 ma, .int .i64 bi] 38)).heap[w.heap.size]? = some (.cells #[.int .u64 p, .int .i64 wn, .int .i64 mi, .int .i64 ma, .int .i64 bi] 38 (0, 0)) := World.alloc_heap_new w _
      refine (C0.out _ hb0).mono ?_
      rintro e w0 ⟨rfl, hb1⟩
      have z0 := hb1.size
      have Q := Lib.hid ((Kept.of_below' (S := fun _ => True) hb1).heap q0 trivial)
      obtain ⟨d0, d1, d2, d3, d4⟩ := cells5 Q.out
      have B0 := Lib.hid (hb0.trans (hb1.mono (by simp)))
      clear hb1 hb0 q0 C0
      simp at z0
      go_wp2_with fail
      refine (C1.out _ B0.out).mono ?_
      rintro e w1 ⟨rfl, hb1⟩
      have z1 := hb1.size
      have Q := Lib.hid ((Kept.of_below' (S := fun _ => True) hb1).heap Q.out trivial)
      obtain ⟨d0, d1, d2, d3, d4⟩ := cells5 Q.out
      have B1 := Lib.hid (B0.out.trans (hb1.mono (by omega)))
      clear hb1 C1 B0
      go_wp2_with fail
      refine (C2.out _ B1.out).mono ?_
      rintro e w2 ⟨rfl, hb1⟩
      have z2 := hb1.size
      have Q := Lib.hid ((Kept.of_below' (S := fun _ => True) hb1).heap Q.out trivial)
      obtain ⟨d0, d1, d2, d3, d4⟩ := cells5 Q.out
      have B2 := Lib.hid (B1.out.trans (hb1.mono (by omega)))
      clear hb1 C2 B1
      go_wp2_with fail
      refine (C3.out _ B2.out).mono ?_
      rintro e w3 ⟨rfl, hb1⟩
      have z3 := hb1.size
      have Q := Lib.hid ((Kept.of_below' (S := fun _ => True) hb1).heap Q.out trivial)
      obtain ⟨d0, d1, d2, d3, d4⟩ := cells5 Q.out
      have B3 := Lib.hid (B2.out.trans (hb1.mono (by omega)))
      clear hb1 C3 B2
      go_wp2_with fail
      refine (C4.out _ B3.out).mono ?_
      rintro e w4 ⟨rfl, hb1⟩
      have z4 := hb1.size
      have Q := Lib.hid ((Kept.of_below' (S := fun _ => True) hb1).heap Q.out trivial)
      obtain ⟨d0, d1, d2, d3, d4⟩ := cells5 Q.out
      have B4 := Lib.hid (B3.out.trans (hb1.mono (by omega)))
      clear hb1 C4 B3
      go_wp2_with fail
      refine (R0.out _).mono ?_
      rintro e w5 ⟨rfl, hb1⟩
      have B5 := B4.out.trans (hb1.mono (by omega))
      clear hb1 R0 B4 Q d0 d1 d2 d3 d4
      go_wp2_with fail
      refine (CA.out _ B5).mono ?_
      rintro e w6 ⟨rfl, hb6⟩
      have B6 := Lib.hid (B5.trans (hb6.mono B5.size))
      clear hb6 B5
      go_wp2_with fail
      go_ret
      exact ⟨rfl, B6.out⟩
  · obtain ⟨p, wn, mi, ma, bi⟩ := c
    simp only [Cut5.v]
    clear hN hp
    have B0 : Below w.heap.size w (w.alloc (.cells #[.int .u64 p, .int .i64 wn, .int .i64 mi, .int .i64 ma, .int .i64 bi] 38)) := (Below.refl _ _).alloc (Nat.le_refl _) _
    go_enter Tryd.func7, Tryd.ntmps7
    go_wp2_with fail
    refine (CA.out _ B0).mono ?_
    rintro e w2 ⟨rfl, hb2⟩
    go_wp2_with fail
    go_ret
    exact ⟨rfl, B0.trans (hb2.mono (by simp))⟩
end Go.Proofs.YtpkbhihkhnkhnaaDoor
