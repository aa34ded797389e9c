/- ChunkBegins: the walk. -/
import Derived.Test.YtpkbhihkhnkhnaaDoorChm
namespace Go.Proofs.YtpkbhihkhnkhnaaDoor
open Go.RowKit
theorem ba_nil {s : ByteArray} (h : s.size = 0) : s = ⟨#[]⟩ := ba_ext (List.length_eq_zero_iff.1 (by rw [← ba_size]; exact h))
theorem begins_txt (c : CutN) (bg one two : ByteArray) {a b : List Nat} (ha : a = cutsOf c (bg ++ one)) (hb : b = cutsOf c (bg ++ two)) {i : Nat} (hi : i < a.length) (hk : i < b.length) :
    (a[i] ≤ bg.size ∧ b[i] ≤ bg.size ∧ a[i] = b[i]) ∨ ((bg.size < a[i] ∨ bg.size < b[i]) ∧ (bg.size < a[i] ∨ one = ⟨#[]⟩ ∧ i = a.length - 1) ∧ (bg.size < b[i] ∨ two = ⟨#[]⟩ ∧ i = b.length - 1)) := by
  have hm : ∀ k, k ≤ bg.size → mark c.p c.n c.bi (bg ++ one) k = mark c.p c.n c.bi (bg ++ two) k := fun k hk =>
    mark_begin c.p c.n c.bi bg.data.toList one.data.toList two.data.toList k (bg ++ one) (bg ++ two) (ba_append _ _) (ba_append _ _) (by rw [← ba_size]; exact hk)
  rcases begins_at (N1 := (bg ++ one).size) (N2 := (bg ++ two).size) hm (by rw [ba_append_size]; omega) (by rw [ba_append_size]; omega) ha hb hi hk with h | ⟨h0, h1, h2⟩
  · exact .inl h
  · refine .inr ⟨h0, h1.imp id (fun h => ⟨ba_nil ?_, h.2⟩), h2.imp id (fun h => ⟨ba_nil ?_, h.2⟩)⟩
    · have := h.1; rw [ba_append_size] at this; omega
    · have := h.1; rw [ba_append_size] at this; omega
set_option maxRecDepth 100000 in
set_option maxHeartbeats 4000000 in
theorem chb_yes (c : CutN) (bg one two : ByteArray) (n0 : Nat) (w : World) (hc : c.May) (hs : one.size + two.size + bg.size ≤ 3000) (hN : Needs n0 w) :
    Calls Tryd.prog 6 #[.agg #[.int .u64 c.p, .int .i64 c.n, .int .i64 c.mi, .int .i64 c.ma, .int .i64 c.bi], .string bg, .string one, .string two] w fun e w' => e = .returned (.bool true) ∧ Below w.heap.size w w' := by
  have CA := Lib.hid (fun W (hb : Below w.heap.size w W) => alive9_any n0 W (hN.below (hb.mono hN.size)))
  have C1 := Lib.hid (fun W (hb : Below w.heap.size w W) => ctexts_yes c (bg ++ one) n0 W hc (hN.below (hb.mono hN.size)) (by rw [ba_append_size]; omega))
  have C2 := Lib.hid (fun W (hb : Below w.heap.size w W) => ctexts_yes c (bg ++ two) n0 W hc (hN.below (hb.mono hN.size)) (by rw [ba_append_size]; omega))
  have u1 := cutsOf_cutting c (bg ++ one)
  have u2 := cutsOf_cutting c (bg ++ two)
  have l1 := cutsOf_len c (bg ++ one)
  have l2 := cutsOf_len c (bg ++ two)
  rw [ba_append_size] at l1 l2
  have hle1 : ∀ x ∈ cutsOf c (bg ++ one), x ≤ 3000 := fun x hx => by have := u1.le x hx; rw [ba_append_size] at this; omega
  have hle2 : ∀ x ∈ cutsOf c (bg ++ two), x ≤ 3000 := fun x hx => by have := u2.le x hx; rw [ba_append_size] at this; omega
  have D1 := Lib.hid (fun v (W : World) => cuts_any (bg ++ one) (cutsOf c (bg ++ one)) v W u1 (by rw [ba_append_size]; omega) (by omega))
  have D2 := Lib.hid (fun v (W : World) => cuts_any (bg ++ two) (cutsOf c (bg ++ two)) v W u2 (by rw [ba_append_size]; omega) (by omega))
  have L1 := Lib.hid hle1
  have L2 := Lib.hid hle2
  clear hN u1 u2 hle1 hle2
  obtain ⟨a, ha⟩ : ∃ a, a = cutsOf c (bg ++ one) := ⟨_, rfl⟩
  obtain ⟨b, hb⟩ : ∃ b, b = cutsOf c (bg ++ two) := ⟨_, rfl⟩
  rw [← ha] at C1 D1 L1 l1
  rw [← hb] at C2 D2 L2 l2
  have HM := Lib.hid (fun i (hi : i < a.length) (hk : i < b.length) => begins_txt c bg one two ha hb hi hk)
  obtain ⟨t1, ht1⟩ : ∃ t1, t1 = txts (bg ++ one) a := ⟨_, rfl⟩
  obtain ⟨t2, ht2⟩ : ∃ t2, t2 = txts (bg ++ two) b := ⟨_, rfl⟩
  rw [← ht1] at C1 D1
  rw [← ht2] at C2 D2
  clear ha hb ht1 ht2 hc
  go_enter Tryd.func6, Tryd.ntmps6
  go_wp2_with fail
  have hb0 : Below w.heap.size w (w.alloc (.cells #[.int .u64 c.p, .int .i64 c.n, .int .i64 c.mi, .int .i64 c.ma, .int .i64 c.bi] 38)) := (Below.refl _ _).alloc (Nat.le_refl _) _
  have q0 : CutB (w.alloc (.cells #[.int .u64 c.p, .int .i64 c.n, .int .i64 c.mi, .int .i64 c.ma, .int .i64 c.bi] 38)) w.heap.size c := World.alloc_heap_new w _
  refine (C1.out _ hb0).mono ?_
  rintro e w1 ⟨v1, rfl, hv1, hb1⟩
  have z1 := hb1.size
  have q1 := q0.stays (Kept.of_below' (S := fun _ => True) hb1) trivial
  obtain ⟨d0, d1, d2, d3, d4⟩ := q1.cells
  have B1 := Lib.hid (hb0.trans (hb1.mono (by simp)))
  have R1 := Lib.hid (row_of_owns hv1)
  clear hb1 hb0 hv1 C1 q0 q1
  go_wp2_with fail
  refine (C2.out _ B1.out).mono ?_
  rintro e w2 ⟨v2, rfl, hv2, hb2⟩
  have z2 := hb2.size
  have zb1 := B1.out.size
  have B2 := Lib.hid (B1.out.trans (hb2.mono (by omega)))
  have R2 := Lib.hid (row_of_owns hv2)
  have R1 := Lib.hid (R1.out.below hb2)
  clear hb2 hv2 C2 B1 d0 d1 d2 d3 d4
  go_wp2_with fail
  refine (D1.out v1 _ R1.out).mono ?_
  rintro e w3 ⟨v3, rfl, hv3, hb3⟩
  have z3 := hb3.size
  have B3 := Lib.hid (B2.out.trans (hb3.mono (by omega)))
  have R2 := Lib.hid (R2.out.below hb3)
  have R3 := Lib.hid (row_of_owns hv3)
  clear hb3 hv3 D1 B2 R1
  go_wp2_with fail
  refine (D2.out v2 _ R2.out).mono ?_
  rintro e w4 ⟨v4, rfl, hv4, hb4⟩
  have z4 := hb4.size
  have B4 := Lib.hid (B3.out.trans (hb4.mono (by omega)))
  have R3 := Lib.hid (R3.out.below hb4)
  have R4 := Lib.hid (row_of_owns hv4)
  clear hb4 hv4 D2 B3 R2
  obtain ⟨-, p3, c3, rfl, g3⟩ := R3.out
  obtain ⟨-, p4, c4, rfl, g4⟩ := R4.out
  have G3 := Lib.hid g3
  have G4 := Lib.hid g4
  clear g3 g4 R3 R4
  go_wp2_with fail
  go_loopw [15] (fun vi wr => ∃ (i : Nat), i ≤ a.length ∧ i ≤ b.length ∧ vi = .int .i64 i ∧ ∃ nd, wr = w4.drewN nd) (fun vi _ => a.length - (intOf vi).toNat)
  case atStart => exact ⟨0, Nat.zero_le _, Nat.zero_le _, rfl, 0, rfl⟩
  case round =>
    obtain ⟨i, hi, hk, rfl, nd, rfl⟩ := hrel
    have B5 := below_drewN B4.out nd
    by_cases hlt : i < a.length ∧ i < b.length
    · obtain ⟨h1, h2⟩ := hlt
      obtain ⟨b1, o1, rfl, k1, d1⟩ := G3.out i (.int .i64 (a[i] : Nat)) (by simp [icells, h1])
      obtain ⟨b2, o2, rfl, k2, d2⟩ := G4.out i (.int .i64 (b[i] : Nat)) (by simp [icells, h2])
      have y1 := L1.out _ (List.getElem_mem h1)
      have y2 := L2.out _ (List.getElem_mem h2)
      have HX := Lib.hid (HM.out i h1 h2)
      generalize a[i] = x at *
      generalize b[i] = y at *
      rcases HX.out with ⟨g1, g2, rfl⟩ | ⟨g0, g1, g2⟩
      · clear HX HM
        go_wp2_with fail
        go_region
        go_wp2_with fail
        exact ⟨⟨i + 1, by omega, by omega, by go_num, _, rfl⟩, by simp only [intOf]; omega⟩
      · clear HX HM
        rcases g1 with g1 | ⟨rfl, g1⟩
        · rcases g2 with g2 | ⟨rfl, g2⟩
          · go_wp2_with fail
            refine (CA.out _ B5).mono ?_
            rintro e w6 ⟨rfl, hb6⟩
            have B6 := Lib.hid (B5.trans (hb6.mono (by simp; omega)))
            clear hb6 B5
            go_wp2_with fail
            go_ret
            exact ⟨rfl, B6.out⟩
          · have g4 : y ≤ bg.size ∨ bg.size < y := by omega
            have g3 : ((i : Int) == (b.length : Int) - 1) = true := by rw [beq_iff_eq]; omega
            clear g0 g2
            rcases g4 with g4 | g4
            · go_wp2_with fail
              refine (CA.out _ B5).mono ?_
              rintro e w6 ⟨rfl, hb6⟩
              have B6 := Lib.hid (B5.trans (hb6.mono (by simp; omega)))
              clear hb6 B5
              go_wp2_with fail
              go_ret
              exact ⟨rfl, B6.out⟩
            · go_wp2_with fail
              refine (CA.out _ B5).mono ?_
              rintro e w6 ⟨rfl, hb6⟩
              have B6 := Lib.hid (B5.trans (hb6.mono (by simp; omega)))
              clear hb6 B5
              go_wp2_with fail
              go_ret
              exact ⟨rfl, B6.out⟩
        · rcases g2 with g2 | ⟨rfl, g2⟩
          · have g3 : ((i : Int) == (a.length : Int) - 1) = true := by rw [beq_iff_eq]; omega
            have g4 : x ≤ bg.size ∨ bg.size < x := by omega
            clear g0 g1
            rcases g4 with g4 | g4
            · go_wp2_with fail
              refine (CA.out _ B5).mono ?_
              rintro e w6 ⟨rfl, hb6⟩
              have B6 := Lib.hid (B5.trans (hb6.mono (by simp; omega)))
              clear hb6 B5
              go_wp2_with fail
              go_ret
              exact ⟨rfl, B6.out⟩
            · go_wp2_with fail
              refine (CA.out _ B5).mono ?_
              rintro e w6 ⟨rfl, hb6⟩
              have B6 := Lib.hid (B5.trans (hb6.mono (by simp; omega)))
              clear hb6 B5
              go_wp2_with fail
              go_ret
              exact ⟨rfl, B6.out⟩
          · have g3 : ((i : Int) == (a.length : Int) - 1) = true := by rw [beq_iff_eq]; omega
            have g5 : ((i : Int) == (b.length : Int) - 1) = true := by rw [beq_iff_eq]; omega
            have g4 : (x ≤ bg.size ∧ bg.size < y) ∨ (bg.size < x ∧ y ≤ bg.size) ∨ (bg.size < x ∧ bg.size < y) := by omega
            clear g0 g1 g2
            rcases g4 with ⟨g4, g6⟩ | ⟨g4, g6⟩ | ⟨g4, g6⟩
            · go_wp2_with fail
              refine (CA.out _ B5).mono ?_
              rintro e w6 ⟨rfl, hb6⟩
              have B6 := Lib.hid (B5.trans (hb6.mono (by simp; omega)))
              clear hb6 B5
              go_wp2_with fail
              go_ret
              exact ⟨rfl, B6.out⟩
            · go_wp2_with fail
              refine (CA.out _ B5).mono ?_
              rintro e w6 ⟨rfl, hb6⟩
              have B6 := Lib.hid (B5.trans (hb6.mono (by simp; omega)))
              clear hb6 B5
              go_wp2_with fail
              go_ret
              exact ⟨rfl, B6.out⟩
            · go_wp2_with fail
              refine (CA.out _ B5).mono ?_
              rintro e w6 ⟨rfl, hb6⟩
              have B6 := Lib.hid (B5.trans (hb6.mono (by simp; omega)))
              clear hb6 B5
              go_wp2_with fail
              go_ret
              exact ⟨rfl, B6.out⟩
    · by_cases g1 : i < a.length
      · have g2 : i = b.length := by omega
        subst g2
        clear hlt
        go_wp2_with fail
        refine (CA.out _ B5).mono ?_
        rintro e w6 ⟨rfl, hb6⟩
        have B6 := Lib.hid (B5.trans (hb6.mono (by simp; omega)))
        clear hb6 B5
        go_wp2_with fail
        go_ret
        exact ⟨rfl, B6.out⟩
      · have g2 : i = a.length := by omega
        subst g2
        clear hlt
        go_wp2_with fail
        refine (CA.out _ B5).mono ?_
        rintro e w6 ⟨rfl, hb6⟩
        have B6 := Lib.hid (B5.trans (hb6.mono (by simp; omega)))
        clear hb6 B5
        go_wp2_with fail
        go_ret
        exact ⟨rfl, B6.out⟩
set_option maxRecDepth 100000 in
set_option maxHeartbeats 1000000 in
theorem chunkBegins_any (c : Cut5) (bg one two : ByteArray) (n0 : Nat) (w : World) (hp : c.p < 18446744073709551616) (r1 : one.size ≤ 140737488351232) (r2 : two.size ≤ 140737488351232) (r3 : bg.size ≤ 140737488351232) (hN : Needs n0 w) :
    Calls Tryd.prog 6 #[c.v, .string bg, .string one, .string two] w fun e w' => e = .returned (.bool true) ∧ Below w.heap.size w w' := by
  have CA := Lib.hid (fun W (hb : Below w.heap.size w W) => alive9_any n0 W (hN.below (hb.mono hN.size)))
  by_cases hs : one.size + two.size + bg.size ≤ 3000
  · by_cases hc : CMay c
    · obtain ⟨d, hd, rfl⟩ := cut_nat hc hp
      exact chb_yes d bg one two n0 w hd hs hN
    · have C1 := Lib.hid (fun W (hb : Below w.heap.size w W) => ctexts_no c (bg ++ one) n0 W hp (hN.below (hb.mono hN.size)) hc)
      have C2 := Lib.hid (fun W (hb : Below w.heap.size w W) => ctexts_no c (bg ++ two) n0 W hp (hN.below (hb.mono hN.size)) hc)
      obtain ⟨p, n, mi, ma, bi⟩ := c
      simp only [Cut5.v] at C1 C2 ⊢
      clear hN hc hp
      go_enter Tryd.func6, Tryd.ntmps6
      go_wp2_with fail
      have hb0 : Below w.heap.size w (w.alloc (.cells #[.int .u64 p, .int .i64 n, .int .i64 mi, .int .i64 ma, .int .i64 bi] 38)) := (Below.refl _ _).alloc (Nat.le_refl _) _
      refine (C1.out _ hb0).mono ?_
      rintro e w1 ⟨rfl, hb1⟩
      have z1 := hb1.size
      have hc : w1.heap[w.heap.size]? = some (.cells #[.int .u64 p, .int .i64 n, .int .i64 mi, .int .i64 ma, .int .i64 bi] 38 (0, 0)) := by rw [hb1.block _ (by simp), World.alloc_heap_new]
      have c0 : w1.cell? ⟨w.heap.size, 0, none⟩ = some (.int .u64 p) := by simp [World.cell?, hc]
      have c1 : w1.cell? ⟨w.heap.size, 1, none⟩ = some (.int .i64 n) := by simp [World.cell?, hc]
      have c2 : w1.cell? ⟨w.heap.size, 2, none⟩ = some (.int .i64 mi) := by simp [World.cell?, hc]
      have c3 : w1.cell? ⟨w.heap.size, 3, none⟩ = some (.int .i64 ma) := by simp [World.cell?, hc]
      have c4 : w1.cell? ⟨w.heap.size, 4, none⟩ = some (.int .i64 bi) := by simp [World.cell?, hc]
      have B1 := Lib.hid (hb0.trans (hb1.mono (by simp)))
      have zb := B1.out.size
      clear hb1 hb0 hc
      go_wp2_with fail
      refine (C2.out _ B1.out).mono ?_
      rintro e w2 ⟨rfl, hb2⟩
      have B2 := B1.out.trans (hb2.mono (by omega))
      clear hb2
      go_wp2_with fail
      refine (CA.out _ B2).mono ?_
      rintro e w3 ⟨rfl, hb3⟩
      have B3 := Lib.hid (B2.trans (hb3.mono (by have := B2.size; omega)))
      clear hb3 B2
      go_wp2_with fail
      go_ret
      exact ⟨rfl, B3.out⟩
  · obtain ⟨p, n, mi, ma, bi⟩ := c
    simp only [Cut5.v]
    clear hN hp
    have B0 : Below w.heap.size w (w.alloc (.cells #[.int .u64 p, .int .i64 n, .int .i64 mi, .int .i64 ma, .int .i64 bi] 38)) := (Below.refl _ _).alloc (Nat.le_refl _) _
    go_enter Tryd.func6, Tryd.ntmps6
    go_wp2_with fail
    refine (CA.out _ B0).mono ?_
    rintro e w2 ⟨rfl, hb2⟩
    go_wp2_with fail
    go_ret
    exact ⟨rfl, B0.trans (hb2.mono (by simp))⟩
end Go.Proofs.YtpkbhihkhnkhnaaDoor
