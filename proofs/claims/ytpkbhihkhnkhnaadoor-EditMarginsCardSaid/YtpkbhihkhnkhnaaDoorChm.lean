/- ChunkMeets: the walk. -/
import Derived.Test.YtpkbhihkhnkhnaaDoorAlivn
namespace Go.Proofs.YtpkbhihkhnkhnaaDoor
open Go.RowKit
theorem cut_nat {c : Cut5} (h : CMay c) (hp : c.p < 18446744073709551616) : ∃ d : CutN, d.May ∧ c = d.five := by
  obtain ⟨p, n, mi, ma, bi⟩ := c
  obtain ⟨h1, ⟨h2, h3⟩, ⟨h4, h5⟩, h6, h7⟩ := h
  obtain ⟨r1, r2, r3, r4⟩ := h1
  simp only at *
  obtain ⟨n, rfl⟩ := Int.eq_ofNat_of_zero_le (show 0 ≤ n by omega)
  obtain ⟨mi, rfl⟩ := Int.eq_ofNat_of_zero_le (show 0 ≤ mi by omega)
  obtain ⟨ma, rfl⟩ := Int.eq_ofNat_of_zero_le (show 0 ≤ ma by omega)
  obtain ⟨bi, rfl⟩ := Int.eq_ofNat_of_zero_le h6
  exact ⟨⟨p, n, mi, ma, bi⟩, ⟨hp, ⟨r1, r2, r3, r4⟩, by simp only; omega, by simp only; omega, by simp only; omega, by simp only; omega, by simp only; omega, by simp only; omega⟩, rfl⟩
theorem ba_append_size (a b : ByteArray) : (a ++ b).size = a.size + b.size := by simp
/-- from places i and k on both rows are one, moved -/
def Tail (a b : List Nat) (A B i k : Nat) : Prop := ∃ q : List Nat, a.drop i = q.map (A + ·) ∧ b.drop k = q.map (B + ·)
theorem Tail.next {a b : List Nat} {A B i k : Nat} (h : Tail a b A B i k) (hi : i < a.length) (hk : k < b.length) : ∃ x, a[i] = A + x ∧ b[k] = B + x ∧ Tail a b A B (i + 1) (k + 1) := by
  obtain ⟨q, h1, h2⟩ := h
  rw [List.drop_eq_getElem_cons hi] at h1
  rw [List.drop_eq_getElem_cons hk] at h2
  cases q with
  | nil => exact absurd h1 (List.cons_ne_nil _ _)
  | cons x q =>
    simp only [List.map_cons, List.cons.injEq] at h1 h2
    exact ⟨x, h1.1, h2.1, q, h1.2, h2.2⟩
theorem Tail.ends {a b : List Nat} {A B i k : Nat} (h : Tail a b A B i k) (hi : i ≤ a.length) (hk : k ≤ b.length) (he : i = a.length ∨ k = b.length) : i = a.length ∧ k = b.length := by
  obtain ⟨q, h1, h2⟩ := h
  have e1 := congrArg List.length h1
  have e2 := congrArg List.length h2
  simp at e1 e2
  omega
theorem meets_tail (c : CutN) (hc : c.May) (one two e : ByteArray) {a b : List Nat} (ha : a = cutsOf c (one ++ e)) (hb : b = cutsOf c (two ++ e)) {i k : Nat} (hi : i < a.length) (hk : k < b.length) {x : Nat}
    (h1 : a[i] = one.size + x) (h2 : b[k] = two.size + x) : Tail a b one.size two.size (i + 1) (k + 1) := by
  obtain ⟨m0, m1, m2, m3, m4, m5, m6, m7⟩ := hc
  have hm : ∀ k, c.mi ≤ k → k ≤ e.size → mark c.p c.n c.bi (one ++ e) (one.size + k) = mark c.p c.n c.bi (two ++ e) (two.size + k) := fun k hk hE => by
    have := mark_end c.p c.n c.bi one.data.toList two.data.toList e.data.toList k (by omega) (one ++ e) (two ++ e) (ba_append _ _) (ba_append _ _) (by rw [← ba_size]; exact hE)
    rwa [← ba_size, ← ba_size] at this
  exact meets_at hm (ha.trans (show cutsOf c (one ++ e) = _ by unfold cutsOf; rw [ba_append_size])) (hb.trans (show cutsOf c (two ++ e) = _ by unfold cutsOf; rw [ba_append_size])) hi hk h1 h2
set_option maxRecDepth 100000 in
set_option maxHeartbeats 4000000 in
theorem chm_yes (c : CutN) (one two en : ByteArray) (n0 : Nat) (w : World) (hc : c.May) (hs : one.size + two.size + en.size ≤ 3000) (hN : Needs n0 w) :
    Calls Tryd.prog 5 #[.agg #[.int .u64 c.p, .int .i64 c.n, .int .i64 c.mi, .int .i64 c.ma, .int .i64 c.bi], .string one, .string two, .string en] w fun e w' => e = .returned (.bool true) ∧ Below w.heap.size w w' := by
  have CA := Lib.hid (fun W (hb : Below w.heap.size w W) => alive9_any n0 W (hN.below (hb.mono hN.size)))
  have C1 := Lib.hid (fun W (hb : Below w.heap.size w W) => ctexts_yes c (one ++ en) n0 W hc (hN.below (hb.mono hN.size)) (by rw [ba_append_size]; omega))
  have C2 := Lib.hid (fun W (hb : Below w.heap.size w W) => ctexts_yes c (two ++ en) n0 W hc (hN.below (hb.mono hN.size)) (by rw [ba_append_size]; omega))
  have u1 := cutsOf_cutting c (one ++ en)
  have u2 := cutsOf_cutting c (two ++ en)
  have l1 := cutsOf_len c (one ++ en)
  have l2 := cutsOf_len c (two ++ en)
  rw [ba_append_size] at l1 l2
  have hle1 : ∀ x ∈ cutsOf c (one ++ en), x ≤ 3000 := fun x hx => by have := u1.le x hx; rw [ba_append_size] at this; omega
  have hle2 : ∀ x ∈ cutsOf c (two ++ en), x ≤ 3000 := fun x hx => by have := u2.le x hx; rw [ba_append_size] at this; omega
  have D1 := Lib.hid (fun v (W : World) => cuts_any (one ++ en) (cutsOf c (one ++ en)) v W u1 (by rw [ba_append_size]; omega) (by omega))
  have D2 := Lib.hid (fun v (W : World) => cuts_any (two ++ en) (cutsOf c (two ++ en)) v W u2 (by rw [ba_append_size]; omega) (by omega))
  have L1 := Lib.hid hle1
  have L2 := Lib.hid hle2
  clear hN u1 u2 hle1 hle2
  obtain ⟨a, ha⟩ : ∃ a, a = cutsOf c (one ++ en) := ⟨_, rfl⟩
  obtain ⟨b, hb⟩ : ∃ b, b = cutsOf c (two ++ en) := ⟨_, rfl⟩
  rw [← ha] at C1 D1 L1 l1
  rw [← hb] at C2 D2 L2 l2
  have HM := Lib.hid (fun i k (hi : i < a.length) (hk : k < b.length) x (h1 : a[i] = one.size + x) (h2 : b[k] = two.size + x) => meets_tail c hc one two en ha hb hi hk h1 h2)
  obtain ⟨t1, ht1⟩ : ∃ t1, t1 = txts (one ++ en) a := ⟨_, rfl⟩
  obtain ⟨t2, ht2⟩ : ∃ t2, t2 = txts (two ++ en) b := ⟨_, rfl⟩
  rw [← ht1] at C1 D1
  rw [← ht2] at C2 D2
  clear ha hb ht1 ht2 hc
  go_enter Tryd.func5, Tryd.ntmps5
  go_wp2_with fail
  have hb0 : Below w.heap.size w (w.alloc (.cells #[.int .u64 c.p, .int .i64 c.n, .int .i64 c.mi, .int .i64 c.ma, .int .i64 c.bi] 38)) := (Below.refl _ _).alloc (Nat.le_refl _) _
  have q0 : CutB (w.alloc (.cells #[.int .u64 c.p, .int .i64 c.n, .int .i64 c.mi, .int .i64 c.ma, .int .i64 c.bi] 38)) w.heap.size c := World.alloc_heap_new w _
  refine (C1.out _ hb0).mono ?_
  rintro e w1 ⟨v1, rfl, hv1, hb1⟩
  have z1 := hb1.size
  have q1 := q0.stays (Kept.of_below' (S := fun _ => True) hb1) trivial
  obtain ⟨d0, d1, d2, d3, d4⟩ := q1.cells
  have B1 := Lib.hid (hb0.trans (hb1.mono (by simp)))
  have R1 := Lib.hid (row_of_owns hv1)
  clear hb1 hb0 hv1 C1 q0 q1
  go_wp2_with fail
  refine (C2.out _ B1.out).mono ?_
  rintro e w2 ⟨v2, rfl, hv2, hb2⟩
  have z2 := hb2.size
  have zb1 := B1.out.size
  have B2 := Lib.hid (B1.out.trans (hb2.mono (by omega)))
  have R2 := Lib.hid (row_of_owns hv2)
  have R1 := Lib.hid (R1.out.below hb2)
  clear hb2 hv2 C2 B1 d0 d1 d2 d3 d4
  go_wp2_with fail
  refine (D1.out v1 _ R1.out).mono ?_
  rintro e w3 ⟨v3, rfl, hv3, hb3⟩
  have z3 := hb3.size
  have B3 := Lib.hid (B2.out.trans (hb3.mono (by omega)))
  have R2 := Lib.hid (R2.out.below hb3)
  have R3 := Lib.hid (row_of_owns hv3)
  clear hb3 hv3 D1 B2 R1
  go_wp2_with fail
  refine (D2.out v2 _ R2.out).mono ?_
  rintro e w4 ⟨v4, rfl, hv4, hb4⟩
  have z4 := hb4.size
  have B4 := Lib.hid (B3.out.trans (hb4.mono (by omega)))
  have R3 := Lib.hid (R3.out.below hb4)
  have R4 := Lib.hid (row_of_owns hv4)
  clear hb4 hv4 D2 B3 R2
  obtain ⟨-, p3, c3, rfl, g3⟩ := R3.out
  obtain ⟨-, p4, c4, rfl, g4⟩ := R4.out
  have G3 := Lib.hid g3
  have G4 := Lib.hid g4
  clear g3 g4 R3 R4
  go_wp2_with fail
  go_loopw [15, 16, 17, 18, 19] (fun vi vk vm _ _ wr => ∃ (i k : Nat) (m : Bool), i ≤ a.length ∧ k ≤ b.length ∧ vi = .int .i64 i ∧ vk = .int .i64 k ∧ vm = .bool m ∧ Hid (m = true → Tail a b one.size two.size i k) ∧ ∃ nd, wr = w4.drewN nd) (fun vi vk _ _ _ _ => (a.length - (intOf vi).toNat) + (b.length - (intOf vk).toNat))
  case atStart => exact ⟨0, 0, false, Nat.zero_le _, Nat.zero_le _, rfl, rfl, rfl, Lib.hid (fun h => by cases h), 0, rfl⟩
  case round =>
    obtain ⟨i, k, m, hi, hk, rfl, rfl, rfl, HT, nd, rfl⟩ := hrel
    by_cases hlt : i < a.length ∧ k < b.length
    · obtain ⟨h1, h2⟩ := hlt
      obtain ⟨b1, o1, rfl, k1, d1⟩ := G3.out i (.int .i64 (a[i] : Nat)) (by simp [icells, h1])
      obtain ⟨b2, o2, rfl, k2, d2⟩ := G4.out k (.int .i64 (b[k] : Nat)) (by simp [icells, h2])
      have y1 := L1.out _ (List.getElem_mem h1)
      have y2 := L2.out _ (List.getElem_mem h2)
      have HN := Lib.hid (fun h => (HT.out h).next h1 h2)
      have HX := Lib.hid (fun x => HM.out i k h1 h2 x)
      generalize a[i] = x at *
      generalize b[k] = y at *
      clear HT
      cases m
      · clear HN
        by_cases g1 : x < one.size
        · go_wp2_with fail
          go_region
          go_wp2_with fail
          exact ⟨⟨i + 1, k, false, by omega, by omega, by go_num, rfl, rfl, Lib.hid (fun h => by cases h), _, rfl⟩, by simp only [intOf]; omega⟩
        · by_cases g2 : y < two.size
          · go_wp2_with fail
            go_region
            go_wp2_with fail
            exact ⟨⟨i, k + 1, false, by omega, by omega, rfl, by go_num, rfl, Lib.hid (fun h => by cases h), _, rfl⟩, by simp only [intOf]; omega⟩
          · rcases Nat.lt_trichotomy (x + two.size) (y + one.size) with g3 | g3 | g3
            · go_wp2_with fail
              go_region
              go_wp2_with fail
              exact ⟨⟨i + 1, k, false, by omega, by omega, by go_num, rfl, rfl, Lib.hid (fun h => by cases h), _, rfl⟩, by simp only [intOf]; omega⟩
            · have HY := Lib.hid (HX.out (x - one.size) (by omega) (by omega))
              have g4 : ((x : Int) - one.size == (y : Int) - two.size) = true := by rw [beq_iff_eq]; omega
              go_wp2_with fail
              go_region
              go_wp2_with fail
              exact ⟨⟨i + 1, k + 1, true, by omega, by omega, by go_num, by go_num, rfl, Lib.hid (fun _ => HY.out), _, rfl⟩, by simp only [intOf]; omega⟩
            · go_wp2_with fail
              go_region
              go_wp2_with fail
              exact ⟨⟨i, k + 1, false, by omega, by omega, rfl, by go_num, rfl, Lib.hid (fun h => by cases h), _, rfl⟩, by simp only [intOf]; omega⟩
      · obtain ⟨q, g1, g2, HY⟩ := HN.out rfl
        have HY := Lib.hid HY
        have g4 : ((x : Int) - one.size == (y : Int) - two.size) = true := by rw [beq_iff_eq]; omega
        have g5 : one.size ≤ x := by omega
        have g6 : two.size ≤ y := by omega
        clear HN g1 g2
        go_wp2_with fail
        go_region
        go_wp2_with fail
        exact ⟨⟨i + 1, k + 1, true, by omega, by omega, by go_num, by go_num, rfl, Lib.hid (fun _ => HY.out), _, rfl⟩, by simp only [intOf]; omega⟩
    · have B5 := below_drewN B4.out nd
      cases m
      · by_cases g1 : i < a.length
        · have g2 : k = b.length := by omega
          subst g2
          clear hlt
          go_wp2_with fail
          refine (CA.out _ B5).mono ?_
          rintro e w6 ⟨rfl, hb6⟩
          have B6 := Lib.hid (B5.trans (hb6.mono (by simp; omega)))
          clear hb6 B5
          go_wp2_with fail
          go_ret
          exact ⟨rfl, B6.out⟩
        · have g2 : i = a.length := by omega
          subst g2
          clear hlt
          go_wp2_with fail
          refine (CA.out _ B5).mono ?_
          rintro e w6 ⟨rfl, hb6⟩
          have B6 := Lib.hid (B5.trans (hb6.mono (by simp; omega)))
          clear hb6 B5
          go_wp2_with fail
          go_ret
          exact ⟨rfl, B6.out⟩
      · obtain ⟨rfl, rfl⟩ := (HT.out rfl).ends hi hk (by omega)
        clear hlt
        go_wp2_with fail
        refine (CA.out _ B5).mono ?_
        rintro e w6 ⟨rfl, hb6⟩
        have B6 := Lib.hid (B5.trans (hb6.mono (by simp; omega)))
        clear hb6 B5
        go_wp2_with fail
        go_ret
        exact ⟨rfl, B6.out⟩
set_option maxRecDepth 100000 in
set_option maxHeartbeats 1000000 in
theorem chunkMeets_any (c : Cut5) (one two en : ByteArray) (n0 : Nat) (w : World) (hp : c.p < 18446744073709551616) (r1 : one.size ≤ 140737488351232) (r2 : two.size ≤ 140737488351232) (r3 : en.size ≤ 140737488351232) (hN : Needs n0 w) :
    Calls Tryd.prog 5 #[c.v, .string one, .string two, .string en] w fun e w' => e = .returned (.bool true) ∧ Below w.heap.size w w' := by
  have CA := Lib.hid (fun W (hb : Below w.heap.size w W) => alive9_any n0 W (hN.below (hb.mono hN.size)))
  by_cases hs : one.size + two.size + en.size ≤ 3000
  · by_cases hc : CMay c
    · obtain ⟨d, hd, rfl⟩ := cut_nat hc hp
      exact chm_yes d one two en n0 w hd hs hN
    · have C1 := Lib.hid (fun W (hb : Below w.heap.size w W) => ctexts_no c (one ++ en) n0 W hp (hN.below (hb.mono hN.size)) hc)
      have C2 := Lib.hid (fun W (hb : Below w.heap.size w W) => ctexts_no c (two ++ en) n0 W hp (hN.below (hb.mono hN.size)) hc)
      obtain ⟨p, n, mi, ma, bi⟩ := c
      simp only [Cut5.v] at C1 C2 ⊢
      clear hN hc hp
      go_enter Tryd.func5, Tryd.ntmps5
      go_wp2_with fail
      have hb0 : Below w.heap.size w (w.alloc (.cells #[.int .u64 p, .int .i64 n, .int .i64 mi, .int .i64 ma, .int .i64 bi] 38)) := (Below.refl _ _).alloc (Nat.le_refl _) _
      refine (C1.out _ hb0).mono ?_
      rintro e w1 ⟨rfl, hb1⟩
      have z1 := hb1.size
      have hc : w1.heap[w.heap.size]? = some (.cells #[.int .u64 p, .int .i64 n, .int .i64 mi, .int .i64 ma, .int .i64 bi] 38 (0, 0)) := by rw [hb1.block _ (by simp), World.alloc_heap_new]
      have c0 : w1.cell? ⟨w.heap.size, 0, none⟩ = some (.int .u64 p) := by simp [World.cell?, hc]
      have c1 : w1.cell? ⟨w.heap.size, 1, none⟩ = some (.int .i64 n) := by simp [World.cell?, hc]
      have c2 : w1.cell? ⟨w.heap.size, 2, none⟩ = some (.int .i64 mi) := by simp [World.cell?, hc]
      have c3 : w1.cell? ⟨w.heap.size, 3, none⟩ = some (.int .i64 ma) := by simp [World.cell?, hc]
      have c4 : w1.cell? ⟨w.heap.size, 4, none⟩ = some (.int .i64 bi) := by simp [World.cell?, hc]
      have B1 := Lib.hid (hb0.trans (hb1.mono (by simp)))
      have zb := B1.out.size
      clear hb1 hb0 hc
      go_wp2_with fail
      refine (C2.out _ B1.out).mono ?_
      rintro e w2 ⟨rfl, hb2⟩
      have B2 := B1.out.trans (hb2.mono (by omega))
      clear hb2
      go_wp2_with fail
      refine (CA.out _ B2).mono ?_
      rintro e w3 ⟨rfl, hb3⟩
      have B3 := Lib.hid (B2.trans (hb3.mono (by have := B2.size; omega)))
      clear hb3 B2
      go_wp2_with fail
      go_ret
      exact ⟨rfl, B3.out⟩
  · obtain ⟨p, n, mi, ma, bi⟩ := c
    simp only [Cut5.v]
    clear hN hp
    have B0 : Below w.heap.size w (w.alloc (.cells #[.int .u64 p, .int .i64 n, .int .i64 mi, .int .i64 ma, .int .i64 bi] 38)) := (Below.refl _ _).alloc (Nat.le_refl _) _
    go_enter Tryd.func5, Tryd.ntmps5
    go_wp2_with fail
    refine (CA.out _ B0).mono ?_
    rintro e w2 ⟨rfl, hb2⟩
    go_wp2_with fail
    go_ret
    exact ⟨rfl, B0.trans (hb2.mono (by simp))⟩
end Go.Proofs.YtpkbhihkhnkhnaaDoor
