/- LinesTile: the walk. -/
import Derived.Test.YtpkbhihkhnkhnaaDoorLtile
import Derived.Test.YtpkbhihkhnkhnaaDoorCht
import Derived.Test.YtpkbhihkhnkhnaaDoorOf
import Derived.Deep.RegionHeld3
import Derived.Deep.DeepCutAuto
namespace Go.Proofs.YtpkbhihkhnkhnaaDoor
open Go.RowKit
theorem row_some {W : World} {sz n : Nat} {v : Value} {xs : List Value} (h : Row W sz v n xs) (h1 : 0 < n * sz) : ∃ b off cap, v = .slice (some ⟨b, off, none⟩) n cap ∧ ∀ j u, xs[j]? = some u → W.cell? ((⟨b, off, none⟩ : Addr).add j) = some u := by
  obtain ⟨h0, p, cap, rfl, hp⟩ := h
  obtain ⟨b, off, rfl, _, _⟩ := hp 0 (xs[0]'(by omega)) (by simp [show 0 < xs.length by omega])
  refine ⟨b, off, cap, rfl, fun j u hj => ?_⟩
  obtain ⟨b', off', e, _, hc⟩ := hp j u hj
  obtain ⟨rfl, rfl⟩ : b = b' ∧ off = off' := by simpa using e
  rw [show (⟨b, off, none⟩ : Addr).add j = ⟨b, off + j, none⟩ from by unfold Addr.add; split <;> simp_all]; exact hc
theorem recs_pos {t : ByteArray} (h : 0 < t.size) : 0 < (recs t).length := by
  rw [recs_len]
  rcases Nat.eq_zero_or_pos (reS t).length with g | g
  · have := (reS_cutting t).P_end
    rw [g, P_zero] at this; omega
  · exact g
theorem wrapEq' (x : Int) : IntKind.i64.wrap x = wrap64 x := by rw [IntKind.wrap_i64]; unfold wrap64; omega
set_option maxRecDepth 100000 in
set_option maxHeartbeats 4000000 in
theorem lnt_yes (c : CutN) (s : ByteArray) (n0 : Nat) (w : World) (hc : c.May) (hs : s.size ≤ 3000) (hN : Needs n0 w) :
    Calls Tryd.prog 9 #[.agg #[.int .u64 c.p, .int .i64 c.n, .int .i64 c.mi, .int .i64 c.ma, .int .i64 c.bi], .string s] w fun e w' => e = .returned (.bool true) ∧ Below w.heap.size w w' := by
  have CA := Lib.hid (fun W (hb : Below w.heap.size w W) => alive10_any n0 W (hN.below (hb.mono hN.size)))
  have C1 := Lib.hid (fun W (hb : Below w.heap.size w W) => ltexts_yes c s n0 W hc (hN.below (hb.mono hN.size)) (by omega))
  have C2 := Lib.hid (fun W => longest_any s W (by omega))
  have C3 := Lib.hid (fun W => records_all s W (by omega))
  have C4 := Lib.hid (fun t W (h : t.size ≤ 4000) => records_all t W h)
  have hcu := acsOf_cutting c s
  have l1 := acsOf_len c s
  have HPL := Lib.hid (fun k (hk : k < (acsOf c s).length) => piece_long (c := c) (s := s) hc hk)
  have HRN := Lib.hid (fun k (hk : k < (acsOf c s).length) t ht => recs_next c s (k := k) hk (t := t) ht)
  have HNL := Lib.hid (fun k (hk : k + 1 < (acsOf c s).length) => piece_nl c s (k := k) hk)
  have HFA := Lib.hid (show txts s (fr s s.size) = recs s by rw [fr_all]; rfl)
  have hlg : lgst (recs s) ≤ 4000 := Nat.le_trans (lgst_le (fun t ht => recs_size ht)) (by omega)
  have hfl : ∀ a, (txts s (fr s a)).length ≤ 3000 := fun a => by
    rw [txts_len]; have := List.length_filter_le (fun x => decide (x ≤ a)) (reS s); have h2 := reS_len s; unfold fr; omega
  have HFL := Lib.hid hfl
  have HF0 := Lib.hid (show txts s (fr s 0) = [] by
    have : fr s 0 = [] := by
      apply List.eq_nil_iff_forall_not_mem.2
      intro x hx
      rw [mem_fr] at hx
      have := (isE_iff.1 hx.1).1; omega
    rw [this]; rfl)
  have hma : c.ma ≤ 4096 := hc.2.2.2.2.2.2.1
  have HC := Lib.hid hcu
  have hrl : (recs s).length ≤ 3000 := by rw [recs_len]; have := reS_len s; omega
  clear hN hcu hc hfl
  generalize lgst (recs s) = lg at *
  generalize acsOf c s = cs at *
  generalize recs s = rl at *
  obtain ⟨i0, hi, hz0, hz1, hz2⟩ := info_parts infoS
  go_enter Tryd.func9, Tryd.ntmps9
  go_wp2_with fail
  have hb0 : Below w.heap.size w (w.alloc (.cells #[.int .u64 c.p, .int .i64 c.n, .int .i64 c.mi, .int .i64 c.ma, .int .i64 c.bi] 38)) := (Below.refl _ _).alloc (Nat.le_refl _) _
  have q0 : CutB (w.alloc (.cells #[.int .u64 c.p, .int .i64 c.n, .int .i64 c.mi, .int .i64 c.ma, .int .i64 c.bi] 38)) w.heap.size c := World.alloc_heap_new w _
  refine (C1.out _ hb0).mono ?_
  rintro e w1 ⟨v1, rfl, hv1, hb1⟩
  have Q := Lib.hid (q0.stays (Kept.of_below' (S := fun _ => True) hb1) trivial)
  have B1 := Lib.hid (hb0.trans (hb1.mono (by simp)))
  obtain ⟨-, p1, c1, rfl, g1⟩ := row_of_owns hv1
  have G1 := Lib.hid g1
  have zb := hb1.size
  simp at zb
  clear hb1 hb0 hv1 C1 q0 g1
  go_wp2_with fail
  go_loopw [7, 8, 9] (fun va vr vi wr => ∃ (k : Nat) (al : ByteArray), k ≤ cs.length ∧ vi = .int .i64 k ∧ va = .string al ∧ al.size = P cs k ∧ Hid (al.data.toList = s.data.toList.take (P cs k)) ∧ wr.ownsRow w1.heap.size 9 1 vr (txts s (fr s (P cs k))).length ((txts s (fr s (P cs k))).map .string) ∧ Below w1.heap.size w1 wr) (fun _ _ vi _ => cs.length - (intOf vi).toNat)
  case atStart => exact ⟨0, ⟨#[]⟩, Nat.zero_le _, rfl, rfl, rfl, Lib.hid rfl, by rw [P_zero, HF0.out]; exact World.ownsRow_nil _ _ _ _, Below.refl _ _⟩
  case round =>
    obtain ⟨k, al, hk, rfl, rfl, hal, HAL, hrow, hbr⟩ := hrel
    have zr := hbr.size
    by_cases hlt : k < cs.length
    · obtain ⟨b1, o1, rfl, k1, e1⟩ := G1.out k (.string (s.extract (P cs k) (P cs (k + 1)))) (by rw [List.getElem?_map, txts_get s cs k hlt]; rfl)
      have y1 := HC.out.mono hlt
      have y2 := HC.out.le_N (i := k + 1) (by omega)
      have y3 := HC.out.txt_size hlt
      have y4 := HPL.out k hlt
      have y5 := HRN.out k hlt _ rfl
      have y6 := HNL.out k
      have hll := HFL.out (P cs k)
      have hll2 := HFL.out (P cs (k + 1))
      have hA : ∃ a a', Hid (P cs k = a) ∧ Hid (P cs (k + 1) = a') := ⟨_, _, Lib.hid rfl, Lib.hid rfl⟩
      obtain ⟨a, a', HA, HA'⟩ := hA
      rw [HA.out] at HAL hal y1 y3 y4 y5 hrow hll e1
      rw [HA'.out] at y1 y2 y3 y4 y5 y6 hll2 e1
      have HTK := Lib.hid (show (al ++ s.extract a a').data.toList = s.data.toList.take a' by
        have e : (s.data.toList.take a').take a = s.data.toList.take a := by rw [List.take_take, Nat.min_eq_left (by omega)]
        rw [ba_append, HAL.out, ba_extract, ← e, List.take_append_drop])
      have htl : (s.extract a a').data.toList = (s.data.toList.take a').drop a := ba_extract _ _ _
      generalize s.extract a a' = tx at *
      have htx : tx.size + a = a' := by omega
      have h10 : k + 1 < cs.length → ∀ h : tx.size - 1 < tx.size, tx[tx.size - 1].toNat = 10 := fun hh h => by
        have q := ba_get tx (tx.size - 1) h
        rw [htl, List.getElem?_drop, List.getElem?_take, if_pos (by omega), show a + (tx.size - 1) = a' - 1 by omega, y6 hh] at q
        have : tx[tx.size - 1] = 10 := (Option.some.inj q).symm
        rw [this]; rfl
      have hts : (al ++ tx).size = a' := by rw [ba_append_size]; omega
      have htp : 0 < tx.size := by omega
      have hrp := recs_pos htp
      have C5 := Lib.hid (C4.out tx)
      have hrt : (txts s (fr s a)).length + (recs tx).length ≤ 3000 := by rw [y5, List.length_append] at hll2; exact hll2
      have HY5 := Lib.hid y5
      obtain ⟨A2, hA2⟩ : ∃ A2, Hid (al ++ tx = A2) := ⟨_, Lib.hid rfl⟩
      rw [hA2.out] at hts HTK
      obtain ⟨F, hF⟩ : ∃ F, Hid (txts s (fr s a) = F) := ⟨_, Lib.hid rfl⟩
      rw [hF.out] at hrow hll hrt HY5
      generalize recs tx = rt at *
      obtain ⟨hn1, hn2⟩ := ba_ne_nil htp
      obtain ⟨d0, d1, d2, d3, d4⟩ := (Q.out.stays (Kept.of_below' (S := fun _ => True) hbr) trivial).cells
      have d5 : wr.cell? ⟨b1, o1 + k, none⟩ = some (.string tx) := (hbr.cell (p := ⟨b1, o1 + k, none⟩) k1).trans e1
      have i1 : (1 : Int) ≤ tx.size := by omega
      have i2 : (tx.size : Int) - 1 < tx.size := by omega
      have i3 : decide ((lg : Int) ≤ (tx.size : Int) - c.ma) = false := by rw [decide_eq_false_iff_not]; omega
      have HROW := Lib.hid hrow
      have HBR := Lib.hid hbr
      have h10' := Lib.hid h10
      clear HAL y3 y4 y5 y6 htl hrow hbr h10 e1
      have hcase : (∃ h : tx.size - 1 < tx.size, k + 1 < cs.length ∧ ((tx[tx.size - 1].toNat : Int) != 10) = false ∧ ((tx[tx.size - 1].toNat : Int) == 10) = true) ∨ cs.length ≤ k + 1 := by
        rcases Nat.eq_or_lt_of_le (show k + 1 ≤ cs.length by omega) with g | g
        · exact .inr (by omega)
        · left
          have h : tx.size - 1 < tx.size := by omega
          refine ⟨h, g, ?_, ?_⟩
          · rw [h10'.out g h]; rfl
          · rw [h10'.out g h]; rfl
      clear h10'
      have hw1 : IntKind.i64.wrap ((k : Int) + 1) = (k : Int) + 1 := by rw [wrapEq']; unfold wrap64; omega
      have hw2 : IntKind.i64.wrap ((tx.size : Int) - 1) = (tx.size : Int) - 1 := by rw [wrapEq']; unfold wrap64; omega
      have hw3 : IntKind.i64.wrap ((tx.size : Int) - c.ma) = (tx.size : Int) - c.ma := by rw [wrapEq']; unfold wrap64; omega
      go_upto_region 12 with fail
      rw [hA2.out]
      go_cut [78] (fun v wx => v = .bool false ∧ Below wr.heap.size wr wx)
      case first =>
        rcases hcase with ⟨hh, hl, j1, j2⟩ | hl
        · have hb3 : decide ((k : Int) + 1 < (cs.length : Int)) = true := by rw [decide_eq_true_iff]; omega
          go_region_held3 (fun w' => w'.cell? ⟨b1, o1 + k, none⟩ = some (.string tx) ∧ w'.cell? ⟨w.heap.size, 3, none⟩ = some (.int .i64 c.ma)) (go_keep) (first | (go_at_call 36; refine (C2.out _).mono ?_; rintro e w2 ⟨rfl, hb2⟩; have f1 := (hb2.cell (p := ⟨b1, o1 + k, none⟩) (by simp; omega)).trans d5; have f2 := (hb2.cell (p := ⟨w.heap.size, 3, none⟩) (by simp; omega)).trans d3))
          go_wp2_with fail
          go_meet
          exact ⟨rfl, ⟨hb2.os, hb2.tape, hb2.output, hb2.size, hb2.block⟩⟩
        · have hb3 : decide ((k : Int) + 1 < (cs.length : Int)) = false := by rw [decide_eq_false_iff_not]; omega
          refine wp_region_held_drew (S := (fun w' => w'.cell? ⟨b1, o1 + k, none⟩ = some (.string tx) ∧ w'.cell? ⟨w.heap.size, 3, none⟩ = some (.int .i64 c.ma))) (by kernel_rfl) (by (try dsimp only); go_keep) (fun hHeld => ?_)
          refine wpAnyH_take (i := 0) (oi := ?zoi1) (v := ?zv1) ?zhi1 (by kernel_rfl) (by kernel_rfl) (by kernel_rfl) ?zhQ1 ?zhy1 (by assumption) ?zrest1
          case zhi1 => (simp only [List.getElem?_toArray, List.getElem?_cons_zero]; rfl)
          case zhQ1 => exact fun _ _ _ h => h
          case zhy1 => (refine Or.inl ⟨by rfl, ?_⟩; intro w hSw; (try dsimp only at hSw); go_simp; try with_reducible rfl)
          try simp only [Act.put, List.setIfInBounds_toArray, List.set_cons_zero, List.set_cons_succ]
          refine wpAnyH_take (i := 1) (oi := ?zoi2) (v := ?zv2) ?zhi2 (by kernel_rfl) (by kernel_rfl) (by kernel_rfl) ?zhQ2 ?zhy2 (by assumption) ?zrest2
          case zhi2 => (simp only [List.getElem?_toArray, List.getElem?_cons_succ, List.getElem?_cons_zero]; rfl)
          case zhQ2 => exact fun _ _ _ h => h
          case zhy2 => (refine Or.inl ⟨by rfl, ?_⟩; intro w hSw; (try dsimp only at hSw); go_simp; try with_reducible rfl)
          try simp only [Act.put, List.setIfInBounds_toArray, List.set_cons_zero, List.set_cons_succ]
          refine wpAnyH_take (i := 2) (oi := ?zoi3) (v := ?zv3) ?zhi3 (by kernel_rfl) (by kernel_rfl) (by kernel_rfl) ?zhQ3 ?zhy3 (by assumption) ?zrest3
          case zhi3 => (simp only [List.getElem?_toArray, List.getElem?_cons_succ, List.getElem?_cons_zero]; rfl)
          case zhQ3 => exact fun _ _ _ h => h
          case zhy3 => (refine Or.inl ⟨by rfl, ?_⟩; intro w hSw; (try dsimp only at hSw); go_simp; try with_reducible rfl)
          try simp only [Act.put, List.setIfInBounds_toArray, List.set_cons_zero, List.set_cons_succ]
          refine wpAnyH_take (i := 3) (oi := ?zoi4) (v := ?zv4) ?zhi4 (by kernel_rfl) (by kernel_rfl) (by kernel_rfl) ?zhQ4 ?zhy4 (by assumption) ?zrest4
          case zhi4 => (simp only [List.getElem?_toArray, List.getElem?_cons_succ, List.getElem?_cons_zero]; rfl)
          case zhQ4 => exact fun _ _ _ h => h
          case zhy4 => (refine Or.inl ⟨by rfl, ?_⟩; intro w hSw; (try dsimp only at hSw); go_simp; try with_reducible rfl)
          try simp only [Act.put, List.setIfInBounds_toArray, List.set_cons_zero, List.set_cons_succ]
          refine wpAnyH_take (i := 4) (oi := ?zoi5) (v := ?zv5) ?zhi5 (by kernel_rfl) (by kernel_rfl) (by kernel_rfl) ?zhQ5 ?zhy5 (by assumption) ?zrest5
          case zhi5 => (simp only [List.getElem?_toArray, List.getElem?_cons_succ, List.getElem?_cons_zero]; rfl)
          case zhQ5 => exact fun _ _ _ h => h
          case zhy5 => (refine Or.inl ⟨by rfl, ?_⟩; intro w hSw; (try dsimp only at hSw); go_simp; try with_reducible rfl)
          try simp only [Act.put, List.setIfInBounds_toArray, List.set_cons_zero, List.set_cons_succ]
          refine wpAnyH_take (i := 5) (oi := ?zoi6) (v := ?zv6) ?zhi6 (by kernel_rfl) (by kernel_rfl) (by kernel_rfl) ?zhQ6 ?zhy6 (by assumption) ?zrest6
          case zhi6 => (simp only [List.getElem?_toArray, List.getElem?_cons_succ, List.getElem?_cons_zero]; rfl)
          case zhQ6 => exact fun _ _ _ h => h
          case zhy6 => (refine Or.inl ⟨by rfl, ?_⟩; intro w hSw; (try dsimp only at hSw); go_simp; try with_reducible rfl)
          try simp only [Act.put, List.setIfInBounds_toArray, List.set_cons_zero, List.set_cons_succ]
          refine wpAnyH_take (i := 6) (oi := ?zoi7) (v := ?zv7) ?zhi7 (by kernel_rfl) (by kernel_rfl) (by kernel_rfl) ?zhQ7 ?zhy7 (by assumption) ?zrest7
          case zhi7 => (simp only [List.getElem?_toArray, List.getElem?_cons_succ, List.getElem?_cons_zero]; rfl)
          case zhQ7 => exact fun _ _ _ h => h
          case zhy7 => (refine Or.inl ⟨by rfl, ?_⟩; intro w hSw; (try dsimp only at hSw); go_simp; try with_reducible rfl)
          try simp only [Act.put, List.setIfInBounds_toArray, List.set_cons_zero, List.set_cons_succ]
          refine wpAnyH_take (i := 7) (oi := ?zoi8) (v := ?zv8) ?zhi8 (by kernel_rfl) (by kernel_rfl) (by kernel_rfl) ?zhQ8 ?zhy8 (by assumption) ?zrest8
          case zhi8 => (simp only [List.getElem?_toArray, List.getElem?_cons_succ, List.getElem?_cons_zero]; rfl)
          case zhQ8 => exact fun _ _ _ h => h
          case zhy8 => (refine Or.inl ⟨by rfl, ?_⟩; intro w hSw; (try dsimp only at hSw); go_simp; try with_reducible rfl)
          try simp only [Act.put, List.setIfInBounds_toArray, List.set_cons_zero, List.set_cons_succ]
          refine wpAnyH_take (i := 8) (oi := ?zoi9) (v := ?zv9) ?zhi9 (by kernel_rfl) (by kernel_rfl) (by kernel_rfl) ?zhQ9 ?zhy9 (by assumption) ?zrest9
          case zhi9 => (simp only [List.getElem?_toArray, List.getElem?_cons_succ, List.getElem?_cons_zero]; rfl)
          case zhQ9 => exact fun _ _ _ h => h
          case zhy9 => (refine Or.inl ⟨by rfl, ?_⟩; intro w hSw; (try dsimp only at hSw); go_simp; try with_reducible rfl)
          try simp only [Act.put, List.setIfInBounds_toArray, List.set_cons_zero, List.set_cons_succ]
          refine wpAnyH_take (i := 9) (oi := ?zoi10) (v := ?zv10) ?zhi10 (by kernel_rfl) (by kernel_rfl) (by kernel_rfl) ?zhQ10 ?zhy10 (by assumption) ?zrest10
          case zhi10 => (simp only [List.getElem?_toArray, List.getElem?_cons_succ, List.getElem?_cons_zero]; rfl)
          case zhQ10 => exact fun _ _ _ h => h
          case zhy10 => (refine Or.inl ⟨by rfl, ?_⟩; intro w hSw; (try dsimp only at hSw); go_simp; try with_reducible rfl)
          try simp only [Act.put, List.setIfInBounds_toArray, List.set_cons_zero, List.set_cons_succ]
          refine wpAnyH_take (i := 10) (oi := ?zoi11) (v := ?zv11) ?zhi11 (by kernel_rfl) (by kernel_rfl) (by kernel_rfl) ?zhQ11 ?zhy11 (by assumption) ?zrest11
          case zhi11 => (simp only [List.getElem?_toArray, List.getElem?_cons_succ, List.getElem?_cons_zero]; rfl)
          case zhQ11 => exact fun _ _ _ h => h
          case zhy11 => (refine Or.inl ⟨by rfl, ?_⟩; intro w hSw; (try dsimp only at hSw); go_simp; try with_reducible rfl)
          try simp only [Act.put, List.setIfInBounds_toArray, List.set_cons_zero, List.set_cons_succ]
          refine wpAnyH_take (i := 11) (oi := ?zoi12) (v := ?zv12) ?zhi12 (by kernel_rfl) (by kernel_rfl) (by kernel_rfl) ?zhQ12 ?zhy12 (by assumption) ?zrest12
          case zhi12 => (simp only [List.getElem?_toArray, List.getElem?_cons_succ, List.getElem?_cons_zero]; rfl)
          case zhQ12 => exact fun _ _ _ h => h
          case zhy12 => (refine Or.inl ⟨by rfl, ?_⟩; intro w hSw; (try dsimp only at hSw); go_simp; try with_reducible rfl)
          try simp only [Act.put, List.setIfInBounds_toArray, List.set_cons_zero, List.set_cons_succ]
          refine wpAnyH_take (i := 12) (oi := ?zoi13) (v := undef) ?zhi13 (by kernel_rfl) (by kernel_rfl) (by kernel_rfl) ?zhQ13 ?zhy13 (by assumption) ?zrest13
          case zhi13 => (simp only [List.getElem?_toArray, List.getElem?_cons_succ, List.getElem?_cons_zero]; rfl)
          case zhQ13 => exact fun _ _ _ h => h
          case zhy13 => exact Or.inr ⟨by rfl, rfl⟩
          try simp only [Act.put, List.setIfInBounds_toArray, List.set_cons_zero, List.set_cons_succ]
          refine wpAnyH_take (i := 13) (oi := ?zoi14) (v := undef) ?zhi14 (by kernel_rfl) (by kernel_rfl) (by kernel_rfl) ?zhQ14 ?zhy14 (by assumption) ?zrest14
          case zhi14 => (simp only [List.getElem?_toArray, List.getElem?_cons_succ, List.getElem?_cons_zero]; rfl)
          case zhQ14 => exact fun _ _ _ h => h
          case zhy14 => exact Or.inr ⟨by rfl, rfl⟩
          try simp only [Act.put, List.setIfInBounds_toArray, List.set_cons_zero, List.set_cons_succ]
          refine wpAnyH_take (i := 14) (oi := ?zoi15) (v := undef) ?zhi15 (by kernel_rfl) (by kernel_rfl) (by kernel_rfl) ?zhQ15 ?zhy15 (by assumption) ?zrest15
          case zhi15 => (simp only [List.getElem?_toArray, List.getElem?_cons_succ, List.getElem?_cons_zero]; rfl)
          case zhQ15 => exact fun _ _ _ h => h
          case zhy15 => exact Or.inr ⟨by rfl, rfl⟩
          try simp only [Act.put, List.setIfInBounds_toArray, List.set_cons_zero, List.set_cons_succ]
          refine wpAnyH_take (i := 15) (oi := ?zoi16) (v := undef) ?zhi16 (by kernel_rfl) (by kernel_rfl) (by kernel_rfl) ?zhQ16 ?zhy16 (by assumption) ?zrest16
          case zhi16 => (simp only [List.getElem?_toArray, List.getElem?_cons_succ, List.getElem?_cons_zero]; rfl)
          case zhQ16 => exact fun _ _ _ h => h
          case zhy16 => exact Or.inr ⟨by rfl, rfl⟩
          try simp only [Act.put, List.setIfInBounds_toArray, List.set_cons_zero, List.set_cons_succ]
          refine wpAnyH_take (i := 16) (oi := ?zoi17) (v := undef) ?zhi17 (by kernel_rfl) (by kernel_rfl) (by kernel_rfl) ?zhQ17 ?zhy17 (by assumption) ?zrest17
          case zhi17 => (simp only [List.getElem?_toArray, List.getElem?_cons_succ, List.getElem?_cons_zero]; rfl)
          case zhQ17 => exact fun _ _ _ h => h
          case zhy17 => exact Or.inr ⟨by rfl, rfl⟩
          try simp only [Act.put, List.setIfInBounds_toArray, List.set_cons_zero, List.set_cons_succ]
          refine wpAnyH_take (i := 17) (oi := ?zoi18) (v := undef) ?zhi18 (by kernel_rfl) (by kernel_rfl) (by kernel_rfl) ?zhQ18 ?zhy18 (by assumption) ?zrest18
          case zhi18 => (simp only [List.getElem?_toArray, List.getElem?_cons_succ, List.getElem?_cons_zero]; rfl)
          case zhQ18 => exact fun _ _ _ h => h
          case zhy18 => exact Or.inr ⟨by rfl, rfl⟩
          try simp only [Act.put, List.setIfInBounds_toArray, List.set_cons_zero, List.set_cons_succ]
          refine wpAnyH_take (i := 18) (oi := ?zoi19) (v := undef) ?zhi19 (by kernel_rfl) (by kernel_rfl) (by kernel_rfl) ?zhQ19 ?zhy19 (by assumption) ?zrest19
          case zhi19 => (simp only [List.getElem?_toArray, List.getElem?_cons_succ, List.getElem?_cons_zero]; rfl)
          case zhQ19 => exact fun _ _ _ h => h
          case zhy19 => exact Or.inr ⟨by rfl, rfl⟩
          try simp only [Act.put, List.setIfInBounds_toArray, List.set_cons_zero, List.set_cons_succ]
          refine wpAnyH_take (i := 19) (oi := ?zoi20) (v := undef) ?zhi20 (by kernel_rfl) (by kernel_rfl) (by kernel_rfl) ?zhQ20 ?zhy20 (by assumption) ?zrest20
          case zhi20 => (simp only [List.getElem?_toArray, List.getElem?_cons_succ, List.getElem?_cons_zero]; rfl)
          case zhQ20 => exact fun _ _ _ h => h
          case zhy20 => exact Or.inr ⟨by rfl, rfl⟩
          try simp only [Act.put, List.setIfInBounds_toArray, List.set_cons_zero, List.set_cons_succ]
          refine wpAnyH_take (i := 20) (oi := ?zoi21) (v := undef) ?zhi21 (by kernel_rfl) (by kernel_rfl) (by kernel_rfl) ?zhQ21 ?zhy21 (by assumption) ?zrest21
          case zhi21 => (simp only [List.getElem?_toArray, List.getElem?_cons_succ, List.getElem?_cons_zero]; rfl)
          case zhQ21 => exact fun _ _ _ h => h
          case zhy21 => exact Or.inr ⟨by rfl, rfl⟩
          try simp only [Act.put, List.setIfInBounds_toArray, List.set_cons_zero, List.set_cons_succ]
          refine wpAnyH_take (i := 21) (oi := ?zoi22) (v := undef) ?zhi22 (by kernel_rfl) (by kernel_rfl) (by kernel_rfl) ?zhQ22 ?zhy22 (by assumption) ?zrest22
          case zhi22 => (simp only [List.getElem?_toArray, List.getElem?_cons_succ, List.getElem?_cons_zero]; rfl)
          case zhQ22 => exact fun _ _ _ h => h
          case zhy22 => exact Or.inr ⟨by rfl, rfl⟩
          try simp only [Act.put, List.setIfInBounds_toArray, List.set_cons_zero, List.set_cons_succ]
          refine wpAnyH_take (i := 22) (oi := ?zoi23) (v := undef) ?zhi23 (by kernel_rfl) (by kernel_rfl) (by kernel_rfl) ?zhQ23 ?zhy23 (by assumption) ?zrest23
          case zhi23 => (simp only [List.getElem?_toArray, List.getElem?_cons_succ, List.getElem?_cons_zero]; rfl)
          case zhQ23 => exact fun _ _ _ h => h
          case zhy23 => exact Or.inr ⟨by rfl, rfl⟩
          try simp only [Act.put, List.setIfInBounds_toArray, List.set_cons_zero, List.set_cons_succ]
          refine wpAnyH_take (i := 23) (oi := ?zoi24) (v := undef) ?zhi24 (by kernel_rfl) (by kernel_rfl) (by kernel_rfl) ?zhQ24 ?zhy24 (by assumption) ?zrest24
          case zhi24 => (simp only [List.getElem?_toArray, List.getElem?_cons_succ, List.getElem?_cons_zero]; rfl)
          case zhQ24 => exact fun _ _ _ h => h
          case zhy24 => exact Or.inr ⟨by rfl, rfl⟩
          try simp only [Act.put, List.setIfInBounds_toArray, List.set_cons_zero, List.set_cons_succ]
          refine wpAnyH_take (i := 24) (oi := ?zoi25) (v := ?zv25) ?zhi25 (by kernel_rfl) (by kernel_rfl) (by kernel_rfl) ?zhQ25 ?zhy25 (by assumption) ?zrest25
          case zhi25 => (simp only [List.getElem?_toArray, List.getElem?_cons_succ, List.getElem?_cons_zero]; rfl)
          case zhQ25 => exact fun _ _ _ h => h
          case zhy25 => (refine Or.inl ⟨by rfl, ?_⟩; intro w hSw; (try dsimp only at hSw); go_simp; try with_reducible rfl)
          try simp only [Act.put, List.setIfInBounds_toArray, List.set_cons_zero, List.set_cons_succ]
          refine wpAnyH_take (i := 25) (oi := ?zoi26) (v := ?zv26) ?zhi26 (by kernel_rfl) (by kernel_rfl) (by kernel_rfl) ?zhQ26 ?zhy26 (by assumption) ?zrest26
          case zhi26 => (simp only [List.getElem?_toArray, List.getElem?_cons_succ, List.getElem?_cons_zero]; rfl)
          case zhQ26 => exact fun _ _ _ h => h
          case zhy26 => (refine Or.inl ⟨by rfl, ?_⟩; intro w hSw; (try dsimp only at hSw); go_simp; try with_reducible rfl)
          try simp only [Act.put, List.setIfInBounds_toArray, List.set_cons_zero, List.set_cons_succ]
          refine wpAnyH_take (i := 26) (oi := ?zoi27) (v := ?zv27) ?zhi27 (by kernel_rfl) (by kernel_rfl) (by kernel_rfl) ?zhQ27 ?zhy27 (by assumption) ?zrest27
          case zhi27 => (simp only [List.getElem?_toArray, List.getElem?_cons_succ, List.getElem?_cons_zero]; rfl)
          case zhQ27 => exact fun _ _ _ h => h
          case zhy27 => (refine Or.inl ⟨by rfl, ?_⟩; intro w hSw; (try dsimp only at hSw); go_simp; try with_reducible rfl)
          try simp only [Act.put, List.setIfInBounds_toArray, List.set_cons_zero, List.set_cons_succ]
          refine wpAnyH_take (i := 27) (oi := ?zoi28) (v := ?zv28) ?zhi28 (by kernel_rfl) (by kernel_rfl) (by kernel_rfl) ?zhQ28 ?zhy28 (by assumption) ?zrest28
          case zhi28 => (simp only [List.getElem?_toArray, List.getElem?_cons_succ, List.getElem?_cons_zero]; rfl)
          case zhQ28 => exact fun _ _ _ h => h
          case zhy28 => (refine Or.inl ⟨by rfl, ?_⟩; intro w hSw; (try dsimp only at hSw); go_simp; try with_reducible rfl)
          try simp only [Act.put, List.setIfInBounds_toArray, List.set_cons_zero, List.set_cons_succ]
          refine wpAnyH_take (i := 28) (oi := ?zoi29) (v := ?zv29) ?zhi29 (by kernel_rfl) (by kernel_rfl) (by kernel_rfl) ?zhQ29 ?zhy29 (by assumption) ?zrest29
          case zhi29 => (simp only [List.getElem?_toArray, List.getElem?_cons_succ, List.getElem?_cons_zero]; rfl)
          case zhQ29 => exact fun _ _ _ h => h
          case zhy29 => (refine Or.inl ⟨by rfl, ?_⟩; intro w hSw; (try dsimp only at hSw); go_simp; try with_reducible rfl)
          try simp only [Act.put, List.setIfInBounds_toArray, List.set_cons_zero, List.set_cons_succ]
          refine wpAnyH_take (i := 29) (oi := ?zoi30) (v := ?zv30) ?zhi30 (by kernel_rfl) (by kernel_rfl) (by kernel_rfl) ?zhQ30 ?zhy30 (by assumption) ?zrest30
          case zhi30 => (simp only [List.getElem?_toArray, List.getElem?_cons_succ, List.getElem?_cons_zero]; rfl)
          case zhQ30 => exact fun _ _ _ h => h
          case zhy30 => (refine Or.inl ⟨by rfl, ?_⟩; intro w hSw; (try dsimp only at hSw); go_simp; try with_reducible rfl)
          try simp only [Act.put, List.setIfInBounds_toArray, List.set_cons_zero, List.set_cons_succ]
          refine wpAnyH_take (i := 30) (oi := ?zoi31) (v := ?zv31) ?zhi31 (by kernel_rfl) (by kernel_rfl) (by kernel_rfl) ?zhQ31 ?zhy31 (by assumption) ?zrest31
          case zhi31 => (simp only [List.getElem?_toArray, List.getElem?_cons_succ, List.getElem?_cons_zero]; rfl)
          case zhQ31 => exact fun _ _ _ h => h
          case zhy31 => (refine Or.inl ⟨by rfl, ?_⟩; intro w hSw; (try dsimp only at hSw); go_simp; try with_reducible rfl)
          try simp only [Act.put, List.setIfInBounds_toArray, List.set_cons_zero, List.set_cons_succ]
          refine wpAnyH_take (i := 31) (oi := ?zoi32) (v := ?zv32) ?zhi32 (by kernel_rfl) (by kernel_rfl) (by kernel_rfl) ?zhQ32 ?zhy32 (by assumption) ?zrest32
          case zhi32 => (simp only [List.getElem?_toArray, List.getElem?_cons_succ, List.getElem?_cons_zero]; rfl)
          case zhQ32 => exact fun _ _ _ h => h
          case zhy32 => (refine Or.inl ⟨by rfl, ?_⟩; intro w hSw; (try dsimp only at hSw); go_simp; try with_reducible rfl)
          try simp only [Act.put, List.setIfInBounds_toArray, List.set_cons_zero, List.set_cons_succ]
          refine wpAnyH_take (i := 32) (oi := ?zoi33) (v := ?zv33) ?zhi33 (by kernel_rfl) (by kernel_rfl) (by kernel_rfl) ?zhQ33 ?zhy33 (by assumption) ?zrest33
          case zhi33 => (simp only [List.getElem?_toArray, List.getElem?_cons_succ, List.getElem?_cons_zero]; rfl)
          case zhQ33 => exact fun _ _ _ h => h
          case zhy33 => (refine Or.inl ⟨by rfl, ?_⟩; intro w hSw; (try dsimp only at hSw); go_simp; try with_reducible rfl)
          try simp only [Act.put, List.setIfInBounds_toArray, List.set_cons_zero, List.set_cons_succ]
          refine wpAnyH_take (i := 33) (oi := ?zoi34) (v := ?zv34) ?zhi34 (by kernel_rfl) (by kernel_rfl) (by kernel_rfl) ?zhQ34 ?zhy34 (by assumption) ?zrest34
          case zhi34 => (simp only [List.getElem?_toArray, List.getElem?_cons_succ, List.getElem?_cons_zero]; rfl)
          case zhQ34 => exact fun _ _ _ h => h
          case zhy34 => (refine Or.inl ⟨by rfl, ?_⟩; intro w hSw; (try dsimp only at hSw); go_simp; try with_reducible rfl)
          try simp only [Act.put, List.setIfInBounds_toArray, List.set_cons_zero, List.set_cons_succ]
          refine wpAnyH_take (i := 34) (oi := ?zoi35) (v := ?zv35) ?zhi35 (by kernel_rfl) (by kernel_rfl) (by kernel_rfl) ?zhQ35 ?zhy35 (by assumption) ?zrest35
          case zhi35 => (simp only [List.getElem?_toArray, List.getElem?_cons_succ, List.getElem?_cons_zero]; rfl)
          case zhQ35 => exact fun _ _ _ h => h
          case zhy35 => (refine Or.inl ⟨by rfl, ?_⟩; intro w hSw; (try dsimp only at hSw); go_simp; try with_reducible rfl)
          try simp only [Act.put, List.setIfInBounds_toArray, List.set_cons_zero, List.set_cons_succ]
          refine wpAnyH_take (i := 35) (oi := ?zoi36) (v := ?zv36) ?zhi36 (by kernel_rfl) (by kernel_rfl) (by kernel_rfl) ?zhQ36 ?zhy36 (by assumption) ?zrest36
          case zhi36 => (simp only [List.getElem?_toArray, List.getElem?_cons_succ, List.getElem?_cons_zero]; rfl)
          case zhQ36 => exact fun _ _ _ h => h
          case zhy36 => (refine Or.inl ⟨by rfl, ?_⟩; intro w hSw; (try dsimp only at hSw); go_simp; try with_reducible rfl)
          try simp only [Act.put, List.setIfInBounds_toArray, List.set_cons_zero, List.set_cons_succ]
          refine wpAnyH_ready (rs := [36]) (by kernel_rfl) (by simp) ?_
          refine AllReadyH.cons (o := ?zoi37) ?zhi37 (fun K hK => ?zrest37) AllReadyH.nil
          case zhi37 => (simp only [List.getElem?_toArray, List.getElem?_cons_succ, List.getElem?_cons_zero]; rfl)
          go_wp2_with (first | (go_at_call 36; refine (C2.out _).mono ?_; rintro e w2 ⟨rfl, hb2⟩; have f1 := (hb2.cell (p := ⟨b1, o1 + k, none⟩) (by simp; omega)).trans d5; have f2 := (hb2.cell (p := ⟨w.heap.size, 3, none⟩) (by simp; omega)).trans d3))
          refine hK.out _ _ (by (try dsimp only); go_keep) (fun hHeld2 => ?_)
          clear hK K
          try simp only [Act.put, List.setIfInBounds_toArray, List.set_cons_zero, List.set_cons_succ]
          refine wpAnyH_take (i := 37) (oi := ?zoi38) (v := ?zv38) ?zhi38 (by kernel_rfl) (by kernel_rfl) (by kernel_rfl) ?zhQ38 ?zhy38 (by assumption) ?zrest38
          case zhi38 => (simp only [List.getElem?_toArray, List.getElem?_cons_succ, List.getElem?_cons_zero]; rfl)
          case zhQ38 => exact fun _ _ _ h => h
          case zhy38 => (refine Or.inl ⟨by rfl, ?_⟩; intro w hSw; (try dsimp only at hSw); go_simp; try with_reducible rfl)
          try simp only [Act.put, List.setIfInBounds_toArray, List.set_cons_zero, List.set_cons_succ]
          refine wpAnyH_take (i := 38) (oi := ?zoi39) (v := ?zv39) ?zhi39 (by kernel_rfl) (by kernel_rfl) (by kernel_rfl) ?zhQ39 ?zhy39 (by assumption) ?zrest39
          case zhi39 => (simp only [List.getElem?_toArray, List.getElem?_cons_succ, List.getElem?_cons_zero]; rfl)
          case zhQ39 => exact fun _ _ _ h => h
          case zhy39 => (refine Or.inl ⟨by rfl, ?_⟩; intro w hSw; (try dsimp only at hSw); go_simp; try with_reducible rfl)
          try simp only [Act.put, List.setIfInBounds_toArray, List.set_cons_zero, List.set_cons_succ]
          refine wpAnyH_done (by kernel_rfl) ?_ _
          go_wp2_with fail
          go_meet
          exact ⟨rfl, ⟨hb2.os, hb2.tape, hb2.output, hb2.size, hb2.block⟩⟩
      case rest =>
        obtain ⟨rfl, hbc⟩ := hcut
        have zc := hbc.size
        have dc : wc.cell? ⟨b1, o1 + k, none⟩ = some (.string tx) := (hbc.cell (p := ⟨b1, o1 + k, none⟩) (by show b1 < _; omega)).trans d5
        have hrc := owns_below HROW.out hbc
        have Bc := Lib.hid (HBR.out.trans (hbc.mono (by omega)))
        clear hbc d0 d1 d2 d3 d4 d5 hw1 hw2 hw3 i3 hcase HROW HBR
        go_wp2_with fail
        refine (C5.out _ (by omega)).mono ?_
        rintro e w3 ⟨v3, rfl, hv3, hb3⟩
        have z3 := hb3.size
        have hr3 := owns_below hrc hb3
        have B3 := Lib.hid (Bc.out.trans (hb3.mono (by omega)))
        obtain ⟨g3, f3, cp3, rfl, hnews⟩ := row_some (row_of_owns hv3) (by omega)
        clear hb3 hv3 hrc Bc
        go_wp2_with (first
          | (at_builtin; refine wpList_append_own_at _ rfl _ _ 24 rfl w1.heap.size 9 i0 (.string ⟨#[]⟩) 1 16 Tryd.underlying24 hi hz0 hz1 hz2 rfl (by decide) _ F.length (F.map .string) rfl hr3 ⟨g3, f3, none⟩ rt.length cp3 (rt.map .string) rfl (by simp) hnews (strs_oneCell rt) (by unfold maxLen; omega) (by omega) (by omega) ?_; intro v' w4 hown' hgrow hnil hloc)
          | fail)
        refine ⟨⟨k + 1, A2, by omega, by go_num, rfl, by rw [HA'.out]; exact hts, by rw [HA'.out]; exact HTK, ?_, ?_⟩, by simp only [intOf]; omega⟩
        · rw [HA'.out, HY5.out, List.length_append, List.map_append]; exact hown'
        · exact B3.out.grown hgrow (by omega) (fun j hj => owns_base hr3 hj)
    · obtain rfl : k = cs.length := by omega
      have hE := HC.out.P_end
      rw [hE] at hrow HAL hal
      rw [HFA.out] at hrow
      have HSS := Lib.hid (show al = s from ba_ext (by rw [HAL.out, ba_size, List.take_length]))
      rw [HSS.out]
      have R1 := Lib.hid (row_of_owns hrow)
      have B4 := Lib.hid (B1.out.trans (hbr.mono (by omega)))
      clear HAL hal hE hrow hbr
      go_wp2_with fail
      refine (C3.out _).mono ?_
      rintro e w5 ⟨v5, rfl, hv5, hb5⟩
      have R5 := Lib.hid (row_of_owns hv5)
      have R1 := Lib.hid (R1.out.below hb5)
      have B5 := Lib.hid (B4.out.trans (hb5.mono B4.out.size))
      clear hb5 hv5 B4
      go_wp2_with fail
      refine (sames_any rl _ _ _ (by omega) R1.out R5.out).mono ?_
      rintro e w6 ⟨rfl, hb6⟩
      have B6 := B5.out.trans (hb6.mono B5.out.size)
      clear hb6 B5 R1 R5
      go_wp2_with fail
      refine (CA.out _ B6).mono ?_
      rintro e w7 ⟨rfl, hb7⟩
      have B7 := Lib.hid (B6.trans (hb7.mono B6.size))
      clear hb7 B6
      go_wp2_with fail
      go_ret
      exact ⟨rfl, B7.out⟩
set_option maxRecDepth 100000 in
set_option maxHeartbeats 1000000 in
theorem linesTile_any (c : Cut5) (s : ByteArray) (n0 : Nat) (w : World) (hp : c.p < 18446744073709551616) (r1 : s.size ≤ 140737488351232) (hN : Needs n0 w) :
    Calls Tryd.prog 9 #[c.v, .string s] w fun e w' => e = .returned (.bool true) ∧ Below w.heap.size w w' := by
  have CA := Lib.hid (fun W (hb : Below w.heap.size w W) => alive10_any n0 W (hN.below (hb.mono hN.size)))
  by_cases hs : s.size ≤ 3000
  · by_cases hc : CMay c
    · obtain ⟨d, hd, rfl⟩ := cut_nat hc hp
      exact lnt_yes d s n0 w hd hs hN
    · have C1 := Lib.hid (fun W (hb : Below w.heap.size w W) => ltexts_no c s n0 W hp (hN.below (hb.mono hN.size)) hc)
      obtain ⟨p, n, mi, ma, bi⟩ := c
      simp only [Cut5.v] at C1 ⊢
      clear hN hc hp
      go_enter Tryd.func9, Tryd.ntmps9
      go_wp2_with fail
      have hb0 : Below w.heap.size w (w.alloc (.cells #[.int .u64 p, .int .i64 n, .int .i64 mi, .int .i64 ma, .int .i64 bi] 38)) := (Below.refl _ _).alloc (Nat.le_refl _) _
      refine (C1.out _ hb0).mono ?_
      rintro e w1 ⟨rfl, hb1⟩
      have B1 := hb0.trans (hb1.mono (by simp))
      clear hb1 hb0
      go_wp2_with fail
      refine (CA.out _ B1).mono ?_
      rintro e w3 ⟨rfl, hb3⟩
      have B3 := Lib.hid (B1.trans (hb3.mono B1.size))
      clear hb3 B1
      go_wp2_with fail
      go_ret
      exact ⟨rfl, B3.out⟩
  · obtain ⟨p, n, mi, ma, bi⟩ := c
    simp only [Cut5.v]
    clear hN hp
    have B0 : Below w.heap.size w (w.alloc (.cells #[.int .u64 p, .int .i64 n, .int .i64 mi, .int .i64 ma, .int .i64 bi] 38)) := (Below.refl _ _).alloc (Nat.le_refl _) _
    go_enter Tryd.func9, Tryd.ntmps9
    go_wp2_with fail
    refine (CA.out _ B0).mono ?_
    rintro e w2 ⟨rfl, hb2⟩
    go_wp2_with fail
    go_ret
    exact ⟨rfl, B0.trans (hb2.mono (by simp))⟩
end Go.Proofs.YtpkbhihkhnkhnaaDoor
