/- maslinref11: Cut, Margin. -/
import Derived.Test.YtpkbhihkhnkhnaaDoorRal
import Derived.Test.YtpkbhihkhnkhnaaDoorMrg
import Derived.Deep.RegionHeld3
import Derived.Deep.DeepCutAuto
import Derived.Deep.CutBlock
namespace Go.Proofs.YtpkbhihkhnkhnaaDoor
open Go.RowKit
theorem cell_lt {W : World} {p : Addr} {x : Value} (h : W.cell? p = some x) : p.block < W.heap.size := by
  unfold World.cell? at h
  rcases Nat.lt_or_ge p.block W.heap.size with g | g
  · exact g
  · rw [Array.getElem?_eq_none g] at h; simp at h
theorem two_new (w : World) (x0 x1 y0 y1 : Value) (ty : TypeId) (W : World) (hW : W = ((w.alloc (.cells #[x0, x1] ty)).alloc (.cells #[y0, y1] ty)).drew) :
    W.cell? ⟨w.heap.size, 0, none⟩ = some x0 ∧ W.cell? ⟨w.heap.size, 1, none⟩ = some x1 ∧ W.cell? ⟨w.heap.size + 1, 0, none⟩ = some y0 ∧ W.cell? ⟨w.heap.size + 1, 1, none⟩ = some y1 ∧ Below w.heap.size w W := by
  have h1 : W.heap[w.heap.size]? = some (.cells #[x0, x1] ty (0, 0)) := by
    rw [hW]
    show ((w.alloc (.cells #[x0, x1] ty)).alloc (.cells #[y0, y1] ty)).heap[w.heap.size]? = _
    rw [Below.heap_alloc _ _ _ (by simp)]; exact World.alloc_heap_new w _
  have h2 : W.heap[w.heap.size + 1]? = some (.cells #[y0, y1] ty (0, 0)) := by
    rw [hW]
    have := World.alloc_heap_new (w.alloc (.cells #[x0, x1] ty)) (.cells #[y0, y1] ty)
    rw [World.size_alloc] at this; exact this
  refine ⟨?_, ?_, ?_, ?_, ?_⟩
  · simp [World.cell?, h1]
  · simp [World.cell?, h1]
  · simp [World.cell?, h2]
  · simp [World.cell?, h2]
  · rw [hW]; exact (((Below.refl w.heap.size w).alloc (Nat.le_refl _) _).alloc (by simp) _).drew
theorem r11cut_any (c : CutN) (s : ByteArray) (w : World) (hm : c.May) (hs : s.size ≤ 4000) :
    Calls Tryd.prog 44 #[.agg #[.int .u64 c.p, .int .i64 c.n, .int .i64 c.mi, .int .i64 c.ma, .int .i64 c.bi], .string s] w fun e w' => ∃ v, e = .returned v ∧ w'.ownsRow w.heap.size 9 1 v (acsOf c s).length ((txts s (acsOf c s)).map .string) ∧ Below w.heap.size w w' := by
  have C1 := Lib.hid (fun W => rmay9_yes c.five W hm.1 hm.five)
  simp only [CutN.five] at C1
  have C2 := Lib.hid (fun W => r10cut_any c s W hm hs)
  have hl := acsOf_len c s
  have C3 := Lib.hid (fun v W hr => r11texts_any s (acsOf c s) v W (acsOf_cutting c s) hs (by omega) hr)
  generalize acsOf c s = cs at *
  clear hm
  go_enter Tryd.func44, Tryd.ntmps44
  go_wp2_with fail
  obtain ⟨W1, hW1⟩ : ∃ W1, W1 = w.alloc (.cells #[.int .u64 c.p, .int .i64 c.n, .int .i64 c.mi, .int .i64 c.ma, .int .i64 c.bi] 38) := ⟨_, rfl⟩
  have hb1 : Below w.heap.size w W1 := by rw [hW1]; exact (Below.refl _ _).alloc (Nat.le_refl _) _
  have hc1 : CutB W1 w.heap.size c := by rw [hW1]; exact World.alloc_heap_new w _
  have z1 : w.heap.size + 1 = W1.heap.size := by rw [hW1]; simp
  rw [← hW1]
  have B1 := Lib.hid hb1
  have HC1 := Lib.hid hc1
  clear hW1 hb1 hc1
  refine (C1.out _).mono ?_
  rintro r w2 ⟨rfl, hb2⟩
  have z2 := hb2.size
  have hc2 := HC1.out.stays (Kept.of_below' (S := fun _ => True) hb2) trivial
  obtain ⟨d0, d1, d2, d3, d4⟩ := hc2.cells
  have B2 := Lib.hid (B1.out.trans (hb2.mono (by omega)))
  clear hb2 hc2 HC1 C1
  go_wp2_with fail
  refine (C2.out _).mono ?_
  rintro r w3 ⟨v3, rfl, hv3, hb3⟩
  have z3 := hb3.size
  have C3' := Lib.hid (C3.out v3 w3 (row_of_owns hv3))
  have B3 := Lib.hid (B2.out.trans (hb3.mono (by omega)))
  clear hb3 hv3 d0 d1 d2 d3 d4 C2 C3
  go_wp2_with fail
  refine C3'.out.mono ?_
  rintro r w4 ⟨v4, rfl, hv4, hb4⟩
  have B4 := Lib.hid (B3.out.trans (hb4.mono (by omega)))
  have HV := Lib.hid (owns_mono (base' := w.heap.size) hv4 (by omega))
  clear hb4 hv4 C3'
  go_wp2_with fail
  go_ret
  exact ⟨_, rfl, HV.out, B4.out⟩
set_option maxRecDepth 100000 in
set_option maxHeartbeats 4000000 in
theorem r11margin_any (c : CutN) (s t : ByteArray) (w : World) (hm : c.May) (hs : s.size ≤ 4000) (ht : t.size ≤ 4000) (ca cb : List Nat) (has : ca = acsOf c s) (hbs : cb = acsOf c t) (n e : Nat) (hn : n = cp (txts s ca) (txts t cb))
    (he : e = cp ((txts s ca).drop n).reverse ((txts t cb).drop n).reverse) :
    Calls Tryd.prog 43 #[.agg #[.int .u64 c.p, .int .i64 c.n, .int .i64 c.mi, .int .i64 c.ma, .int .i64 c.bi], .string s, .string t] w fun r w' => r = .returned (.tuple #[.int .i64 n, .int .i64 ((cb.length : Int) - e)]) ∧ Below w.heap.size w w' := by
  have C1 := Lib.hid (fun W => r10cut_any c s W hm hs)
  have C2 := Lib.hid (fun W => r10cut_any c t W hm ht)
  have hla := acsOf_len c s
  have hlb := acsOf_len c t
  have cua := acsOf_cutting c s
  have cub := acsOf_cutting c t
  rw [← has] at C1 hla cua
  rw [← hbs] at C2 hlb cub
  have hl1 := cp_le (txts s ca) (txts t cb)
  have hl2 := cp_le ((txts s ca).drop n).reverse ((txts t cb).drop n).reverse
  rw [← hn, txts_len, txts_len] at hl1
  rw [← he] at hl2
  simp only [List.length_reverse, List.length_drop, txts_len] at hl2
  obtain ⟨hl11, hl12⟩ := hl1
  obtain ⟨hl21, hl22⟩ := hl2
  have F1 := Lib.hid (fun k (hk : k < n) => mg_fwd cua cub hn hk)
  have F2 := Lib.hid (mg_stop hn)
  have F3 := Lib.hid (fun j (hj : j < e) => mg_back cua cub hl11 hl12 he hj)
  have F4 := Lib.hid (mg_halt hl11 hl12 he)
  have CA := Lib.hid cua
  have CB := Lib.hid cub
  clear cua cub has hbs hm hn he
  go_enter Tryd.func43, Tryd.ntmps43
  go_wp2_with fail
  obtain ⟨W1, hW1⟩ : ∃ W1, W1 = w.alloc (.cells #[.int .u64 c.p, .int .i64 c.n, .int .i64 c.mi, .int .i64 c.ma, .int .i64 c.bi] 38) := ⟨_, rfl⟩
  have hb1 : Below w.heap.size w W1 := by rw [hW1]; exact (Below.refl _ _).alloc (Nat.le_refl _) _
  have hc1 : CutB W1 w.heap.size c := by rw [hW1]; exact World.alloc_heap_new w _
  have z1 : w.heap.size + 1 = W1.heap.size := by rw [hW1]; simp
  rw [← hW1]
  have B1 := Lib.hid hb1
  have HC1 := Lib.hid hc1
  obtain ⟨d0, d1, d2, d3, d4⟩ := hc1.cells
  have I0 : Hid (Below W1.heap.size W1 W1.drew) := Lib.hid ((Below.refl _ _).drew)
  have D1 := Lib.hid (fun W (h : Hid (Below W1.heap.size W1 W)) => (C1.out W).mono (R' := fun e w' => ∃ v, e = .returned v ∧ Hid (Row w' 2 v ca.length (pcells (pcs ca))) ∧ Hid (Below W.heap.size W w') ∧ Hid (Below W1.heap.size W1 w') ∧ CutB w' w.heap.size c) (fun e w' ⟨v, h1, h2, h3⟩ => ⟨v, h1, Lib.hid (row_of_owns h2), Lib.hid h3, Lib.hid (h.out.trans (h3.mono h.out.size)), HC1.out.stays (Kept.of_below' (S := fun _ => True) (h.out.trans (h3.mono h.out.size))) trivial⟩))
  have D2 := Lib.hid (fun W (h : Hid (Below W1.heap.size W1 W)) => (C2.out W).mono (R' := fun e w' => ∃ v, e = .returned v ∧ Hid (Row w' 2 v cb.length (pcells (pcs cb))) ∧ Hid (Below W.heap.size W w') ∧ Hid (Below W1.heap.size W1 w') ∧ CutB w' w.heap.size c) (fun e w' ⟨v, h1, h2, h3⟩ => ⟨v, h1, Lib.hid (row_of_owns h2), Lib.hid h3, Lib.hid (h.out.trans (h3.mono h.out.size)), HC1.out.stays (Kept.of_below' (S := fun _ => True) (h.out.trans (h3.mono h.out.size))) trivial⟩))
  clear hW1 hb1 hc1 C1 C2
  have M : Hid (0 = 0) := Lib.hid rfl
  go_cut [8, 9] (fun v8 v9 wx => Row wx 2 v8 ca.length (pcells (pcs ca)) ∧ Row wx 2 v9 cb.length (pcells (pcs cb)) ∧ Below w.heap.size w wx)
  case first =>
    clear F1 F2 F3 F4 CA CB
    go_region_held3 (fun w' => w'.cell? ⟨w.heap.size, 0, none⟩ = some (.int .u64 c.p) ∧ w'.cell? ⟨w.heap.size, 1, none⟩ = some (.int .i64 c.n) ∧ w'.cell? ⟨w.heap.size, 2, none⟩ = some (.int .i64 c.mi) ∧ w'.cell? ⟨w.heap.size, 3, none⟩ = some (.int .i64 c.ma) ∧ w'.cell? ⟨w.heap.size, 4, none⟩ = some (.int .i64 c.bi)) (first | exact ⟨d0, d1, d2, d3, d4⟩ | exact ⟨f0, f1, f2, f3, f4⟩ | exact ⟨g0, g1, g2, g3, g4⟩) (first
      | (go_at_call 61; clear M; refine (D1.out _ ?_).mono ?_; (assumption); rintro r wa ⟨va, rfl, ra, hba, ia, qa⟩; obtain ⟨f0, f1, f2, f3, f4⟩ := qa.cells; clear qa)
      | (go_at_call 61; refine (D2.out _ ?_).mono ?_; (assumption); rintro r wb ⟨vb, rfl, rb, hbb, ib, qb⟩; obtain ⟨g0, g1, g2, g3, g4⟩ := qb.cells; clear qb))
    all_goals
      go_wp2_with fail
      go_meet
      exact ⟨ra.out.below hbb.out, rb.out, B1.out.trans (ib.out.mono (by omega))⟩
  case rest =>
    obtain ⟨ra, rb, hbx⟩ := hcut
    obtain ⟨-, pa, ka, rfl, hra⟩ := ra
    obtain ⟨-, pb, kb, rfl, hrb⟩ := rb
    have RA := Lib.hid hra
    have RB := Lib.hid hrb
    have BX := Lib.hid hbx
    clear hra hrb hbx M I0 B1 HC1 z1 d0 d1 d2 d3 d4 D1 D2
    have cell := Lib.hid (fun (l : List Nat) (p : Option Addr) (h : ∀ k x, (pcells (pcs l))[k]? = some x → ∃ b off, p = some ⟨b, off, none⟩ ∧ b < wc.heap.size ∧ wc.cell? ⟨b, off + k, none⟩ = some x) (k : Nat) (hk : k < l.length) => show ∃ b off, p = some ⟨b, off, none⟩ ∧ wc.cell? ⟨b, off + k * 2, none⟩ = some (.int .i64 (P l k : Nat)) ∧ wc.cell? ⟨b, off + k * 2 + 1, none⟩ = some (.int .i64 (P l (k + 1) - P l k : Nat)) from by
      have hpl : k < (pcs l).length := by rw [pcs_len]; exact hk
      obtain ⟨g1, g2⟩ := pcells_get (pcs l) k hpl
      rw [pcs_get l k hpl] at g1 g2
      obtain ⟨b, off, rfl, hb, hc⟩ := h _ _ g1
      obtain ⟨b', off', e', hb', hc'⟩ := h _ _ g2
      obtain ⟨rfl, rfl⟩ : b = b' ∧ off = off' := by simpa using e'
      rw [← Nat.add_assoc] at hc'
      exact ⟨b, off, rfl, hc, hc'⟩)
    have hsum := Lib.hid (fun (x y : Nat) (h : x ≤ y) (h2 : y ≤ 4000) => show IntKind.i64.wrap ((x : Int) + ((y - x : Nat) : Int)) = (y : Int) from by
      rw [show ((x : Int) + ((y - x : Nat) : Int)) = (y : Int) by omega]
      exact IntWalk.i64_in _ (by omega))
    go_upto_block 0 with fail
    go_cut [10] (fun v wx => v = .int .i64 n ∧ ∃ nd, wx = wc.drewN nd)
    case first =>
      clear F3 F4
      go_wp2_with fail
      go_loopw [10] (fun i wr => ∃ k : Nat, k ≤ n ∧ i = .int .i64 k ∧ ∃ nd, wr = wc.drewN nd) (fun i _ => n - (intOf i).toNat)
      case atStart => exact ⟨0, Nat.zero_le _, rfl, 0, rfl⟩
      case round =>
        obtain ⟨k, hk, rfl, nd, rfl⟩ := hrel
        by_cases hlt : k < n
        · have ka1 : k < ca.length := by omega
          have kb1 : k < cb.length := by omega
          obtain ⟨b1, o1, rfl, d1, d2⟩ := cell.out ca pa RA.out k ka1
          obtain ⟨b2, o2, rfl, d3, d4⟩ := cell.out cb pb RB.out k kb1
          obtain ⟨e1, e2, e3⟩ := F1.out k hlt
          have m1 := CA.out.mono ka1
          have m2 := CA.out.le_N (i := k + 1) (by omega)
          have m3 := CB.out.le_N (i := k + 1) (by omega)
          have hs1 := hsum.out _ _ (Nat.le_of_lt m1) (by omega)
          rw [← e2] at m3
          rw [← e1] at d3
          rw [← e1, ← e2] at d4 e3
          clear e1 e2
          generalize P ca (k + 1) = a' at *
          generalize hd : a' - P ca k = dl at *
          generalize P ca k = a at *
          have hdl : dl ≤ 4000 := by omega
          have m4 : a ≤ a' := by omega
          clear hd
          have q1 : (s.extract a a' == t.extract a a') = true := by rw [e3]; exact (MapKept.bytes_beq _ _).2 rfl
          have q2 := q1
          rw [beq_toListBytes] at q2
          clear e3
          go_wp2_with fail
          go_quiet (fail)
          go_wp2_with fail
          exact ⟨⟨k + 1, by omega, by go_num, _, rfl⟩, by simp only [intOf]; omega⟩
        · obtain rfl : k = n := by omega
          clear hlt hk F1
          by_cases ka1 : k < ca.length
          · obtain ⟨b1, o1, rfl, d1, d2⟩ := cell.out ca pa RA.out k ka1
            by_cases kb1 : k < cb.length
            · obtain ⟨b2, o2, rfl, d3, d4⟩ := cell.out cb pb RB.out k kb1
              have e3 := F2.out ka1 kb1
              have m1 := CA.out.mono ka1
              have m2 := CA.out.le_N (i := k + 1) (by omega)
              have m3 := CB.out.le_N (i := k + 1) (by omega)
              have m5 := CB.out.mono kb1
              have hs1 := hsum.out _ _ (Nat.le_of_lt m1) (by omega)
              have hs2 := hsum.out _ _ (Nat.le_of_lt m5) (by omega)
              generalize P ca (k + 1) = a' at *
              generalize hd : a' - P ca k = dl at *
              generalize P ca k = a at *
              generalize P cb (k + 1) = b' at *
              generalize hd2 : b' - P cb k = el at *
              generalize P cb k = b at *
              by_cases heq : a = b ∧ dl = el
              · obtain ⟨rfl, rfl⟩ := heq
                obtain rfl : a' = b' := by omega
                have q1 : (s.extract a a' == t.extract a a') = false := str_ne' e3
                have q2 := q1
                rw [beq_toListBytes] at q2
                have hdl : dl ≤ 4000 := by omega
                have m4 : a ≤ a' := by omega
                clear hd hd2 e3 hs2
                go_wp2_with fail
                go_quiet (fail)
                go_wp2_with fail
                go_meet
                exact ⟨rfl, _, by rw [World.drewN_drewN]⟩
              · clear e3 hs1 hs2
                have hdl : dl ≤ 4000 := by omega
                have hel : el ≤ 4000 := by omega
                clear hd hd2
                by_cases hab : a = b
                · subst hab
                  have hz : ((dl : Int) == (el : Int)) = false := by rw [beq_eq_false_iff_ne]; intro h; exact heq ⟨rfl, by omega⟩
                  clear heq
                  go_wp2_with fail
                  go_quiet (fail)
                  go_wp2_with fail
                  go_meet
                  exact ⟨rfl, _, by rw [World.drewN_drewN]⟩
                · have hz : ((a : Int) == (b : Int)) = false := by rw [beq_eq_false_iff_ne]; intro h; exact hab (by omega)
                  clear heq hab
                  go_wp2_with fail
                  go_quiet (fail)
                  go_wp2_with fail
                  go_meet
                  exact ⟨rfl, _, by rw [World.drewN_drewN]⟩
            · go_wp2_with fail
              go_quiet (fail)
              go_wp2_with fail
              go_meet
              exact ⟨rfl, _, by rw [World.drewN_drewN]⟩
          · go_wp2_with fail
            go_quiet (fail)
            go_wp2_with fail
            go_meet
            exact ⟨rfl, _, by rw [World.drewN_drewN]⟩
    case rest =>
      obtain ⟨rfl, nd, rfl⟩ := hcut
      clear F1 F2
      go_wp2_with fail
      go_loopw [11, 12, 13, 14] (fun l nn _ _ wr => ∃ j : Nat, j ≤ e ∧ l = .int .i64 (cb.length - j : Nat) ∧ nn = .int .i64 (ca.length - j : Nat) ∧ Below wc.heap.size wc wr) (fun l _ _ _ _ => (intOf l).toNat)
      case atStart => exact ⟨0, Nat.zero_le _, rfl, rfl, below_drewN (Below.refl _ _) _⟩
      case round =>
        obtain ⟨j, hj, rfl, rfl, hbr⟩ := hrel
        have zr := hbr.size
        have HBR := Lib.hid hbr
        clear hbr
        by_cases h1 : n + j < cb.length
        · by_cases h2 : n + j < ca.length
          · obtain ⟨q, hq⟩ : ∃ q, q = ca.length - (j + 1) := ⟨_, rfl⟩
            obtain ⟨r, hr⟩ : ∃ r, r = cb.length - (j + 1) := ⟨_, rfl⟩
            have hq1 : q < ca.length := by omega
            have hr1 : r < cb.length := by omega
            have hq2 : ca.length - j = q + 1 := by omega
            have hr2 : cb.length - j = r + 1 := by omega
            obtain ⟨b1, o1, rfl, c1, c2⟩ := cell.out ca pa RA.out q hq1
            obtain ⟨b2, o2, rfl, c3, c4⟩ := cell.out cb pb RB.out r hr1
            rw [hq2, hr2]
            have HQ := Lib.hid (show ca.length = q + 1 + j ∧ cb.length = r + 1 + j by omega)
            have m1 := CA.out.mono hq1
            have m2 := CA.out.le_N (i := q + 1) (by omega)
            have m3 := CB.out.mono hr1
            have m4 := CB.out.le_N (i := r + 1) (by omega)
            have hs1 := Lib.hid (hsum.out _ _ (Nat.le_of_lt m1) (by omega))
            have hs2 := Lib.hid (hsum.out _ _ (Nat.le_of_lt m3) (by omega))
            have G3 := Lib.hid (fun (hje : j < e) => F3.out j hje)
            have G4 := Lib.hid (fun (hje : j = e) => show ¬ s.extract (P ca q) (P ca (q + 1)) = t.extract (P cb r) (P cb (r + 1)) from by
              have := F4.out (by omega) (by omega)
              rw [← hje, ← hq, ← hr] at this
              exact this)
            rw [← hq, ← hr] at G3
            have d1 : wr.cell? ⟨b1, o1 + q * 2, none⟩ = some (.int .i64 (P ca q : Nat)) := by have := HBR.out.cell (p := ⟨b1, o1 + q * 2, none⟩) (cell_lt c1); exact this.trans c1
            have d2 : wr.cell? ⟨b1, o1 + q * 2 + 1, none⟩ = some (.int .i64 (P ca (q + 1) - P ca q : Nat)) := by have := HBR.out.cell (p := ⟨b1, o1 + q * 2 + 1, none⟩) (cell_lt c2); exact this.trans c2
            have d3 : wr.cell? ⟨b2, o2 + r * 2, none⟩ = some (.int .i64 (P cb r : Nat)) := by have := HBR.out.cell (p := ⟨b2, o2 + r * 2, none⟩) (cell_lt c3); exact this.trans c3
            have d4 : wr.cell? ⟨b2, o2 + r * 2 + 1, none⟩ = some (.int .i64 (P cb (r + 1) - P cb r : Nat)) := by have := HBR.out.cell (p := ⟨b2, o2 + r * 2 + 1, none⟩) (cell_lt c4); exact this.trans c4
            have g1 : n < q + 1 := by omega
            have g2 : n < r + 1 := by omega
            clear c1 c2 c3 c4 hq hr hq2 hr2 h1 h2
            generalize P ca (q + 1) = a' at *
            generalize hd : a' - P ca q = dl at *
            generalize P ca q = a at *
            generalize P cb (r + 1) = b' at *
            generalize hd2 : b' - P cb r = el at *
            generalize P cb r = b at *
            have hdl : dl ≤ 4000 := by omega
            have hel : el ≤ 4000 := by omega
            have HD := Lib.hid (show a + dl = a' ∧ b + el = b' by omega)
            clear hd hd2
            go_wp2_with fail
            go_cut [13, 14] (fun x y wx => ∃ U V, x = .pointer (some ⟨U, 0, none⟩) ∧ y = .pointer (some ⟨V, 0, none⟩) ∧ wx.cell? ⟨U, 0, none⟩ = some (.int .i64 a) ∧ wx.cell? ⟨U, 1, none⟩ = some (.int .i64 dl) ∧ wx.cell? ⟨V, 0, none⟩ = some (.int .i64 b) ∧ wx.cell? ⟨V, 1, none⟩ = some (.int .i64 el) ∧ Below wr.heap.size wr wx)
            case first =>
              clear G3 G4 hs1 hs2 HQ HD
              have r0 : ∀ {x : Value} {p : Addr}, wr.cell? p = some x → ∀ o, (wr.alloc o).cell? p = some x := fun h o => by rw [((Below.refl wr.heap.size wr).alloc (Nat.le_refl _) o).cell (cell_lt h)]; exact h
              have r1 : ∀ {x : Value} {p : Addr}, wr.cell? p = some x → ∀ o o', ((wr.alloc o).alloc o').cell? p = some x := fun h o o' => by rw [(((Below.refl wr.heap.size wr).alloc (Nat.le_refl _) o).alloc (by simp) o').cell (cell_lt h)]; exact h
              have e1 := r0 d1
              have e2 := r0 d2
              have e3 := r0 d3
              have e4 := r0 d4
              have f1 := r1 d1
              have f2 := r1 d2
              have f3 := r1 d3
              have f4 := r1 d4
              clear r0 r1
              go_region
              all_goals
                go_wp2_with fail
                go_meet
                first
                  | (have g := two_new wr (.int .i64 a) (.int .i64 dl) (.int .i64 b) (.int .i64 el) 57 _ rfl; exact ⟨_, _, rfl, rfl, g.1, g.2.1, g.2.2.1, g.2.2.2.1, g.2.2.2.2⟩)
                  | (have g := two_new wr (.int .i64 b) (.int .i64 el) (.int .i64 a) (.int .i64 dl) 57 _ rfl; exact ⟨_, _, rfl, rfl, g.2.2.1, g.2.2.2.1, g.1, g.2.1, g.2.2.2.2⟩)
            case rest =>
              obtain ⟨U, V, rfl, rfl, c1, c2, c3, c4, hbx⟩ := hcut
              have B7 := Lib.hid (HBR.out.trans (hbx.mono zr))
              clear hbx HBR d1 d2 d3 d4
              obtain ⟨z, hz⟩ : ∃ z, z = s.size - a := ⟨_, rfl⟩
              obtain ⟨y, hy⟩ : ∃ y, y = t.size - b := ⟨_, rfl⟩
              have hw1 : IntKind.i64.wrap ((s.size : Int) - a) = (z : Int) := by
                rw [show ((s.size : Int) - a) = (z : Int) by omega]; exact IntWalk.i64_in _ (by omega)
              have hw2 : IntKind.i64.wrap ((t.size : Int) - b) = (y : Int) := by
                rw [show ((t.size : Int) - b) = (y : Int) by omega]; exact IntWalk.i64_in _ (by omega)
              rw [← hz, ← hy] at G3
              by_cases hje : j < e
              · obtain ⟨e1, e2, e3⟩ := G3.out hje
                have q1 : (s.extract a a' == t.extract b b') = true := by rw [e3]; exact (MapKept.bytes_beq _ _).2 rfl
                have q2 := q1
                rw [beq_toListBytes] at q2
                subst e1 e2
                have k1 := hs1.out
                have k2 := hs2.out
                clear G3 G4 e3 hz hy hs1 hs2
                have w1 : IntKind.i64.wrap ((q : Int) + 1 - 1) = (q : Int) := by
                  rw [show (q : Int) + 1 - 1 = (q : Int) by omega]; exact IntWalk.i64_in _ (by omega)
                go_wp2_with fail
                go_quiet (fail)
                go_wp2_with fail
                refine ⟨⟨j + 1, by omega, ?_, ?_, below_drewN B7.out _⟩, by simp only [intOf]; omega⟩
                · rw [show cb.length - (j + 1) = r by have := HQ.out; omega]
                · rw [show ca.length - (j + 1) = q by have := HQ.out; omega]
              · have hje' : j = e := by omega
                have e3 := G4.out hje'
                have k1 := hs1.out
                have k2 := hs2.out
                have HRES := Lib.hid (show ((cb.length : Int) - e) = (r : Int) + 1 by have := HQ.out.2; omega)
                have BF := Lib.hid (BX.out.trans (B7.out.mono BX.out.size))
                clear G3 G4 hje hje' hs1 hs2 B7 BX
                by_cases f1 : z = y
                · subst f1
                  by_cases f2 : dl = el
                  · subst f2
                    have q1 : (s.extract a a' == t.extract b b') = false := str_ne' e3
                    have q2 := q1
                    rw [beq_toListBytes] at q2
                    clear e3 hz hy HQ
                    go_wp2_with fail
                    go_quiet (fail)
                    go_wp2_with fail
                    go_ret2
                    refine ⟨?_, BF.out.trans ((below_drewN (Below.refl _ _) _).mono BF.out.size)⟩
                    show Ending.returned (.tuple #[.int .i64 n, .int .i64 ((r : Int) + 1)]) = _
                    rw [HRES.out]
                  · have f3 : ((dl : Int) == (el : Int)) = false := by rw [beq_eq_false_iff_ne]; omega
                    have f4 : ((dl : Int) != (el : Int)) = true := by rw [bne_iff_ne]; omega
                    clear e3 hz hy HQ f2
                    go_wp2_with fail
                    go_quiet (fail)
                    go_wp2_with fail
                    go_ret2
                    refine ⟨?_, BF.out.trans ((below_drewN (Below.refl _ _) _).mono BF.out.size)⟩
                    show Ending.returned (.tuple #[.int .i64 n, .int .i64 ((r : Int) + 1)]) = _
                    rw [HRES.out]
                · have f3 : ((z : Int) == (y : Int)) = false := by rw [beq_eq_false_iff_ne]; omega
                  have f4 : ((z : Int) != (y : Int)) = true := by rw [bne_iff_ne]; omega
                  clear e3 hz hy HQ f1
                  go_wp2_with fail
                  go_quiet (fail)
                  go_wp2_with fail
                  go_ret2
                  refine ⟨?_, BF.out.trans ((below_drewN (Below.refl _ _) _).mono BF.out.size)⟩
                  show Ending.returned (.tuple #[.int .i64 n, .int .i64 ((r : Int) + 1)]) = _
                  rw [HRES.out]
          · have g1 : n < cb.length - j := by omega
            have g2 : ca.length - j ≤ n := by omega
            have HRES := Lib.hid (show ((cb.length : Int) - e) = ((cb.length - j : Nat) : Int) by omega)
            have BF := Lib.hid (BX.out.trans (HBR.out.mono BX.out.size))
            generalize cb.length - j = r at *
            generalize ca.length - j = q at *
            clear h1 h2 HBR BX
            go_wp2_with fail
            go_ret2
            refine ⟨?_, BF.out⟩
            show Ending.returned (.tuple #[.int .i64 n, .int .i64 (r : Int)]) = _
            rw [HRES.out]
        · have g1 : cb.length - j ≤ n := by omega
          have HRES := Lib.hid (show ((cb.length : Int) - e) = ((cb.length - j : Nat) : Int) by omega)
          have BF := Lib.hid (BX.out.trans (HBR.out.mono BX.out.size))
          generalize cb.length - j = r at *
          clear h1 HBR BX
          go_wp2_with fail
          go_ret2
          refine ⟨?_, BF.out⟩
          show Ending.returned (.tuple #[.int .i64 n, .int .i64 (r : Int)]) = _
          rw [HRES.out]
end Go.Proofs.YtpkbhihkhnkhnaaDoor
