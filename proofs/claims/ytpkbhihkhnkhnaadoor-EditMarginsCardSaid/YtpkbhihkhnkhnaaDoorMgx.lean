/- EditMargins: the walk where cutter and edit may be, the ways that end in an error, and the whole. -/
import Derived.Test.YtpkbhihkhnkhnaaDoorMrw
import Derived.Test.YtpkbhihkhnkhnaaDoorStx
namespace Go.Proofs.YtpkbhihkhnkhnaaDoor
open Go.RowKit
theorem frs_len_le (A B : List ByteArray) : (frs A B B.length).length ≤ B.length := frs_len A B B.length
set_option maxRecDepth 100000 in
set_option maxHeartbeats 4000000 in
theorem margins_yes (c : CutN) (s put : ByteArray) (a k : Nat) (n0 : Nat) (w : World) (hc : c.May) (hs : s.size + put.size ≤ 600) (h : EMay s a k) (hN : Needs n0 w) :
    Calls Tryd.prog 12 #[.agg #[.int .u64 c.p, .int .i64 c.n, .int .i64 c.mi, .int .i64 c.ma, .int .i64 c.bi], .string s, .agg #[.int .i64 a, .int .i64 k, .string put]] w fun e w' => e = .returned (.bool true) ∧ Below w.heap.size w w' := by
  have CA := Lib.hid (fun W (hb : Below w.heap.size w W) => alive11_any n0 W (hN.below (hb.mono hN.size)))
  have C1 := Lib.hid (fun W => rapp_yes s put a k W (by omega) (by omega) h)
  have D1 := Lib.hid (fun W => rmay9_yes c.five W hc.1 hc.five)
  have D2 := Lib.hid (fun W => rmay_yes s put a k W (by omega) h)
  simp only [CutN.five] at D1
  obtain ⟨t, ht⟩ : ∃ t, t = s.extract 0 a ++ put ++ s.extract (a + k) s.size := ⟨_, rfl⟩
  have hak : a + k ≤ s.size := by obtain ⟨h1, h2, h3, h4⟩ := h; omega
  have hts := edit_size ht hak
  have ht' : t = s.extract 0 (a : Int).toNat ++ put ++ s.extract ((a : Int).toNat + (k : Int).toNat) s.size := ht
  rw [← ht'] at C1
  have D3 := Lib.hid (fun W => r11cut_any c s W hc (by omega))
  have D4 := Lib.hid (fun W => r11cut_any c t W hc (by omega))
  obtain ⟨A, hA⟩ : ∃ A, A = txts s (acsOf c s) := ⟨_, rfl⟩
  obtain ⟨B, hB⟩ : ∃ B, B = txts t (acsOf c t) := ⟨_, rfl⟩
  obtain ⟨n, hn⟩ : ∃ n, n = cp A B := ⟨_, rfl⟩
  obtain ⟨e, he⟩ : ∃ e, e = cp (A.drop n).reverse (B.drop n).reverse := ⟨_, rfl⟩
  have hle := cp_le A B
  have hle2 := cp_le (A.drop n).reverse (B.drop n).reverse
  rw [← hn] at hle
  rw [← he] at hle2
  simp only [List.length_reverse, List.length_drop] at hle2
  obtain ⟨lst, hlst⟩ : ∃ lst, lst = B.length - e := ⟨_, rfl⟩
  have hl1 : n ≤ lst := by omega
  have hl2 : lst ≤ B.length := by omega
  have hla : A.length = (acsOf c s).length := by rw [hA, txts_len]
  have hlb : B.length = (acsOf c t).length := by rw [hB, txts_len]
  have C2 := fun W (hb : Below w.heap.size w W) => margin_yes c s put t a k n0 W hc (hN.below (hb.mono hN.size)) (by omega) (by omega) (by omega) h ht' A B _ _ n e hA hB hn rfl rfl he
  have C3 := fun W => r11margin_any c s t W hc (by omega) (by omega) _ _ rfl rfl n e (by rw [← hA, ← hB]; exact hn) (by rw [← hA, ← hB]; exact he)
  rw [← hlb] at C3
  rw [show ((B.length : Int) - e) = ((lst : Nat) : Int) by omega] at C2 C3
  have C2 := Lib.hid C2
  have C3 := Lib.hid C3
  rw [← hla, ← hA] at D3
  rw [← hlb, ← hB] at D4
  have la : A.length ≤ 600 := by rw [hla]; have := acsOf_len c s; omega
  have lb : B.length ≤ 600 := by rw [hlb]; have := acsOf_len c t; omega
  obtain ⟨F, hF⟩ : ∃ F, F = frs A B B.length := ⟨_, rfl⟩
  have FR := Lib.hid (fun va vb W ra rb => rfresh_any A B va vb W ra rb (by omega) (by omega))
  rw [← hF] at FR
  have lf : F.length ≤ 600 := by rw [hF]; exact Nat.le_trans (frs_len_le A B) lb
  have FI := Lib.hid (show ∀ i, i < F.length → n ≤ F.getD i 0 ∧ F.getD i 0 < lst from fun i hi => by
    have hm : F.getD i 0 ∈ frs A B B.length := by rw [← hF, List.getD_eq_getElem?_getD, List.getElem?_eq_getElem hi]; exact List.getElem_mem hi
    have := frs_in hn he hm
    rw [hlst]; exact this)
  clear hN hc h ht ht' hA hB hn he hle hle2 hlst hla hlb hak hF
  have hbig : decide ((600 : Int) < (s.size : Int) + (put.size : Int)) = false := by rw [decide_eq_false_iff_not]; omega
  go_enter Tryd.func12, Tryd.ntmps12
  go_wp2_with fail
  have hb1 : Below w.heap.size w ((w.alloc (.cells #[.int .u64 c.p, .int .i64 c.n, .int .i64 c.mi, .int .i64 c.ma, .int .i64 c.bi] 38)).alloc (.cells #[.int .i64 a, .int .i64 k, .string put] 23)) :=
    ((Below.refl _ _).alloc (Nat.le_refl _) _).alloc (by simp) _
  have z1 := hb1.size
  simp at z1
  obtain ⟨x1, x2⟩ := editBlocks (Below.refl (((w.alloc (.cells #[.int .u64 c.p, .int .i64 c.n, .int .i64 c.mi, .int .i64 c.ma, .int .i64 c.bi] 38)).alloc (.cells #[.int .i64 a, .int .i64 k, .string put] 23)).heap.size) _)
  have Q := Lib.hid (show CutB _ w.heap.size c from x1)
  have E := Lib.hid x2
  have B1 := Lib.hid hb1
  clear hb1 x1 x2
  refine (C2.out _ B1.out).mono ?_
  rintro r w2 ⟨rfl, hb2⟩
  have Q := Lib.hid (Q.out.stays (Kept.of_below' (S := fun _ => True) hb2) trivial)
  have E := Lib.hid ((Kept.of_below' (S := fun _ => True) hb2).heap E.out trivial)
  obtain ⟨d0, d1, d2, d3, d4⟩ := Q.out.cells
  obtain ⟨e0, e1, e2, e3, e4, e5⟩ := cells3 E.out
  have B2 := Lib.hid (B1.out.trans (hb2.mono B1.out.size))
  clear hb2 B1 C2 e3 e4 e5
  go_wp2_with fail
  refine (D1.out _).mono ?_
  rintro r w3 ⟨rfl, hb3⟩
  have Q := Lib.hid (Q.out.stays (Kept.of_below' (S := fun _ => True) hb3) trivial)
  have E := Lib.hid ((Kept.of_below' (S := fun _ => True) hb3).heap E.out trivial)
  clear d0 d1 d2 d3 d4 e0 e1 e2
  obtain ⟨d0, d1, d2, d3, d4⟩ := Q.out.cells
  obtain ⟨e0, e1, e2, e3, e4, e5⟩ := cells3 E.out
  have B3 := Lib.hid (B2.out.trans (hb3.mono B2.out.size))
  clear hb3 B2 e3 e4 e5
  go_wp2_with fail
  refine (D2.out _).mono ?_
  rintro r w4 ⟨rfl, hb4⟩
  have Q := Lib.hid (Q.out.stays (Kept.of_below' (S := fun _ => True) hb4) trivial)
  have E := Lib.hid ((Kept.of_below' (S := fun _ => True) hb4).heap E.out trivial)
  clear d0 d1 d2 d3 d4 e0 e1 e2
  obtain ⟨d0, d1, d2, d3, d4⟩ := Q.out.cells
  obtain ⟨e0, e1, e2, e3, e4, e5⟩ := cells3 E.out
  have B4 := Lib.hid (B3.out.trans (hb4.mono B3.out.size))
  clear hb4 B3 e3 e4 e5
  go_wp2_with fail
  refine (C1.out _).mono ?_
  rintro r w5 ⟨rfl, hb5⟩
  have Q := Lib.hid (Q.out.stays (Kept.of_below' (S := fun _ => True) hb5) trivial)
  have E := Lib.hid ((Kept.of_below' (S := fun _ => True) hb5).heap E.out trivial)
  clear d0 d1 d2 d3 d4 e0 e1 e2
  obtain ⟨d0, d1, d2, d3, d4⟩ := Q.out.cells
  obtain ⟨e0, e1, e2, e3, e4, e5⟩ := cells3 E.out
  have B5 := Lib.hid (B4.out.trans (hb5.mono B4.out.size))
  clear hb5 B4 e3 e4 e5
  go_wp2_with fail
  refine (C3.out _).mono ?_
  rintro r w6 ⟨rfl, hb6⟩
  have Q := Lib.hid (Q.out.stays (Kept.of_below' (S := fun _ => True) hb6) trivial)
  have B6 := Lib.hid (B5.out.trans (hb6.mono B5.out.size))
  clear hb6 B5 d0 d1 d2 d3 d4 e0 e1 e2 E C1 C3 D1 D2
  obtain ⟨d0, d1, d2, d3, d4⟩ := Q.out.cells
  go_wp2_with fail
  have I0 : Hid (Below w6.heap.size w6 w6.drew) := Lib.hid ((Below.refl _ _).drew)
  have T1 := Lib.hid (fun W (h : Hid (Below w6.heap.size w6 W)) => (D3.out W).mono (R' := fun e w' => ∃ v, e = .returned v ∧ Hid (Row w' 1 v A.length (A.map .string)) ∧ Hid (Below W.heap.size W w') ∧ Hid (Below w6.heap.size w6 w') ∧ CutB w' w.heap.size c) (fun e w' ⟨v, h1, h2, h3⟩ => ⟨v, h1, Lib.hid (row_of_owns h2), Lib.hid h3, Lib.hid (h.out.trans (h3.mono h.out.size)), Q.out.stays (Kept.of_below' (S := fun _ => True) (h.out.trans (h3.mono h.out.size))) trivial⟩))
  have T2 := Lib.hid (fun W (h : Hid (Below w6.heap.size w6 W)) => (D4.out W).mono (R' := fun e w' => ∃ v, e = .returned v ∧ Hid (Row w' 1 v B.length (B.map .string)) ∧ Hid (Below W.heap.size W w') ∧ Hid (Below w6.heap.size w6 w') ∧ CutB w' w.heap.size c) (fun e w' ⟨v, h1, h2, h3⟩ => ⟨v, h1, Lib.hid (row_of_owns h2), Lib.hid h3, Lib.hid (h.out.trans (h3.mono h.out.size)), Q.out.stays (Kept.of_below' (S := fun _ => True) (h.out.trans (h3.mono h.out.size))) trivial⟩))
  clear D3 D4
  have M : Hid (0 = 0) := Lib.hid rfl
  go_cut [14] (fun v wx => Row wx 1 v F.length (F.map fun k => Value.int .i64 (k : Nat)) ∧ Below w.heap.size w wx)
  case first =>
    clear FI
    go_region_held3 (fun w' => w'.cell? ⟨w.heap.size, 0, none⟩ = some (.int .u64 c.p) ∧ w'.cell? ⟨w.heap.size, 1, none⟩ = some (.int .i64 c.n) ∧ w'.cell? ⟨w.heap.size, 2, none⟩ = some (.int .i64 c.mi) ∧ w'.cell? ⟨w.heap.size, 3, none⟩ = some (.int .i64 c.ma) ∧ w'.cell? ⟨w.heap.size, 4, none⟩ = some (.int .i64 c.bi)) (first | exact ⟨d0, d1, d2, d3, d4⟩ | exact ⟨f0, f1, f2, f3, f4⟩ | exact ⟨g0, g1, g2, g3, g4⟩ | exact ⟨h0, h1, h2, h3, h4⟩) (first
      | (go_at_call 21; refine (FR.out _ _ _ ?_ ?_).mono ?_; exact ra.out.below hbb.out; exact rb.out; rintro r wf ⟨vf, rfl, rf, hbf⟩; have RF := Lib.hid (row_of_owns rf); have BF := Lib.hid hbf; clear rf hbf; have qf := Q.out.stays (Kept.of_below' (S := fun _ => True) (ib.out.trans (BF.out.mono ib.out.size))) trivial; obtain ⟨h0, h1, h2, h3, h4⟩ := qf.cells; clear qf)
      | (go_at_call 44; clear M; refine (T1.out _ ?_).mono ?_; (assumption); rintro r wa ⟨va, rfl, ra, hba, ia, qa⟩; obtain ⟨f0, f1, f2, f3, f4⟩ := qa.cells; clear qa)
      | (go_at_call 44; refine (T2.out _ ?_).mono ?_; (assumption); rintro r wb ⟨vb, rfl, rb, hbb, ib, qb⟩; obtain ⟨g0, g1, g2, g3, g4⟩ := qb.cells; clear qb))
    all_goals
      go_wp2_with fail
      go_meet
      exact ⟨RF.out, B6.out.trans ((ib.out.trans (BF.out.mono ib.out.size)).mono B6.out.size)⟩
  case rest =>
    obtain ⟨hr, hbx⟩ := hcut
    obtain ⟨-, pf, cf, rfl, hrf⟩ := hr
    have GF := Lib.hid (show ∀ i (hi : i < F.length), ∃ b o, pf = some ⟨b, o, none⟩ ∧ wc.cell? ⟨b, o + i, none⟩ = some (.int .i64 (F.getD i 0 : Nat)) from fun i hi => by
      obtain ⟨b, o, h1, -, h3⟩ := hrf i (.int .i64 (F.getD i 0 : Nat)) (by rw [List.getElem?_map, List.getD_eq_getElem?_getD, List.getElem?_eq_getElem hi]; rfl)
      exact ⟨b, o, h1, h3⟩)
    have BX := Lib.hid hbx
    clear hrf hbx M I0 T1 T2 FR Q B6 d0 d1 d2 d3 d4
    go_wp2_with fail
    go_loopw [15] (fun vk wr => ∃ i : Nat, i ≤ F.length ∧ vk = .int .i64 i ∧ ∃ nd, wr = wc.drewN nd) (fun vk _ => F.length - (intOf vk).toNat)
    case atStart => exact ⟨0, Nat.zero_le _, rfl, 0, rfl⟩
    case round =>
      obtain ⟨i, hi, rfl, nd, rfl⟩ := hrel
      by_cases hlt : i < F.length
      · obtain ⟨b1, o1, rfl, f1⟩ := GF.out i hlt
        obtain ⟨y1, y2⟩ := FI.out i hlt
        generalize F.getD i 0 = x at *
        have g1 : decide (x < n) = false := by rw [decide_eq_false_iff_not]; omega
        have g2 : decide (lst ≤ x) = false := by rw [decide_eq_false_iff_not]; omega
        go_wp2_with fail
        exact ⟨⟨i + 1, by omega, by go_num, _, rfl⟩, by simp only [intOf]; omega⟩
      · have BY := Lib.hid (below_drewN BX.out nd)
        have CA' := Lib.hid (CA.out _ BY.out)
        have g3 : decide (n ≤ lst) = true := by rw [decide_eq_true_iff]; omega
        clear BX GF FI
        go_wp2_with fail
        refine (CA'.out).mono ?_
        rintro r w9 ⟨rfl, hb9⟩
        have B9 := Lib.hid (BY.out.trans (hb9.mono BY.out.size))
        clear hb9
        go_wp2_with fail
        go_ret
        exact ⟨rfl, B9.out⟩
set_option maxRecDepth 100000 in
set_option maxHeartbeats 2000000 in
theorem margins_err (p : Nat) (n mi ma bi : Int) (s put : ByteArray) (a k : Int) (w : World) (mc : Bool) (hs : s.size + put.size ≤ 600)
    (C1 : ∀ W, Below w.heap.size w W → Calls Tryd.prog 41 #[.agg #[.int .u64 p, .int .i64 n, .int .i64 mi, .int .i64 ma, .int .i64 bi], .string s, .agg #[.int .i64 a, .int .i64 k, .string put]] W fun e w' => e = .returned (.tuple #[.int .i64 0, .int .i64 0, .int .i64 2]) ∧ Below W.heap.size W w')
    (C2 : ∀ W, Calls Tryd.prog 29 #[.agg #[.int .u64 p, .int .i64 n, .int .i64 mi, .int .i64 ma, .int .i64 bi]] W fun e w' => e = .returned (.bool mc) ∧ Below W.heap.size W w')
    (C3 : ∀ W, mc = true → Calls Tryd.prog 42 #[.string s, .agg #[.int .i64 a, .int .i64 k, .string put]] W fun e w' => e = .returned (.bool false) ∧ Below W.heap.size W w')
    (CA : ∀ W, Below w.heap.size w W → Calls Tryd.prog 14 #[] W fun e w' => e = .returned (.bool true) ∧ Below W.heap.size W w') :
    Calls Tryd.prog 12 #[.agg #[.int .u64 p, .int .i64 n, .int .i64 mi, .int .i64 ma, .int .i64 bi], .string s, .agg #[.int .i64 a, .int .i64 k, .string put]] w fun e w' => e = .returned (.bool true) ∧ Below w.heap.size w w' := by
  have C1 := Lib.hid C1
  have C2 := Lib.hid C2
  have C3 := Lib.hid C3
  have CA := Lib.hid CA
  have hbig : decide ((600 : Int) < (s.size : Int) + (put.size : Int)) = false := by rw [decide_eq_false_iff_not]; omega
  go_enter Tryd.func12, Tryd.ntmps12
  go_wp2_with fail
  have hb1 : Below w.heap.size w ((w.alloc (.cells #[.int .u64 p, .int .i64 n, .int .i64 mi, .int .i64 ma, .int .i64 bi] 38)).alloc (.cells #[.int .i64 a, .int .i64 k, .string put] 23)) :=
    ((Below.refl _ _).alloc (Nat.le_refl _) _).alloc (by simp) _
  obtain ⟨x1, x2⟩ := editBlocks (Below.refl (((w.alloc (.cells #[.int .u64 p, .int .i64 n, .int .i64 mi, .int .i64 ma, .int .i64 bi] 38)).alloc (.cells #[.int .i64 a, .int .i64 k, .string put] 23)).heap.size) _)
  have Q := Lib.hid x1
  have E := Lib.hid x2
  have B1 := Lib.hid hb1
  clear hb1 x1 x2
  refine (C1.out _ B1.out).mono ?_
  rintro r w2 ⟨rfl, hb2⟩
  have Q := Lib.hid ((Kept.of_below' (S := fun _ => True) hb2).heap Q.out trivial)
  have E := Lib.hid ((Kept.of_below' (S := fun _ => True) hb2).heap E.out trivial)
  obtain ⟨d0, d1, d2, d3, d4⟩ := cells5e Q.out
  have B2 := Lib.hid (B1.out.trans (hb2.mono B1.out.size))
  clear hb2 B1 Q
  go_wp2_with fail
  refine (C2.out _).mono ?_
  rintro r w3 ⟨rfl, hb3⟩
  have E := Lib.hid ((Kept.of_below' (S := fun _ => True) hb3).heap E.out trivial)
  clear d0 d1 d2 d3 d4
  obtain ⟨e0, e1, e2, e3, e4, e5⟩ := cells3 E.out
  have B3 := Lib.hid (B2.out.trans (hb3.mono B2.out.size))
  clear hb3 B2 E e3 e4 e5
  cases mc
  · have CA' := Lib.hid (CA.out _ B3.out)
    clear C1 C2 C3 CA e0 e1 e2
    go_wp2_with fail
    refine CA'.out.mono ?_
    rintro r w4 ⟨rfl, hb4⟩
    have B4 := Lib.hid (B3.out.trans (hb4.mono B3.out.size))
    clear hb4 B3 CA'
    go_wp2_with fail
    go_ret
    exact ⟨rfl, B4.out⟩
  · have C3' := Lib.hid (C3.out w3 rfl)
    clear C1 C2 C3
    go_wp2_with fail
    refine C3'.out.mono ?_
    rintro r w4 ⟨rfl, hb4⟩
    have B4 := Lib.hid (B3.out.trans (hb4.mono B3.out.size))
    have CA' := Lib.hid (CA.out _ B4.out)
    clear hb4 B3 C3' CA e0 e1 e2
    go_wp2_with fail
    refine CA'.out.mono ?_
    rintro r w5 ⟨rfl, hb5⟩
    have B5 := Lib.hid (B4.out.trans (hb5.mono B4.out.size))
    clear hb5 B4 CA'
    go_wp2_with fail
    go_ret
    exact ⟨rfl, B5.out⟩
set_option maxRecDepth 100000 in
set_option maxHeartbeats 1000000 in
theorem editMargins_any (c : Cut5) (s put : ByteArray) (a k : Int) (n0 : Nat) (w : World) (hp : c.p < 18446744073709551616) (r1 : s.size ≤ 140737488351232) (r2 : put.size ≤ 140737488351232) (hN : Needs n0 w) :
    Calls Tryd.prog 12 #[c.v, .string s, .agg #[.int .i64 a, .int .i64 k, .string put]] w fun e w' => e = .returned (.bool true) ∧ Below w.heap.size w w' := by
  have CA := fun W (hb : Below w.heap.size w W) => alive11_any n0 W (hN.below (hb.mono hN.size))
  by_cases hs : s.size + put.size ≤ 600
  · by_cases hc : CMay c
    · by_cases hm : EMay s a k
      · obtain ⟨d, hd, rfl⟩ := cut_nat hc hp
        obtain ⟨h1, h2, h3, h4⟩ := hm
        obtain ⟨a, rfl⟩ := Int.eq_ofNat_of_zero_le h1
        obtain ⟨k, rfl⟩ := Int.eq_ofNat_of_zero_le h2
        exact margins_yes d s put a k n0 w hd hs ⟨h1, h2, h3, h4⟩ hN
      · exact margins_err c.p c.n c.mi c.ma c.bi s put a k w true hs (fun W _ => margin_napp c s put a k W r1 hm) (fun W => rmay9_yes c W hp hc) (fun W _ => rmay_no s put a k W r1 hm) CA
    · exact margins_err c.p c.n c.mi c.ma c.bi s put a k w false hs (fun W hb => margin_no c s put a k n0 W r1 r2 hp (hN.below (hb.mono hN.size)) hc) (fun W => rmay9_no c W hp hc) (fun W h => by cases h) CA
  · obtain ⟨p, n, mi, ma, bi⟩ := c
    simp only [Cut5.v]
    have CA := Lib.hid CA
    clear hN hp
    have B0 : Below w.heap.size w ((w.alloc (.cells #[.int .u64 p, .int .i64 n, .int .i64 mi, .int .i64 ma, .int .i64 bi] 38)).alloc (.cells #[.int .i64 a, .int .i64 k, .string put] 23)) :=
      ((Below.refl _ _).alloc (Nat.le_refl _) _).alloc (by simp) _
    have z0 := B0.size
    go_enter Tryd.func12, Tryd.ntmps12
    go_wp2_with fail
    refine (CA.out _ B0).mono ?_
    rintro r w2 ⟨rfl, hb2⟩
    have B2 := Lib.hid (B0.trans (hb2.mono B0.size))
    clear hb2 B0
    go_wp2_with fail
    go_ret
    exact ⟨rfl, B2.out⟩
end Go.Proofs.YtpkbhihkhnkhnaaDoor
