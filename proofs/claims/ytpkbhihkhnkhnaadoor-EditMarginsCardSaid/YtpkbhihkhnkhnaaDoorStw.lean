/- EditStays: the walk. -/
import Derived.Test.YtpkbhihkhnkhnaaDoorStay
import Derived.Test.YtpkbhihkhnkhnaaDoorMargin
import Derived.Test.YtpkbhihkhnkhnaaDoorAlivk
namespace Go.Proofs.YtpkbhihkhnkhnaaDoor
open Go.RowKit
theorem edit_size {s put t : ByteArray} {a k : Nat} (ht : t = s.extract 0 a ++ put ++ s.extract (a + k) s.size) (h : a + k ≤ s.size) : t.size ≤ s.size + put.size := by
  rw [ht, ba_append_size, ba_append_size]; simp; omega
set_option maxRecDepth 100000 in
set_option maxHeartbeats 4000000 in
theorem stays_yes (c : CutN) (s put : ByteArray) (a k : Nat) (n0 : Nat) (w : World) (hc : c.May) (hs : s.size + put.size ≤ 1500) (h : EMay s a k) (hN : Needs n0 w) :
    Calls Tryd.prog 13 #[.agg #[.int .u64 c.p, .int .i64 c.n, .int .i64 c.mi, .int .i64 c.ma, .int .i64 c.bi], .string s, .agg #[.int .i64 a, .int .i64 k, .string put]] w fun e w' => e = .returned (.bool true) ∧ Below w.heap.size w w' := by
  have CA := Lib.hid (fun W (hb : Below w.heap.size w W) => alive11_any n0 W (hN.below (hb.mono hN.size)))
  have C1 := Lib.hid (fun W => app_yes s put a k W (by omega) (by omega) h)
  obtain ⟨t, ht⟩ : ∃ t, t = s.extract 0 a ++ put ++ s.extract (a + k) s.size := ⟨_, rfl⟩
  have hak : a + k ≤ s.size := by obtain ⟨h1, h2, h3, h4⟩ := h; omega
  have hts := edit_size ht hak
  have ht' : t = s.extract 0 (a : Int).toNat ++ put ++ s.extract ((a : Int).toNat + (k : Int).toNat) s.size := ht
  rw [← ht'] at C1
  obtain ⟨A, hA⟩ : ∃ A, A = txts s (acsOf c s) := ⟨_, rfl⟩
  obtain ⟨B, hB⟩ : ∃ B, B = txts t (acsOf c t) := ⟨_, rfl⟩
  obtain ⟨n, hn⟩ : ∃ n, n = cp A B := ⟨_, rfl⟩
  obtain ⟨e, he⟩ : ∃ e, e = cp (A.drop n).reverse (B.drop n).reverse := ⟨_, rfl⟩
  have hle := cp_le A B
  have hle2 := cp_le (A.drop n).reverse (B.drop n).reverse
  rw [← hn] at hle
  rw [← he] at hle2
  simp only [List.length_reverse, List.length_drop] at hle2
  obtain ⟨lst, hlst⟩ : ∃ lst, lst = B.length - e := ⟨_, rfl⟩
  have hl1 : n ≤ lst := by omega
  have hl2 : lst ≤ B.length := by omega
  have C2 := fun W (hb : Below w.heap.size w W) => margin_yes c s put t a k n0 W hc (hN.below (hb.mono hN.size)) (by omega) (by omega) (by omega) h ht' A B _ _ n e hA hB hn rfl rfl he
  rw [show ((B.length : Int) - e) = ((lst : Nat) : Int) by omega] at C2
  have C2 := Lib.hid C2
  have C3 := Lib.hid (fun W (hb : Below w.heap.size w W) => ltexts_yes c s n0 W hc (hN.below (hb.mono hN.size)) (by omega))
  have C4 := Lib.hid (fun W (hb : Below w.heap.size w W) => ltexts_yes c t n0 W hc (hN.below (hb.mono hN.size)) (by omega))
  have hla : A.length = (acsOf c s).length := by rw [hA, txts_len]
  have hlb : B.length = (acsOf c t).length := by rw [hB, txts_len]
  rw [← hla, ← hA] at C3
  rw [← hlb, ← hB] at C4
  have la : A.length ≤ 1500 := by rw [hla]; have := acsOf_len c s; omega
  have lb : B.length ≤ 1500 := by rw [hlb]; have := acsOf_len c t; omega
  obtain ⟨q, hq⟩ : ∃ q : Nat → Nat, q = P (acsOf c s) := ⟨_, rfl⟩
  have cu := acsOf_cutting c s
  have Q0 := Lib.hid (show q 0 = 0 by rw [hq]; rfl)
  have QS := Lib.hid (show ∀ i (hi : i < A.length), q i + A[i].size = q (i + 1) ∧ q (i + 1) ≤ 1500 from fun i hi => by
    have hi' : i < (acsOf c s).length := by omega
    have g : A[i]? = some (s.extract (P (acsOf c s) i) (P (acsOf c s) (i + 1))) := by rw [hA]; exact txts_get _ _ _ hi'
    rw [List.getElem?_eq_getElem hi] at g
    have g := Option.some.inj g
    rw [g, cu.txt_size hi', hq]
    have := cu.mono hi'
    have := cu.le_N (i := i + 1) (by omega)
    omega)
  have F1 := Lib.hid (show ∀ i, i + 1 < A.length → q (i + 1) ≤ a → i < n from fun i hi hqa => by
    obtain ⟨p, b, b', e1, e2, e3⟩ := edit_begin h ht'
    have := (stays_at c s t p b b' e1 e2 (k := i) (by omega) (by rw [← hq]; omega)).2
    rw [← hA, ← hB, ← hn] at this
    exact this)
  have F2 := Lib.hid (show ∀ i, i < n → A[i]? = B[i]? from fun i hi => cp_lt (by rw [← hn]; exact hi))
  have F3 := Lib.hid (show ∀ i, i < B.length → lst ≤ i → B.length - i ≤ A.length ∧ A[A.length - (B.length - i)]? = B[i]? from fun i hi hl => behind_at hle.1 hle.2 hi (by rw [← he]; omega))
  obtain ⟨hle1, hle3⟩ := hle
  clear hN hc h ht ht' hA hB hn he hle2 hlst hla hlb hq cu hak
  have hbig : decide ((1500 : Int) < (s.size : Int) + (put.size : Int)) = false := by rw [decide_eq_false_iff_not]; omega
  go_enter Tryd.func13, Tryd.ntmps13
  go_wp2_with fail
  have hb0 : Below w.heap.size w ((w.alloc (.cells #[.int .u64 c.p, .int .i64 c.n, .int .i64 c.mi, .int .i64 c.ma, .int .i64 c.bi] 38)).alloc (.cells #[.int .i64 a, .int .i64 k, .string put] 23)) :=
    ((Below.refl _ _).alloc (Nat.le_refl _) _).alloc (by simp) _
  refine (C1.out _).mono ?_
  rintro r w1 ⟨rfl, hb1⟩
  have z1 := hb1.size
  simp at z1
  obtain ⟨x1, x2⟩ := editBlocks hb1
  have Q := Lib.hid (show CutB w1 w.heap.size c from x1)
  have E := Lib.hid x2
  obtain ⟨d0, d1, d2, d3, d4⟩ := Q.out.cells
  obtain ⟨e0, e1, e2, e3, e4, e5⟩ := cells3 E.out
  have B1 := Lib.hid (hb0.trans (hb1.mono (by simp; omega)))
  clear hb1 hb0 x1 x2 C1 e3 e4 e5
  go_wp2_with fail
  refine (C2.out _ B1.out).mono ?_
  rintro r w2 ⟨rfl, hb2⟩
  have Q := Lib.hid (Q.out.stays (Kept.of_below' (S := fun _ => True) hb2) trivial)
  have E := Lib.hid ((Kept.of_below' (S := fun _ => True) hb2).heap E.out trivial)
  clear d0 d1 d2 d3 d4 e0 e1 e2
  obtain ⟨d0, d1, d2, d3, d4⟩ := Q.out.cells
  have B2 := Lib.hid (B1.out.trans (hb2.mono B1.out.size))
  clear hb2 B1 C2
  go_wp2_with fail
  refine (C3.out _ B2.out).mono ?_
  rintro r w3 ⟨va, rfl, hva, hb3⟩
  have Q := Lib.hid (Q.out.stays (Kept.of_below' (S := fun _ => True) hb3) trivial)
  have E := Lib.hid ((Kept.of_below' (S := fun _ => True) hb3).heap E.out trivial)
  clear d0 d1 d2 d3 d4
  obtain ⟨d0, d1, d2, d3, d4⟩ := Q.out.cells
  have B3 := Lib.hid (B2.out.trans (hb3.mono B2.out.size))
  have RA := Lib.hid (row_of_owns hva)
  clear hb3 B2 C3 hva
  go_wp2_with fail
  refine (C4.out _ B3.out).mono ?_
  rintro r w4 ⟨vb, rfl, hvb, hb4⟩
  have E := Lib.hid ((Kept.of_below' (S := fun _ => True) hb4).heap E.out trivial)
  clear d0 d1 d2 d3 d4 Q
  obtain ⟨e0, e1, e2, e3, e4, e5⟩ := cells3 E.out
  have B4 := Lib.hid (B3.out.trans (hb4.mono B3.out.size))
  have RA := Lib.hid (RA.out.below hb4)
  have RB := Lib.hid (row_of_owns hvb)
  clear hb4 B3 C4 hvb e1 e2 e3 e4 e5 E
  obtain ⟨-, pa, ca, rfl, ga⟩ := RA.out
  obtain ⟨-, pb, cb, rfl, gb⟩ := RB.out
  have GA := Lib.hid (show ∀ i (hi : i < A.length), ∃ b o, pa = some ⟨b, o, none⟩ ∧ w4.cell? ⟨b, o + i, none⟩ = some (.string A[i]) from fun i hi => by
    obtain ⟨b, o, h1, -, h3⟩ := ga i (.string A[i]) (by simp [hi])
    exact ⟨b, o, h1, h3⟩)
  have GB := Lib.hid (show ∀ i (hi : i < B.length), ∃ b o, pb = some ⟨b, o, none⟩ ∧ w4.cell? ⟨b, o + i, none⟩ = some (.string B[i]) from fun i hi => by
    obtain ⟨b, o, h1, -, h3⟩ := gb i (.string B[i]) (by simp [hi])
    exact ⟨b, o, h1, h3⟩)
  clear ga gb RA RB
  go_wp2_with fail
  go_loopw [16, 17] (fun vn vk wr => ∃ i : Nat, i ≤ A.length ∧ vk = .int .i64 i ∧ vn = .int .i64 (q i : Nat) ∧ ∃ nd, wr = w4.drewN nd) (fun _ vk _ => A.length - (intOf vk).toNat)
  case atStart => exact ⟨0, Nat.zero_le _, rfl, by rw [Q0.out]; rfl, 0, rfl⟩
  case round =>
    obtain ⟨i, hi, rfl, rfl, nd, rfl⟩ := hrel
    by_cases hlt : i + 1 < A.length
    · have hi1 : i < A.length := by omega
      obtain ⟨b1, o1, rfl, f1⟩ := GA.out i hi1
      obtain ⟨q1, q2⟩ := QS.out i hi1
      have HQ := Lib.hid q1
      have F1' := Lib.hid (F1.out i hlt)
      have F2' := Lib.hid (F2.out i)
      rw [List.getElem?_eq_getElem hi1] at F2'
      generalize A[i] = x at *
      have qb : q i + x.size ≤ 1500 := by omega
      clear q1 q2 hi1
      by_cases hqa : q i + x.size ≤ a
      · have hin : i < n := F1'.out (by rw [← HQ.out]; exact hqa)
        have hib : i < B.length := by omega
        obtain ⟨b2, o2, rfl, f2⟩ := GB.out i hib
        have hx := F2'.out hin
        rw [List.getElem?_eq_getElem hib] at hx
        have hx := Option.some.inj hx
        rw [← hx] at f2
        clear hx
        have h1 : decide ((q i : Int) + (x.size : Int) ≤ (a : Int)) = true := by rw [decide_eq_true_iff]; omega
        have h2 : decide (n ≤ i) = false := by rw [decide_eq_false_iff_not]; omega
        go_wp2_with fail
        go_quiet (fail)
        go_wp2_with fail
        exact ⟨⟨i + 1, by omega, by go_num, by rw [← HQ.out]; go_num, _, rfl⟩, by simp only [intOf]; omega⟩
      · have h1 : decide ((q i : Int) + (x.size : Int) ≤ (a : Int)) = false := by rw [decide_eq_false_iff_not]; omega
        go_wp2_with fail
        go_quiet (fail)
        go_wp2_with fail
        exact ⟨⟨i + 1, by omega, by go_num, by rw [← HQ.out]; go_num, _, rfl⟩, by simp only [intOf]; omega⟩
    · go_wp2_with fail
      clear hlt
      go_loopw [18, 19] (fun vk _ wr => ∃ i : Nat, i ≤ B.length ∧ vk = .int .i64 i ∧ ∃ nd, wr = w4.drewN nd) (fun vk _ _ => B.length - (intOf vk).toNat)
      case atStart => exact ⟨0, Nat.zero_le _, rfl, _, rfl⟩
      case round =>
        obtain ⟨j, hj, rfl, nd2, rfl⟩ := hrel
        by_cases hlt : j < B.length
        · by_cases h1 : j < n
          · have hjA : j < A.length := by omega
            obtain ⟨b1, o1, rfl, f1⟩ := GA.out j hjA
            obtain ⟨b2, o2, rfl, f2⟩ := GB.out j hlt
            have hx := F2.out j h1
            rw [List.getElem?_eq_getElem hjA, List.getElem?_eq_getElem hlt] at hx
            have hx := Option.some.inj hx
            rw [← hx] at f2
            clear hx
            generalize A[j] = x at *
            have g0 : decide ((j : Int) < 0) = false := by rw [decide_eq_false_iff_not]; omega
            have g1 : decide (n ≤ j) = false := by rw [decide_eq_false_iff_not]; omega
            have g2 : decide (lst ≤ j) = false := by rw [decide_eq_false_iff_not]; omega
            have g3 : decide (A.length ≤ j) = false := by rw [decide_eq_false_iff_not]; omega
            go_wp2_with fail
            go_quiet (fail)
            go_wp2_with fail
            exact ⟨⟨j + 1, by omega, by go_num, _, rfl⟩, by simp only [intOf]; omega⟩
          · by_cases h2 : j < lst
            · have g1 : decide (n ≤ j) = true := by rw [decide_eq_true_iff]; omega
              have g2 : decide (j < lst) = true := by rw [decide_eq_true_iff]; omega
              go_wp2_with fail
              go_roundw
              case rel => exact ⟨j + 1, by omega, by go_num, _, rfl⟩
              case measure => simp only [intOf]; omega
            · obtain ⟨y1, y2⟩ := F3.out j hlt (by omega)
              obtain ⟨m, hm⟩ : ∃ m, m = A.length - (B.length - j) := ⟨_, rfl⟩
              have hmA : m < A.length := by omega
              have hmI : (A.length : Int) - ((B.length : Int) - j) = (m : Int) := by omega
              rw [← hm] at y2
              obtain ⟨b1, o1, rfl, f1⟩ := GA.out m hmA
              obtain ⟨b2, o2, rfl, f2⟩ := GB.out j hlt
              rw [List.getElem?_eq_getElem hmA, List.getElem?_eq_getElem hlt] at y2
              have hx := Option.some.inj y2
              rw [← hx] at f2
              clear hx y2 hm y1
              generalize A[m] = x at *
              have g1 : decide (n ≤ j) = true := by rw [decide_eq_true_iff]; omega
              have g2 : decide (j < lst) = false := by rw [decide_eq_false_iff_not]; omega
              have g4 : decide (lst ≤ j) = true := by rw [decide_eq_true_iff]; omega
              have g0 : decide ((m : Int) < 0) = false := by rw [decide_eq_false_iff_not]; omega
              have g3 : decide (A.length ≤ m) = false := by rw [decide_eq_false_iff_not]; omega
              go_wp2_with fail
              go_quiet (fail)
              go_wp2_with fail
              go_roundw
              case rel => exact ⟨j + 1, by omega, by go_num, _, rfl⟩
              case measure => simp only [intOf]; omega
        · have B5 := below_drewN B4.out nd2
          go_wp2_with fail
          refine (CA.out _ B5).mono ?_
          rintro e w5 ⟨rfl, hb5⟩
          have B6 := Lib.hid (B5.trans (hb5.mono B5.size))
          clear hb5 B5
          go_wp2_with fail
          go_ret
          exact ⟨rfl, B6.out⟩
end Go.Proofs.YtpkbhihkhnkhnaaDoor
