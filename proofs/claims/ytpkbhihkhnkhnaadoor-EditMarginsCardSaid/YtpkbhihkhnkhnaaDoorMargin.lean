/- edit.Margin by a cutter and an edit that may be. -/
import Derived.Test.YtpkbhihkhnkhnaaDoorAlivt
import Derived.Test.YtpkbhihkhnkhnaaDoorOf
import Derived.Test.YtpkbhihkhnkhnaaDoorErr
namespace Go.Proofs.YtpkbhihkhnkhnaaDoor
open Go.RowKit
theorem str_beq (x y : ByteArray) : (x.toList == y.toList) = decide (x = y) := by
  rw [str_eq, ByteArray.toList_eq, ByteArray.toList_eq, Bool.eq_iff_iff]; simp
theorem margin1_any (x y : ByteArray) (A B p q o r la ca lb cb k : Nat) (w : World) (c1 : w.cell? ⟨A, 0, none⟩ = some (.slice (some ⟨p, o, none⟩) la ca)) (c2 : w.cell? ⟨B, 0, none⟩ = some (.slice (some ⟨q, r, none⟩) lb cb))
    (d1 : w.cell? ⟨p, o + k, none⟩ = some (.string x)) (d2 : w.cell? ⟨q, r + k, none⟩ = some (.string y)) (h1 : k < la) (h2 : k < lb) :
    Calls Tryd.prog 59 #[.int .i64 k, .pointer (some ⟨A, 0, none⟩), .pointer (some ⟨B, 0, none⟩)] w fun e w' => e = .returned (.bool (decide (x = y))) ∧ Below w.heap.size w w' := by
  go_enter Tryd.func59, Tryd.ntmps59
  go_wp2_with fail
  go_quiet (fail)
  go_wp2_with fail
  go_ret
  refine ⟨?_, below_drewN (Below.refl _ _) _⟩
  exact ret_bool (str_beq _ _)
theorem margin2_any (x y : ByteArray) (A B p q o r la ca lb cb k : Nat) (w : World) (ha : la ≤ 140737488351232) (hb : lb ≤ 140737488351232) (c1 : w.cell? ⟨A, 0, none⟩ = some (.slice (some ⟨p, o, none⟩) la ca)) (c2 : w.cell? ⟨B, 0, none⟩ = some (.slice (some ⟨q, r, none⟩) lb cb))
    (d1 : w.cell? ⟨p, o + (la - 1 - k), none⟩ = some (.string x)) (d2 : w.cell? ⟨q, r + (lb - 1 - k), none⟩ = some (.string y)) (h1 : k < la) (h2 : k < lb) :
    Calls Tryd.prog 60 #[.int .i64 k, .pointer (some ⟨A, 0, none⟩), .pointer (some ⟨B, 0, none⟩)] w fun e w' => e = .returned (.bool (decide (x = y))) ∧ Below w.heap.size w w' := by
  have i1 : (k : Int) ≤ (la : Int) - 1 := by omega
  have i2 : (la : Int) - 1 - k < la := by omega
  have i3 : (k : Int) ≤ (lb : Int) - 1 := by omega
  have i4 : (lb : Int) - 1 - k < lb := by omega
  have e1 : ((la : Int) - 1 - k).toNat = la - 1 - k := by omega
  have e2 : ((lb : Int) - 1 - k).toNat = lb - 1 - k := by omega
  go_enter Tryd.func60, Tryd.ntmps60
  go_wp2_with fail
  go_quiet (fail)
  go_wp2_with fail
  go_ret
  refine ⟨?_, below_drewN (Below.refl _ _) _⟩
  exact ret_bool (str_beq _ _)
theorem rev_get {α : Type} (l : List α) (k : Nat) (h : k < l.length) : l.reverse[k]? = l[l.length - 1 - k]? := List.getElem?_reverse h
/-- the texts of a row lie behind its beginning -/
theorem row_get {W : World} {p : Option Addr} {n c : Nat} {l : List ByteArray} (h : Row W 1 (.slice p n c) n (l.map .string)) {k : Nat} (hk : k < l.length) : ∃ b o, p = some ⟨b, o, none⟩ ∧ b < W.heap.size ∧ W.cell? ⟨b, o + k, none⟩ = some (.string l[k]) := by
  obtain ⟨-, p', c', e, g⟩ := h
  obtain ⟨rfl, -⟩ : p = p' ∧ True := by simpa using (by injection e with e1; exact ⟨e1, trivial⟩ : p = p' ∧ True)
  exact g k (.string l[k]) (by simp [hk])
theorem row_drop {W : World} {b o n c c' : Nat} {l : List ByteArray} (h : Row W 1 (.slice (some ⟨b, o, none⟩) n c) n (l.map .string)) (j : Nat) (hj : j ≤ n) : Row W 1 (.slice (some ⟨b, o + j, none⟩) (n - j) c') (n - j) ((l.drop j).map .string) := by
  obtain ⟨h0, p', c'', e, g⟩ := h
  injection e with e1 e2 e3
  subst e1
  refine ⟨by simp at h0 ⊢; omega, _, _, rfl, fun k x hk => ?_⟩
  rw [List.map_drop, List.getElem?_drop] at hk
  obtain ⟨b', o', e, hb, hc⟩ := g (j + k) x hk
  obtain ⟨rfl, rfl⟩ : b = b' ∧ o = o' := by simpa using e
  exact ⟨b, o + j, rfl, hb, by rw [Nat.add_assoc]; exact hc⟩
theorem row_no {W : World} {o : Option Addr} {c' : Nat} {X : List ByteArray} (h : X.length = 0) : Row W 1 (.slice o 0 c') X.length (X.map .string) := by
  obtain rfl := List.length_eq_zero_iff.1 h
  exact ⟨rfl, _, _, rfl, fun k x hk => by simp at hk⟩
theorem row_sl {W : World} {g o n c c' : Nat} {l X : List ByteArray} (h : Row W 1 (.slice (some ⟨g, 0, none⟩) l.length c) l.length (l.map .string)) (ho : o = n ∨ l.length ≤ n) (hX : X = l.drop n) (hn : n ≤ l.length) : Row W 1 (.slice (some ⟨g, o, none⟩) (l.length - n) c') X.length (X.map .string) := by
  have hl : X.length = l.length - n := by rw [hX, List.length_drop]
  rcases ho with rfl | ho
  · have := row_drop (c' := c') h o hn
    rw [hl, hX]; simpa using this
  · rw [show l.length - n = 0 by omega]; exact row_no (by omega)
theorem owns_some {W : World} {base n c : Nat} {ty : TypeId} {p : Option Addr} {xs : List Value} (h : W.ownsRow base ty 1 (.slice p n c) n xs) : (p = none ∧ n = 0 ∧ c = 0) ∨ ∃ g, p = some ⟨g, 0, none⟩ ∧ n ≤ c := by
  obtain ⟨h0, h⟩ := h
  rcases h with ⟨e, e0⟩ | ⟨g, cap, cur, e, -, -, h4, -⟩
  · injection e with e1 e2 e3; exact .inl ⟨e1, e2, e3⟩
  · injection e with e1 e2 e3; exact .inr ⟨g, e1, by omega⟩
set_option maxRecDepth 100000 in
set_option maxHeartbeats 1000000 in
theorem margin_yes (c : CutN) (s put t : ByteArray) (a k : Int) (n0 : Nat) (w : World) (hm : c.May) (hN : Needs n0 w) (hs : s.size ≤ 4000) (hp : put.size ≤ 4000) (hts : t.size ≤ 4000) (h : EMay s a k) (ht : t = s.extract 0 a.toNat ++ put ++ s.extract (a.toNat + k.toNat) s.size)
    (A B X Y : List ByteArray) (n e : Nat) (hA : A = txts s (acsOf c s)) (hB : B = txts t (acsOf c t)) (hn : n = cp A B) (hX : X = A.drop n) (hY : Y = B.drop n) (he : e = cp X.reverse Y.reverse) :
    Calls Tryd.prog 41 #[.agg #[.int .u64 c.p, .int .i64 c.n, .int .i64 c.mi, .int .i64 c.ma, .int .i64 c.bi], .string s, .agg #[.int .i64 a, .int .i64 k, .string put]] w fun r w' => r = .returned (.tuple #[.int .i64 n, .int .i64 ((B.length : Int) - e), .int .i64 0]) ∧ Below w.heap.size w w' := by
  have C1 := Lib.hid (fun W => app_yes s put a k W (by omega) (by omega) h)
  rw [← ht] at C1
  have C2 := Lib.hid (fun W (hb : Below w.heap.size w W) => ltexts_yes c s n0 W hm (hN.below (hb.mono hN.size)) hs)
  have C3 := Lib.hid (fun W (hb : Below w.heap.size w W) => ltexts_yes c t n0 W hm (hN.below (hb.mono hN.size)) hts)
  have hla : A.length = (acsOf c s).length := by rw [hA, txts_len]
  have hlb : B.length = (acsOf c t).length := by rw [hB, txts_len]
  rw [← hla, ← hA] at C2
  rw [← hlb, ← hB] at C3
  have la : A.length ≤ 4000 := by rw [hla]; exact Nat.le_trans (acsOf_len c s) hs
  have lb : B.length ≤ 4000 := by rw [hlb]; exact Nat.le_trans (acsOf_len c t) hts
  have hn1 := cp_le A B
  have hn2 : ∀ k, k < n → decide (A[k]? = B[k]?) = true := fun k hk => by rw [decide_eq_true_iff]; exact cp_lt (by rw [hn] at hk; exact hk)
  have hn3 : n < min A.length B.length → decide (A[n]? = B[n]?) = false := fun h => by
    rw [decide_eq_false_iff_not, hn]; rw [hn] at h; exact cp_at (by omega) (by omega)
  rw [← hn] at hn1
  have he1 := cp_le X.reverse Y.reverse
  have he2 : ∀ k, k < e → decide (X.reverse[k]? = Y.reverse[k]?) = true := fun k hk => by rw [decide_eq_true_iff]; exact cp_lt (by rw [he] at hk; exact hk)
  have he3 : e < min X.length Y.length → decide (X.reverse[e]? = Y.reverse[e]?) = false := fun h => by
    rw [decide_eq_false_iff_not, he]; rw [he] at h; exact cp_at (by simp; omega) (by simp; omega)
  rw [← he, List.length_reverse, List.length_reverse] at he1
  have hxl : X.length = A.length - n := by rw [hX, List.length_drop]
  have hyl : Y.length = B.length - n := by rw [hY, List.length_drop]
  have HN2 := Lib.hid hn2
  have HN3 := Lib.hid hn3
  have HE2 := Lib.hid he2
  have HE3 := Lib.hid he3
  have HX := Lib.hid hX
  have HY := Lib.hid hY
  have HXL := Lib.hid hxl
  have HYL := Lib.hid hyl
  obtain ⟨hn11, hn12⟩ := hn1
  obtain ⟨he11, he12⟩ := he1
  clear hn2 hn3 he2 he3 hn he hX hY hA hB hla hlb hxl hyl hm hN ht h
  go_enter Tryd.func41, Tryd.ntmps41
  go_wp2_with fail
  have hb0 : Below w.heap.size w ((w.alloc (.cells #[.int .u64 c.p, .int .i64 c.n, .int .i64 c.mi, .int .i64 c.ma, .int .i64 c.bi] 38)).alloc (.cells #[.int .i64 a, .int .i64 k, .string put] 23)) :=
    ((Below.refl _ _).alloc (Nat.le_refl _) _).alloc (by simp) _
  have q0 : CutB ((w.alloc (.cells #[.int .u64 c.p, .int .i64 c.n, .int .i64 c.mi, .int .i64 c.ma, .int .i64 c.bi] 38)).alloc (.cells #[.int .i64 a, .int .i64 k, .string put] 23)) w.heap.size c := by
    unfold CutB; rw [Below.heap_alloc _ _ _ (by simp)]; exact World.alloc_heap_new w _
  refine (C1.out _).mono ?_
  rintro r w1 ⟨rfl, hb1⟩
  have z1 := hb1.size
  simp at z1
  have Q1 := q0.stays (Kept.of_below' (S := fun _ => True) hb1) trivial
  obtain ⟨d0, d1, d2, d3, d4⟩ := Q1.cells
  have Q := Lib.hid Q1
  have B1 := Lib.hid (hb0.trans (hb1.mono (by simp; omega)))
  clear hb1 hb0 q0 Q1 C1
  go_wp2_with fail
  refine (C2.out _ B1.out).mono ?_
  rintro r w2 ⟨va, rfl, hva, hb2⟩
  have z2 := hb2.size
  have Q2 := Q.out.stays (Kept.of_below' (S := fun _ => True) hb2) trivial
  obtain ⟨pa, ca, rfl, -⟩ := (row_of_owns hva).2
  have RA := Lib.hid (row_of_owns hva)
  have HA := Lib.hid hva
  have B2 := Lib.hid (B1.out.trans (hb2.mono (by omega)))
  clear hb2 hva d0 d1 d2 d3 d4 Q B1 C2
  have Q2' := Lib.hid (Q2.stays (Kept.of_below' (S := fun _ => True) ((Below.refl w2.heap.size w2).alloc (Nat.le_refl _) (.cells #[.slice pa A.length ca] 24))) trivial)
  obtain ⟨d0, d1, d2, d3, d4⟩ := Q2'.out.cells
  clear Q2
  go_wp2_with fail
  have x0 : Below w2.heap.size w2 (w2.alloc (.cells #[.slice pa A.length ca] 24)) := (Below.refl _ _).alloc (Nat.le_refl _) _
  have x1 := Boxed.new w2 24 (.slice pa A.length ca)
  refine (C3.out _ (B2.out.alloc (by omega) _)).mono ?_
  rintro r w3 ⟨vb, rfl, hvb, hb3⟩
  have z3 := hb3.size
  simp at z3
  obtain ⟨pb, cb, rfl, -⟩ := (row_of_owns hvb).2
  have RB := Lib.hid (row_of_owns hvb)
  have HB := Lib.hid hvb
  have y1 := Lib.hid (box_stays x1 (Kept.of_below' (S := fun _ => True) hb3) trivial)
  have RA := Lib.hid ((RA.out.below x0).below hb3)
  have B3 := Lib.hid ((B2.out.alloc (by omega) (.cells #[.slice pa A.length ca] 24)).trans (hb3.mono (by simp; omega)))
  have HPA := Lib.hid (owns_some HA.out)
  have HPB := Lib.hid (owns_some HB.out)
  clear hb3 hvb d0 d1 d2 d3 d4 Q2' B2 x0 x1 C3 HA HB
  have x2 := Boxed.new w3 24 (.slice pb B.length cb)
  have x3 : Below w3.heap.size w3 (w3.alloc (.cells #[.slice pb B.length cb] 24)) := (Below.refl _ _).alloc (Nat.le_refl _) _
  have c1 : (w3.alloc (.cells #[.slice pb B.length cb] 24)).cell? ⟨w2.heap.size, 0, none⟩ = some (.slice pa A.length ca) := (box_stays y1.out (Kept.of_below' (S := fun _ => True) x3) trivial).cell
  have c2 := x2.cell
  have B4 := Lib.hid (B3.out.alloc (by omega) (.cells #[.slice pb B.length cb] 24))
  have RA := Lib.hid (RA.out.below x3)
  have RB := Lib.hid (RB.out.below x3)
  have zw : (w3.alloc (.cells #[.slice pb B.length cb] 24)).heap.size = w3.heap.size + 1 := by simp
  have hl2 : w2.heap.size < w3.heap.size := by omega
  clear x2 x3 y1 B3
  go_wp2_with fail
  generalize w3.alloc (.cells #[.slice pb B.length cb] 24) = w4 at *
  refine (alikes1_any _ _ _ _ A.length ca B.length cb (fun k => decide (A[k]? = B[k]?)) n _ w4 (by omega) (by omega) rfl (by omega) HN2.out HN3.out (fun k W hk hb => ?_)).mono ?_
  · have k1 : k < A.length := by omega
    have k2 : k < B.length := by omega
    obtain ⟨b1, o1, rfl, l1, f1⟩ := row_get RA.out k1
    obtain ⟨b2, o2, rfl, l2, f2⟩ := row_get RB.out k2
    have e : decide (A[k]? = B[k]?) = decide (A[k] = B[k]) := by simp [k1, k2]
    simp only [e]
    refine margin1_any _ _ _ _ b1 b2 o1 o2 A.length ca B.length cb k W ?_ ?_ ?_ ?_ k1 k2
    · exact (hb.cell (p := ⟨w2.heap.size, 0, none⟩) (by show w2.heap.size < _; omega)).trans c1
    · exact (hb.cell (p := ⟨w3.heap.size, 0, none⟩) (by show w3.heap.size < _; omega)).trans c2
    · exact (hb.cell (p := ⟨b1, o1 + k, none⟩) l1).trans f1
    · exact (hb.cell (p := ⟨b2, o2 + k, none⟩) l2).trans f2
  rintro r w5 ⟨rfl, hb5⟩
  have z5 := hb5.size
  have RA := Lib.hid (RA.out.below hb5)
  have RB := Lib.hid (RB.out.below hb5)
  have B5 := Lib.hid (B4.out.trans (hb5.mono (by omega)))
  have e1 : w5.cell? ⟨w2.heap.size, 0, none⟩ = some (.slice pa A.length ca) := (hb5.cell (p := ⟨w2.heap.size, 0, none⟩) (by show w2.heap.size < _; omega)).trans c1
  have e2 : w5.cell? ⟨w3.heap.size, 0, none⟩ = some (.slice pb B.length cb) := (hb5.cell (p := ⟨w3.heap.size, 0, none⟩) (by show w3.heap.size < _; omega)).trans c2
  clear hb5 c1 c2 B4
  have hlt0 : w2.heap.size < w5.heap.size := by omega
  have hlt1 : w3.heap.size < w5.heap.size := by omega
  have r0 : ∀ o, (w5.alloc o).cell? ⟨w2.heap.size, 0, none⟩ = some (.slice pa A.length ca) := fun o => by
    rw [((Below.refl w5.heap.size w5).alloc (Nat.le_refl _) o).cell (p := ⟨w2.heap.size, 0, none⟩) hlt0]; exact e1
  have r1 : ∀ o, (w5.alloc o).cell? ⟨w3.heap.size, 0, none⟩ = some (.slice pb B.length cb) := fun o => by
    rw [((Below.refl w5.heap.size w5).alloc (Nat.le_refl _) o).cell (p := ⟨w3.heap.size, 0, none⟩) hlt1]; exact e2
  have r2 : ∀ o o', ((w5.alloc o).alloc o').cell? ⟨w2.heap.size, 0, none⟩ = some (.slice pa A.length ca) := fun o o' => by
    rw [(((Below.refl w5.heap.size w5).alloc (Nat.le_refl _) o).alloc (by simp) o').cell (p := ⟨w2.heap.size, 0, none⟩) hlt0]; exact e1
  have r3 : ∀ o o', ((w5.alloc o).alloc o').cell? ⟨w3.heap.size, 0, none⟩ = some (.slice pb B.length cb) := fun o o' => by
    rw [(((Below.refl w5.heap.size w5).alloc (Nat.le_refl _) o).alloc (by simp) o').cell (p := ⟨w3.heap.size, 0, none⟩) hlt1]; exact e2
  go_upto_region 11 with fail
  go_cut [12, 13] (fun s6 s7 wx => ∃ U V vx vy, s6 = .pointer (some ⟨U, 0, none⟩) ∧ s7 = .pointer (some ⟨V, 0, none⟩) ∧ U < wx.heap.size ∧ V < wx.heap.size ∧ wx.cell? ⟨U, 0, none⟩ = some vx ∧ wx.cell? ⟨V, 0, none⟩ = some vy ∧ Row wx 1 vx X.length (X.map .string) ∧ Row wx 1 vy Y.length (Y.map .string) ∧ Below w5.heap.size w5 wx)
  case first =>
    have RXs := Lib.hid (fun W' (hb : Below w5.heap.size w5 W') g (hg : pa = some ⟨g, 0, none⟩) o c' (ho : o = n ∨ A.length ≤ n) => show Row W' 1 (.slice (some ⟨g, o, none⟩) (A.length - n) c') X.length (X.map .string) from row_sl (hg ▸ RA.out.below hb) ho HX.out hn11)
    have RYs := Lib.hid (fun W' (hb : Below w5.heap.size w5 W') g (hg : pb = some ⟨g, 0, none⟩) o c' (ho : o = n ∨ B.length ≤ n) => show Row W' 1 (.slice (some ⟨g, o, none⟩) (B.length - n) c') Y.length (Y.map .string) from row_sl (hg ▸ RB.out.below hb) ho HY.out hn12)
    have RXn := Lib.hid (fun W' (h0 : A.length ≤ 0) o m c' (hm : m ≤ 0) => show Row W' 1 (.slice o m c') X.length (X.map .string) from by
      obtain rfl : m = 0 := by omega
      exact row_no (by rw [HXL.out]; omega))
    have RYn := Lib.hid (fun W' (h0 : B.length ≤ 0) o m c' (hm : m ≤ 0) => show Row W' 1 (.slice o m c') Y.length (Y.map .string) from by
      obtain rfl : m = 0 := by omega
      exact row_no (by rw [HYL.out]; omega))
    have two := Lib.hid (fun (o o' : Obj) => (((Below.refl w5.heap.size w5).alloc (Nat.le_refl _) o).alloc (by simp) o').drew)
    have one := Lib.hid (fun (u v : Value) => show ((w5.alloc (.cells #[u] 24)).alloc (.cells #[v] 24)).drew.cell? ⟨w5.heap.size, 0, none⟩ = some u from ((Boxed.new w5 _ _).alloc _).cell)
    have one' := Lib.hid (fun (u v : Value) => show ((w5.alloc (.cells #[u] 24)).alloc (.cells #[v] 24)).drew.cell? ⟨w5.heap.size + 1, 0, none⟩ = some v from by
      have := (Boxed.new (w5.alloc (.cells #[u] 24)) 24 v).cell
      rw [World.size_alloc] at this; exact this)
    clear RA RB
    have EP := Lib.hid HPB.out
    rcases HPA.out with ⟨ea, g1, rfl⟩ | ⟨ga, ea, hca⟩
    · have n0' : n ≤ 0 := by omega
      have g1' : A.length ≤ 0 := by omega
      clear g1
      rcases EP.out with ⟨eb, g2, rfl⟩ | ⟨gb, eb, hcb⟩
      · clear HPA HPB EP
        subst ea eb
        try (have g2' : B.length ≤ 0 := by omega)
        try clear g2
        go_wp2_with fail
        go_region
        all_goals go_wp2_with fail
        all_goals go_meet
        all_goals first
          | refine ⟨_, _, _, _, rfl, rfl, ?_, ?_, one.out _ _, one'.out _ _, ?_, ?_, two.out _ _⟩
          | refine ⟨_, _, _, _, rfl, rfl, ?_, ?_, one'.out _ _, one.out _ _, ?_, ?_, two.out _ _⟩
        all_goals first
          | exact RXs.out _ (two.out _ _) _ rfl _ _ (by omega)
          | exact RYs.out _ (two.out _ _) _ rfl _ _ (by omega)
          | exact RXn.out _ (by omega) _ _ _ (by omega)
          | exact RYn.out _ (by omega) _ _ _ (by omega)
          | (simp; done)
          | (simp; omega)
      · clear HPA HPB EP
        subst ea eb
        try (have g2' : B.length ≤ 0 := by omega)
        try clear g2
        go_wp2_with fail
        go_region
        all_goals go_wp2_with fail
        all_goals go_meet
        all_goals first
          | refine ⟨_, _, _, _, rfl, rfl, ?_, ?_, one.out _ _, one'.out _ _, ?_, ?_, two.out _ _⟩
          | refine ⟨_, _, _, _, rfl, rfl, ?_, ?_, one'.out _ _, one.out _ _, ?_, ?_, two.out _ _⟩
        all_goals first
          | exact RXs.out _ (two.out _ _) _ rfl _ _ (by omega)
          | exact RYs.out _ (two.out _ _) _ rfl _ _ (by omega)
          | exact RXn.out _ (by omega) _ _ _ (by omega)
          | exact RYn.out _ (by omega) _ _ _ (by omega)
          | (simp; done)
          | (simp; omega)
    · rcases EP.out with ⟨eb, g2, rfl⟩ | ⟨gb, eb, hcb⟩
      · have n0' : n ≤ 0 := by omega
        clear HPA HPB EP
        subst ea eb
        try (have g2' : B.length ≤ 0 := by omega)
        try clear g2
        go_wp2_with fail
        go_region
        all_goals go_wp2_with fail
        all_goals go_meet
        all_goals first
          | refine ⟨_, _, _, _, rfl, rfl, ?_, ?_, one.out _ _, one'.out _ _, ?_, ?_, two.out _ _⟩
          | refine ⟨_, _, _, _, rfl, rfl, ?_, ?_, one'.out _ _, one.out _ _, ?_, ?_, two.out _ _⟩
        all_goals first
          | exact RXs.out _ (two.out _ _) _ rfl _ _ (by omega)
          | exact RYs.out _ (two.out _ _) _ rfl _ _ (by omega)
          | exact RXn.out _ (by omega) _ _ _ (by omega)
          | exact RYn.out _ (by omega) _ _ _ (by omega)
          | (simp; done)
          | (simp; omega)
      · clear HPA HPB EP
        subst ea eb
        try (have g2' : B.length ≤ 0 := by omega)
        try clear g2
        go_wp2_with fail
        go_region
        all_goals go_wp2_with fail
        all_goals go_meet
        all_goals first
          | refine ⟨_, _, _, _, rfl, rfl, ?_, ?_, one.out _ _, one'.out _ _, ?_, ?_, two.out _ _⟩
          | refine ⟨_, _, _, _, rfl, rfl, ?_, ?_, one'.out _ _, one.out _ _, ?_, ?_, two.out _ _⟩
        all_goals first
          | exact RXs.out _ (two.out _ _) _ rfl _ _ (by omega)
          | exact RYs.out _ (two.out _ _) _ rfl _ _ (by omega)
          | exact RXn.out _ (by omega) _ _ _ (by omega)
          | exact RYn.out _ (by omega) _ _ _ (by omega)
          | (simp; done)
          | (simp; omega)
  case rest =>
    obtain ⟨U, V, vx, vy, rfl, rfl, hU, hV, cU, cV, RX, RY, hbx⟩ := hcut
    have zx := hbx.size
    have f2 : wc.cell? ⟨w3.heap.size, 0, none⟩ = some (.slice pb B.length cb) := (hbx.cell (p := ⟨w3.heap.size, 0, none⟩) hlt1).trans e2
    obtain ⟨px, cx, rfl, -⟩ := RX.2
    obtain ⟨py, cy, rfl, -⟩ := RY.2
    have RX := Lib.hid RX
    have RY := Lib.hid RY
    have B6 := Lib.hid (B5.out.trans (hbx.mono (by omega)))
    have lX : X.length ≤ 4000 := by rw [HXL.out]; omega
    have lY : Y.length ≤ 4000 := by rw [HYL.out]; omega
    clear hbx r0 r1 r2 r3 e1 e2 B5 RA RB
    go_wp2_with fail
    refine (alikes2_any _ _ _ _ X.length cx Y.length cy (fun k => decide (X.reverse[k]? = Y.reverse[k]?)) e _ wc (by omega) (by omega) rfl (by omega) HE2.out HE3.out (fun k W hk hb => ?_)).mono ?_
    · have k1 : k < X.length := by omega
      have k2 : k < Y.length := by omega
      have j1 : X.length - 1 - k < X.length := by omega
      have j2 : Y.length - 1 - k < Y.length := by omega
      obtain ⟨b1, o1, rfl, l1, f1⟩ := row_get RX.out j1
      obtain ⟨b2, o2, rfl, l2, f2⟩ := row_get RY.out j2
      have e : decide (X.reverse[k]? = Y.reverse[k]?) = decide (X[X.length - 1 - k] = Y[Y.length - 1 - k]) := by rw [rev_get X k k1, rev_get Y k k2]; simp [j1, j2]
      simp only [e]
      refine margin2_any _ _ _ _ b1 b2 o1 o2 X.length cx Y.length cy k W (by omega) (by omega) ?_ ?_ ?_ ?_ k1 k2
      · exact (hb.cell (p := ⟨U, 0, none⟩) hU).trans cU
      · exact (hb.cell (p := ⟨V, 0, none⟩) hV).trans cV
      · exact (hb.cell (p := ⟨b1, o1 + (X.length - 1 - k), none⟩) l1).trans f1
      · exact (hb.cell (p := ⟨b2, o2 + (Y.length - 1 - k), none⟩) l2).trans f2
    rintro r w7 ⟨rfl, hb7⟩
    have f3 : w7.cell? ⟨w3.heap.size, 0, none⟩ = some (.slice pb B.length cb) := (hb7.cell (p := ⟨w3.heap.size, 0, none⟩) (by show w3.heap.size < _; omega)).trans f2
    have B7 := Lib.hid (B6.out.trans (hb7.mono (by omega)))
    clear hb7 B6 RX RY cU cV f2
    go_wp2_with fail
    go_quiet (fail)
    go_wp2_with fail
    go_ret3
    exact ⟨rfl, below_drewN B7.out _⟩
end Go.Proofs.YtpkbhihkhnkhnaaDoor
