/- EditStays: the ways that end in an error, and the whole. -/
import Derived.Test.YtpkbhihkhnkhnaaDoorStw
namespace Go.Proofs.YtpkbhihkhnkhnaaDoor
open Go.RowKit
theorem cells5e {w : World} {g : Nat} {x0 x1 x2 x3 x4 : Value} {t : TypeId} (h : w.heap[g]? = some (.cells #[x0, x1, x2, x3, x4] t (0, 0))) :
    w.cell? ⟨g, 0, none⟩ = some x0 ∧ w.cell? ⟨g, 1, none⟩ = some x1 ∧ w.cell? ⟨g, 2, none⟩ = some x2 ∧ w.cell? ⟨g, 3, none⟩ = some x3 ∧ w.cell? ⟨g, 4, none⟩ = some x4 := by
  refine ⟨?_, ?_, ?_, ?_, ?_⟩ <;> simp [World.cell?, h]
/-- edit.Margin, where the edit may not be done -/
theorem margin_napp (c : Cut5) (s put : ByteArray) (a k : Int) (w : World) (hs : s.size ≤ 140737488351232) (hm : ¬ EMay s a k) :
    Calls Tryd.prog 41 #[.agg #[.int .u64 c.p, .int .i64 c.n, .int .i64 c.mi, .int .i64 c.ma, .int .i64 c.bi], .string s, .agg #[.int .i64 a, .int .i64 k, .string put]] w fun e w' => e = .returned (.tuple #[.int .i64 0, .int .i64 0, .int .i64 2]) ∧ Below w.heap.size w w' := by
  have C1 := Lib.hid (fun W => app_no s put a k W hs hm)
  obtain ⟨p, n, mi, ma, bi⟩ := c
  simp only
  clear hm
  go_enter Tryd.func41, Tryd.ntmps41
  go_wp2_with fail
  have hb0 : Below w.heap.size w ((w.alloc (.cells #[.int .u64 p, .int .i64 n, .int .i64 mi, .int .i64 ma, .int .i64 bi] 38)).alloc (.cells #[.int .i64 a, .int .i64 k, .string put] 23)) :=
    ((Below.refl _ _).alloc (Nat.le_refl _) _).alloc (by simp) _
  refine (C1.out _).mono ?_
  rintro e w1 ⟨rfl, hb1⟩
  have HB := Lib.hid (hb0.trans (hb1.mono (by simp; omega)))
  clear hb1 hb0
  go_wp2_with fail
  go_ret3
  exact ⟨rfl, HB.out⟩
def TextsGive (P : Program) (F : Nat) (args : Array Value) (h : Int) (W : World) : Prop := Calls P F args W fun e w' => ∃ v, e = .returned (.tuple #[v, .int .i64 h]) ∧ Below W.heap.size W w'
set_option maxRecDepth 100000 in
set_option maxHeartbeats 1000000 in
theorem stays_err (p : Nat) (n mi ma bi : Int) (s put t : ByteArray) (a k f h i : Int) (w : World) (hs : s.size + put.size ≤ 1500) (hfh : f = 2 ∨ (f = 0 ∧ h = 2))
    (C1 : ∀ W, Calls Tryd.prog 15 #[.string s, .agg #[.int .i64 a, .int .i64 k, .string put]] W fun e w' => e = .returned (.tuple #[.string t, .int .i64 f]) ∧ Below W.heap.size W w')
    (C2 : ∀ W, Below w.heap.size w W → Calls Tryd.prog 41 #[.agg #[.int .u64 p, .int .i64 n, .int .i64 mi, .int .i64 ma, .int .i64 bi], .string s, .agg #[.int .i64 a, .int .i64 k, .string put]] W fun e w' => e = .returned (.tuple #[.int .i64 0, .int .i64 0, .int .i64 2]) ∧ Below W.heap.size W w')
    (C3 : ∀ W, Below w.heap.size w W → TextsGive Tryd.prog 35 #[.agg #[.int .u64 p, .int .i64 n, .int .i64 mi, .int .i64 ma, .int .i64 bi], .string s] h W)
    (C4 : ∀ W, Below w.heap.size w W → TextsGive Tryd.prog 35 #[.agg #[.int .u64 p, .int .i64 n, .int .i64 mi, .int .i64 ma, .int .i64 bi], .string t] i W)
    (CA : ∀ W, Below w.heap.size w W → Calls Tryd.prog 14 #[] W fun e w' => e = .returned (.bool true) ∧ Below W.heap.size W w') :
    Calls Tryd.prog 13 #[.agg #[.int .u64 p, .int .i64 n, .int .i64 mi, .int .i64 ma, .int .i64 bi], .string s, .agg #[.int .i64 a, .int .i64 k, .string put]] w fun e w' => e = .returned (.bool true) ∧ Below w.heap.size w w' := by
  have C1 := Lib.hid C1
  have C2 := Lib.hid C2
  have C3 := Lib.hid C3
  have C4 := Lib.hid C4
  have CA := Lib.hid CA
  have HF := Lib.hid hfh
  clear hfh
  go_enter Tryd.func13, Tryd.ntmps13
  go_wp2_with fail
  have hb0 : Below w.heap.size w ((w.alloc (.cells #[.int .u64 p, .int .i64 n, .int .i64 mi, .int .i64 ma, .int .i64 bi] 38)).alloc (.cells #[.int .i64 a, .int .i64 k, .string put] 23)) :=
    ((Below.refl _ _).alloc (Nat.le_refl _) _).alloc (by simp) _
  refine (C1.out _).mono ?_
  rintro r w1 ⟨rfl, hb1⟩
  have z1 := hb1.size
  simp at z1
  obtain ⟨x1, x2⟩ := editBlocks hb1
  have Q := Lib.hid x1
  have E := Lib.hid x2
  obtain ⟨d0, d1, d2, d3, d4⟩ := cells5e Q.out
  obtain ⟨e0, e1, e2, e3, e4, e5⟩ := cells3 E.out
  have B1 := Lib.hid (hb0.trans (hb1.mono (by simp; omega)))
  clear hb1 hb0 x1 x2 e3 e4 e5
  go_wp2_with fail
  refine (C2.out _ B1.out).mono ?_
  rintro r w2 ⟨rfl, hb2⟩
  have Q := Lib.hid ((Kept.of_below' (S := fun _ => True) hb2).heap Q.out trivial)
  clear d0 d1 d2 d3 d4 e0 e1 e2 E
  obtain ⟨d0, d1, d2, d3, d4⟩ := cells5e Q.out
  have B2 := Lib.hid (B1.out.trans (hb2.mono B1.out.size))
  clear hb2 B1
  go_wp2_with fail
  refine (show Calls _ _ _ _ _ from C3.out _ B2.out).mono ?_
  rintro r w3 ⟨va, rfl, hb3⟩
  have Q := Lib.hid ((Kept.of_below' (S := fun _ => True) hb3).heap Q.out trivial)
  clear d0 d1 d2 d3 d4
  obtain ⟨d0, d1, d2, d3, d4⟩ := cells5e Q.out
  have B3 := Lib.hid (B2.out.trans (hb3.mono B2.out.size))
  clear hb3 B2
  go_wp2_with fail
  refine (show Calls _ _ _ _ _ from C4.out _ B3.out).mono ?_
  rintro r w4 ⟨vb, rfl, hb4⟩
  have B4 := B3.out.trans (hb4.mono B3.out.size)
  clear hb4 B3 d0 d1 d2 d3 d4 Q C1 C2 C3 C4
  rcases HF.out with rfl | ⟨rfl, rfl⟩
  all_goals
    clear HF
    go_wp2_with fail
    refine (CA.out _ B4).mono ?_
    rintro r w5 ⟨rfl, hb5⟩
    have B5 := Lib.hid (B4.trans (hb5.mono B4.size))
    clear hb5 B4
    go_wp2_with fail
    go_ret
    exact ⟨rfl, B5.out⟩
set_option maxRecDepth 100000 in
set_option maxHeartbeats 1000000 in
theorem editStays_any (c : Cut5) (s put : ByteArray) (a k : Int) (n0 : Nat) (w : World) (hp : c.p < 18446744073709551616) (r1 : s.size ≤ 140737488351232) (r2 : put.size ≤ 140737488351232) (hN : Needs n0 w) :
    Calls Tryd.prog 13 #[c.v, .string s, .agg #[.int .i64 a, .int .i64 k, .string put]] w fun e w' => e = .returned (.bool true) ∧ Below w.heap.size w w' := by
  have CA := fun W (hb : Below w.heap.size w W) => alive11_any n0 W (hN.below (hb.mono hN.size))
  by_cases hs : s.size + put.size ≤ 1500
  · by_cases hm : EMay s a k
    · by_cases hc : CMay c
      · obtain ⟨d, hd, rfl⟩ := cut_nat hc hp
        obtain ⟨h1, h2, h3, h4⟩ := hm
        obtain ⟨a, rfl⟩ := Int.eq_ofNat_of_zero_le h1
        obtain ⟨k, rfl⟩ := Int.eq_ofNat_of_zero_le h2
        exact stays_yes d s put a k n0 w hd hs ⟨h1, h2, h3, h4⟩ hN
      · exact stays_err c.p c.n c.mi c.ma c.bi s put _ a k 0 2 2 w hs (.inr ⟨rfl, rfl⟩) (fun W => app_yes s put a k W r1 r2 hm) (fun W hb => margin_no c s put a k n0 W r1 r2 hp (hN.below (hb.mono hN.size)) hc)
          (fun W hb => (ltexts_no c s n0 W hp (hN.below (hb.mono hN.size)) hc).mono fun e w' h => ⟨_, h.1, h.2⟩) (fun W hb => (ltexts_no c _ n0 W hp (hN.below (hb.mono hN.size)) hc).mono fun e w' h => ⟨_, h.1, h.2⟩) CA
    · by_cases hc : CMay c
      · obtain ⟨d, hd, rfl⟩ := cut_nat hc hp
        exact stays_err d.p d.n d.mi d.ma d.bi s put _ a k 2 0 0 w hs (.inl rfl) (fun W => app_no s put a k W r1 hm) (fun W hb => margin_napp d.five s put a k W r1 hm)
          (fun W hb => (ltexts_yes d s n0 W hd (hN.below (hb.mono hN.size)) (by omega)).mono fun e w' ⟨v, h1, _, h2⟩ => ⟨v, h1, h2⟩) (fun W hb => (ltexts_yes d _ n0 W hd (hN.below (hb.mono hN.size)) (by decide)).mono fun e w' ⟨v, h1, _, h2⟩ => ⟨v, h1, h2⟩) CA
      · exact stays_err c.p c.n c.mi c.ma c.bi s put _ a k 2 2 2 w hs (.inl rfl) (fun W => app_no s put a k W r1 hm) (fun W hb => margin_napp c s put a k W r1 hm)
          (fun W hb => (ltexts_no c s n0 W hp (hN.below (hb.mono hN.size)) hc).mono fun e w' h => ⟨_, h.1, h.2⟩) (fun W hb => (ltexts_no c _ n0 W hp (hN.below (hb.mono hN.size)) hc).mono fun e w' h => ⟨_, h.1, h.2⟩) CA
  · obtain ⟨p, n, mi, ma, bi⟩ := c
    simp only [Cut5.v]
    have CA := Lib.hid CA
    clear hN hp
    have B0 : Below w.heap.size w ((w.alloc (.cells #[.int .u64 p, .int .i64 n, .int .i64 mi, .int .i64 ma, .int .i64 bi] 38)).alloc (.cells #[.int .i64 a, .int .i64 k, .string put] 23)) :=
      ((Below.refl _ _).alloc (Nat.le_refl _) _).alloc (by simp) _
    have z0 := B0.size
    go_enter Tryd.func13, Tryd.ntmps13
    go_wp2_with fail
    refine (CA.out _ B0).mono ?_
    rintro r w2 ⟨rfl, hb2⟩
    have B2 := Lib.hid (B0.trans (hb2.mono B0.size))
    clear hb2 B0
    go_wp2_with fail
    go_ret
    exact ⟨rfl, B2.out⟩
end Go.Proofs.YtpkbhihkhnkhnaaDoor
