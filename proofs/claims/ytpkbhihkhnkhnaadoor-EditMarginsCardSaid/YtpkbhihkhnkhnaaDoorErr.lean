/- the ways with an error: chunk.Cut, lines.Cut, lines.Texts, edit.Margin. -/
import Derived.Test.YtpkbhihkhnkhnaaDoorEdit
namespace Go.Proofs.YtpkbhihkhnkhnaaDoor
open Go.RowKit
theorem cell1 {w : World} {g : Nat} {x : Value} {t : TypeId} (h : w.heap[g]? = some (.cells #[x] t (0, 0))) :
    w.cell? ⟨g, 0, none⟩ = some x ∧ w.frozen? ⟨g, 0, none⟩ = false := by
  constructor <;> simp [World.cell?, World.frozen?, h]
set_option maxHeartbeats 1000000 in
theorem ccut_no (c : Cut5) (s : ByteArray) (n0 : Nat) (w : World) (hp : c.p < 18446744073709551616) (hN : Needs n0 w) (h : ¬ CMay c) :
    Calls Tryd.prog 27 #[.agg #[.int .u64 c.p, .int .i64 c.n, .int .i64 c.mi, .int .i64 c.ma, .int .i64 c.bi], .string s] w fun e w' => e = .returned (.tuple #[.slice none 0 0, .int .i64 2]) ∧ Below w.heap.size w w' := by
  have C := Lib.hid (fun W (hb : Below w.heap.size w W) => ck_any c n0 W hp (hN.below (hb.mono hN.size)))
  rw [ckE_no h] at C
  obtain ⟨p, n, mi, ma, bi⟩ := c
  simp only at C ⊢
  clear h hN hp
  go_enter Tryd.func27, Tryd.ntmps27
  go_wp2_with fail
  go_step3
  go_wp2_with fail
  have hb0 : Below w.heap.size w (((w.alloc (.cells #[.int .u64 p, .int .i64 n, .int .i64 mi, .int .i64 ma, .int .i64 bi] 38)).alloc (.cells #[.string s] 9)).alloc (.cells #[.slice none 0 0] 46)) :=
    (((Below.refl _ _).alloc (Nat.le_refl _) _).alloc (by simp) _).alloc (by simp; omega) _
  refine (C.out _ hb0).mono ?_
  rintro e w1 ⟨rfl, hb1⟩
  have z1 := hb1.size
  simp at z1
  have hc : w1.heap[w.heap.size + 1 + 1]? = some (.cells #[.slice none 0 0] 46 (0, 0)) := by
    rw [hb1.block _ (by simp)]
    have := World.alloc_heap_new ((w.alloc (.cells #[.int .u64 p, .int .i64 n, .int .i64 mi, .int .i64 ma, .int .i64 bi] 38)).alloc (.cells #[.string s] 9)) (.cells #[.slice none 0 0] 46)
    rwa [World.size_alloc, World.size_alloc] at this
  obtain ⟨c1, f1⟩ := cell1 hc
  have HB := Lib.hid (hb0.trans (hb1.mono (by simp; omega)))
  clear hb1 hb0 hc C
  go_wp2_with fail
  rw [Exit.noGoto_ret]
  refine bodyPost_ret (v := .tuple #[.slice none 0 0, .int .i64 2]) (by simp [results, Tryd.results27, go_sem, *]) rfl ⟨rfl, ?_⟩
  exact HB.out.setCell (show w.heap.size ≤ w.heap.size + 1 + 1 by omega) _
set_option maxHeartbeats 1000000 in
theorem lcut_no (c : Cut5) (s : ByteArray) (n0 : Nat) (w : World) (hp : c.p < 18446744073709551616) (hN : Needs n0 w) (h : ¬ CMay c) :
    Calls Tryd.prog 53 #[.agg #[.int .u64 c.p, .int .i64 c.n, .int .i64 c.mi, .int .i64 c.ma, .int .i64 c.bi], .string s] w fun e w' => e = .returned (.tuple #[.slice none 0 0, .int .i64 2]) ∧ Below w.heap.size w w' := by
  have C := Lib.hid (fun W (hb : Below w.heap.size w W) => ccut_no c s n0 W hp (hN.below (hb.mono hN.size)) h)
  obtain ⟨p, n, mi, ma, bi⟩ := c
  simp only at C ⊢
  clear h hN hp
  go_enter Tryd.func53, Tryd.ntmps53
  go_wp2_with fail
  have hb0 : Below w.heap.size w ((w.alloc (.cells #[.int .u64 p, .int .i64 n, .int .i64 mi, .int .i64 ma, .int .i64 bi] 38)).alloc (.cells #[.slice none 0 0] 46)) :=
    ((Below.refl _ _).alloc (Nat.le_refl _) _).alloc (by simp) _
  refine (C.out _ hb0).mono ?_
  rintro e w1 ⟨rfl, hb1⟩
  have z1 := hb1.size
  simp at z1
  have hc : w1.heap[w.heap.size + 1]? = some (.cells #[.slice none 0 0] 46 (0, 0)) := by
    rw [hb1.block _ (by simp)]
    have := World.alloc_heap_new (w.alloc (.cells #[.int .u64 p, .int .i64 n, .int .i64 mi, .int .i64 ma, .int .i64 bi] 38)) (.cells #[.slice none 0 0] 46)
    rwa [World.size_alloc] at this
  obtain ⟨c1, f1⟩ := cell1 hc
  have HB := Lib.hid (hb0.trans (hb1.mono (by simp; omega)))
  clear hb1 hb0 hc C
  go_wp2_with fail
  refine bodyPost_ret (v := .tuple #[.slice none 0 0, .int .i64 2]) (by simp [results, Tryd.results53, go_sem, *]) rfl ⟨rfl, ?_⟩
  exact HB.out.setCell (show w.heap.size ≤ w.heap.size + 1 by omega) _
set_option maxHeartbeats 1000000 in
theorem ltexts_no (c : Cut5) (s : ByteArray) (n0 : Nat) (w : World) (hp : c.p < 18446744073709551616) (hN : Needs n0 w) (h : ¬ CMay c) :
    Calls Tryd.prog 35 #[.agg #[.int .u64 c.p, .int .i64 c.n, .int .i64 c.mi, .int .i64 c.ma, .int .i64 c.bi], .string s] w fun e w' => e = .returned (.tuple #[.slice none 0 0, .int .i64 2]) ∧ Below w.heap.size w w' := by
  have C := Lib.hid (fun W (hb : Below w.heap.size w W) => lcut_no c s n0 W hp (hN.below (hb.mono hN.size)) h)
  obtain ⟨p, n, mi, ma, bi⟩ := c
  simp only at C ⊢
  clear h hN hp
  go_enter Tryd.func35, Tryd.ntmps35
  go_wp2_with fail
  have hb0 : Below w.heap.size w ((w.alloc (.cells #[.int .u64 p, .int .i64 n, .int .i64 mi, .int .i64 ma, .int .i64 bi] 38)).alloc (.cells #[.string s] 9)) :=
    ((Below.refl _ _).alloc (Nat.le_refl _) _).alloc (by simp) _
  refine (C.out _ hb0).mono ?_
  rintro e w1 ⟨rfl, hb1⟩
  have HB := Lib.hid (hb0.trans (hb1.mono (by simp; omega)))
  clear hb1 hb0 C
  go_wp2_with fail
  go_ret2
  exact ⟨rfl, HB.out⟩
set_option maxHeartbeats 1000000 in
theorem margin_no (c : Cut5) (s put : ByteArray) (a k : Int) (n0 : Nat) (w : World) (hs : s.size ≤ 140737488351232) (hpp : put.size ≤ 140737488351232) (hp : c.p < 18446744073709551616) (hN : Needs n0 w) (h : ¬ CMay c) :
    Calls Tryd.prog 41 #[.agg #[.int .u64 c.p, .int .i64 c.n, .int .i64 c.mi, .int .i64 c.ma, .int .i64 c.bi], .string s, .agg #[.int .i64 a, .int .i64 k, .string put]] w fun e w' => e = .returned (.tuple #[.int .i64 0, .int .i64 0, .int .i64 2]) ∧ Below w.heap.size w w' := by
  by_cases hm : EMay s a k
  · have C1 := Lib.hid (fun W => app_yes s put a k W hs hpp hm)
    have C := Lib.hid (fun W (hb : Below w.heap.size w W) => ltexts_no c s n0 W hp (hN.below (hb.mono hN.size)) h)
    generalize s.extract 0 a.toNat ++ put ++ s.extract (a.toNat + k.toNat) s.size = t at *
    obtain ⟨p, n, mi, ma, bi⟩ := c
    simp only at C ⊢
    clear h hN hp hm
    go_enter Tryd.func41, Tryd.ntmps41
    go_wp2_with fail
    have hb0 : Below w.heap.size w ((w.alloc (.cells #[.int .u64 p, .int .i64 n, .int .i64 mi, .int .i64 ma, .int .i64 bi] 38)).alloc (.cells #[.int .i64 a, .int .i64 k, .string put] 23)) :=
      ((Below.refl _ _).alloc (Nat.le_refl _) _).alloc (by simp) _
    refine (C1.out _).mono ?_
    rintro e w1 ⟨rfl, hb1⟩
    have z1 := hb1.size
    simp at z1
    have hc : w1.heap[w.heap.size]? = some (.cells #[.int .u64 p, .int .i64 n, .int .i64 mi, .int .i64 ma, .int .i64 bi] 38 (0, 0)) := (editBlocks hb1).1
    have c0 : w1.cell? ⟨w.heap.size, 0, none⟩ = some (.int .u64 p) := by simp [World.cell?, hc]
    have c1 : w1.cell? ⟨w.heap.size, 1, none⟩ = some (.int .i64 n) := by simp [World.cell?, hc]
    have c2 : w1.cell? ⟨w.heap.size, 2, none⟩ = some (.int .i64 mi) := by simp [World.cell?, hc]
    have c3 : w1.cell? ⟨w.heap.size, 3, none⟩ = some (.int .i64 ma) := by simp [World.cell?, hc]
    have c4 : w1.cell? ⟨w.heap.size, 4, none⟩ = some (.int .i64 bi) := by simp [World.cell?, hc]
    have hb2 := Lib.hid (hb0.trans (hb1.mono (by simp; omega)))
    clear hb1 hb0 hc
    go_wp2_with fail
    refine (C.out _ hb2.out).mono ?_
    rintro e w2 ⟨rfl, hb3⟩
    have HB := Lib.hid (hb2.out.trans (hb3.mono (by omega)))
    have z3 := hb3.size
    clear hb3
    go_wp2_with fail
    go_ret3
    exact ⟨rfl, HB.out.alloc (by omega) _⟩
  · have C1 := Lib.hid (fun W => app_no s put a k W hs hm)
    obtain ⟨p, n, mi, ma, bi⟩ := c
    simp only
    clear h hN hp hm
    go_enter Tryd.func41, Tryd.ntmps41
    go_wp2_with fail
    have hb0 : Below w.heap.size w ((w.alloc (.cells #[.int .u64 p, .int .i64 n, .int .i64 mi, .int .i64 ma, .int .i64 bi] 38)).alloc (.cells #[.int .i64 a, .int .i64 k, .string put] 23)) :=
      ((Below.refl _ _).alloc (Nat.le_refl _) _).alloc (by simp) _
    refine (C1.out _).mono ?_
    rintro e w1 ⟨rfl, hb1⟩
    have HB := Lib.hid (hb0.trans (hb1.mono (by simp; omega)))
    clear hb1 hb0
    go_wp2_with fail
    go_ret3
    exact ⟨rfl, HB.out⟩
end Go.Proofs.YtpkbhihkhnkhnaaDoor
