/- chunk.Most; maslinref09.Same; maslinlaw09.alive. -/
import Derived.Test.YtpkbhihkhnkhnaaDoorCtexts
import Derived.Deep.QuietTactic
namespace Go.Proofs.YtpkbhihkhnkhnaaDoor
open Go.RowKit
set_option maxRecDepth 100000 in
set_option maxHeartbeats 1000000 in
theorem most_no (c : Cut5) (n : Int) (n0 : Nat) (w : World) (hp : c.p < 18446744073709551616) (hN : Needs n0 w) (h : ¬ CMay c) :
    Calls Tryd.prog 28 #[.agg #[.int .u64 c.p, .int .i64 c.n, .int .i64 c.mi, .int .i64 c.ma, .int .i64 c.bi], .int .i64 n] w fun e w' => e = .returned (.tuple #[.int .i64 0, .int .i64 2]) ∧ Below w.heap.size w w' := by
  have C := Lib.hid (fun W (hb : Below w.heap.size w W) => ck_any c n0 W hp (hN.below (hb.mono hN.size)))
  rw [ckE_no h] at C
  obtain ⟨p, wn, mi, ma, bi⟩ := c
  simp only at C ⊢
  clear h hN hp
  go_enter Tryd.func28, Tryd.ntmps28
  go_wp2_with fail
  have hb0 : Below w.heap.size w (w.alloc (.cells #[.int .u64 p, .int .i64 wn, .int .i64 mi, .int .i64 ma, .int .i64 bi] 38)) := (Below.refl _ _).alloc (Nat.le_refl _) _
  refine (C.out _ hb0).mono ?_
  rintro e w1 ⟨rfl, hb1⟩
  have HB := Lib.hid (hb0.trans (hb1.mono (by simp)))
  clear hb1 hb0 C
  go_wp2_with fail
  go_ret2
  exact ⟨rfl, HB.out⟩
set_option maxRecDepth 100000 in
set_option maxHeartbeats 1000000 in
theorem most_neg (c : CutN) (n : Int) (n0 : Nat) (w : World) (hm : c.May) (hN : Needs n0 w) (hn : n < 0) :
    Calls Tryd.prog 28 #[.agg #[.int .u64 c.p, .int .i64 c.n, .int .i64 c.mi, .int .i64 c.ma, .int .i64 c.bi], .int .i64 n] w fun e w' => e = .returned (.tuple #[.int .i64 0, .int .i64 2]) ∧ Below w.heap.size w w' := by
  have C := Lib.hid (fun W (hb : Below w.heap.size w W) => ck_any c.five n0 W hm.1 (hN.below (hb.mono hN.size)))
  rw [ckE_yes hm.five] at C
  simp only [CutN.five] at C
  clear hN hm
  go_enter Tryd.func28, Tryd.ntmps28
  go_wp2_with fail
  have hb0 : Below w.heap.size w (w.alloc (.cells #[.int .u64 c.p, .int .i64 c.n, .int .i64 c.mi, .int .i64 c.ma, .int .i64 c.bi] 38)) := (Below.refl _ _).alloc (Nat.le_refl _) _
  refine (C.out _ hb0).mono ?_
  rintro e w1 ⟨rfl, hb1⟩
  have HB := Lib.hid (hb0.trans (hb1.mono (by simp)))
  clear hb1 hb0 C
  go_wp2_with fail
  go_ret2
  exact ⟨rfl, HB.out⟩
theorem ret_i2 {a b c : Int} (h : a = b) : Ending.returned (.tuple #[.int .i64 a, .int .i64 c]) = .returned (.tuple #[.int .i64 b, .int .i64 c]) := by rw [h]
theorem most_num (n m : Nat) (h : 1 ≤ m) : (0 : Int) ≤ (n : Int) / m ∧ (0 : Int) ≤ (n : Int) % m ∧ (n : Int) / m + (n : Int) % m ≤ n ∧ ((min (n % m) 1 : Nat) : Int) = min ((n : Int) % m) 1 := by
  have h1 : n / m + n % m ≤ n := by
    have e := Nat.div_add_mod n m
    have := Nat.le_mul_of_pos_left (n / m) (show 0 < m by omega)
    omega
  have e1 : ((n / m : Nat) : Int) = (n : Int) / m := by rw [Int.natCast_ediv]
  have e2 : ((n % m : Nat) : Int) = (n : Int) % m := by rw [Int.natCast_emod]
  rw [← e1, ← e2]
  clear e1 e2
  generalize n / m = q at *
  generalize n % m = r at *
  refine ⟨by omega, by omega, by omega, by omega⟩
set_option maxRecDepth 100000 in
set_option maxHeartbeats 1000000 in
theorem most_yes (c : CutN) (n : Nat) (n0 : Nat) (w : World) (hm : c.May) (hN : Needs n0 w) (hn : n ≤ 9223372036854775807) :
    Calls Tryd.prog 28 #[.agg #[.int .u64 c.p, .int .i64 c.n, .int .i64 c.mi, .int .i64 c.ma, .int .i64 c.bi], .int .i64 n] w fun e w' => e = .returned (.tuple #[.int .i64 (n / c.mi + min (n % c.mi) 1 : Nat), .int .i64 0]) ∧ Below w.heap.size w w' := by
  have C := Lib.hid (fun W (hb : Below w.heap.size w W) => ck_any c.five n0 W hm.1 (hN.below (hb.mono hN.size)))
  rw [ckE_yes hm.five] at C
  obtain ⟨m0, m1, m2, m3, m4, m5, m6, m7⟩ := hm
  simp only [CutN.five] at C
  clear hN m0 m1
  go_enter Tryd.func28, Tryd.ntmps28
  go_wp2_with fail
  have hb0 : Below w.heap.size w (w.alloc (.cells #[.int .u64 c.p, .int .i64 c.n, .int .i64 c.mi, .int .i64 c.ma, .int .i64 c.bi] 38)) := (Below.refl _ _).alloc (Nat.le_refl _) _
  have q0 : CutB (w.alloc (.cells #[.int .u64 c.p, .int .i64 c.n, .int .i64 c.mi, .int .i64 c.ma, .int .i64 c.bi] 38)) w.heap.size c := World.alloc_heap_new w _
  refine (C.out _ hb0).mono ?_
  rintro e w1 ⟨rfl, hb1⟩
  obtain ⟨-, -, d2, -, -⟩ := (q0.stays (Kept.of_below' (S := fun _ => True) hb1) trivial).cells
  have HB := Lib.hid (hb0.trans (hb1.mono (by simp)))
  clear hb1 hb0 C q0
  have hmi : 1 ≤ c.mi := by omega
  have hne : ((c.mi : Int) == 0) = false := by simp; omega
  have HQ := Lib.hid (most_num n c.mi hmi)
  go_wp2_with fail
  go_quiet (fail)
  go_wp2_with fail
  all_goals
    go_ret2
    refine ⟨ret_i2 ?_, below_drewN HB.out _⟩
    obtain ⟨u1, u2, u3, u4⟩ := HQ.out
    rw [u4]
    generalize (n : Int) / (c.mi : Int) = q at *
    generalize (n : Int) % (c.mi : Int) = r at *
    unfold wrap64
    omega
set_option maxRecDepth 100000 in
set_option maxHeartbeats 1000000 in
/-- two rows of the same pieces are the same -/
theorem same_any (l : List (Nat × Nat)) (v v' : Value) (w : World) (hl : l.length ≤ 1000000) (h1 : Row w 2 v l.length (pcells l)) (h2 : Row w 2 v' l.length (pcells l)) :
    Calls Tryd.prog 33 #[v, v'] w fun e w' => e = .returned (.bool true) ∧ Below w.heap.size w w' := by
  obtain ⟨-, p1, cap1, rfl, R1⟩ := h1
  obtain ⟨-, p2, cap2, rfl, R2⟩ := h2
  have HR1 := Lib.hid R1
  have HR2 := Lib.hid R2
  clear R1 R2
  go_enter Tryd.func33, Tryd.ntmps33
  go_wp2_with fail
  go_loopw [5] (fun j wr => ∃ m : Nat, m ≤ l.length ∧ j = .int .i64 m ∧ ∃ nd, wr = w.drewN nd) (fun j _ => l.length - (intOf j).toNat)
  case atStart => exact ⟨0, Nat.zero_le _, rfl, 0, rfl⟩
  case round =>
    obtain ⟨m, hm, rfl, nd, rfl⟩ := hrel
    by_cases hlt : m < l.length
    · obtain ⟨g1, g2⟩ := pcells_get l m hlt
      obtain ⟨b1, o1, rfl, k1, d1⟩ := HR1.out _ _ g1
      obtain ⟨b2, o2, rfl, k2, d2⟩ := HR2.out _ _ g1
      obtain ⟨b3, o3, e3, k3, d3⟩ := HR1.out _ _ g2
      obtain ⟨b4, o4, e4, k4, d4⟩ := HR2.out _ _ g2
      obtain ⟨rfl, rfl⟩ : b1 = b3 ∧ o1 = o3 := by simpa using e3
      obtain ⟨rfl, rfl⟩ : b2 = b4 ∧ o2 = o4 := by simpa using e4
      rw [← Nat.add_assoc] at d3 d4
      generalize l[m].1 = x at *
      generalize l[m].2 = y at *
      clear g1 g2 e3 e4
      go_wp2_with fail
      go_region
      go_wp2_with fail
      exact ⟨⟨m + 1, by omega, by go_num, _, rfl⟩, by simp only [intOf]; omega⟩
    · obtain rfl : m = l.length := by omega
      go_wp2_with fail
      go_ret
      exact ⟨rfl, below_drewN (Below.refl _ _) _⟩
/-- the two cutters of the chapter's examples -/
def cutA : CutN := ⟨283, 2, 2, 4, 0⟩
def cutB : CutN := ⟨283, 2, 2, 3, 16⟩
theorem rmay_283 (n : Int) (h1 : 1 ≤ n) (h2 : n ≤ 64) : RMay 283 n := by
  have e : dg 283 = 8 := by decide +kernel
  exact ⟨by rw [e]; decide, by rw [e]; decide, h1, h2⟩
theorem cutA_may : cutA.May := ⟨by decide, rmay_283 _ (by decide) (by decide), by decide, by decide, by decide, by decide, by decide, by decide⟩
theorem cutB_may : cutB.May := ⟨by decide, rmay_283 _ (by decide) (by decide), by decide, by decide, by decide, by decide, by decide, by decide⟩
theorem cutsA : cutsOf cutA ⟨#[97, 98, 99, 100, 101]⟩ = [2, 4, 5] := by decide +kernel
theorem cutsB : cutsOf cutB ⟨#[0, 0, 0, 0, 0, 0]⟩ = [3, 6] := by decide +kernel
theorem txtsA : txts ⟨#[97, 98, 99, 100, 101]⟩ [2, 4, 5] = [⟨#[97, 98]⟩, ⟨#[99, 100]⟩, ⟨#[101]⟩] := by decide +kernel
theorem no_zero9 : ¬ CMay ⟨0, 0, 0, 0, 0⟩ := fun h => absurd h.2.2.1.1 (by decide)
end Go.Proofs.YtpkbhihkhnkhnaaDoor
