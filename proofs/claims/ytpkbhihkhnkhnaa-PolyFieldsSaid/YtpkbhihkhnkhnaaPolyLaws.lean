/- PolyTells: the walk. -/
import Derived.Test.YtpkbhihkhnkhnaaAlive
import Derived.OpenShut
namespace Go.Proofs.Ytpkbhihkhnkhnaa
open Go.RowKit
/-- two functions that return one pair -/
def Twins (f g : Nat) (args : Array Value) : Prop := ∃ (M : Nat) (E : Int), (∀ w, Calls Try.prog f args w fun e w' => e = .returned (.tuple #[.int .u64 M, .int .i64 E]) ∧ Below w.heap.size w w') ∧ (∀ w, Calls Try.prog g args w fun e w' => e = .returned (.tuple #[.int .u64 M, .int .i64 E]) ∧ w = w')
def Pairs (f g : Nat) (args : Array Value) : Prop := ∃ (M : Nat) (E : Int), (∀ w, Calls Try.prog f args w fun e w' => e = .returned (.tuple #[.int .u64 M, .int .i64 E]) ∧ w = w') ∧ (∀ w, Calls Try.prog g args w fun e w' => e = .returned (.tuple #[.int .u64 M, .int .i64 E]) ∧ w = w')
theorem mod_pairs (a p : Int) (ha0 : 0 ≤ a) (ha : a < 18446744073709551616) (hp0 : 0 ≤ p) (hp : p < 18446744073709551616) : Pairs 11 12 #[.int .u64 a, .int .u64 p] := by
  by_cases h : p = 0
  · subst h; exact ⟨0, 2, fun w => mod_zero a w, fun w => rmod_zero a w⟩
  · exact ⟨_, 0, fun w => mod_any a p w ha0 ha (by omega) hp, fun w => rmod_any a p w ha0 ha (by omega) hp⟩
theorem mul_pairs (a b p : Int) (ha0 : 0 ≤ a) (ha : a < 18446744073709551616) (hb0 : 0 ≤ b) (hb : b < 18446744073709551616) (hp0 : 0 ≤ p) (hp : p < 18446744073709551616) : Pairs 13 14 #[.int .u64 a, .int .u64 b, .int .u64 p] := by
  by_cases h : 1 ≤ dg p.toNat ∧ dg p.toNat ≤ 56
  · exact ⟨_, 0, fun w => mul_any a b p w ha0 ha hb0 hb hp0 hp h.1 h.2, fun w => rmul_any a b p w ha0 ha hb0 hb hp0 hp h.1 h.2⟩
  · exact ⟨0, 2, fun w => mul_no a b p w hp0 hp (by omega), fun w => rmul_err a b p w hp0 hp (by omega)⟩
theorem up_twins (n p : Int) (hn : n ≤ 4000) (hp0 : 0 ≤ p) (hp : p < 18446744073709551616) : Twins 20 21 #[.int .i64 n, .int .u64 p] := by
  by_cases h : n < 0
  · exact ⟨0, 2, fun w => up_no n p w (.inl h), fun w => rup_err n p w (.inl h)⟩
  · by_cases h2 : 1 ≤ dg p.toNat ∧ dg p.toNat ≤ 56
    · exact ⟨_, 0, fun w => up_any n p w (by omega) (by omega) hp0 hp h2.1 h2.2, fun w => rup_any n p w (by omega) (by omega) hp0 hp h2.1 h2.2⟩
    · exact ⟨0, 2, fun w => up_no n p w (.inr ⟨by omega, hp0, hp, by omega⟩), fun w => rup_err n p w (.inr ⟨by omega, hp0, hp, by omega⟩)⟩
theorem wf_u64 {a : Int} (h : (Lit.int .u64 a).wf = true) : 0 ≤ a ∧ a < 18446744073709551616 := by
  have := bounds_u64 h; omega
set_option maxRecDepth 100000 in
set_option maxHeartbeats 1000000 in
theorem polyTells_any (a b p n : Int) (wa : (Lit.int .u64 a).wf = true) (wb : (Lit.int .u64 b).wf = true) (wp : (Lit.int .u64 p).wf = true) (w : World) :
    Calls Try.prog 3 #[.int .u64 a, .int .u64 b, .int .u64 p, .int .i64 n] w fun e w' => e = .returned (.bool true) ∧ Below w.heap.size w w' := by
  obtain ⟨ha0, ha⟩ := wf_u64 wa
  obtain ⟨hb0, hb⟩ := wf_u64 wb
  obtain ⟨hp0, hp⟩ := wf_u64 wp
  obtain ⟨m1, e1, c1, c2⟩ := mod_pairs a p ha0 ha hp0 hp
  obtain ⟨m2, e2, c3, c4⟩ := mul_pairs a b p ha0 ha hb0 hb hp0 hp
  have c5 := fun w => deg_any a w ha0 ha
  have c6 := fun w => rdeg_any a w ha0 ha
  have c7 := fun w => gcd_any a b w ha0 ha hb0 hb
  have c8 := fun w => rgcd_any a b w ha0 ha hb0 hb
  generalize Gf2.pg a.toNat b.toNat = g at *
  generalize dg a.toNat = d at *
  have C1 := Lib.hid c1
  have C2 := Lib.hid c2
  have C3 := Lib.hid c3
  have C4 := Lib.hid c4
  have C5 := Lib.hid c5
  have C6 := Lib.hid c6
  have C7 := Lib.hid c7
  have C8 := Lib.hid c8
  clear c1 c2 c3 c4 c5 c6 c7 c8 wa wb wp
  by_cases hn : n ≤ 4000
  · obtain ⟨m3, e3, c9, c10⟩ := up_twins n p hn hp0 hp
    have C9 := Lib.hid c9
    have C10 := Lib.hid c10
    clear c9 c10 ha0 ha hb0 hb hp0 hp
    go_enter Try.func3, Try.ntmps3
    go_wp2_with fail
    refine (C1.out _).mono ?_
    rintro e w' ⟨rfl, rfl⟩
    go_wp2_with fail
    refine (C2.out _).mono ?_
    rintro e w' ⟨rfl, rfl⟩
    go_wp2_with fail
    refine (C3.out _).mono ?_
    rintro e w' ⟨rfl, rfl⟩
    go_wp2_with fail
    refine (C4.out _).mono ?_
    rintro e w' ⟨rfl, rfl⟩
    go_wp2_with fail
    refine (C5.out _).mono ?_
    rintro e w' ⟨rfl, rfl⟩
    go_wp2_with fail
    refine (C6.out _).mono ?_
    rintro e w' ⟨rfl, rfl⟩
    go_wp2_with fail
    refine (C7.out _).mono ?_
    rintro e w' ⟨rfl, rfl⟩
    go_wp2_with fail
    refine (C8.out _).mono ?_
    rintro e w' ⟨rfl, rfl⟩
    go_wp2_with fail
    refine (C9.out _).mono ?_
    rintro e w1 ⟨rfl, hb1⟩
    go_wp2_with fail
    refine (C10.out _).mono ?_
    rintro e w' ⟨rfl, rfl⟩
    go_wp2_with fail
    refine (alive_any _).mono ?_
    rintro e w2 ⟨rfl, hb2⟩
    go_wp2_with fail
    go_ret
    exact ⟨rfl, hb1.trans (hb2.mono hb1.size)⟩
  · clear ha0 ha hb0 hb hp0 hp
    go_enter Try.func3, Try.ntmps3
    go_wp2_with fail
    refine (C1.out _).mono ?_
    rintro e w' ⟨rfl, rfl⟩
    go_wp2_with fail
    refine (C2.out _).mono ?_
    rintro e w' ⟨rfl, rfl⟩
    go_wp2_with fail
    refine (C3.out _).mono ?_
    rintro e w' ⟨rfl, rfl⟩
    go_wp2_with fail
    refine (C4.out _).mono ?_
    rintro e w' ⟨rfl, rfl⟩
    go_wp2_with fail
    refine (C5.out _).mono ?_
    rintro e w' ⟨rfl, rfl⟩
    go_wp2_with fail
    refine (C6.out _).mono ?_
    rintro e w' ⟨rfl, rfl⟩
    go_wp2_with fail
    refine (C7.out _).mono ?_
    rintro e w' ⟨rfl, rfl⟩
    go_wp2_with fail
    refine (C8.out _).mono ?_
    rintro e w' ⟨rfl, rfl⟩
    go_wp2_with fail
    refine (alive_any _).mono ?_
    rintro e w2 ⟨rfl, hb2⟩
    go_wp2_with fail
    go_ret
    exact ⟨rfl, hb2⟩
end Go.Proofs.Ytpkbhihkhnkhnaa
