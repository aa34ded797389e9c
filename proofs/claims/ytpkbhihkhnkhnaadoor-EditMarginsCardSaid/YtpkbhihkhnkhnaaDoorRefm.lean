/- maslinref09.May. -/
import Derived.Test.YtpkbhihkhnkhnaaDoorRabr
import Derived.Test.YtpkbhihkhnkhnaaDoorNeeds
namespace Go.Proofs.YtpkbhihkhnkhnaaDoor
open Go.RowKit
set_option maxRecDepth 100000 in
set_option maxHeartbeats 1000000 in
theorem rmay9_yes (c : Cut5) (w : World) (hp : c.p < 18446744073709551616) (h : CMay c) :
    Calls Tryd.prog 29 #[.agg #[.int .u64 c.p, .int .i64 c.n, .int .i64 c.mi, .int .i64 c.ma, .int .i64 c.bi]] w fun e w' => e = .returned (.bool true) ∧ Below w.heap.size w w' := by
  obtain ⟨p, n, mi, ma, bi⟩ := c
  obtain ⟨h1, ⟨h2, h3⟩, ⟨h4, h5⟩, h6, h7⟩ := h
  simp only at *
  have C := Lib.hid (fun W => r8may_yes p n W (by omega) (by omega) (by rw [Int.toNat_natCast]; exact h1))
  clear h1
  go_enter Tryd.func29, Tryd.ntmps29
  go_wp2_with fail
  refine (C.out _).mono ?_
  rintro e w' ⟨rfl, rfl⟩
  go_wp2_with fail
  go_ret
  exact ⟨rfl, (Below.refl _ _).alloc (Nat.le_refl _) _⟩
set_option maxRecDepth 100000 in
set_option maxHeartbeats 2000000 in
theorem rmay9_no (c : Cut5) (w : World) (hp : c.p < 18446744073709551616) (h : ¬ CMay c) :
    Calls Tryd.prog 29 #[.agg #[.int .u64 c.p, .int .i64 c.n, .int .i64 c.mi, .int .i64 c.ma, .int .i64 c.bi]] w fun e w' => e = .returned (.bool false) ∧ Below w.heap.size w w' := by
  obtain ⟨p, n, mi, ma, bi⟩ := c
  simp only at *
  by_cases h1 : RMay p n
  · have C := Lib.hid (fun W => r8may_yes p n W (by omega) (by omega) (by rw [Int.toNat_natCast]; exact h1))
    have hh : (¬ n ≤ mi) ∨ (n ≤ mi ∧ ¬ mi ≤ ma) ∨ (n ≤ mi ∧ mi ≤ ma ∧ ¬ 1 ≤ ma) ∨ (n ≤ mi ∧ mi ≤ ma ∧ 1 ≤ ma ∧ ¬ ma ≤ 4096) ∨ (n ≤ mi ∧ mi ≤ ma ∧ 1 ≤ ma ∧ ma ≤ 4096 ∧ ¬ 0 ≤ bi) ∨ (n ≤ mi ∧ mi ≤ ma ∧ 1 ≤ ma ∧ ma ≤ 4096 ∧ 0 ≤ bi ∧ ¬ bi ≤ 16) := by
      by_cases a1 : n ≤ mi
      · by_cases a2 : mi ≤ ma
        · by_cases a3 : 1 ≤ ma
          · by_cases a4 : ma ≤ 4096
            · by_cases a5 : 0 ≤ bi
              · by_cases a6 : bi ≤ 16
                · exact absurd ⟨h1, ⟨a1, a2⟩, ⟨a3, a4⟩, a5, a6⟩ h
                · simp only [a1, a2, a3, a4, a5, a6]; simp
              · simp only [a1, a2, a3, a4, a5]; simp
            · simp only [a1, a2, a3, a4]; simp
          · simp only [a1, a2, a3]; simp
        · simp only [a1, a2]; simp
      · simp only [a1]; simp
    clear h h1
    rcases hh with a1 | ⟨a1, a2⟩ | ⟨a1, a2, a3⟩ | ⟨a1, a2, a3, a4⟩ | ⟨a1, a2, a3, a4, a5⟩ | ⟨a1, a2, a3, a4, a5, a6⟩
    all_goals
      go_enter Tryd.func29, Tryd.ntmps29
      go_wp2_with fail
      refine (C.out _).mono ?_
      rintro e w' ⟨rfl, rfl⟩
      go_wp2_with fail
      go_ret
      exact ⟨by simp_all, (Below.refl _ _).alloc (Nat.le_refl _) _⟩
  · have C := Lib.hid (fun W => r8may_no p n W (by omega) (by omega) (by rw [Int.toNat_natCast]; exact h1))
    clear h h1
    go_enter Tryd.func29, Tryd.ntmps29
    go_wp2_with fail
    refine (C.out _).mono ?_
    rintro e w' ⟨rfl, rfl⟩
    go_wp2_with fail
    go_ret
    exact ⟨rfl, (Below.refl _ _).alloc (Nat.le_refl _) _⟩
end Go.Proofs.YtpkbhihkhnkhnaaDoor
