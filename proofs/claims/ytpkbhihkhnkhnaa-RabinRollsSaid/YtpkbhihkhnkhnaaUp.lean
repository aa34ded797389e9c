/- poly.Up: what it returns. -/
import Derived.Test.YtpkbhihkhnkhnaaMod
import Derived.Laws.EntriesVeiled
namespace Go.Proofs.Ytpkbhihkhnkhnaa
open Go.RowKit
theorem up_sq {n p : Nat} (hp : p ≠ 0) (h : n % 2 = 0) : Gf2.pm (Gf2.cm (Gf2.pm (2 ^ (n / 2)) p) (Gf2.pm (2 ^ (n / 2)) p)) p = Gf2.pm (2 ^ n) p := by
  rw [Gf2.pm_cm_left _ _ hp, Gf2.pm_cm_right _ _ hp, Gf2.cm_pow, ← Nat.pow_add]
  congr 2; omega
theorem up_sq1 {n p : Nat} (hp : p ≠ 0) (h : n % 2 = 1) : Gf2.pm (Gf2.pm (Gf2.cm (Gf2.pm (2 ^ (n / 2)) p) (Gf2.pm (2 ^ (n / 2)) p)) p * 2) p = Gf2.pm (2 ^ n) p := by
  rw [Nat.mul_comm, Gf2.pm_two _ hp, ← Gf2.pm_two _ hp, Gf2.pm_cm_left _ _ hp, Gf2.pm_cm_right _ _ hp, Gf2.pm_two _ hp, Gf2.cm_pow, ← Nat.pow_add, Nat.mul_comm, ← Nat.pow_succ]
  congr 2; omega
set_option maxHeartbeats 1000000 in
theorem power_any (k : Nat) : ∀ (n : Int) (p bp bf : Nat) (w : World), 0 ≤ n → n ≤ k → n < 9223372036854775807 → p < 18446744073709551616 → 1 ≤ dg p → dg p ≤ 56 → w.cell? ⟨bp, 0, none⟩ = some (.int .u64 p) →
    w.cell? ⟨bf, 0, none⟩ = some (.func (.func 41) #[] #[.pointer (some ⟨bp, 0, none⟩), .pointer (some ⟨bf, 0, none⟩)]) →
    Calls Try.prog 41 #[.int .i64 n, .pointer (some ⟨bp, 0, none⟩), .pointer (some ⟨bf, 0, none⟩)] w fun e w' => e = .returned (.int .u64 (Gf2.pm (2 ^ n.toNat) p : Nat)) ∧ w = w' := by
  induction k with
  | zero =>
    intro n p bp bf w hn hn1 hn2 hp h1 h2 hc1 hc2
    obtain rfl : n = 0 := by omega
    obtain ⟨q0, q1, q2, q3, q4⟩ := dg_56 h1 h2
    go_enter Try.func41, Try.ntmps41
    go_wp2_with (go_at_call 11; refine (mod_any _ _ _ (by omega) (by omega) (by omega) (by omega)).mono ?_; rintro e w' ⟨rfl, rfl⟩)
    go_ret
    exact ⟨ret_int (by simp), rfl⟩
  | succ k ih =>
    intro n p bp bf w hn hn1 hn2 hp h1 h2 hc1 hc2
    obtain ⟨q0, q1, q2, q3, q4⟩ := dg_56 h1 h2
    obtain ⟨n, rfl⟩ := Int.eq_ofNat_of_zero_le hn
    rw [Int.toNat_natCast]
    by_cases hn0 : n = 0
    · subst hn0
      go_enter Try.func41, Try.ntmps41
      go_wp2_with (go_at_call 11; refine (mod_any _ _ _ (by omega) (by omega) (by omega) (by omega)).mono ?_; rintro e w' ⟨rfl, rfl⟩)
      go_ret
      exact ⟨ret_int (by simp), rfl⟩
    · have IH := Lib.hid (fun (m : Int) (g1 : 0 ≤ m) (g2 : m ≤ k) (g3 : m < 9223372036854775807) => ih m p bp bf w g1 g2 g3 hp h1 h2 hc1 hc2)
      clear ih
      have hnb : ((n : Int) == 0) = false := by simp; omega
      have hm := pm_56 (2 ^ (n / 2)) q0 q4
      have hm2 := pm_56 (Gf2.cm (Gf2.pm (2 ^ (n / 2)) p) (Gf2.pm (2 ^ (n / 2)) p)) q0 q4
      have e1 : ((n : Int) / 2).toNat = n / 2 := by omega
      by_cases ho : n % 2 = 1
      · have hob : ((n : Int) % 2 == 1) = true := by simp; omega
        have HE := Lib.hid (up_sq1 (n := n) q0 ho)
        clear ho
        go_enter Try.func41, Try.ntmps41
        go_wp2_with fail
        refine (IH.out _ (by omega) (by omega) (by omega)).mono ?_
        rintro e w' ⟨rfl, rfl⟩
        rw [e1]
        generalize Gf2.pm (2 ^ (n / 2)) p = h at *
        go_wp2_with fail
        refine (mul_any _ _ _ _ (by omega) (by omega) (by omega) (by omega) (by omega) (by omega) (by simpa using h1) (by simpa using h2)).mono ?_
        rintro e w' ⟨rfl, rfl⟩
        rw [Int.toNat_natCast, Int.toNat_natCast]
        generalize Gf2.pm (Gf2.cm h h) p = h3 at *
        go_wp2_with (go_at_call 11; refine (mod_any _ _ _ (by omega) (by omega) (by omega) (by omega)).mono ?_; rintro e w' ⟨rfl, rfl⟩)
        go_ret
        exact ⟨ret_int (by rw [HE.out]), rfl⟩
      · have hob : ((n : Int) % 2 == 1) = false := by simp; omega
        have HE := Lib.hid (up_sq (n := n) q0 (by omega))
        clear ho
        go_enter Try.func41, Try.ntmps41
        go_wp2_with fail
        refine (IH.out _ (by omega) (by omega) (by omega)).mono ?_
        rintro e w' ⟨rfl, rfl⟩
        rw [e1]
        generalize Gf2.pm (2 ^ (n / 2)) p = h at *
        go_wp2_with fail
        refine (mul_any _ _ _ _ (by omega) (by omega) (by omega) (by omega) (by omega) (by omega) (by simpa using h1) (by simpa using h2)).mono ?_
        rintro e w' ⟨rfl, rfl⟩
        rw [Int.toNat_natCast, Int.toNat_natCast]
        generalize Gf2.pm (Gf2.cm h h) p = h3 at *
        go_wp2_with fail
        go_ret
        exact ⟨ret_int (by rw [HE.out]), rfl⟩
set_option maxHeartbeats 400000 in
theorem up_any (n p : Int) (w : World) (hn : 0 ≤ n) (hn2 : n < 9223372036854775807) (hp0 : 0 ≤ p) (hp : p < 18446744073709551616) (h1 : 1 ≤ dg p.toNat) (h2 : dg p.toNat ≤ 56) :
    Calls Try.prog 20 #[.int .i64 n, .int .u64 p] w fun e w' => e = .returned (.tuple #[.int .u64 (Gf2.pm (2 ^ n.toNat) p.toNat : Nat), .int .i64 0]) ∧ Below w.heap.size w w' := by
  obtain ⟨n, rfl⟩ := Int.eq_ofNat_of_zero_le hn
  obtain ⟨p, rfl⟩ := Int.eq_ofNat_of_zero_le hp0
  rw [Int.toNat_natCast] at h1 h2
  rw [Int.toNat_natCast, Int.toNat_natCast]
  have hn2' : n < 9223372036854775807 := by omega
  have hp' : p < 18446744073709551616 := by omega
  clear hn hn2 hp0 hp
  go_enter Try.func20, Try.ntmps20
  go_wp2_with (go_at_call 38; refine (may_yes _ _ (by omega) (by omega) (by simpa using h1) (by simpa using h2)).mono ?_; rintro e w' ⟨rfl, rfl⟩)
  refine (power_any n _ p w.heap.size (w.heap.size + 1) _ (by omega) (by omega) (by omega) hp' h1 h2 ?_ ?_).mono ?_
  · simp
  · simp
  rintro e w' ⟨rfl, rfl⟩
  go_wp2
  go_ret2
  exact ⟨ret_u2 (by simp), ((Below.refl _ _).alloc (Nat.le_refl _) _).alloc (by simp) _⟩
theorem up_no (n p : Int) (w : World) (h : n < 0 ∨ 0 ≤ n ∧ 0 ≤ p ∧ p < 18446744073709551616 ∧ (dg p.toNat < 1 ∨ 56 < dg p.toNat)) :
    Calls Try.prog 20 #[.int .i64 n, .int .u64 p] w fun e w' => e = .returned (.tuple #[.int .u64 0, .int .i64 2]) ∧ Below w.heap.size w w' := by
  rcases h with h | ⟨h, h1, h2, h3⟩
  · go_enter Try.func20, Try.ntmps20
    go_wp2_with fail
    go_ret2
    exact ⟨rfl, (Below.refl _ _).alloc (Nat.le_refl _) _⟩
  · have H := Lib.hid h3
    clear h3
    go_enter Try.func20, Try.ntmps20
    go_wp2_with (go_at_call 38; refine (may_no _ _ h1 h2 H.out).mono ?_; rintro e w' ⟨rfl, rfl⟩)
    go_ret2
    exact ⟨rfl, (Below.refl _ _).alloc (Nat.le_refl _) _⟩
end Go.Proofs.Ytpkbhihkhnkhnaa
