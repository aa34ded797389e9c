/- maslinlaw08.alive; RabinTells, RabinSums: the walks. -/
import Derived.Test.YtpkbhihkhnkhnaaNew
import Derived.Test.YtpkbhihkhnkhnaaRabo
import Derived.Test.YtpkbhihkhnkhnaaRabr
namespace Go.Proofs.Ytpkbhihkhnkhnaa
open Go.RowKit
theorem k1 : dg 283 = 8 := by decide +kernel
theorem k2 : dg 3 = 1 := by decide +kernel
theorem k3 : fp 283 [1, 0] = 27 := by
  rw [fp, show val [1, 0] = 256 by decide +kernel, ← Gf2.pmf_eq 10 256 283 (by omega) (by omega)]; decide +kernel
theorem k4 : lastN 2 ([] ++ [9, 1, 0]) = [1, 0] := by decide +kernel
theorem k5 : fp 283 (lastN 2 ([9, 1, 0] ++ [0, 0])) = 0 := by
  rw [show lastN 2 ([9, 1, 0] ++ [0, 0]) = [0, 0] by decide +kernel, fp, show val [0, 0] = 0 by decide +kernel, Gf2.pm_zero]
theorem a1 (w : World) : Calls Try.prog 26 #[.int .u64 283, .string ⟨#[1, 0]⟩] w fun e w' => e = .returned (.tuple #[.int .u64 27, .int .i64 0]) ∧ Below w.heap.size w w' := by
  refine (of_any 283 ⟨#[1, 0]⟩ w (by omega) (by omega) (by rw [show Int.toNat 283 = 283 from rfl, k1]; omega) (by rw [show Int.toNat 283 = 283 from rfl, k1]; omega) (by decide)).mono ?_
  rintro e w1 ⟨rfl, hb1⟩
  rw [show Int.toNat 283 = 283 from rfl, show (⟨#[1, 0]⟩ : ByteArray).data.toList = [1, 0] from rfl, k3]
  exact ⟨rfl, hb1⟩
theorem a2 (w : World) : Calls Try.prog 30 #[.int .u64 283, .int .i64 2] w fun e w' => ∃ R, e = .returned (.tuple #[.pointer (some ⟨R, 0, none⟩), .int .i64 0]) ∧ w.heap.size ≤ R ∧ RolG w' R 283 2 [] ∧ Below w.heap.size w w' :=
  new_any 283 2 w (by omega) ⟨by rw [k1]; omega, by rw [k1]; omega, by omega, by omega⟩
theorem a3 (R : Nat) (w : World) (h : RolG w R 283 2 []) : Calls Try.prog 31 #[.pointer (some ⟨R, 0, none⟩), .string ⟨#[9, 1, 0]⟩] w fun e w' => e = .returned (.tuple #[.int .u64 27, .int .i64 0]) ∧ RolG w' R 283 2 [9, 1, 0] ∧ Kept (fun i => i ≠ R) w w' := by
  refine (roll_any R 283 2 [] ⟨#[9, 1, 0]⟩ w (by omega) (by rw [k1]; omega) (by rw [k1]; omega) (by omega) (by decide) h).mono ?_
  rintro e w1 ⟨rfl, h1, h2⟩
  rw [show (⟨#[9, 1, 0]⟩ : ByteArray).data.toList = [9, 1, 0] from rfl] at h1 ⊢
  rw [k4, k3]
  exact ⟨rfl, h1, h2⟩
theorem a4 (R : Nat) (w : World) (h : RolG w R 283 2 [9, 1, 0]) : Calls Try.prog 31 #[.pointer (some ⟨R, 0, none⟩), .string ⟨#[0, 0]⟩] w fun e w' => e = .returned (.tuple #[.int .u64 0, .int .i64 0]) ∧ Kept (fun i => i ≠ R) w w' := by
  refine (roll_any R 283 2 [9, 1, 0] ⟨#[0, 0]⟩ w (by omega) (by rw [k1]; omega) (by rw [k1]; omega) (by omega) (by decide) h).mono ?_
  rintro e w1 ⟨rfl, h1, h2⟩
  rw [show (⟨#[0, 0]⟩ : ByteArray).data.toList = [0, 0] from rfl, k5]
  exact ⟨rfl, h2⟩
theorem a5 (w : World) : Calls Try.prog 30 #[.int .u64 283, .int .i64 0] w fun e w' => e = .returned (.tuple #[.pointer none, .int .i64 2]) ∧ Below w.heap.size w w' :=
  new_no 283 0 w (by omega) (by omega) (fun h => by have := h.2.2.1; omega)
theorem a6 (w : World) (s : ByteArray) : Calls Try.prog 26 #[.int .u64 3, .string s] w fun e w' => e = .returned (.tuple #[.int .u64 0, .int .i64 2]) ∧ w = w' :=
  of_no 3 s w (by omega) (by omega) (.inl (by rw [show Int.toNat 3 = 3 from rfl, k2]; omega))
set_option maxRecDepth 100000 in
set_option maxHeartbeats 1000000 in
theorem alive8_any (w : World) : Calls Try.prog 24 #[] w fun e w' => e = .returned (.bool true) ∧ Below w.heap.size w w' := by
  go_enter Try.func24, Try.ntmps24
  go_wp2_with fail
  refine (a1 _).mono ?_
  rintro e w1 ⟨rfl, hb1⟩
  go_wp2_with fail
  refine (a2 _).mono ?_
  rintro e w2 ⟨R, rfl, hR, hG, hb2⟩
  have H1 := hb1.size
  have H2 := hb2.size
  go_wp2_with fail
  refine (a3 R _ hG).mono ?_
  rintro e w3 ⟨rfl, hG3, hk3⟩
  have H3 := hk3.size
  go_wp2_with fail
  refine (a4 R _ hG3).mono ?_
  rintro e w4 ⟨rfl, hk4⟩
  have H4 := hk4.size
  go_wp2_with fail
  refine (a5 _).mono ?_
  rintro e w5 ⟨rfl, hb5⟩
  have H5 := hb5.size
  go_wp2_with fail
  refine (a6 _ _).mono ?_
  rintro e w' ⟨rfl, rfl⟩
  go_wp2_with fail
  go_ret
  refine ⟨rfl, ?_⟩
  exact (((hb1.trans (hb2.mono (by omega))).trans (hk3.below (by omega) (fun i hi => by omega))).trans (hk4.below (by omega) (fun i hi => by omega))).trans (hb5.mono (by omega))
end Go.Proofs.Ytpkbhihkhnkhnaa
