/- rabin.Of, maslinref08: what they return. -/
import Derived.Test.YtpkbhihkhnkhnaaRab
namespace Go.Proofs.Ytpkbhihkhnkhnaa
open Go.RowKit
set_option maxHeartbeats 400000 in
theorem of_any (p : Int) (s : ByteArray) (w : World) (hp0 : 0 ≤ p) (hp : p < 18446744073709551616) (h1 : 8 ≤ dg p.toNat) (h2 : dg p.toNat ≤ 56) (hs : s.size ≤ 4000) :
    Calls Try.prog 26 #[.int .u64 p, .string s] w fun e w' => e = .returned (.tuple #[.int .u64 (fp p.toNat s.data.toList : Nat), .int .i64 0]) ∧ Below w.heap.size w w' := by
  obtain ⟨p, rfl⟩ := Int.eq_ofNat_of_zero_le hp0
  have C1 := Lib.hid (fun w => rdg_yes p w hp0 hp h1 h2)
  rw [Int.toNat_natCast] at h1 h2 ⊢
  obtain ⟨q0, q1, q2, q3, q4⟩ := dg_56 (by omega) h2
  clear hp0 hp
  obtain ⟨W1, cap, hcv, hcell, hbl, hz⟩ := conv_bytes s w
  go_enter Try.func26, Try.ntmps26
  go_wp2_with fail
  refine (C1.out _).mono ?_
  rintro e w' ⟨rfl, rfl⟩
  go_wp2_with fail
  rw [hcv.out]
  go_wp2_with fail
  go_loop [4, 7, 14] (fun x _ i => ∃ k : Nat, k ≤ s.size ∧ x = .int .u64 (fp p (s.data.toList.take k) : Nat) ∧ i = .int .i64 k) (fun _ _ i => s.size - (intOf i).toNat)
  case atStart => exact ⟨0, by omega, by rw [List.take_zero, fp_nil]; rfl, rfl⟩
  case round =>
    obtain ⟨k, hk, rfl, rfl⟩ := hrel
    have hf : fp p (s.data.toList.take k) < 72057594037927936 := pm_56 _ q0 q4
    by_cases hlt : k < s.size
    · have hc := hcell.out k hlt
      have hlen : k < s.data.toList.length := by simpa using hlt
      have HE := Lib.hid (fp_next q0 (s.data.toList.getD k 0) (rfl : fp p (s.data.toList.take k) = _))
      rw [← take_snoc _ _ _ hlen] at HE
      have hb := (s.data.toList.getD k 0).toNat_lt
      generalize (s.data.toList.getD k 0).toNat = b at *
      generalize fp p (s.data.toList.take k) = f at *
      go_wp2_with (go_at_call 44; refine (next_any _ _ _ _ (by omega) (by omega) (by omega) (by omega) (by omega) (by omega)).mono ?_; rintro e w' ⟨rfl, rfl⟩)
      exact ⟨⟨k + 1, by omega, by rw [HE.out], by go_num⟩, by simp only [intOf]; omega⟩
    · obtain rfl : k = s.size := by omega
      have HE := Lib.hid (show s.data.toList.take s.size = s.data.toList from List.take_of_length_le (by simp))
      rw [HE.out]
      go_wp2_with fail
      go_ret2
      exact ⟨rfl, hbl⟩
theorem of_no (p : Int) (s : ByteArray) (w : World) (hp0 : 0 ≤ p) (hp : p < 18446744073709551616) (h : dg p.toNat < 8 ∨ 56 < dg p.toNat) :
    Calls Try.prog 26 #[.int .u64 p, .string s] w fun e w' => e = .returned (.tuple #[.int .u64 0, .int .i64 2]) ∧ w = w' := by
  have C := Lib.hid (fun w => rdg_no p w hp0 hp h)
  clear h hp0 hp
  go_enter Try.func26, Try.ntmps26
  go_wp2_with (go_at_call 43; refine (C.out _).mono ?_; rintro e w' ⟨rfl, rfl⟩)
  go_ret2
  exact ⟨rfl, rfl⟩
end Go.Proofs.Ytpkbhihkhnkhnaa
