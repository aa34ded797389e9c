/- rabin: deg, Check, next, Of; what they return. -/
import Derived.Test.YtpkbhihkhnkhnaaRef
import Derived.Test.YtpkbhihkhnkhnaaWin
import Derived.Lib.ConvBytes
namespace Go.Proofs.Ytpkbhihkhnkhnaa
open Go.RowKit
theorem rdg_yes (p : Int) (w : World) (h0 : 0 ≤ p) (h1 : p < 18446744073709551616) (h : 8 ≤ dg p.toNat) (h' : dg p.toNat ≤ 56) :
    Calls Try.prog 43 #[.int .u64 p] w fun e w' => e = .returned (.bool true) ∧ w = w' := by
  go_enter Try.func43, Try.ntmps43
  go_wp2_with (go_at_call 15; refine (deg_any _ _ (by omega) (by omega)).mono ?_; rintro e w' ⟨rfl, rfl⟩)
  go_ret
  exact ⟨rfl, rfl⟩
theorem rdg_no (p : Int) (w : World) (h0 : 0 ≤ p) (h1 : p < 18446744073709551616) (h : dg p.toNat < 8 ∨ 56 < dg p.toNat) :
    Calls Try.prog 43 #[.int .u64 p] w fun e w' => e = .returned (.bool false) ∧ w = w' := by
  rcases h with h | h
  · go_enter Try.func43, Try.ntmps43
    go_wp2_with (go_at_call 15; refine (deg_any _ _ (by omega) (by omega)).mono ?_; rintro e w' ⟨rfl, rfl⟩)
    go_ret
    exact ⟨rfl, rfl⟩
  · have h2 : 8 ≤ dg p.toNat := by omega
    have h3 : decide (dg p.toNat ≤ 56) = false := by simp; omega
    go_enter Try.func43, Try.ntmps43
    go_wp2_with (go_at_call 15; refine (deg_any _ _ (by omega) (by omega)).mono ?_; rintro e w' ⟨rfl, rfl⟩)
    go_ret
    exact ⟨rfl, rfl⟩
/-- may there be a roller? -/
def RMay (p : Nat) (n : Int) : Prop := 8 ≤ dg p ∧ dg p ≤ 56 ∧ 1 ≤ n ∧ n ≤ 64
theorem check_yes (p n : Int) (w : World) (h0 : 0 ≤ p) (h1 : p < 18446744073709551616) (h : RMay p.toNat n) :
    Calls Try.prog 25 #[.int .u64 p, .int .i64 n] w fun e w' => e = .returned (.int .i64 0) ∧ w = w' := by
  obtain ⟨g1, g2, g3, g4⟩ := h
  go_enter Try.func25, Try.ntmps25
  go_wp2_with (go_at_call 43; refine (rdg_yes _ _ h0 h1 g1 g2).mono ?_; rintro e w' ⟨rfl, rfl⟩)
  go_ret
  exact ⟨rfl, rfl⟩
theorem check_no (p n : Int) (w : World) (h0 : 0 ≤ p) (h1 : p < 18446744073709551616) (h : ¬ RMay p.toNat n) :
    Calls Try.prog 25 #[.int .u64 p, .int .i64 n] w fun e w' => e = .returned (.int .i64 2) ∧ w = w' := by
  by_cases hd : 8 ≤ dg p.toNat ∧ dg p.toNat ≤ 56
  · have C := Lib.hid (fun w => rdg_yes p w h0 h1 hd.1 hd.2)
    have hn : n < 1 ∨ 64 < n := by
      unfold RMay at h; omega
    clear h hd h0 h1
    rcases hn with hn | hn
    · go_enter Try.func25, Try.ntmps25
      go_wp2_with (go_at_call 43; refine (C.out _).mono ?_; rintro e w' ⟨rfl, rfl⟩)
      go_ret
      exact ⟨rfl, rfl⟩
    · have hn2 : ¬ n < 1 := by omega
      go_enter Try.func25, Try.ntmps25
      go_wp2_with (go_at_call 43; refine (C.out _).mono ?_; rintro e w' ⟨rfl, rfl⟩)
      go_ret
      exact ⟨rfl, rfl⟩
  · have C := Lib.hid (fun w => rdg_no p w h0 h1 (by omega))
    clear h hd h0 h1
    go_enter Try.func25, Try.ntmps25
    go_wp2_with (go_at_call 43; refine (C.out _).mono ?_; rintro e w' ⟨rfl, rfl⟩)
    go_ret
    exact ⟨rfl, rfl⟩
theorem or_shl {f b : Nat} (hf : f < 72057594037927936) (hb : b < 256) : bits .or .u64 ((f : Int) * 256) (b : Int) = ((f * 256 + b : Nat) : Int) := by
  have h := u64_or_nat (f * 256) b (by omega) (by omega)
  rw [nat_join 8 (f * 256) b (by omega) (by omega)] at h
  rw [← h, Int.natCast_mul]; rfl
set_option maxHeartbeats 400000 in
theorem next_any (p f b : Int) (w : World) (hp1 : 1 ≤ p) (hp : p < 18446744073709551616) (hf0 : 0 ≤ f) (hf : f < 72057594037927936) (hb0 : 0 ≤ b) (hb : b < 256) :
    Calls Try.prog 44 #[.int .u64 p, .int .u64 f, .int .u8 b] w fun e w' => e = .returned (.int .u64 (Gf2.pm (f.toNat * 256 + b.toNat) p.toNat : Nat)) ∧ w = w' := by
  obtain ⟨p, rfl⟩ := Int.eq_ofNat_of_zero_le (show 0 ≤ p by omega)
  obtain ⟨f, rfl⟩ := Int.eq_ofNat_of_zero_le hf0
  obtain ⟨b, rfl⟩ := Int.eq_ofNat_of_zero_le hb0
  rw [Int.toNat_natCast, Int.toNat_natCast, Int.toNat_natCast]
  have hp' : p < 18446744073709551616 := by omega
  have hp1' : 1 ≤ p := by omega
  have hf' : f < 72057594037927936 := by omega
  have hb' : b < 256 := by omega
  clear hp1 hp hf0 hf hb0 hb
  have C := Lib.hid (fun w => mod_any ((f * 256 + b : Nat) : Int) p w (by omega) (by omega) (by omega) (by omega))
  have ho := or_shl hf' hb'
  rw [Int.toNat_natCast, Int.toNat_natCast] at C
  generalize f * 256 + b = z at *
  go_enter Try.func44, Try.ntmps44
  go_wp2_with fail
  refine (C.out _).mono ?_
  rintro e w' ⟨rfl, rfl⟩
  go_wp2_with fail
  go_ret
  exact ⟨rfl, rfl⟩
/-- a text turned into a row of bytes -/
theorem conv_bytes (s : ByteArray) (w : World) : ∃ (W1 : World) (cap : Nat), Hid ((convert 9 46 (.string s)).run Try.prog w = .ok (.slice (some ⟨w.heap.size, 0, none⟩) s.size cap) W1) ∧
    Hid (∀ j, j < s.size → W1.cell? ⟨w.heap.size, j, none⟩ = some (.int .u8 ((s.data.toList.getD j 0).toNat : Nat))) ∧ Below w.heap.size w W1 ∧ W1.heap.size = w.heap.size + 1 := by
  refine ⟨Lib.bytesWorld w 5 s, grownCap w s.size 0 5, Lib.run_convert_string_bytes w 9 46 5 s Try.underlying9 Try.underlying46 Try.underlying5, fun j hj => Lib.bytesWorld_cell w _ s j hj, ⟨rfl, rfl, rfl, ?_, fun k hk => Lib.bytesWorld_at_old w _ s k hk⟩, Lib.bytesWorld_size w _ s⟩
  rw [Lib.bytesWorld_size]; omega
theorem take_snoc {α : Type} (l : List α) (k : Nat) (d : α) (h : k < l.length) : l.take (k + 1) = l.take k ++ [l.getD k d] := by
  rw [List.take_succ_eq_append_getElem h]; simp [List.getD, h]
end Go.Proofs.Ytpkbhihkhnkhnaa
