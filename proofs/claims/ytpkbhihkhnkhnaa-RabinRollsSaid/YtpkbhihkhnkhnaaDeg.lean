/- The degree: what bits.Len64 and poly.Deg return. -/
import Derived.Test.YtpkbhihkhnkhnaaPolyC
import Derived.Test.YtpkbhihkhnkhnaaProg
import Derived.WalkKit
import Derived.WalkLawsBesides
import Derived.WalkSpells
import Derived.Lib.Hide
namespace Go.Proofs.Ytpkbhihkhnkhnaa
open Go.RowKit
theorem ret_int {k : IntKind} {a b : Int} (h : a = b) : Ending.returned (.int k a) = .returned (.int k b) := by rw [h]
/-- how many bits -/
def bl (x : Nat) : Nat := if x = 0 then 0 else x.log2 + 1
theorem bl_lt {x k : Nat} (h : x < 2 ^ k) : bl x ≤ k := by
  unfold bl; split
  · omega
  · rename_i hx; have := (Nat.log2_lt hx).2 h; omega
theorem bl_shift (x k : Nat) (h : x / 2 ^ k ≠ 0) : bl x = k + bl (x / 2 ^ k) := by
  have hx : x ≠ 0 := by rintro rfl; simp at h
  unfold bl
  rw [if_neg hx, if_neg h]
  have h1 := Gf2.log_band h
  have h2 : x.log2 = (x / 2 ^ k).log2 + k := by
    refine Gf2.log_of_band ?_ ?_
    · rw [Nat.pow_add]; exact Nat.le_trans (Nat.mul_le_mul_right _ h1.1) (Nat.div_mul_le_self x _)
    · have := (Nat.div_lt_iff_lt_mul (Nat.two_pow_pos k)).1 h1.2
      rw [show (x / 2 ^ k).log2 + k + 1 = (x / 2 ^ k).log2 + 1 + k by omega, Nat.pow_add]; exact this
  omega
theorem tab_at (T : ByteArray) (hT : T.data.toList.map (·.toNat) = (List.range 256).map bl) (y : Nat) (h : y < T.size) (hy : y < 256) : T[y].toNat = bl y := by
  have e : (T.data.toList.map (·.toNat))[y]? = some T[y].toNat := by
    rw [List.getElem?_map]
    have : T.data.toList[y]? = some T[y] := by
      rw [Array.getElem?_toList]
      exact Array.getElem?_eq_getElem h
    rw [this]; rfl
  rw [hT, List.getElem?_map, List.getElem?_range hy] at e
  simpa using e.symm
theorem len_fin (T : ByteArray) (k c : Nat) (i x : Int) (h : i.toNat < T.size) (hT : T.data.toList.map (·.toNat) = (List.range 256).map bl) (hi : 0 ≤ i) (hi2 : i < 256) (h0 : 0 ≤ x) (hc : c = 2 ^ k) (hk : i = x / (c : Int))
    (hz : k = 0 ∨ 1 ≤ i) (hk' : k ≤ 56) : wrap64 ((k : Int) + wrap64 (T[i.toNat].toNat : Int)) = (bl x.toNat : Int) := by
  rw [tab_at T hT i.toNat h (by omega)]
  have hb : bl i.toNat ≤ 8 := bl_lt (by omega)
  have e : bl x.toNat = k + bl i.toNat := by
    have ei : i.toNat = x.toNat / 2 ^ k := by
      rw [hk, ← hc]
      obtain ⟨n, rfl⟩ := Int.eq_ofNat_of_zero_le h0
      rw [← Int.natCast_ediv, Int.toNat_natCast, Int.toNat_natCast]
    rw [ei]
    by_cases hk0 : k = 0
    · subst hk0; simp
    · refine bl_shift _ _ ?_
      rw [← ei]; omega
  rw [e, IntWalk.wrap64_in (bl i.toNat : Int) ⟨by omega, by omega⟩, IntWalk.wrap64_in _ ⟨by omega, by omega⟩]
  omega
theorem len_fin0 (T : ByteArray) (x : Int) (h : x.toNat < T.size) (hT : T.data.toList.map (·.toNat) = (List.range 256).map bl) (hi2 : x < 256) (h0 : 0 ≤ x) : wrap64 (wrap64 (T[x.toNat].toNat : Int)) = (bl x.toNat : Int) := by
  have := len_fin T 0 1 x x h hT h0 hi2 h0 rfl (by omega) (.inl rfl) (by omega)
  simpa using this
set_option maxRecDepth 100000 in
set_option maxHeartbeats 400000 in
theorem len64_any (x : Int) (w : World) (h0 : 0 ≤ x) (h1 : x < 18446744073709551616) :
    Calls Try.prog 40 #[.int .u64 x] w fun e w' => e = .returned (.int .i64 (bl x.toNat)) ∧ w = w' := by
  by_cases c1 : 4294967296 ≤ x
  · go_enter Try.func40, Try.ntmps40
    go_wp2
    · go_ret; exact ⟨ret_int (len_fin _ 56 72057594037927936 _ x _ (by decide +kernel) (by omega) (by omega) h0 (by decide) (by omega) (by omega) (by omega)), rfl⟩
    · go_ret; exact ⟨ret_int (len_fin _ 48 281474976710656 _ x _ (by decide +kernel) (by omega) (by omega) h0 (by decide) (by omega) (by omega) (by omega)), rfl⟩
    · go_ret; exact ⟨ret_int (len_fin _ 40 1099511627776 _ x _ (by decide +kernel) (by omega) (by omega) h0 (by decide) (by omega) (by omega) (by omega)), rfl⟩
    · go_ret; exact ⟨ret_int (len_fin _ 32 4294967296 _ x _ (by decide +kernel) (by omega) (by omega) h0 (by decide) (by omega) (by omega) (by omega)), rfl⟩
  · go_enter Try.func40, Try.ntmps40
    go_wp2
    · go_ret; exact ⟨ret_int (len_fin _ 24 16777216 _ x _ (by decide +kernel) (by omega) (by omega) h0 (by decide) (by omega) (by omega) (by omega)), rfl⟩
    · go_ret; exact ⟨ret_int (len_fin _ 16 65536 _ x _ (by decide +kernel) (by omega) (by omega) h0 (by decide) (by omega) (by omega) (by omega)), rfl⟩
    · go_ret; exact ⟨ret_int (len_fin _ 8 256 _ x _ (by decide +kernel) (by omega) (by omega) h0 (by decide) (by omega) (by omega) (by omega)), rfl⟩
    · go_ret; exact ⟨ret_int (len_fin0 _ x _ (by decide +kernel) (by omega) h0), rfl⟩
/-- the degree, as an int -/
def dg (x : Nat) : Int := (bl x : Int) - 1
theorem dg_zero : dg 0 = -1 := by decide
theorem dg_of {x : Nat} (h : x ≠ 0) : dg x = x.log2 := by unfold dg bl; rw [if_neg h]; omega
theorem dg_lo (x : Nat) : -1 ≤ dg x := by unfold dg; omega
theorem dg_hi {x : Nat} (h : x < 18446744073709551616) : dg x ≤ 63 := by have := bl_lt (x := x) (k := 64) h; unfold dg; omega
set_option maxHeartbeats 400000 in
theorem deg_any (x : Int) (w : World) (h0 : 0 ≤ x) (h1 : x < 18446744073709551616) :
    Calls Try.prog 15 #[.int .u64 x] w fun e w' => e = .returned (.int .i64 (dg x.toNat)) ∧ w = w' := by
  have hb : bl x.toNat ≤ 64 := bl_lt (by omega)
  go_enter Try.func15, Try.ntmps15
  go_wp2_with (go_at_call 40; refine (len64_any _ _ h0 h1).mono ?_; rintro e w' ⟨rfl, rfl⟩)
  go_ret
  exact ⟨ret_int rfl, rfl⟩
end Go.Proofs.Ytpkbhihkhnkhnaa
