/- maslinref08: Deg, May, Of, Last: what they return. -/
import Derived.Test.YtpkbhihkhnkhnaaRab
import Derived.Test.YtpkbhihkhnkhnaaBytes
import Derived.Laws.IdiomStrings
namespace Go.Proofs.Ytpkbhihkhnkhnaa
open Go.RowKit
theorem ret_str {a b : ByteArray} (h : a = b) : Ending.returned (.string a) = .returned (.string b) := by rw [h]
theorem r8deg_yes (p : Int) (w : World) (h0 : 0 ≤ p) (h1 : p < 18446744073709551616) (h : 8 ≤ dg p.toNat) (h' : dg p.toNat ≤ 56) :
    Calls Try.prog 28 #[.int .u64 p] w fun e w' => e = .returned (.bool true) ∧ w = w' := by
  go_enter Try.func28, Try.ntmps28
  go_wp2_with (go_at_call 16; refine (rdeg_any _ _ (by omega) (by omega)).mono ?_; rintro e w' ⟨rfl, rfl⟩)
  go_ret
  exact ⟨rfl, rfl⟩
theorem r8deg_no (p : Int) (w : World) (h0 : 0 ≤ p) (h1 : p < 18446744073709551616) (h : dg p.toNat < 8 ∨ 56 < dg p.toNat) :
    Calls Try.prog 28 #[.int .u64 p] w fun e w' => e = .returned (.bool false) ∧ w = w' := by
  rcases h with h | h
  · go_enter Try.func28, Try.ntmps28
    go_wp2_with (go_at_call 16; refine (rdeg_any _ _ (by omega) (by omega)).mono ?_; rintro e w' ⟨rfl, rfl⟩)
    go_ret
    exact ⟨rfl, rfl⟩
  · have h2 : 8 ≤ dg p.toNat := by omega
    have h3 : decide (dg p.toNat ≤ 56) = false := by simp; omega
    go_enter Try.func28, Try.ntmps28
    go_wp2_with (go_at_call 16; refine (rdeg_any _ _ (by omega) (by omega)).mono ?_; rintro e w' ⟨rfl, rfl⟩)
    go_ret
    exact ⟨rfl, rfl⟩
theorem r8may_yes (p n : Int) (w : World) (h0 : 0 ≤ p) (h1 : p < 18446744073709551616) (h : RMay p.toNat n) :
    Calls Try.prog 27 #[.int .u64 p, .int .i64 n] w fun e w' => e = .returned (.bool true) ∧ w = w' := by
  obtain ⟨g1, g2, g3, g4⟩ := h
  go_enter Try.func27, Try.ntmps27
  go_wp2_with (go_at_call 28; refine (r8deg_yes _ _ h0 h1 g1 g2).mono ?_; rintro e w' ⟨rfl, rfl⟩)
  go_ret
  exact ⟨rfl, rfl⟩
theorem r8may_no (p n : Int) (w : World) (h0 : 0 ≤ p) (h1 : p < 18446744073709551616) (h : ¬ RMay p.toNat n) :
    Calls Try.prog 27 #[.int .u64 p, .int .i64 n] w fun e w' => e = .returned (.bool false) ∧ w = w' := by
  by_cases hd : 8 ≤ dg p.toNat ∧ dg p.toNat ≤ 56
  · have C := Lib.hid (fun w => r8deg_yes p w h0 h1 hd.1 hd.2)
    have hn : n < 1 ∨ 1 ≤ n ∧ 64 < n := by
      unfold RMay at h; omega
    clear h hd h0 h1
    rcases hn with hn | ⟨hn1, hn⟩
    · go_enter Try.func27, Try.ntmps27
      go_wp2_with (go_at_call 28; refine (C.out _).mono ?_; rintro e w' ⟨rfl, rfl⟩)
      go_ret
      exact ⟨rfl, rfl⟩
    · have hn2 : decide (n ≤ 64) = false := by simp; omega
      go_enter Try.func27, Try.ntmps27
      go_wp2_with (go_at_call 28; refine (C.out _).mono ?_; rintro e w' ⟨rfl, rfl⟩)
      go_ret
      exact ⟨rfl, rfl⟩
  · have C := Lib.hid (fun w => r8deg_no p w h0 h1 (by omega))
    clear h hd h0 h1
    go_enter Try.func27, Try.ntmps27
    go_wp2_with (go_at_call 28; refine (C.out _).mono ?_; rintro e w' ⟨rfl, rfl⟩)
    go_ret
    exact ⟨rfl, rfl⟩
theorem fp_bit {p x b : Nat} (hp : p ≠ 0) (hb : b < 2) : Gf2.pm (Gf2.pm x p * 2 + b) p = Gf2.pm (x * 2 + b) p := by
  have e : ∀ y, y * 2 + b = y * 2 ^^^ b := fun y => by
    have := Gf2.bit_split (y * 2 + b)
    rw [show (y * 2 + b) % 2 = b by omega, show (y * 2 + b) / 2 = y by omega] at this
    rw [this, Nat.xor_comm, Nat.mul_comm]
  rw [e, e, Gf2.pm_xor _ _ hp, Gf2.pm_xor _ _ hp, Nat.mul_comm, Gf2.pm_two _ hp, Nat.mul_comm]
theorem or_bit {f b : Nat} (hf : f < 72057594037927936) (hb : b < 2) : bits .or .u64 ((f : Int) * 2) (b : Int) = ((f * 2 + b : Nat) : Int) := by
  have h := u64_or_nat (f * 2) b (by omega) (by omega)
  rw [nat_join 1 (f * 2) b (by omega) (by omega)] at h
  rw [← h, Int.natCast_mul]; rfl
/-- the value behind the upper bits of one byte more: j bits are left -/
def vb (v b j : Nat) : Nat := v * 2 ^ (8 - j) + b / 2 ^ j
theorem vb_step (v b j : Nat) (hj : j < 8) : vb v b j = vb v b (j + 1) * 2 + b / 2 ^ j % 2 := by
  unfold vb
  have e : 2 ^ (8 - j) = 2 ^ (8 - (j + 1)) * 2 := by rw [← Nat.pow_succ]; congr 1; omega
  have e2 : b / 2 ^ (j + 1) = b / 2 ^ j / 2 := by rw [Nat.div_div_eq_div_mul, Nat.pow_succ]
  rw [e, e2, ← Nat.mul_assoc]; omega
set_option maxHeartbeats 1000000 in
theorem r8of_any (p : Int) (s : ByteArray) (w : World) (hp0 : 0 ≤ p) (hp : p < 18446744073709551616) (h1 : 8 ≤ dg p.toNat) (h2 : dg p.toNat ≤ 56) (hs : s.size ≤ 4000) :
    Calls Try.prog 29 #[.int .u64 p, .string s] w fun e w' => e = .returned (.int .u64 (fp p.toNat s.data.toList : Nat)) ∧ w = w' := by
  obtain ⟨p, rfl⟩ := Int.eq_ofNat_of_zero_le hp0
  rw [Int.toNat_natCast] at h1 h2 ⊢
  obtain ⟨q0, q1, q2, q3, q4⟩ := dg_56 (by omega) h2
  clear hp0 hp
  go_enter Try.func29, Try.ntmps29
  go_wp2_with fail
  go_loop [5, 6, 7] (fun x i _ => ∃ k : Nat, k ≤ s.size ∧ x = .int .u64 (fp p (s.data.toList.take k) : Nat) ∧ i = .int .i64 k) (fun _ i _ => s.size - (intOf i).toNat)
  case atStart => exact ⟨0, by omega, by rw [List.take_zero, fp_nil]; rfl, rfl⟩
  case round =>
    obtain ⟨k, hk, rfl, rfl⟩ := hrel
    by_cases hlt : k < s.size
    · have hlen : k < s.data.toList.length := by simpa using hlt
      have HE := Lib.hid (take_snoc s.data.toList k 0 hlen)
      have HG : s.data.toList.getD k 0 = s[k] := by simp [List.getD, hlt]; rfl
      have hb := s[k].toNat_lt
      have HV := Lib.hid (show fp p (s.data.toList.take (k + 1)) = Gf2.pm (vb (val (s.data.toList.take k)) s[k].toNat 0) p by
        rw [HE.out, HG, fp, val_snoc]; simp [vb])
      have H8 := Lib.hid (show fp p (s.data.toList.take k) = Gf2.pm (vb (val (s.data.toList.take k)) s[k].toNat 8) p by
        unfold vb; rw [show s[k].toNat / 2 ^ 8 = 0 by omega]; simp [fp])
      clear HG HE
      rw [H8.out]
      generalize val (s.data.toList.take k) = v at *
      go_wp2_with fail
      go_loop [5, 7] (fun x i => ∃ j : Nat, j ≤ 8 ∧ x = .int .u64 (Gf2.pm (vb v s[k].toNat j) p : Nat) ∧ i = .int .i64 ((j : Int) - 1)) (fun _ i => (intOf i + 1).toNat)
      case atStart => exact ⟨8, by omega, rfl, rfl⟩
      case round =>
        obtain ⟨j, hj, rfl, rfl⟩ := hrel
        by_cases hj0 : 0 < j
        · obtain ⟨m, rfl⟩ : ∃ m, j = m + 1 := ⟨j - 1, by omega⟩
          have em : ((m + 1 : Nat) : Int) - 1 = (m : Int) := by omega
          rw [em]
          clear em hj0
          have hf := pm_56 (vb v s[k].toNat (m + 1)) q0 q4
          have hbc := bit_cast s[k].toNat m
          have hbt : s[k].toNat / 2 ^ m % 2 < 2 := Nat.mod_lt _ (by omega)
          have HN := Lib.hid (show Gf2.pm (Gf2.pm (vb v s[k].toNat (m + 1)) p * 2 + s[k].toNat / 2 ^ m % 2) p = Gf2.pm (vb v s[k].toNat m) p by
            rw [fp_bit q0 hbt, ← vb_step _ _ _ (by omega)])
          have ho := or_bit hf hbt
          generalize s[k].toNat / 2 ^ m % 2 = bt at *
          generalize Gf2.pm (vb v s[k].toNat (m + 1)) p = f at *
          go_wp2_with (go_at_call 12; refine (rmod_any _ _ _ (by omega) (by omega) (by omega) (by omega)).mono ?_; rintro e w' ⟨rfl, rfl⟩)
          exact ⟨⟨m, by omega, by rw [← HN.out], rfl⟩, by simp only [intOf]; omega⟩
        · obtain rfl : j = 0 := by omega
          go_wp2_with fail
          exact ⟨⟨k + 1, by omega, by rw [HV.out], by go_num⟩, by simp only [intOf]; omega⟩
    · obtain rfl : k = s.size := by omega
      have HE := Lib.hid (show s.data.toList.take s.size = s.data.toList from List.take_of_length_le (by simp))
      rw [HE.out]
      go_wp2_with fail
      go_ret
      exact ⟨rfl, rfl⟩
theorem infoU8 : (Try.prog.info? 5).map (fun i => (i.zero, i.size, i.bytes)) = some (some (.int .u8 0), 1, 1) := by kernel_rfl
theorem make_zero (n : Nat) (w : World) (hn : n ≤ 4000) : ∃ W1 : World, Hid ((Instr.makeSlice 46 (.int .i64 n) (.int .i64 n)).run Try.prog w = .ok (.slice (some ⟨w.heap.size, 0, none⟩) n n) W1) ∧
    Hid ((convert 46 9 (.slice (some ⟨w.heap.size, 0, none⟩) n n)).run Try.prog W1 = .ok (.string ⟨(List.replicate n (0 : UInt8)).toArray⟩) W1) ∧ Below w.heap.size w W1 ∧ W1.heap.size = w.heap.size + 1 := by
  obtain ⟨i0, hi, hz0, hz1, hz2⟩ := info_parts infoU8
  have h := run_make (P := Try.prog) w 46 5 i0 (.int .u8 0) Try.underlying46 hi hz0 .i64 .i64 n n (by omega) (by omega) (by rw [hz2]; omega) (by omega)
  rw [Int.toNat_natCast, hz1, Nat.mul_one] at h
  refine ⟨_, h, ?_, (Below.refl _ _).alloc (Nat.le_refl _) _, by simp⟩
  have := run_convert_bytes_back (P := Try.prog) (w.alloc (.cells (madeCells (Value.cells (.int .u8 0)) n) 5)) 46 9 5 ⟨w.heap.size, 0, none⟩ n (List.replicate n (0 : UInt8)) Try.underlying46 Try.underlying5 Try.underlying9 (fun j hj => by
    rw [List.length_replicate] at hj
    rw [show (⟨w.heap.size, 0, none⟩ : Addr).add j = ⟨w.heap.size, j, none⟩ from by unfold Addr.add; split <;> simp_all, World.cell?_alloc_mark]
    simp [madeCells, hj, Nat.mod_one, Value.cells])
  rw [List.length_replicate] at this
  exact this
set_option maxRecDepth 100000 in
set_option maxHeartbeats 400000 in
theorem last_any (s : ByteArray) (n : Int) (w : World) (hn : 1 ≤ n) (hn2 : n ≤ 64) (hs : s.size ≤ 4000) :
    Calls Try.prog 36 #[.string s, .int .i64 n] w fun e w' => e = .returned (.string ⟨(lastN n.toNat s.data.toList).toArray⟩) ∧ Below w.heap.size w w' := by
  obtain ⟨n, rfl⟩ := Int.eq_ofNat_of_zero_le (show 0 ≤ n by omega)
  rw [Int.toNat_natCast]
  have hn' : 1 ≤ n := by omega
  have hn2' : n ≤ 64 := by omega
  clear hn hn2
  obtain ⟨W1, m1, m2, hb1, hz⟩ := make_zero n w (by omega)
  have HZ := Lib.hid hz
  clear hz
  obtain ⟨Z, hZ⟩ : ∃ Z : ByteArray, Z = ⟨(List.replicate n (0 : UInt8)).toArray⟩ := ⟨_, rfl⟩
  rw [← hZ] at m2
  have HS := Lib.hid (show Z.size = n by rw [hZ]; show (List.replicate n (0 : UInt8)).toArray.size = n; simp)
  have HZ2 := Lib.hid hZ
  have hZn : n ≤ Z.size := by have := HS.out; omega
  have hZn2 : Z.size ≤ n := by have := HS.out; omega
  clear hZ
  go_enter Try.func36, Try.ntmps36
  go_wp2_with fail
  rw [m1.out]
  go_wp2_with fail
  rw [m2.out]
  go_wp2_with fail
  go_ret
  refine ⟨?_, hb1⟩
  refine ret_str (ba_ext ?_)
  rw [ba_extract, ba_append, ba_mk, HS.out, HZ2.out, ba_mk, lastN]
  rw [List.take_of_length_le (by simp), show n + s.size - n = s.data.toList.length by rw [ba_size]; omega]
end Go.Proofs.Ytpkbhihkhnkhnaa
