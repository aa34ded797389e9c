/- rabin: push, New, Roll, Sum: what they return, and what a roller holds behind them. -/
import Derived.Test.YtpkbhihkhnkhnaaRab
import Derived.Test.YtpkbhihkhnkhnaaRange
import Derived.BigRegion
import Derived.ChangeAlike
import Derived.StillTailTactics
namespace Go.Proofs.Ytpkbhihkhnkhnaa
open Go.RowKit
set_option maxHeartbeats 1000000 in
theorem push_raw (R a n o : Nat) (b : Int) (w : World) (ha : a < n) (hn : n ≤ 64) (hz : w.cell? ⟨R, a, none⟩ = some (.int .u8 o)) (hN : w.cell? ⟨R, 64, none⟩ = some (.int .i64 n)) (hA : w.cell? ⟨R, 65, none⟩ = some (.int .i64 a))
    (f1 : w.frozen? ⟨R, a, none⟩ = false) (f2 : w.frozen? ⟨R, 65, none⟩ = false) :
    Calls Try.prog 46 #[.pointer (some ⟨R, 0, none⟩), .int .u8 b] w fun e w' => e = .returned (.int .u8 o) ∧ Like w' ((w.setCell ⟨R, a, none⟩ (.int .u8 b)).setCell ⟨R, 65, none⟩ (.int .i64 (((a + 1) % n : Nat) : Int))) := by
  have e1 : (w.setCell ⟨R, a, none⟩ (.int .u8 b)).cell? ⟨R, 65, none⟩ = some (.int .i64 a) := by rw [World.cell?_setCell_other _ _ _ _ (by simp <;> omega)]; exact hA
  have e2 : (w.setCell ⟨R, a, none⟩ (.int .u8 b)).cell? ⟨R, 64, none⟩ = some (.int .i64 n) := by rw [World.cell?_setCell_other _ _ _ _ (by simp <;> omega)]; exact hN
  have e3 : (w.setCell ⟨R, a, none⟩ (.int .u8 b)).frozen? ⟨R, 65, none⟩ = false := by rw [World.frozen?_setCell]; exact f2
  have n0 : ((n : Int) == 0) = false := by rw [beq_eq_false_iff_ne]; omega
  have m1 : IntKind.i64.wrap ((a : Int) + 1) = (a : Int) + 1 := IntWalk.i64_in _ (by omega)
  have m2 : ((a : Int) + 1).tmod (n : Int) = (((a + 1) % n : Nat) : Int) := by
    rw [Int.tmod_eq_emod_of_nonneg (by omega)]; rfl
  go_enter Try.func46, Try.ntmps46
  go_wp2_with fail
  go_region
  all_goals go_wp2_with fail
  obtain ⟨W1, hW1⟩ : ∃ W1, W1 = w.setCell ⟨R, a, none⟩ (.int .u8 b) := ⟨_, rfl⟩
  rw [← hW1] at e1 e2 e3 ⊢
  have HW := Lib.hid hW1
  clear hW1
  go_region
  all_goals go_wp2_with fail
  go_ret
  rw [← HW.out]
  exact ⟨rfl, rfl, rfl, rfl, rfl⟩
/-- a roller's cells, in block R -/
def Rol (W : World) (R p n a f : Nat) (buf : Nat → Nat) : Prop :=
  R < W.heap.size ∧ (∀ i, i < 324 → W.frozen? ⟨R, i, none⟩ = false) ∧ (∀ i, i < 64 → W.cell? ⟨R, i, none⟩ = some (.int .u8 (buf i : Nat))) ∧ W.cell? ⟨R, 64, none⟩ = some (.int .i64 n) ∧ W.cell? ⟨R, 65, none⟩ = some (.int .i64 a) ∧
  W.cell? ⟨R, 66, none⟩ = some (.int .u64 p) ∧ W.cell? ⟨R, 67, none⟩ = some (.int .u64 f) ∧ (∀ b, b < 256 → W.cell? ⟨R, 68 + b, none⟩ = some (.int .u64 (outB p n b : Nat)))
theorem Rol.stays {S : Nat → Prop} {A B : World} {R p n a f : Nat} {buf : Nat → Nat} (h : Rol A R p n a f buf) (k : Kept S A B) (hs : S R) : Rol B R p n a f buf := by
  obtain ⟨h0, h1, h2, h3, h4, h5, h6, h7⟩ := h
  refine ⟨Nat.lt_of_lt_of_le h0 k.size, fun i hi => ?_, fun i hi => ?_, ?_, ?_, ?_, ?_, fun b hb => ?_⟩
  · rw [k.frozen (p := ⟨R, i, none⟩) h0 hs]; exact h1 i hi
  · rw [k.cell (p := ⟨R, i, none⟩) h0 hs]; exact h2 i hi
  · rw [k.cell (p := ⟨R, 64, none⟩) h0 hs]; exact h3
  · rw [k.cell (p := ⟨R, 65, none⟩) h0 hs]; exact h4
  · rw [k.cell (p := ⟨R, 66, none⟩) h0 hs]; exact h5
  · rw [k.cell (p := ⟨R, 67, none⟩) h0 hs]; exact h6
  · rw [k.cell (p := ⟨R, 68 + b, none⟩) h0 hs]; exact h7 b hb
theorem cell_other (w : World) (R i j : Nat) (v : Value) (h : i ≠ j) : (w.setCell ⟨R, i, none⟩ v).cell? ⟨R, j, none⟩ = w.cell? ⟨R, j, none⟩ :=
  World.cell?_setCell_other _ _ _ _ (by simp only [ne_eq, Addr.mk.injEq, true_and, and_true]; exact h)
theorem size_setCell (w : World) (a : Addr) (v : Value) : (w.setCell a v).heap.size = w.heap.size := by simp [World.setCell]
theorem Rol.pushed {W W' : World} {R p n a f b a' : Nat} {buf : Nat → Nat} (h : Rol W R p n a f buf) (ha : a < 64) (k : Like W' ((W.setCell ⟨R, a, none⟩ (.int .u8 b)).setCell ⟨R, 65, none⟩ (.int .i64 (a' : Nat)))) : Rol W' R p n a' f (upd buf a b) := by
  obtain ⟨h0, h1, h2, h3, h4, h5, h6, h7⟩ := h
  have c : ∀ j, j ≠ a → j ≠ 65 → W'.cell? ⟨R, j, none⟩ = W.cell? ⟨R, j, none⟩ := fun j g1 g2 => by
    rw [k.cell, cell_other _ _ _ _ _ (by omega), cell_other _ _ _ _ _ (by omega)]
  refine ⟨?_, fun i hi => ?_, fun i hi => ?_, ?_, ?_, ?_, ?_, fun b hb => ?_⟩
  · rw [k.heap, size_setCell, size_setCell]; exact h0
  · rw [k.frozen, World.frozen?_setCell, World.frozen?_setCell]; exact h1 i hi
  · by_cases e : i = a
    · subst e
      rw [k.cell, cell_other _ _ _ _ _ (by omega), World.cell?_setCell_same _ _ _ (h2 i hi)]
      simp [upd]
    · rw [c i e (by omega), h2 i hi]; simp [upd, e]
  · rw [c 64 (by omega) (by omega)]; exact h3
  · rw [k.cell]; exact World.cell?_setCell_same _ _ _ (by rw [cell_other _ _ _ _ _ (by omega)]; exact h4)
  · rw [c 66 (by omega) (by omega)]; exact h5
  · rw [c 67 (by omega) (by omega)]; exact h6
  · rw [c (68 + b) (by omega) (by omega)]; exact h7 b hb
theorem Rol.setF {W W' : World} {R p n a f f' : Nat} {buf : Nat → Nat} (h : Rol W R p n a f buf) (k : Like W' (W.setCell ⟨R, 67, none⟩ (.int .u64 (f' : Nat)))) : Rol W' R p n a f' buf := by
  obtain ⟨h0, h1, h2, h3, h4, h5, h6, h7⟩ := h
  have c : ∀ j, j ≠ 67 → W'.cell? ⟨R, j, none⟩ = W.cell? ⟨R, j, none⟩ := fun j g1 => by
    rw [k.cell, cell_other _ _ _ _ _ (by omega)]
  refine ⟨?_, fun i hi => ?_, fun i hi => ?_, ?_, ?_, ?_, ?_, fun b hb => ?_⟩
  · rw [k.heap, size_setCell]; exact h0
  · rw [k.frozen, World.frozen?_setCell]; exact h1 i hi
  · rw [c i (by omega)]; exact h2 i hi
  · rw [c 64 (by omega)]; exact h3
  · rw [c 65 (by omega)]; exact h4
  · rw [c 66 (by omega)]; exact h5
  · rw [k.cell]; exact World.cell?_setCell_same _ _ _ h6
  · rw [c (68 + b) (by omega)]; exact h7 b hb
theorem push_any (R p n a f b : Nat) (buf : Nat → Nat) (w : World) (h : Rol w R p n a f buf) (ha : a < n) (hn : n ≤ 64) :
    Calls Try.prog 46 #[.pointer (some ⟨R, 0, none⟩), .int .u8 b] w fun e w' => e = .returned (.int .u8 (buf a : Nat)) ∧ Rol w' R p n ((a + 1) % n) f (upd buf a b) ∧ Kept (fun i => i ≠ R) w w' := by
  have h' := h
  obtain ⟨h0, h1, h2, h3, h4, h5, h6, h7⟩ := h
  refine (push_raw R a n (buf a) b w ha hn (h2 a (by omega)) h3 h4 (h1 a (by omega)) (h1 65 (by omega))).mono ?_
  rintro e w' ⟨rfl, hk⟩
  exact ⟨rfl, h'.pushed (by omega) hk, (((Kept.refl _ w).setCell (p := ⟨R, a, none⟩) (by simp) _).setCell (p := ⟨R, 65, none⟩) (by simp) _).like hk⟩
/-- a roller that was given g -/
def RolG (W : World) (R p n : Nat) (g : List UInt8) : Prop := ∃ a buf, Rol W R p n a (fp p (lastN n g)) buf ∧ Win n a buf (lastN n g)
set_option maxRecDepth 100000 in
set_option maxHeartbeats 2000000 in
theorem roll_any (R p n : Nat) (g : List UInt8) (s : ByteArray) (w : World) (hp : p < 18446744073709551616) (h1 : 8 ≤ dg p) (h2 : dg p ≤ 56) (hn : n ≤ 64) (hs : s.size ≤ 4000) (h : RolG w R p n g) :
    Calls Try.prog 31 #[.pointer (some ⟨R, 0, none⟩), .string s] w fun e w' => e = .returned (.tuple #[.int .u64 (fp p (lastN n (g ++ s.data.toList)) : Nat), .int .i64 0]) ∧ RolG w' R p n (g ++ s.data.toList) ∧ Kept (fun i => i ≠ R) w w' := by
  obtain ⟨q0, q1, q2, q3, q4⟩ := dg_56 (by omega) h2
  obtain ⟨W1, cap, hcv, hcell, hbl, hz⟩ := conv_bytes s w
  have hR : R < w.heap.size := by obtain ⟨a, buf, hr, _⟩ := h; exact hr.1
  have HG := Lib.hid h
  have HZ := Lib.hid hz
  clear h hz
  go_enter Try.func31, Try.ntmps31
  go_wp2_with fail
  rw [hcv.out]
  go_wp2_with fail
  go_loopw [7, 8, 14] (fun _ _ i wr => ∃ k : Nat, k ≤ s.size ∧ i = .int .i64 k ∧ RolG wr R p n (g ++ s.data.toList.take k) ∧ Kept (fun i => i ≠ R) W1 wr) (fun _ _ i _ => s.size - (intOf i).toNat)
  case atStart =>
    refine ⟨0, by omega, rfl, ?_, Kept.refl _ _⟩
    obtain ⟨a, buf, hr, hw⟩ := HG.out
    rw [List.take_zero, List.append_nil]
    exact ⟨a, buf, hr.stays (Kept.of_below' (S := fun _ => True) hbl) trivial, hw⟩
  case round =>
    obtain ⟨k, hk, rfl, hg, hkp⟩ := hrel
    by_cases hlt : k < s.size
    · have hc : wr.cell? ⟨w.heap.size, k, none⟩ = some (.int .u8 ((s.data.toList.getD k 0).toNat : Nat)) := by
        rw [hkp.cell (p := ⟨w.heap.size, k, none⟩) (by have := HZ.out; show w.heap.size < _; omega) (by show w.heap.size ≠ R; omega)]
        exact hcell.out k hlt
      have hlen : k < s.data.toList.length := by simpa using hlt
      have HT := Lib.hid (take_snoc s.data.toList k 0 hlen)
      generalize s.data.toList.getD k 0 = b at *
      have hb : b.toNat < 256 := b.toNat_lt
      obtain ⟨a, buf, hr, hw⟩ := hg
      obtain ⟨c, t, hl, ho, ht⟩ := hw.old
      have hn1 : 1 ≤ n := by omega
      have HW := Lib.hid (lastN_snoc n (g ++ s.data.toList.take k) b hn1)
      rw [List.append_assoc, ← HT.out] at HW
      have HF := Lib.hid (fp_roll q0 b ht (show fp p (lastN n (g ++ s.data.toList.take k)) = fp p (c :: t) by rw [hl]))
      rw [show t ++ [b] = lastN n (g ++ s.data.toList.take (k + 1)) by rw [HW.out, hl]; rfl, ← ho] at HF
      have HP := hw.push b
      rw [← HW.out] at HP
      have HP' := Lib.hid HP
      have hfb : fp p (lastN n (g ++ s.data.toList.take k)) < 72057594037927936 := pm_56 _ q0 q4
      have C1 := Lib.hid (push_any R p n a _ b.toNat buf wr hr hw.1 hn)
      have hoc : buf a < 256 := by rw [ho]; exact c.toNat_lt
      generalize fp p (lastN n (g ++ s.data.toList.take k)) = f at *
      generalize buf a = o at *
      clear HP hr hw hl ho HT HW
      go_wp2_with fail
      refine C1.out.mono ?_
      rintro e w2 ⟨rfl, hr2, hk2⟩
      obtain ⟨r0, r1, r2, r3, r4, r5, r6, r7⟩ := hr2
      have r7' := r7 o hoc
      have r67 := r1 67 (by omega)
      have hr2 := Lib.hid (show Rol w2 R p n ((a + 1) % n) f (upd buf a b.toNat) from ⟨r0, r1, r2, r3, r4, r5, r6, r7⟩)
      clear r1 r2 r7 r0 r3 r4
      have hoI : (o : Int) < 256 := by omega
      have C2 := Lib.hid (fun W : World => (next_any p f b.toNat W (by omega) (by omega) (by omega) (by omega) (by omega) (by omega)).mono (R' := fun e w'' => e = .returned (.int .u64 (Gf2.pm (f * 256 + b.toNat) p : Nat)) ∧ w'' = W) (fun e w' h => ⟨h.1, h.2.symm⟩))
      have hx1 := pm_56 (f * 256 + b.toNat) q0 q4
      have hx2 : outB p n o < 72057594037927936 := pm_56 _ q0 q4
      have hx := u64_xor_nat (Gf2.pm (f * 256 + b.toNat) p) (outB p n o) (by omega) (by omega)
      rw [HF.out] at hx
      generalize Gf2.pm (f * 256 + b.toNat) p = z at *
      generalize outB p n o = oo at *
      go_wp2_with fail
      go_still_tail 20, (by kernel_rfl)
      still_call (C2.out _)
      repeat still_step
      refine wpStill_nil ?_
      go_wp2_with fail
      have hlk : Like (w2.setCell ⟨R, 67, none⟩ (.int .u64 (fp p (lastN n (g ++ s.data.toList.take (k + 1))) : Nat))).drew (w2.setCell ⟨R, 67, none⟩ (.int .u64 (fp p (lastN n (g ++ s.data.toList.take (k + 1))) : Nat))) := ⟨rfl, rfl, rfl, rfl⟩
      refine ⟨⟨k + 1, by omega, by go_num, ⟨_, _, hr2.out.setF hlk, HP'.out⟩, ?_⟩, by simp only [intOf]; omega⟩
      exact ((hkp.trans hk2).setCell (p := ⟨R, 67, none⟩) (by simp) _).like hlk
    · obtain rfl : k = s.size := by omega
      have HE := Lib.hid (show s.data.toList.take s.size = s.data.toList from List.take_of_length_le (by simp))
      rw [HE.out] at hg
      obtain ⟨a, buf, hr, hw⟩ := hg
      have r6 : wr.cell? ⟨R, 67, none⟩ = some (.int .u64 (fp p (lastN n (g ++ s.data.toList)) : Nat)) := hr.2.2.2.2.2.2.1
      have HR := Lib.hid (show RolG wr R p n (g ++ s.data.toList) from ⟨a, buf, hr, hw⟩)
      clear hr hw
      obtain ⟨f, hf⟩ : ∃ f, f = fp p (lastN n (g ++ s.data.toList)) := ⟨_, rfl⟩
      rw [← hf] at r6
      have HF := Lib.hid hf
      clear hf
      go_wp2_with fail
      go_ret2
      exact ⟨ret_u2 (by rw [HF.out]), HR.out, (Kept.of_below' hbl).trans hkp⟩
end Go.Proofs.Ytpkbhihkhnkhnaa
