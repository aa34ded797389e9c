/- rabin.New: what it returns, and what the roller holds. -/
import Derived.Test.YtpkbhihkhnkhnaaRoll
import Derived.Test.YtpkbhihkhnkhnaaUp
namespace Go.Proofs.Ytpkbhihkhnkhnaa
open Go.RowKit
def zWin : Array Value := Array.replicate 64 (.int .u8 0) ++ #[.int .i64 0, .int .i64 0]
def zRol : Array Value := zWin ++ #[.int .u64 0, .int .u64 0] ++ Array.replicate 256 (.int .u64 0)
theorem run_zWin (W : World) : (zeroValue 63).run Try.prog W = .ok (.agg zWin) W := by kernel_rfl
theorem run_zRol (W : World) : (zeroValue 66).run Try.prog W = .ok (.agg zRol) W := by kernel_rfl
theorem zWin_size : zWin.size = 66 := by simp [zWin]
theorem zRol_size : zRol.size = 324 := by simp [zRol, zWin]
theorem fill_size (l : List (Value × Nat)) (z : Array Value) : (l.foldl (fun cs x => cs.setIfInBounds x.snd x.fst) z).size = z.size := by
  induction l generalizing z with
  | nil => rfl
  | cons x l ih => rw [List.foldl_cons, ih]; simp
theorem fill_size' (l : Array (Value × Nat)) (z : Array Value) (n : Nat) (h : l.size = n) : (Array.foldl (fun cs x => cs.setIfInBounds x.snd x.fst) z l 0 n).size = z.size := by
  subst h; rw [← Array.foldl_toList]; exact fill_size _ _
/-- a new roller's cells, k of the table's numbers being laid -/
def rolZ (n p : Nat) : Array Value := Array.replicate 64 (.int .u8 0) ++ #[.int .i64 n, .int .i64 0, .int .u64 p, .int .u64 0] ++ Array.replicate 256 (.int .u64 0)
theorem rolZ_eq (n p : Nat) : (Array.foldl (fun cs x => cs.setIfInBounds x.snd x.fst) zRol (zWin.setIfInBounds 64 (.int .i64 n)).zipIdx 0 66).setIfInBounds 66 (.int .u64 p) = rolZ n p := by kernel_rfl
def RolK (W : World) (R p n k : Nat) : Prop :=
  R < W.heap.size ∧ (∀ i, i < 324 → W.frozen? ⟨R, i, none⟩ = false) ∧ (∀ i, i < 64 → W.cell? ⟨R, i, none⟩ = some (.int .u8 ((0 : Nat) : Int))) ∧ W.cell? ⟨R, 64, none⟩ = some (.int .i64 n) ∧ W.cell? ⟨R, 65, none⟩ = some (.int .i64 ((0 : Nat) : Int)) ∧
  W.cell? ⟨R, 66, none⟩ = some (.int .u64 p) ∧ W.cell? ⟨R, 67, none⟩ = some (.int .u64 ((0 : Nat) : Int)) ∧ (∀ b, b < 256 → W.cell? ⟨R, 68 + b, none⟩ = some (.int .u64 ((if b < k then outB p n b else 0 : Nat) : Int)))
theorem RolK.start {W : World} {R p n : Nat} (h : W.heap[R]? = some (.cells (rolZ n p) 66 (0, 0))) : RolK W R p n 0 := by
  have hc : ∀ i, W.cell? ⟨R, i, none⟩ = (rolZ n p)[i]? := fun i => by simp [World.cell?, h]
  have hf : ∀ i, W.frozen? ⟨R, i, none⟩ = false := fun i => by simp [World.frozen?, h]
  refine ⟨(Array.getElem?_eq_some_iff.1 h).1, fun i _ => hf i, fun i hi => ?_, ?_, ?_, ?_, ?_, fun b hb => ?_⟩
  · rw [hc, rolZ, Array.getElem?_append_left (by simp; omega), Array.getElem?_append_left (by simpa using hi)]; simp [hi]
  · rw [hc]; simp [rolZ]
  · rw [hc]; simp [rolZ]
  · rw [hc]; simp [rolZ]
  · rw [hc]; simp [rolZ]
  · rw [hc, rolZ, Array.getElem?_append_right (by simp)]; simp [hb]
theorem RolK.stays {S : Nat → Prop} {A B : World} {R p n k : Nat} (h : RolK A R p n k) (q : Kept S A B) (hs : S R) : RolK B R p n k := by
  obtain ⟨h0, h1, h2, h3, h4, h5, h6, h7⟩ := h
  refine ⟨Nat.lt_of_lt_of_le h0 q.size, fun i hi => ?_, fun i hi => ?_, ?_, ?_, ?_, ?_, fun b hb => ?_⟩
  · rw [q.frozen (p := ⟨R, i, none⟩) h0 hs]; exact h1 i hi
  · rw [q.cell (p := ⟨R, i, none⟩) h0 hs]; exact h2 i hi
  · rw [q.cell (p := ⟨R, 64, none⟩) h0 hs]; exact h3
  · rw [q.cell (p := ⟨R, 65, none⟩) h0 hs]; exact h4
  · rw [q.cell (p := ⟨R, 66, none⟩) h0 hs]; exact h5
  · rw [q.cell (p := ⟨R, 67, none⟩) h0 hs]; exact h6
  · rw [q.cell (p := ⟨R, 68 + b, none⟩) h0 hs]; exact h7 b hb
theorem RolK.next {W W' : World} {R p n k : Nat} (h : RolK W R p n k) (hk : k < 256) (q : Like W' (W.setCell ⟨R, 68 + k, none⟩ (.int .u64 (outB p n k : Nat)))) : RolK W' R p n (k + 1) := by
  obtain ⟨h0, h1, h2, h3, h4, h5, h6, h7⟩ := h
  have c : ∀ j, j ≠ 68 + k → W'.cell? ⟨R, j, none⟩ = W.cell? ⟨R, j, none⟩ := fun j g1 => by
    rw [q.cell, cell_other _ _ _ _ _ (by omega)]
  refine ⟨?_, fun i hi => ?_, fun i hi => ?_, ?_, ?_, ?_, ?_, fun b hb => ?_⟩
  · rw [q.heap, size_setCell]; exact h0
  · rw [q.frozen, World.frozen?_setCell]; exact h1 i hi
  · rw [c i (by omega)]; exact h2 i hi
  · rw [c 64 (by omega)]; exact h3
  · rw [c 65 (by omega)]; exact h4
  · rw [c 66 (by omega)]; exact h5
  · rw [c 67 (by omega)]; exact h6
  · by_cases e : b = k
    · subst e
      rw [q.cell, World.cell?_setCell_same _ _ _ (h7 b hb), if_pos (by omega)]
    · rw [c (68 + b) (by omega), h7 b hb]
      by_cases hlt : b < k
      · rw [if_pos hlt, if_pos (by omega)]
      · rw [if_neg hlt, if_neg (by omega)]
theorem RolK.done {W : World} {R p n : Nat} (h : RolK W R p n 256) (hn : 1 ≤ n) : RolG W R p n [] := by
  obtain ⟨h0, h1, h2, h3, h4, h5, h6, h7⟩ := h
  have e : fp p (lastN n []) = 0 := by rw [lastN_nil, fp, val_replicate, Gf2.pm_zero]
  refine ⟨0, fun _ => 0, ⟨h0, h1, h2, h3, h4, h5, by rw [e]; exact h6, fun b hb => ?_⟩, by rw [lastN_nil]; exact Win.new n hn⟩
  rw [h7 b hb, if_pos hb]
theorem leaves_any (b far p bf bp : Nat) (w : World) (hb : b < 256) (hf : far < 72057594037927936) (hp : p < 18446744073709551616) (h1 : 1 ≤ dg p) (h2 : dg p ≤ 56) (c1 : w.cell? ⟨bf, 0, none⟩ = some (.int .u64 far)) (c2 : w.cell? ⟨bp, 0, none⟩ = some (.int .u64 p)) :
    Calls Try.prog 45 #[.int .u8 b, .pointer (some ⟨bf, 0, none⟩), .pointer (some ⟨bp, 0, none⟩)] w fun e w' => e = .returned (.int .u64 (Gf2.pm (Gf2.cm far b) p : Nat)) ∧ w' = w := by
  have C := Lib.hid (fun W => mul_any far b p W (by omega) (by omega) (by omega) (by omega) (by omega) (by omega) (by rw [Int.toNat_natCast]; exact h1) (by rw [Int.toNat_natCast]; exact h2))
  simp only [Int.toNat_natCast] at C
  go_enter Try.func45, Try.ntmps45
  go_wp2_with fail
  refine (C.out _).mono ?_
  rintro e w' ⟨rfl, rfl⟩
  go_wp2_with fail
  go_ret
  exact ⟨rfl, rfl⟩
set_option maxRecDepth 100000 in
set_option maxHeartbeats 400000 in
theorem new_any (p n : Nat) (w : World) (hp : p < 18446744073709551616) (h : RMay p n) :
    Calls Try.prog 30 #[.int .u64 p, .int .i64 n] w fun e w' => ∃ R, e = .returned (.tuple #[.pointer (some ⟨R, 0, none⟩), .int .i64 0]) ∧ w.heap.size ≤ R ∧ RolG w' R p n [] ∧ Below w.heap.size w w' := by
  have C1 := Lib.hid (fun W => check_yes p n W (by omega) (by omega) h)
  obtain ⟨g1, g2, g3, g4⟩ := h
  have hn1 : 1 ≤ n := by omega
  have hn2 : n ≤ 64 := by omega
  clear g3 g4
  have C2 := Lib.hid (fun W => up_any (8 * (n : Int)) p W (by omega) (by omega) (by omega) (by omega) (by rw [Int.toNat_natCast]; omega) (by rw [Int.toNat_natCast]; omega))
  rw [show (8 * (n : Int)).toNat = 8 * n by omega, Int.toNat_natCast] at C2
  obtain ⟨zw, z1, z3, zz1⟩ : ∃ zw : Array Value, (∀ W, (zeroValue 63).run Try.prog W = .ok (.agg zw) W) ∧ zw.size = 66 ∧ Hid (zw = zWin) := ⟨zWin, run_zWin, zWin_size, rfl⟩
  obtain ⟨zr, z2, z4, zz2⟩ : ∃ zr : Array Value, (∀ W, (zeroValue 66).run Try.prog W = .ok (.agg zr) W) ∧ zr.size = 324 ∧ Hid (zr = zRol) := ⟨zRol, run_zRol, zRol_size, rfl⟩
  have z5 := fill_size' (zw.setIfInBounds 64 (.int .i64 (n : Int))).zipIdx zr 66 (by simp [z3])
  rw [z4] at z5
  have z6 := Lib.hid (rolZ_eq n p)
  rw [← zz1.out, ← zz2.out] at z6
  go_enter Try.func30, Try.ntmps30
  go_wp2_with fail
  refine (C1.out _).mono ?_
  rintro e w' ⟨rfl, rfl⟩
  go_wp2_with fail
  rw [z6.out]
  clear z1 z2 z3 z4 z5 z6 zz1 zz2
  refine (C2.out _).mono ?_
  rintro e w3 ⟨rfl, hb3⟩
  go_wp2_with fail
  have hz3 : w.heap.size + 2 ≤ w3.heap.size := by have := hb3.size; simp at this; omega
  have hK0 : RolK w3 (w.heap.size + 1) p n 0 := by
    refine RolK.start ?_
    rw [hb3.block (w.heap.size + 1) (by simp)]
    have := World.alloc_heap_new (w.alloc (.cells #[.int .u64 p] 22)) (.cells (rolZ n p) 66)
    rwa [World.size_alloc] at this
  have hP0 : w3.cell? ⟨w.heap.size, 0, none⟩ = some (.int .u64 p) := by
    rw [hb3.cell (p := ⟨w.heap.size, 0, none⟩) (by simp; omega)]
    exact ((Boxed.new w _ _).alloc _).cell
  have hb4 : Below w.heap.size w w3 := (((Below.refl _ _).alloc (Nat.le_refl _) _).alloc (by simp) _).trans (hb3.mono (by simp; omega))
  have hfar := pm_56 (2 ^ (8 * n)) (p := p) (dg_56 (by omega) g2).1 (dg_56 (p := p) (by omega) g2).2.2.2.2
  have HO : Hid (∀ b, outB p n b = Gf2.pm (Gf2.cm (Gf2.pm (2 ^ (8 * n)) p) b) p) := fun b => rfl
  obtain ⟨far, hfe⟩ : ∃ far, far = Gf2.pm (2 ^ (8 * n)) p := ⟨_, rfl⟩
  rw [← hfe] at hfar HO ⊢
  have HFE := Lib.hid hfe
  clear hfe hb3
  obtain ⟨W4, hW4⟩ : ∃ W4, W4 = w3.alloc (.cells #[.int .u64 far] 22) := ⟨_, rfl⟩
  have hF4 : W4.cell? ⟨w3.heap.size, 0, none⟩ = some (.int .u64 far) := by rw [hW4]; exact (Boxed.new w3 _ _).cell
  have hkw : Kept (fun _ => True) w3 W4 := by rw [hW4]; exact (Kept.refl _ _).alloc _
  have hz4 : w3.heap.size < W4.heap.size := by rw [hW4]; simp
  have hK4 := hK0.stays hkw trivial
  have hP4 : W4.cell? ⟨w.heap.size, 0, none⟩ = some (.int .u64 p) := by rw [hkw.cell (p := ⟨w.heap.size, 0, none⟩) (by show w.heap.size < _; omega) trivial]; exact hP0
  have hb5 : Below w.heap.size w W4 := hb4.trans (hkw.below (by omega) (fun _ _ => trivial))
  rw [← hW4]
  clear hW4 hkw hb4 hP0 hK0
  go_loopw [11, 31] (fun _ i wr => ∃ k : Nat, k ≤ 256 ∧ i = .int .i64 k ∧ RolK wr (w.heap.size + 1) p n k ∧ Kept (fun i => i ≠ w.heap.size + 1) W4 wr) (fun _ i _ => 256 - (intOf i).toNat)
  case atStart => exact ⟨0, by omega, rfl, hK4, Kept.refl _ _⟩
  case round =>
    obtain ⟨k, hk, rfl, hK, hkp⟩ := hrel
    by_cases hlt : k < 256
    · have c1 : wr.cell? ⟨w3.heap.size, 0, none⟩ = some (.int .u64 far) := by
        rw [hkp.cell (p := ⟨w3.heap.size, 0, none⟩) hz4 (by show w3.heap.size ≠ _; omega)]; exact hF4
      have c2 : wr.cell? ⟨w.heap.size, 0, none⟩ = some (.int .u64 p) := by
        rw [hkp.cell (p := ⟨w.heap.size, 0, none⟩) (by show w.heap.size < _; omega) (by show w.heap.size ≠ _; omega)]; exact hP4
      have C5 := Lib.hid (leaves_any k far p w3.heap.size w.heap.size wr.drew hlt hfar hp (by omega) g2 c1 c2)
      rw [← HO.out k] at C5
      have c3 := hK.2.2.2.2.2.2.2 k hlt
      have f3 := hK.2.1 (68 + k) (by omega)
      have HKK := Lib.hid hK
      have hltI : (k : Int) < 256 := by omega
      have hwk : IntKind.u8.wrap (k : Int) = k := by simp [IntKind.wrap, IntKind.bits, IntKind.signed]; omega
      clear hK c1 c2
      obtain ⟨v3, hv3⟩ : ∃ v3 : Int, v3 = ((if k < k then outB p n k else 0 : Nat) : Int) := ⟨_, rfl⟩
      rw [← hv3] at c3
      clear hv3
      go_wp2_with fail
      go_still_tail 9, (by kernel_rfl)
      still_call C5.out
      repeat still_step
      refine wpStill_nil ?_
      go_wp2_with fail
      have hlk : Like (wr.setCell ⟨w.heap.size + 1, 68 + k, none⟩ (.int .u64 (outB p n k : Nat))).drew (wr.setCell ⟨w.heap.size + 1, 68 + k, none⟩ (.int .u64 (outB p n k : Nat))) := ⟨rfl, rfl, rfl, rfl⟩
      refine ⟨⟨k + 1, by omega, by go_num, HKK.out.next hlt hlk, ?_⟩, by simp only [intOf]; omega⟩
      exact (hkp.setCell (p := ⟨w.heap.size + 1, 68 + k, none⟩) (by simp) _).like hlk
    · obtain rfl : k = 256 := by omega
      have HR := Lib.hid (hK.done hn1)
      clear hK
      go_wp2_with fail
      go_ret2
      exact ⟨_, rfl, by omega, HR.out, hb5.trans (hkp.below (by omega) (fun i hi => by omega))⟩
theorem new_no (p n : Int) (w : World) (h0 : 0 ≤ p) (hp : p < 18446744073709551616) (h : ¬ RMay p.toNat n) :
    Calls Try.prog 30 #[.int .u64 p, .int .i64 n] w fun e w' => e = .returned (.tuple #[.pointer none, .int .i64 2]) ∧ Below w.heap.size w w' := by
  have C1 := Lib.hid (fun W => check_no p n W h0 hp h)
  clear h h0 hp
  go_enter Try.func30, Try.ntmps30
  go_wp2_with fail
  refine (C1.out _).mono ?_
  rintro e w' ⟨rfl, rfl⟩
  go_wp2_with fail
  go_ret2
  exact ⟨rfl, (Below.refl _ _).alloc (Nat.le_refl _) _⟩
end Go.Proofs.Ytpkbhihkhnkhnaa
