/- rabin: Sum, Reset, Copy of a roller, and of none. -/
import Derived.Test.YtpkbhihkhnkhnaaRabLoc
import Derived.Deep.MidRow
import Derived.Deep.WholeRow
namespace Go.Proofs.Ytpkbhihkhnkhnaa
open Go.RowKit
theorem sum_nil (w : World) : Calls Try.prog 34 #[.pointer none] w fun e w' => e = .returned (.int .u64 0) ∧ w' = w := by
  go_enter Try.func34, Try.ntmps34
  go_wp2_with fail
  go_ret
  exact ⟨rfl, rfl⟩
theorem copy_nil (w : World) : Calls Try.prog 35 #[.pointer none] w fun e w' => e = .returned (.pointer none) ∧ w' = w := by
  go_enter Try.func35, Try.ntmps35
  go_wp2_with fail
  go_ret
  exact ⟨rfl, rfl⟩
theorem roll_nil (s : ByteArray) (w : World) : Calls Try.prog 31 #[.pointer none, .string s] w fun e w' => e = .returned (.tuple #[.int .u64 0, .int .i64 1]) ∧ w' = w := by
  go_enter Try.func31, Try.ntmps31
  go_wp2_with fail
  go_ret2
  exact ⟨rfl, rfl⟩
theorem reset_nil (w : World) : Calls Try.prog 33 #[.pointer none] w fun e w' => e = .returned (.tuple #[]) ∧ w' = w := by
  go_enter Try.func33, Try.ntmps33
  go_wp2_with fail
  exact bodyPost_end (results_none rfl _ _ _) rfl ⟨rfl, rfl⟩
theorem sum_any (R p n : Nat) (g : List UInt8) (w : World) (h : RolG w R p n g) :
    Calls Try.prog 34 #[.pointer (some ⟨R, 0, none⟩)] w fun e w' => e = .returned (.int .u64 (fp p (lastN n g) : Nat)) ∧ w' = w := by
  obtain ⟨a, buf, hr, -⟩ := h
  have c := hr.2.2.2.2.2.2.1
  generalize fp p (lastN n g) = f at *
  clear hr
  go_enter Try.func34, Try.ntmps34
  go_wp2_with fail
  go_ret
  exact ⟨rfl, rfl⟩
theorem Kept.setCells {S : Nat → Prop} {b : Nat} (hb : ¬ S b) : ∀ (vs : List Value) (o : Nat) (A : World), Kept S A (A.setCells b o vs)
  | [], _, A => Kept.refl S A
  | v :: r, o, A => ((Kept.refl S A).setCell (p := ⟨b, o, none⟩) hb v).trans (Kept.setCells hb r (o + 1) _)
/-- a window of noughts -/
def winZ (n : Nat) : Array Value := Array.replicate 64 (.int .u8 0) ++ #[.int .i64 n, .int .i64 0]
theorem winZ_eq (n : Nat) : zWin.setIfInBounds 64 (.int .i64 n) = winZ n := by kernel_rfl
theorem winZ_size (n : Nat) : (winZ n).size = 66 := by simp [winZ]
theorem winZ_one (n : Nat) : (winZ n).all (·.oneCell') = true := by
  refine Array.all_eq_true_iff_forall_mem.2 fun v hv => ?_
  simp only [winZ, Array.mem_append, Array.mem_replicate] at hv
  rcases hv with ⟨-, rfl⟩ | hv
  · rfl
  · simp at hv
    rcases hv with rfl | rfl <;> rfl
theorem winZ_get (n i : Nat) (h : i < 64) : (winZ n).toList[i]? = some (.int .u8 0) := by
  rw [Array.getElem?_toList, winZ, Array.getElem?_append_left (by simpa using h)]; simp [h]
theorem winZ_64 (n : Nat) : (winZ n).toList[64]? = some (.int .i64 n) := by simp [winZ]
theorem winZ_65 (n : Nat) : (winZ n).toList[65]? = some (.int .i64 0) := by simp [winZ]
/-- the cells of a roller behind a Reset -/
theorem Rol.reset {W W' : World} {R p n a f : Nat} {buf : Nat → Nat} (h : Rol W R p n a f buf) (k : Like W' ((W.setCells R 0 (winZ n).toList).setCell ⟨R, 67, none⟩ (.int .u64 (0 : Nat)))) : Rol W' R p n 0 0 (fun _ => 0) := by
  obtain ⟨h0, h1, h2, h3, h4, h5, h6, h7⟩ := h
  have hl : (winZ n).toList.length = 66 := by rw [Array.length_toList, winZ_size]
  have hsome : ∀ j, j < (winZ n).toList.length → (W.cell? ⟨R, 0 + j, none⟩).isSome = true := fun j hj => by
    rw [hl] at hj
    rw [Nat.zero_add]
    rcases Nat.lt_or_ge j 64 with g | g
    · rw [h2 j g]; rfl
    · rcases (show j = 64 ∨ j = 65 by omega) with rfl | rfl
      · rw [h3]; rfl
      · rw [h4]; rfl
  have c1 : ∀ j, j < 66 → ∀ x, (winZ n).toList[j]? = some x → W'.cell? ⟨R, j, none⟩ = some x := fun j hj x hx => by
    rw [k.cell, cell_other _ _ _ _ _ (by omega)]
    have := World.cell?_setCells_in R (winZ n).toList 0 W hsome j (by omega)
    rw [Nat.zero_add] at this
    rw [this, ← hx, List.getElem?_eq_getElem (by omega)]
  have c2 : ∀ j, 66 ≤ j → j ≠ 67 → W'.cell? ⟨R, j, none⟩ = W.cell? ⟨R, j, none⟩ := fun j hj hj2 => by
    rw [k.cell, cell_other _ _ _ _ _ (by omega)]
    exact World.cell?_setCells_out R (winZ n).toList 0 W _ (fun _ _ => .inr (by rw [hl]; exact hj))
  have kk := Kept.setCells (S := fun i => i ≠ R) (b := R) (by simp) (winZ n).toList 0 W
  refine ⟨?_, fun i hi => ?_, fun i hi => ?_, ?_, ?_, ?_, ?_, fun b hb => ?_⟩
  · rw [k.heap, size_setCell]; exact Nat.lt_of_lt_of_le h0 kk.size
  · rw [k.frozen, World.frozen?_setCell, World.frozen?_setCells]; exact h1 i hi
  · exact c1 i (by omega) _ (winZ_get n i hi)
  · exact c1 64 (by omega) _ (winZ_64 n)
  · exact c1 65 (by omega) _ (winZ_65 n)
  · rw [c2 66 (by omega) (by omega)]; exact h5
  · rw [k.cell]; exact World.cell?_setCell_same _ _ _ (by rw [World.cell?_setCells_out R (winZ n).toList 0 W ⟨R, 67, none⟩ (fun _ _ => .inr (by rw [hl]; show 0 + 66 ≤ 67; omega))]; exact h6)
  · rw [c2 (68 + b) (by omega) (by omega)]; exact h7 b hb
theorem sizeW : (Try.prog.info? 63).map (·.size) = some 66 := by kernel_rfl
theorem sizeR : (Try.prog.info? 66).map (·.size) = some 324 := by kernel_rfl
set_option maxRecDepth 100000 in
set_option maxHeartbeats 1000000 in
theorem reset_any (R p n : Nat) (g : List UInt8) (w : World) (hn : 1 ≤ n) (h : RolG w R p n g) :
    Calls Try.prog 33 #[.pointer (some ⟨R, 0, none⟩)] w fun e w' => e = .returned (.tuple #[]) ∧ RolG w' R p n [] ∧ Kept (fun i => i ≠ R) w w' := by
  obtain ⟨a, buf, hr, -⟩ := h
  have HR := Lib.hid hr
  obtain ⟨h0, h1, h2, h3, h4, h5, h6, h7⟩ := hr
  obtain ⟨zw, z1, zz1⟩ : ∃ zw : Array Value, (∀ W, (zeroValue 63).run Try.prog W = .ok (.agg zw) W) ∧ Hid (zw = zWin) := ⟨zWin, run_zWin, rfl⟩
  have z2 := Lib.hid (show zw.setIfInBounds 64 (.int .i64 (n : Int)) = winZ n by rw [zz1.out]; exact winZ_eq n)
  have z3 : zw.size = 66 := by rw [zz1.out]; exact zWin_size
  have ht : w.there R 0 (winZ n).size := fun j hj => by
    rw [winZ_size] at hj
    rw [Nat.zero_add]
    refine ⟨?_, h1 j (by omega)⟩
    rcases Nat.lt_or_ge j 64 with g | g
    · rw [h2 j g]; rfl
    · rcases (show j = 64 ∨ j = 65 by omega) with rfl | rfl
      · rw [h3]; rfl
      · rw [h4]; rfl
  have s1 := run_storeCells_cells (P := Try.prog) R 0 (winZ n).toList 0 w (fun j hj => by simpa using (ht j (by simpa using hj)).1) (fun j hj => by simpa using (ht j (by simpa using hj)).2) (fun v hv => (Array.all_eq_true_iff_forall_mem.1 (winZ_one n)) v (by simpa using hv))
  rw [Nat.zero_add] at s1
  have hl : (winZ n).toList.length = 66 := by rw [Array.length_toList, winZ_size]
  have d1 : (w.setCells R 0 (winZ n).toList).cell? ⟨R, 67, none⟩ = some (.int .u64 (fp p (lastN n g) : Nat)) := by
    rw [World.cell?_setCells_out R (winZ n).toList 0 w ⟨R, 67, none⟩ (fun _ _ => .inr (by rw [hl]; show 0 + 66 ≤ 67; omega))]; exact h6
  have d2 : (w.setCells R 0 (winZ n).toList).frozen? ⟨R, 67, none⟩ = false := by rw [World.frozen?_setCells]; exact h1 67 (by omega)
  clear h0 h1 h2 h4 h5 h6 h7 ht hl
  have z4 := Lib.hid (show zw.toList.set 64 (.int .i64 (n : Int)) = (winZ n).toList by rw [← z2.out]; simp)
  generalize hW : w.setCells R 0 (winZ n).toList = W1 at *
  have HW := Lib.hid hW
  clear hW
  rw [← z4.out] at s1
  go_enter Try.func33, Try.ntmps33
  go_wp2_with fail
  rw [← HW.out]
  refine bodyPost_end (results_none rfl _ _ _) rfl ⟨rfl, ⟨0, fun _ => 0, ?_, ?_⟩, ?_⟩
  · rw [show fp p (lastN n []) = 0 by rw [lastN_nil, fp, val_replicate, Gf2.pm_zero]]
    exact HR.out.reset ⟨rfl, rfl, rfl, rfl⟩
  · rw [lastN_nil]; exact Win.new n hn
  · exact (Kept.setCells (S := fun i => i ≠ R) (by simp) (winZ n).toList 0 w).setCell (p := ⟨R, 67, none⟩) (by simp) _
theorem Rol.int {W : World} {R p n a f : Nat} {buf : Nat → Nat} (h : Rol W R p n a f buf) : ∀ i, i < 324 → ∃ k x, W.cell? ⟨R, i, none⟩ = some (.int k x) := fun i hi => by
  obtain ⟨h0, h1, h2, h3, h4, h5, h6, h7⟩ := h
  rcases Nat.lt_or_ge i 64 with g | g
  · exact ⟨_, _, h2 i g⟩
  · rcases Nat.lt_or_ge i 68 with g' | g'
    · rcases (show i = 64 ∨ i = 65 ∨ i = 66 ∨ i = 67 by omega) with rfl | rfl | rfl | rfl
      · exact ⟨_, _, h3⟩
      · exact ⟨_, _, h4⟩
      · exact ⟨_, _, h5⟩
      · exact ⟨_, _, h6⟩
    · have := h7 (i - 68) (by omega)
      rw [show 68 + (i - 68) = i by omega] at this
      exact ⟨_, _, this⟩
/-- all of a roller's cells -/
def rolCs (W : World) (R : Nat) : Array Value := ((List.range 324).map fun i => (W.cell? ⟨R, i, none⟩).getD undef).toArray
theorem rolCs_size (W : World) (R : Nat) : (rolCs W R).size = 324 := by simp [rolCs]
theorem Rol.cs {W : World} {R p n a f : Nat} {buf : Nat → Nat} (h : Rol W R p n a f buf) {i : Nat} (hi : i < 324) : W.cell? ⟨R, i, none⟩ = (rolCs W R)[i]? := by
  obtain ⟨k, x, e⟩ := h.int i hi
  simp [rolCs, hi, e]
theorem Rol.one {W : World} {R p n a f : Nat} {buf : Nat → Nat} (h : Rol W R p n a f buf) : (rolCs W R).all (·.oneCell') = true := by
  refine Array.all_eq_true_iff_forall_mem.2 fun v hv => ?_
  simp only [rolCs, List.mem_toArray, List.mem_map, List.mem_range] at hv
  obtain ⟨i, hi, rfl⟩ := hv
  obtain ⟨k, x, e⟩ := h.int i hi
  rw [e]; rfl
theorem Rol.moved {W W' : World} {R N p n a f : Nat} {buf : Nat → Nat} (h : Rol W R p n a f buf) (k : W'.heap[N]? = some (.cells (rolCs W R) 66 (0, 0))) : Rol W' N p n a f buf := by
  have hc : ∀ i, i < 324 → W'.cell? ⟨N, i, none⟩ = W.cell? ⟨R, i, none⟩ := fun i hi => by rw [h.cs hi]; simp [World.cell?, k]
  have hf : ∀ i, W'.frozen? ⟨N, i, none⟩ = false := fun i => by simp [World.frozen?, k]
  obtain ⟨h0, h1, h2, h3, h4, h5, h6, h7⟩ := h
  refine ⟨(Array.getElem?_eq_some_iff.1 k).1, fun i _ => hf i, fun i hi => ?_, ?_, ?_, ?_, ?_, fun b hb => ?_⟩
  · rw [hc i (by omega)]; exact h2 i hi
  · rw [hc 64 (by omega)]; exact h3
  · rw [hc 65 (by omega)]; exact h4
  · rw [hc 66 (by omega)]; exact h5
  · rw [hc 67 (by omega)]; exact h6
  · rw [hc (68 + b) (by omega)]; exact h7 b hb
set_option maxRecDepth 100000 in
set_option maxHeartbeats 1000000 in
theorem copy_any (R p n : Nat) (g : List UInt8) (w : World) (h : RolG w R p n g) :
    Calls Try.prog 35 #[.pointer (some ⟨R, 0, none⟩)] w fun e w' => e = .returned (.pointer (some ⟨w.heap.size, 0, none⟩)) ∧ RolG w' w.heap.size p n g ∧ Below w.heap.size w w' := by
  obtain ⟨a, buf, hr, hw⟩ := h
  have HR := Lib.hid hr
  have HW := Lib.hid hw
  have l1 := run_loadCells_list (P := Try.prog) w ⟨R, 0, none⟩ (rolCs w R).toList (fun j v hv => by
    have hj : j < 324 := by have := (List.getElem?_eq_some_iff.1 hv).1; simpa [rolCs] using this
    rw [Addr.add_mid, Nat.zero_add, hr.cs hj]; simpa using hv)
  have l2 : (loadCellsFrom ⟨R, 0, none⟩ 0 324 #[]).run Try.prog w = .ok (rolCs w R) w := by
    rw [Array.length_toList, rolCs_size] at l1
    simpa [loadCells] using l1
  obtain ⟨zr, z2, z4, zz2⟩ : ∃ zr : Array Value, (∀ W, (zeroValue 66).run Try.prog W = .ok (.agg zr) W) ∧ zr.size = 324 ∧ Hid (zr = zRol) := ⟨zRol, run_zRol, zRol_size, rfl⟩
  have s1 := run_storeCells_new (P := Try.prog) w 66 zr (rolCs w R) (by rw [rolCs_size]; exact sizeR) (by rw [z4, rolCs_size]) hr.one
  obtain ⟨C, hC⟩ : ∃ C, C = rolCs w R := ⟨_, rfl⟩
  have c1 : C.size = 324 := by rw [hC, rolCs_size]
  rw [← hC] at l2 s1
  have HC := Lib.hid hC
  have l3 : w.rangeAt R 0 C.toList := fun j v hv => by
    have hj : j < 324 := by have := (List.getElem?_eq_some_iff.1 hv).1; simpa [c1] using this
    rw [Nat.zero_add, hr.cs hj, ← hC]; simpa using hv
  clear hr hw l1 l2 hC
  go_enter Try.func35, Try.ntmps35
  go_wp2_with fail
  refine wp_load_mid 66 _ rfl R 0 rfl C.toList _ l3 Try.underlying66 rfl (by rw [Array.length_toList, c1]; exact sizeR) ?_
  rw [Array.toArray_toList]
  go_wp2_with fail
  go_ret
  refine ⟨rfl, ⟨a, buf, HR.out.moved ?_, HW.out⟩, (Below.refl _ _).alloc (Nat.le_refl _) _⟩
  rw [← HC.out]; exact World.alloc_heap_new w _
end Go.Proofs.Ytpkbhihkhnkhnaa
