/- maslinlaw09.alive. -/
import Derived.Test.YtpkbhihkhnkhnaaDoorMost
import Derived.Laws.StructEq
namespace Go.Proofs.YtpkbhihkhnkhnaaDoor
open Go.RowKit
set_option maxRecDepth 100000 in
set_option maxHeartbeats 2000000 in
theorem alive9_any (n0 : Nat) (w : World) (hN : Needs n0 w) : Calls Tryd.prog 22 #[] w fun e w' => e = .returned (.bool true) ∧ Below w.heap.size w w' := by
  have HN := Lib.hid (fun W (hb : Below w.heap.size w W) => hN.below (hb.mono hN.size))
  have C1 := Lib.hid (ctexts_yes cutA ⟨#[97, 98, 99, 100, 101]⟩ n0 w cutA_may hN (by decide))
  rw [cutsA, txtsA] at C1
  have C2 := Lib.hid (fun W (hb : Below w.heap.size w W) => ccut_yes cutB ⟨#[0, 0, 0, 0, 0, 0]⟩ n0 W cutB_may (HN.out W hb) (by decide))
  rw [cutsB] at C2
  have C3 := Lib.hid (fun W (hb : Below w.heap.size w W) => ccut_no ⟨0, 0, 0, 0, 0⟩ ⟨#[]⟩ n0 W (by decide) (HN.out W hb) no_zero9)
  have C4 := Lib.hid (fun W (hb : Below w.heap.size w W) => most_yes cutA 5 n0 W cutA_may (HN.out W hb) (by decide))
  simp only [cutA, cutB] at C1 C2 C4
  clear hN
  go_enter Tryd.func22, Tryd.ntmps22
  go_wp2_with fail
  refine C1.out.mono ?_
  rintro e w1 ⟨v1, rfl, hv1, hb1⟩
  have z1 := hb1.size
  have B1 := Lib.hid hb1
  have R1 := Lib.hid (row_of_owns hv1)
  clear hb1 hv1
  go_wp2_with fail
  refine (C2.out _ B1.out).mono ?_
  rintro e w2 ⟨v2, rfl, hv2, hb2⟩
  have z2 := hb2.size
  have B2 := Lib.hid (B1.out.trans (hb2.mono (by omega)))
  have R2 := Lib.hid (row_of_owns hv2)
  have R1 := Lib.hid (R1.out.below hb2)
  clear hb2 hv2 B1
  go_wp2_with fail
  refine (C3.out _ B2.out).mono ?_
  rintro e w3 ⟨rfl, hb3⟩
  have z3 := hb3.size
  have B3 := Lib.hid (B2.out.trans (hb3.mono (by omega)))
  have R2 := Lib.hid (R2.out.below hb3)
  have R1 := Lib.hid (R1.out.below hb3)
  clear hb3 B2
  go_wp2_with fail
  refine (C4.out _ B3.out).mono ?_
  rintro e w4 ⟨rfl, hb4⟩
  have z4 := hb4.size
  have B4 := Lib.hid (B3.out.trans (hb4.mono (by omega)))
  have R2 := Lib.hid (R2.out.below hb4)
  have R1 := Lib.hid (R1.out.below hb4)
  clear hb4 B3
  obtain ⟨-, p1, c1, rfl, q1⟩ := R1.out
  obtain ⟨b1, o1, rfl, k1, d1⟩ := q1 0 _ rfl
  obtain ⟨b2, o2, e2, k2, d2⟩ := q1 2 _ rfl
  obtain ⟨rfl, rfl⟩ : b1 = b2 ∧ o1 = o2 := by simpa using e2
  have d1 : w4.cell? ⟨b1, o1, none⟩ = some (.string ⟨#[97, 98]⟩) := d1
  have d2 : w4.cell? ⟨b1, o1 + 2, none⟩ = some (.string ⟨#[101]⟩) := d2
  clear q1 e2 R1
  go_wp2_with fail
  obtain ⟨W5, hW5⟩ : ∃ W5, W5 = w4.alloc (.cells #[.int .i64 0, .int .i64 3, .int .i64 3, .int .i64 3] 57) := ⟨_, rfl⟩
  rw [← hW5]
  have hb5 : Below w4.heap.size w4 W5 := by rw [hW5]; exact (Below.refl _ _).alloc (Nat.le_refl _) _
  have r5 : Row W5 2 (.slice (some ⟨w4.heap.size, 0, none⟩) 2 2) 2 (pcells (pcs [3, 6])) := by
    refine ⟨rfl, _, _, rfl, fun k x hk => ⟨_, _, rfl, by rw [hW5]; simp, ?_⟩⟩
    have hc : W5.heap[w4.heap.size]? = some (.cells #[.int .i64 0, .int .i64 3, .int .i64 3, .int .i64 3] 57 (0, 0)) := by rw [hW5, World.alloc_heap_new]
    simp only [World.cell?, hc, Nat.zero_add]
    rw [← Array.getElem?_toList]; exact hk
  have B5 := Lib.hid (B4.out.trans (hb5.mono (by omega)))
  have R2 := R2.out.below hb5
  have z5 := hb5.size
  clear hW5 hb5
  refine (same_any (pcs [3, 6]) _ _ W5 (by decide) R2 r5).mono ?_
  rintro e w6 ⟨rfl, hb6⟩
  have B6 := Lib.hid (B5.out.trans (hb6.mono (by omega)))
  clear hb6 B5 B4 R2 r5
  go_wp2_with fail
  go_ret
  exact ⟨rfl, B6.out⟩
end Go.Proofs.YtpkbhihkhnkhnaaDoor
