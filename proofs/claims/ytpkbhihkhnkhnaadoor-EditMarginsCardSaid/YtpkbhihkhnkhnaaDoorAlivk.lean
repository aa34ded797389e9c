/- maslinlaw11.alive. -/
import Derived.Test.YtpkbhihkhnkhnaaDoorErr
import Derived.Test.YtpkbhihkhnkhnaaDoorFresh
import Derived.Test.YtpkbhihkhnkhnaaDoorOf
namespace Go.Proofs.YtpkbhihkhnkhnaaDoor
open Go.RowKit
theorem of_abcd (w : World) : Calls Tryd.prog 17 #[.string ⟨#[97, 98, 99, 100]⟩, .string ⟨#[97, 88, 100]⟩] w fun r w' => r = .returned (.agg #[.int .i64 1, .int .i64 2, .string ⟨#[88]⟩]) ∧ Below w.heap.size w w' :=
  (of_any ⟨#[97, 98, 99, 100]⟩ ⟨#[97, 88, 100]⟩ w (by decide) (by decide) 1 1 ⟨#[98, 99, 100]⟩ ⟨#[88, 100]⟩ (by decide +kernel) (by decide +kernel) (by decide +kernel) (by decide +kernel)).mono fun e w' h => ⟨h.1.trans (by kernel_rfl), h.2⟩
theorem no_zero : ¬ CMay ⟨0, 0, 0, 0, 0⟩ := fun h => absurd h.2.2.1.1 (by decide)
theorem frs_one : frs [⟨#[97]⟩, ⟨#[98]⟩] [⟨#[98]⟩, ⟨#[99]⟩, ⟨#[97]⟩] 3 = [1] := by decide +kernel
set_option maxRecDepth 100000 in
set_option maxHeartbeats 1000000 in
theorem alive11_any (n0 : Nat) (w : World) (hN : Needs n0 w) : Calls Tryd.prog 14 #[] w fun e w' => e = .returned (.bool true) ∧ Below w.heap.size w w' := by
  have HN := Lib.hid hN
  clear hN
  have C1 := Lib.hid of_abcd
  have C2 := Lib.hid (fun W => app_no ⟨#[97, 98, 99, 100]⟩ ⟨#[]⟩ 4 1 W (by decide) (fun h => absurd h.2.2.2 (by decide)))
  have C3 := Lib.hid (fun W (hb : Below w.heap.size w W) => margin_no ⟨0, 0, 0, 0, 0⟩ ⟨#[]⟩ ⟨#[]⟩ 0 0 n0 W (by decide) (by decide) (by decide) (HN.out.below (hb.mono HN.out.size)) no_zero)
  go_enter Tryd.func14, Tryd.ntmps14
  go_wp2_with fail
  refine (C1.out _).mono ?_
  rintro e w1 ⟨rfl, hb1⟩
  go_wp2_with fail
  refine (C2.out _).mono ?_
  rintro e w2 ⟨rfl, hb2⟩
  have z1 := hb1.size
  have z2 := hb2.size
  simp only [World.size_alloc] at z2
  have e1 : w2.heap[w1.heap.size]? = some (.cells #[.int .i64 1, .int .i64 2, .string ⟨#[88]⟩] 23 (0, 0)) := by
    rw [hb2.block _ (by simp), World.alloc_heap_new]
  have B2 := Lib.hid (hb1.trans (((Below.refl w1.heap.size w1).alloc (Nat.le_refl _) _).trans (hb2.mono (by simp)) |>.mono z1))
  clear hb1 hb2 C1 C2
  go_wp2_with fail
  obtain ⟨W3, hW3⟩ : ∃ W3, W3 = (w2.alloc (.cells #[.string ⟨#[97]⟩, .string ⟨#[98]⟩] 9)).alloc (.cells #[.string ⟨#[98]⟩, .string ⟨#[99]⟩, .string ⟨#[97]⟩] 9) := ⟨_, rfl⟩
  rw [← hW3]
  have hb3 : Below w2.heap.size w2 W3 := by rw [hW3]; exact ((Below.refl _ _).alloc (Nat.le_refl _) _).alloc (by simp) _
  have z3 : W3.heap.size = w2.heap.size + 2 := by rw [hW3]; simp
  have r1 : Row W3 1 (.slice (some ⟨w2.heap.size, 0, none⟩) 2 2) 2 ([⟨#[97]⟩, ⟨#[98]⟩].map .string) := by
    refine ⟨rfl, _, _, rfl, fun k x hk => ⟨_, _, rfl, by omega, ?_⟩⟩
    have hc : W3.heap[w2.heap.size]? = some (.cells #[.string ⟨#[97]⟩, .string ⟨#[98]⟩] 9 (0, 0)) := by
      rw [hW3, Below.heap_alloc _ _ _ (by simp), World.alloc_heap_new]
    simp only [World.cell?, hc, Nat.zero_add]
    rw [← Array.getElem?_toList]; exact hk
  have r2 : Row W3 1 (.slice (some ⟨w2.heap.size + 1, 0, none⟩) 3 3) 3 ([⟨#[98]⟩, ⟨#[99]⟩, ⟨#[97]⟩].map .string) := by
    refine ⟨rfl, _, _, rfl, fun k x hk => ⟨_, _, rfl, by omega, ?_⟩⟩
    have hc : W3.heap[w2.heap.size + 1]? = some (.cells #[.string ⟨#[98]⟩, .string ⟨#[99]⟩, .string ⟨#[97]⟩] 9 (0, 0)) := by
      rw [hW3]
      have := World.alloc_heap_new (w2.alloc (.cells #[.string ⟨#[97]⟩, .string ⟨#[98]⟩] 9)) (.cells #[.string ⟨#[98]⟩, .string ⟨#[99]⟩, .string ⟨#[97]⟩] 9)
      rwa [World.size_alloc] at this
    simp only [World.cell?, hc, Nat.zero_add]
    rw [← Array.getElem?_toList]; exact hk
  clear hW3
  refine (fresh_any [⟨#[97]⟩, ⟨#[98]⟩] [⟨#[98]⟩, ⟨#[99]⟩, ⟨#[97]⟩] _ _ W3 r1 r2 (by decide) (by decide) (by decide) (by decide)).mono ?_
  rintro e w4 ⟨v, rfl, hown, hb4⟩
  rw [show [(⟨#[98]⟩ : ByteArray), ⟨#[99]⟩, ⟨#[97]⟩].length = 3 from rfl, frs_one] at hown
  have z4 := hb4.size
  have e1 : w4.heap[w1.heap.size]? = some (.cells #[.int .i64 1, .int .i64 2, .string ⟨#[88]⟩] 23 (0, 0)) := by
    rw [hb4.block _ (by omega), hb3.block _ (by omega)]; exact e1
  have B4 := Lib.hid ((B2.out.trans (hb3.mono (by omega))).trans (hb4.mono (by omega)))
  obtain ⟨-, p, cap, rfl, hv⟩ := row_of_owns hown
  obtain ⟨b, off, rfl, hb, hc⟩ := hv 0 _ rfl
  clear hv hown hb3 hb4 B2 r1 r2
  go_wp2_with fail
  refine (C3.out _ B4.out).mono ?_
  rintro e w5 ⟨rfl, hb5⟩
  have z5 := hb5.size
  have hc5 : w5.cell? ⟨b, off, none⟩ = some (.int .i64 1) := by rw [hb5.cell (p := ⟨b, off, none⟩) hb]; exact hc
  have e1 : w5.heap[w1.heap.size]? = some (.cells #[.int .i64 1, .int .i64 2, .string ⟨#[88]⟩] 23 (0, 0)) := by
    rw [hb5.block _ (by omega)]; exact e1
  obtain ⟨d0, d1, d2, f0, f1, f2⟩ := cells3 e1
  have B5 := Lib.hid (B4.out.trans (hb5.mono (by omega)))
  clear hb5 e1 hc
  go_wp2_with fail
  go_ret
  exact ⟨rfl, B5.out⟩
end Go.Proofs.YtpkbhihkhnkhnaaDoor
