/- maslinref10.Same; maslinlaw10.alive. -/
import Derived.Test.YtpkbhihkhnkhnaaDoorRecs
import Derived.Test.YtpkbhihkhnkhnaaDoorLcut
import Derived.Test.YtpkbhihkhnkhnaaDoorMost
namespace Go.Proofs.YtpkbhihkhnkhnaaDoor
open Go.RowKit
set_option maxRecDepth 100000 in
set_option maxHeartbeats 1000000 in
/-- two rows of the same texts are the same -/
theorem sames_any (l : List ByteArray) (v v' : Value) (w : World) (hl : l.length ≤ 1000000) (h1 : Row w 1 v l.length (l.map .string)) (h2 : Row w 1 v' l.length (l.map .string)) :
    Calls Tryd.prog 38 #[v, v'] w fun e w' => e = .returned (.bool true) ∧ Below w.heap.size w w' := by
  obtain ⟨-, p1, cap1, rfl, R1⟩ := h1
  obtain ⟨-, p2, cap2, rfl, R2⟩ := h2
  have HR1 := Lib.hid R1
  have HR2 := Lib.hid R2
  clear R1 R2
  go_enter Tryd.func38, Tryd.ntmps38
  go_wp2_with fail
  go_loopw [5] (fun j wr => ∃ m : Nat, m ≤ l.length ∧ j = .int .i64 m ∧ ∃ nd, wr = w.drewN nd) (fun j _ => l.length - (intOf j).toNat)
  case atStart => exact ⟨0, Nat.zero_le _, rfl, 0, rfl⟩
  case round =>
    obtain ⟨m, hm, rfl, nd, rfl⟩ := hrel
    by_cases hlt : m < l.length
    · obtain ⟨b1, o1, rfl, k1, d1⟩ := HR1.out m (.string l[m]) (by simp [hlt])
      obtain ⟨b2, o2, rfl, k2, d2⟩ := HR2.out m (.string l[m]) (by simp [hlt])
      generalize l[m] = x at *
      go_wp2_with fail
      go_quiet (fail)
      go_wp2_with fail
      exact ⟨⟨m + 1, by omega, by go_num, _, rfl⟩, by simp only [intOf]; omega⟩
    · obtain rfl : m = l.length := by omega
      go_wp2_with fail
      go_ret
      exact ⟨rfl, below_drewN (Below.refl _ _) _⟩
def sT : ByteArray := ⟨#[97, 98, 10, 99, 10, 100]⟩
def cutT : CutN := ⟨283, 1, 1, 1, 0⟩
theorem cutT_may : cutT.May := ⟨by decide, rmay_283 _ (by decide) (by decide), by decide, by decide, by decide, by decide, by decide, by decide⟩
theorem recsT : recs sT = [⟨#[97, 98, 10]⟩, ⟨#[99, 10]⟩, ⟨#[100]⟩] := by decide +kernel
theorem acsT : acsOf cutT sT = [3, 5, 6] := by decide +kernel
theorem txtsT : txts sT [3, 5, 6] = [⟨#[97, 98, 10]⟩, ⟨#[99, 10]⟩, ⟨#[100]⟩] := by decide +kernel
theorem alT : al sT.data.toList 4 = 5 := by decide +kernel
theorem lgT : lgst (recs sT) = 3 := by decide +kernel
theorem row_new (w : World) (a b c : ByteArray) : Row (w.alloc (.cells #[.string a, .string b, .string c] 9)) 1 (.slice (some ⟨w.heap.size, 0, none⟩) 3 3) 3 ([a, b, c].map .string) := by
  refine ⟨rfl, _, _, rfl, fun k x hk => ⟨_, _, rfl, by simp, ?_⟩⟩
  have hc := World.alloc_heap_new w (.cells #[.string a, .string b, .string c] 9)
  simp only [World.cell?, hc, Nat.zero_add]
  rw [← Array.getElem?_toList]; exact hk
set_option maxRecDepth 100000 in
set_option maxHeartbeats 2000000 in
theorem alive10_any (n0 : Nat) (w : World) (hN : Needs n0 w) : Calls Tryd.prog 34 #[] w fun e w' => e = .returned (.bool true) ∧ Below w.heap.size w w' := by
  have HN := Lib.hid (fun W (hb : Below w.heap.size w W) => hN.below (hb.mono hN.size))
  have C1 := Lib.hid (ltexts_yes cutT sT n0 w cutT_may hN (by decide))
  rw [acsT, txtsT] at C1
  have C2 := Lib.hid (fun W (hb : Below w.heap.size w W) => lcut_no ⟨0, 0, 0, 0, 0⟩ sT n0 W (by decide) (HN.out W hb) no_zero9)
  have C3 := Lib.hid (fun W => records_all sT W (by decide))
  rw [recsT] at C3
  have C4 := Lib.hid (fun W => align_any sT 4 W (by decide))
  rw [show (4 : Int).toNat = 4 from rfl, alT] at C4
  have C5 := Lib.hid (fun W => longest_any sT W (by decide))
  rw [lgT] at C5
  simp only [cutT, sT] at C1 C2 C3 C4 C5
  clear hN
  go_enter Tryd.func34, Tryd.ntmps34
  go_wp2_with fail
  refine C1.out.mono ?_
  rintro e w1 ⟨v1, rfl, hv1, hb1⟩
  have B1 := Lib.hid hb1
  have R1 := Lib.hid (row_of_owns hv1)
  clear hb1 hv1
  go_wp2_with fail
  refine (C2.out _ B1.out).mono ?_
  rintro e w2 ⟨rfl, hb2⟩
  have B2 := Lib.hid (B1.out.trans (hb2.mono B1.out.size))
  have R1 := Lib.hid (R1.out.below hb2)
  clear hb2 B1
  go_wp2_with fail
  refine (C3.out _).mono ?_
  rintro e w3 ⟨v3, rfl, hv3, hb3⟩
  have B3 := Lib.hid (B2.out.trans (hb3.mono B2.out.size))
  have R1 := Lib.hid (R1.out.below hb3)
  have R3 := Lib.hid (row_of_owns hv3)
  clear hb3 B2 hv3
  go_wp2_with fail
  have r4 := row_new w3 ⟨#[97, 98, 10]⟩ ⟨#[99, 10]⟩ ⟨#[100]⟩
  have hb4 : Below w3.heap.size w3 (w3.alloc (.cells #[.string ⟨#[97, 98, 10]⟩, .string ⟨#[99, 10]⟩, .string ⟨#[100]⟩] 9)) := (Below.refl _ _).alloc (Nat.le_refl _) _
  refine (sames_any [⟨#[97, 98, 10]⟩, ⟨#[99, 10]⟩, ⟨#[100]⟩] _ _ _ (by decide) (R3.out.below hb4) r4).mono ?_
  rintro e w5 ⟨rfl, hb5⟩
  have B5 := Lib.hid ((B3.out.trans (hb4.mono B3.out.size)).trans (hb5.mono (by have := B3.out.size; simp; omega)))
  have R1 := Lib.hid ((R1.out.below hb4).below hb5)
  clear hb4 hb5 B3 R3 r4
  go_wp2_with fail
  have r4 := row_new w5 ⟨#[97, 98, 10]⟩ ⟨#[99, 10]⟩ ⟨#[100]⟩
  have hb4 : Below w5.heap.size w5 (w5.alloc (.cells #[.string ⟨#[97, 98, 10]⟩, .string ⟨#[99, 10]⟩, .string ⟨#[100]⟩] 9)) := (Below.refl _ _).alloc (Nat.le_refl _) _
  refine (sames_any [⟨#[97, 98, 10]⟩, ⟨#[99, 10]⟩, ⟨#[100]⟩] _ _ _ (by decide) (R1.out.below hb4) r4).mono ?_
  rintro e w6 ⟨rfl, hb5⟩
  have B6 := Lib.hid ((B5.out.trans (hb4.mono B5.out.size)).trans (hb5.mono (by have := B5.out.size; simp; omega)))
  clear hb4 hb5 B5 R1 r4
  go_wp2_with fail
  refine (C4.out _).mono ?_
  rintro e w7 ⟨rfl, rfl⟩
  go_wp2_with fail
  refine (C5.out _).mono ?_
  rintro e w8 ⟨rfl, hb8⟩
  have B8 := Lib.hid (B6.out.trans (hb8.mono B6.out.size))
  clear hb8
  go_wp2_with fail
  go_ret
  exact ⟨rfl, B8.out⟩
end Go.Proofs.YtpkbhihkhnkhnaaDoor
