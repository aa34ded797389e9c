/- The frame of the cards: the table of needs, structs that come in. -/
import Derived.Test.YtpkbhihkhnkhnaaDoorCards
import Derived.Test.YtpkbhihkhnkhnaaDoorTie
import Derived.Test.YtpkbhihkhnkhnaaDoorNeeds
import Derived.WalkKit
import Derived.ProofKit
import Derived.OpenShut
import Derived.ShutString
import Derived.SizedLaws
import Derived.Deep.DeepHandedRow
import Derived.LaidMore
import Derived.Stop.Joined
import Derived.Lib.SmallJoins
namespace Go.Proofs.YtpkbhihkhnkhnaaDoor
open Go.ChangeShapes Go.WideShapes Go.ChangeAt Go.RowKit Go.Joins
theorem own : ownKnob Tryd.prog.godebug = none := by kernel_rfl
theorem gNeeds : Tryd.prog.globalNamed "maslin/chunk.needs" = some 0 := by kernel_rfl
theorem tNeeds : (Tryd.prog.globals[0]?).map (·.type) = some 77 := by kernel_rfl
theorem cellsF : Tryd.prog.cellsOf 51 = 1 := by kernel_rfl
theorem cellsE : Tryd.prog.cellsOf 23 = 3 := by kernel_rfl
abbrev laidN : List (String × DataW Unit) := [("maslin/chunk.needs", Rows.laid_maslin_chunk_needs)]
theorem cell_block {W : World} {b off : Nat} {v : Value} (h : W.cell? ⟨b, off, none⟩ = some v) : b < W.heap.size := by
  rcases Nat.lt_or_ge b W.heap.size with g | g
  · exact g
  · rw [World.cell?, Array.getElem?_eq_none (by exact g)] at h; cases h
theorem door_met (os : Os) (args : Array Value) : laidMetH Tryd.prog laidN ((World.doorLaid Tryd.prog 600 os).forCall (fun _ _ => 0) ⟨#[], args, []⟩).memory :=
  laidMetH_of_parts3 (fuel := 8) (laidMet_of_run' 8 (by kernel_rfl) (by kernel_rfl)) (by kernel_rfl) (by kernel_rfl)
theorem of_laid {W : World} (h : laidMetH Tryd.prog laidN W) : Needs W.heap.size W := by
  obtain ⟨g, t, cs, fuel, p, hg, ht, hv, hd⟩ := h.funcs (List.mem_singleton.2 rfl)
  obtain rfl := Option.some.inj (gNeeds.symm.trans hg)
  obtain rfl := Option.some.inj (tNeeds.symm.trans ht)
  have hd' : DataW.trod (funcToken Tryd.prog) Tryd.prog W 0 (fun _ => true) true fuel 77 cs.toList = some (.slice [.held [109, 97, 115, 108, 105, 110, 47, 99, 104, 117, 110, 107, 46, 110, 101, 101, 100, 115, 36, 49], .held [109, 97, 115, 108, 105, 110, 47, 99, 104, 117, 110, 107, 46, 110, 101, 101, 100, 115, 36, 50], .held [109, 97, 115, 108, 105, 110, 47, 99, 104, 117, 110, 107, 46, 110, 101, 101, 100, 115, 36, 51], .held [109, 97, 115, 108, 105, 110, 47, 99, 104, 117, 110, 107, 46, 110, 101, 101, 100, 115, 36, 52]] [], p) := hd
  obtain ⟨a, cap, hcs, _, hel⟩ := open_row Tryd.underlying77 cellsF hd'
  obtain ⟨v0, n0, q0, hc0, hr0⟩ := hel 0 _ rfl
  obtain ⟨v1, n1, q1, hc1, hr1⟩ := hel 1 _ rfl
  obtain ⟨v2, n2, q2, hc2, hr2⟩ := hel 2 _ rfl
  obtain ⟨v3, n3, q3, hc3, hr3⟩ := hel 3 _ rfl
  obtain rfl := func_of_trod (f0 := 107) Tryd.underlying51 (by kernel_rfl) hr0
  obtain rfl := func_of_trod (f0 := 108) Tryd.underlying51 (by kernel_rfl) hr1
  obtain rfl := func_of_trod (f0 := 109) Tryd.underlying51 (by kernel_rfl) hr2
  obtain rfl := func_of_trod (f0 := 110) Tryd.underlying51 (by kernel_rfl) hr3
  obtain ⟨b, off, spot⟩ := a
  have hspot : spot = none := by simpa [Addr.add] using World.cell?_spot hc0
  subst hspot
  have hc : W.cell? ⟨0, 0, none⟩ = some (.slice (some ⟨b, off, none⟩) 4 cap) := by
    have := World.var?_cell hg hv 0
    rw [Array.eq_one_of_toList hcs] at this
    simpa using this
  have hb : b < W.heap.size := cell_block (show W.cell? ⟨b, off, none⟩ = some _ by simpa [Addr.add] using hc0)
  have h0 : 0 < W.heap.size := by omega
  exact ⟨b, off, cap, h0, hb, Nat.le_refl _, hc, by simpa [Addr.add] using hc0, by simpa [Addr.add] using hc1, by simpa [Addr.add] using hc2, by simpa [Addr.add] using hc3⟩
set_option maxRecDepth 100000 in
/-- an edit that came in -/
theorem open_edit {H : Type} {enc : TypeId × Value → H} {w : World} {base : Nat} {spare : Nat → Bool} {held : Bool} {r : Reach} {b0 : Nat} {v : Value} {d : DataW H} {p : List MemPlace}
    (hv : Value.okWide Tryd.prog w r b0 23 v) (h : DataW.Trod enc Tryd.prog w base spare held 23 v d p) :
    ∃ (i c : Int) (q : ByteArray), v = .agg #[.int .i64 i, .int .i64 c, .string q] ∧ d = .agg [.lit (.int .i64 i), .lit (.int .i64 c), .lit (.string q.data.toList)] ∧ p = [] ∧
      (∀ (W' : World) (base' : Nat) (spare' : Nat → Bool) (held' : Bool), DataW.Trod enc Tryd.prog W' base' spare' held' 23 v d []) := by
  obtain ⟨c0, c1, c2, y0, y1, y2, m, rfl, rfl, rfl, hy0, hy1, hy2⟩ := open_agg3 Tryd.underlying23 (by kernel_rfl) cellsE hv h
  obtain ⟨x, e0, rfl, wx⟩ := DataW.trod_int Tryd.underlying3 hy0
  obtain ⟨y, e1, rfl, wy⟩ := DataW.trod_int Tryd.underlying3 hy1
  obtain ⟨q, e2, rfl, wq⟩ := DataW.trod_string Tryd.underlying9 hy2
  simp at e0 e1 e2
  subst e0 e1 e2
  refine ⟨x, y, q, rfl, rfl, rfl, fun W' base' spare' held' => ?_⟩
  exact shut_agg3 (y0 := (.lit (.int .i64 x), [])) (y1 := (.lit (.int .i64 y), [])) (y2 := (.lit (.string q.data.toList), [])) Tryd.underlying23 (by kernel_rfl) cellsE ⟨1, trod_int_mk 0 Tryd.underlying3 wx⟩ ⟨1, trod_int_mk 0 Tryd.underlying3 wy⟩ ⟨1, by simp [DataW.trod, Tryd.underlying9, wq]⟩
end Go.Proofs.YtpkbhihkhnkhnaaDoor
