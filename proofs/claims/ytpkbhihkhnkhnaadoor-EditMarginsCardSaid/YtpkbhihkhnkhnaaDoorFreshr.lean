/- maslinref11.Fresh. -/
import Derived.Test.YtpkbhihkhnkhnaaDoorFresh
import Derived.BigQuiet
import Derived.Deep.QuietTactic
import Derived.Laws.StructEq
import Derived.MapKept
namespace Go.Proofs.YtpkbhihkhnkhnaaDoor
open Go.RowKit
theorem str_ne' {a b : ByteArray} (h : ¬ a = b) : (a == b) = false := Bool.eq_false_iff.2 fun e => h ((MapKept.bytes_beq _ _).1 e)
theorem isin_snoc (s : ByteArray) (l : List ByteArray) (t : ByteArray) : isin s (l ++ [t]) = (isin s l || decide (t.data.toList = s.data.toList)) := by
  simp [isin]
set_option maxRecDepth 100000 in
set_option maxHeartbeats 1000000 in
theorem rfresh_any (old now : List ByteArray) (vo vn : Value) (w : World) (ho : Row w 1 vo old.length (old.map .string)) (hn : Row w 1 vn now.length (now.map .string)) (l1 : old.length ≤ 1000000) (l2 : now.length ≤ 1000000) :
    Calls Tryd.prog 21 #[vo, vn] w fun e w' => ∃ v, e = .returned v ∧ w'.ownsRow w.heap.size 3 1 v (frs old now now.length).length ((frs old now now.length).map fun k => Value.int .i64 (k : Nat)) ∧ Below w.heap.size w w' := by
  obtain ⟨-, po, co, rfl, hro⟩ := ho
  obtain ⟨-, pn, cn, rfl, hrn⟩ := hn
  have HRO := Lib.hid hro
  have HRN := Lib.hid hrn
  clear hro hrn
  obtain ⟨i0, hi, hz0, hz1, hz2⟩ := info_parts infoI
  go_enter Tryd.func21, Tryd.ntmps21
  go_wp2_with fail
  go_loopw [5, 6, 7, 8] (fun v i _ _ wr => ∃ k : Nat, k ≤ now.length ∧ i = .int .i64 k ∧ wr.ownsRow w.heap.size 3 1 v (frs old now k).length ((frs old now k).map fun k => Value.int .i64 (k : Nat)) ∧ Below w.heap.size w wr) (fun _ i _ _ _ => now.length - (intOf i).toNat)
  case atStart => exact ⟨0, Nat.zero_le _, rfl, World.ownsRow_nil _ _ _ _, Below.refl _ _⟩
  case round =>
    obtain ⟨k, hk, rfl, hrow, hbr⟩ := hrel
    have zr := hbr.size
    by_cases hlt : k < now.length
    · obtain ⟨b, off, rfl, hb, hc⟩ := HRN.out k (.string (now.getD k ⟨#[]⟩)) (by simp [hlt])
      obtain ⟨s, hs⟩ : ∃ s, s = now.getD k ⟨#[]⟩ := ⟨_, rfl⟩
      rw [← hs] at hc
      have HC := Lib.hid hc
      have HS := Lib.hid hs
      have HB := Lib.hid hbr
      have HR := Lib.hid hrow
      have hll := frs_len old now k
      clear hs hc hbr hrow
      go_wp2_with fail
      go_loopw [7, 8] (fun is j w2 => ∃ m : Nat, m ≤ old.length ∧ is = .bool (isin s (old.take m)) ∧ j = .int .i64 m ∧ ∃ nd, w2 = wr.drewN nd) (fun _ j _ => old.length - (intOf j).toNat)
      case atStart => exact ⟨0, Nat.zero_le _, rfl, rfl, 0, rfl⟩
      case round =>
        obtain ⟨m, hm, rfl, rfl, nd, rfl⟩ := hrel
        by_cases hmt : m < old.length
        · obtain ⟨b2, off2, rfl, hb2, hc2⟩ := HRO.out m (.string (old.getD m ⟨#[]⟩)) (by simp [hmt])
          obtain ⟨t, ht⟩ : ∃ t, t = old.getD m ⟨#[]⟩ := ⟨_, rfl⟩
          rw [← ht] at hc2
          have d1 : wr.cell? ⟨b2, off2 + m, none⟩ = some (.string t) := (HB.out.cell (p := ⟨b2, off2 + m, none⟩) hb2).trans hc2
          have d2 : wr.cell? ⟨b, off + k, none⟩ = some (.string s) := (HB.out.cell (p := ⟨b, off + k, none⟩) hb).trans HC.out
          have hnx : isin s (old.take (m + 1)) = (isin s (old.take m) || decide (t.data.toList = s.data.toList)) := by
            rw [take_snoc old m ⟨#[]⟩ hmt, isin_snoc, ← ht]
          have HX := Lib.hid hnx
          clear ht hc2 hnx
          cases hy : isin s (old.take m)
          · have HY := Lib.hid hy
            clear hy
            by_cases hts : t = s
            · subst hts
              go_wp2_with fail
              go_quiet (fail)
              go_wp2_with fail
              refine ⟨⟨m + 1, by omega, ?_, by go_num, _, rfl⟩, by simp only [intOf]; omega⟩
              rw [HX.out, HY.out]; simp
            · have e1 := str_ne' hts
              have e2 := e1
              rw [beq_toListBytes] at e2
              go_wp2_with fail
              go_quiet (fail)
              go_wp2_with fail
              refine ⟨⟨m + 1, by omega, ?_, by go_num, _, rfl⟩, by simp only [intOf]; omega⟩
              rw [HX.out, HY.out]
              have : ¬ t.data.toList = s.data.toList := fun e => hts (ba_ext e)
              simp [this]
          · have HY := Lib.hid hy
            clear hy
            go_wp2_with fail
            go_quiet (fail)
            go_wp2_with fail
            refine ⟨⟨m + 1, by omega, ?_, by go_num, _, rfl⟩, by simp only [intOf]; omega⟩
            rw [HX.out, HY.out]; simp
        · obtain rfl : m = old.length := by omega
          rw [List.take_of_length_le (Nat.le_refl _)]
          obtain ⟨W2, hW2⟩ : ∃ W2, W2 = wr.drewN nd := ⟨_, rfl⟩
          have hrow : W2.ownsRow w.heap.size 3 1 u5 (frs old now k).length ((frs old now k).map fun k => Value.int .i64 (k : Nat)) := by rw [hW2]; exact HR.out
          have hbr : Below w.heap.size w W2 := by rw [hW2]; exact below_drewN HB.out _
          have zr2 := hbr.size
          rw [← hW2]
          clear hW2 HR HB
          cases hy : isin s old
          · have HY := Lib.hid hy
            clear hy
            go_wp2_with (first
              | (at_builtin; refine wpList_append_own_at _ rfl _ _ 32 rfl w.heap.size 3 i0 (.int .i64 0) 1 8 Tryd.underlying32 hi hz0 hz1 hz2 rfl (by decide) _ _ _ rfl (hrow.alloc _) ⟨W2.heap.size, 0, none⟩ 1 1 [.int .i64 k] rfl rfl (cell_one_new _ _ _) (ints_oneCell .i64 [(k : Int)]) (by unfold maxLen; omega) (by omega) (by simp; omega) ?_; intro v' w1 hown' hgrow hnil hloc)
              | go_in)
            refine ⟨⟨k + 1, by omega, by go_num, ?_, ?_⟩, by simp only [intOf]; omega⟩
            · rw [frs_yes (by rw [← HS.out]; exact HY.out), List.map_append, List.length_append]; exact hown'
            · exact (hbr.alloc (by omega) _).grown hgrow (by simp; omega) (fun j hj => owns_base hrow hj)
          · have HY := Lib.hid hy
            clear hy
            go_wp2_with fail
            refine ⟨⟨k + 1, by omega, by go_num, ?_, hbr⟩, by simp only [intOf]; omega⟩
            rw [frs_no (by rw [← HS.out]; exact HY.out)]; exact hrow
    · obtain rfl : k = now.length := by omega
      go_wp2_with fail
      go_ret
      exact ⟨_, rfl, hrow, hbr⟩
end Go.Proofs.YtpkbhihkhnkhnaaDoor
