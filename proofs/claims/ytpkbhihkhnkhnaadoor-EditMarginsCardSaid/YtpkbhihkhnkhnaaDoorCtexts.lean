/- chunk.Texts; maslinlaw09.cuts. -/
import Derived.Test.YtpkbhihkhnkhnaaDoorCcut
import Derived.Test.YtpkbhihkhnkhnaaDoorErr
namespace Go.Proofs.YtpkbhihkhnkhnaaDoor
open Go.RowKit
theorem infoS : (Tryd.prog.info? 9).map (fun i => (i.zero, i.size, i.bytes)) = some (some (.string ⟨#[]⟩), 1, 16) := by kernel_rfl
theorem strs_oneCell (l : List ByteArray) : ∀ u ∈ l.map Value.string, u.oneCell' = true := by
  intro u hu
  obtain ⟨_, _, rfl⟩ := List.mem_map.1 hu
  rfl
theorem pcells_get (l : List (Nat × Nat)) (k : Nat) (h : k < l.length) : (pcells l)[k * 2]? = some (.int .i64 (l[k].1 : Nat)) ∧ (pcells l)[k * 2 + 1]? = some (.int .i64 (l[k].2 : Nat)) := by
  induction l generalizing k with
  | nil => simp at h
  | cons x l ih =>
    cases k with
    | zero => simp [pcells]
    | succ k =>
      have := ih k (by simpa using h)
      simp only [pcells, List.flatMap_cons] at this ⊢
      rw [show (k + 1) * 2 = k * 2 + 2 by omega, show k * 2 + 2 + 1 = (k * 2 + 1) + 2 by omega]
      simpa using this
theorem pcs_get (cs : List Nat) (k : Nat) (h : k < (pcs cs).length) : (pcs cs)[k] = (P cs k, P cs (k + 1) - P cs k) := by simp [pcs]
theorem txts_take (s : ByteArray) (cs : List Nat) (k : Nat) (h : k < cs.length) : (txts s cs).take (k + 1) = (txts s cs).take k ++ [s.extract (P cs k) (P cs (k + 1))] := by
  rw [List.take_succ_eq_append_getElem (by rw [txts_len]; exact h)]
  simp [txts]
theorem cutsOf_cutting (c : CutN) (s : ByteArray) : Cutting s.size (cutsOf c s) := cl_cutting
theorem cutsOf_len (c : CutN) (s : ByteArray) : (cutsOf c s).length ≤ s.size := cl_len _
set_option maxRecDepth 100000 in
set_option maxHeartbeats 1000000 in
theorem ctexts_no (c : Cut5) (s : ByteArray) (n0 : Nat) (w : World) (hp : c.p < 18446744073709551616) (hN : Needs n0 w) (h : ¬ CMay c) :
    Calls Tryd.prog 23 #[.agg #[.int .u64 c.p, .int .i64 c.n, .int .i64 c.mi, .int .i64 c.ma, .int .i64 c.bi], .string s] w fun e w' => e = .returned (.tuple #[.slice none 0 0, .int .i64 2]) ∧ Below w.heap.size w w' := by
  have C := Lib.hid (fun W (hb : Below w.heap.size w W) => ccut_no c s n0 W hp (hN.below (hb.mono hN.size)) h)
  obtain ⟨p, n, mi, ma, bi⟩ := c
  simp only at C ⊢
  clear h hN hp
  go_enter Tryd.func23, Tryd.ntmps23
  go_wp2_with fail
  have hb0 : Below w.heap.size w (w.alloc (.cells #[.int .u64 p, .int .i64 n, .int .i64 mi, .int .i64 ma, .int .i64 bi] 38)) := (Below.refl _ _).alloc (Nat.le_refl _) _
  refine (C.out _ hb0).mono ?_
  rintro e w1 ⟨rfl, hb1⟩
  have HB := Lib.hid (hb0.trans (hb1.mono (by simp)))
  clear hb1 hb0 C
  go_wp2_with fail
  go_ret2
  exact ⟨rfl, HB.out⟩
set_option maxRecDepth 100000 in
set_option maxHeartbeats 1000000 in
theorem ctexts_yes (c : CutN) (s : ByteArray) (n0 : Nat) (w : World) (hm : c.May) (hN : Needs n0 w) (hs : s.size ≤ 4000) :
    Calls Tryd.prog 23 #[.agg #[.int .u64 c.p, .int .i64 c.n, .int .i64 c.mi, .int .i64 c.ma, .int .i64 c.bi], .string s] w fun e w' => ∃ v, e = .returned (.tuple #[v, .int .i64 0]) ∧ w'.ownsRow w.heap.size 9 1 v (cutsOf c s).length ((txts s (cutsOf c s)).map .string) ∧ Below w.heap.size w w' := by
  have C := Lib.hid (fun W (hb : Below w.heap.size w W) => ccut_yes c s n0 W hm (hN.below (hb.mono hN.size)) hs)
  have hcu := cutsOf_cutting c s
  have hle := cutsOf_len c s
  obtain ⟨i0, hi, hz0, hz1, hz2⟩ := info_parts infoS
  clear hN hm
  generalize cutsOf c s = cs at *
  go_enter Tryd.func23, Tryd.ntmps23
  go_wp2_with fail
  have hb0 : Below w.heap.size w (w.alloc (.cells #[.int .u64 c.p, .int .i64 c.n, .int .i64 c.mi, .int .i64 c.ma, .int .i64 c.bi] 38)) := (Below.refl _ _).alloc (Nat.le_refl _) _
  refine (C.out _ hb0).mono ?_
  rintro e w1 ⟨v, rfl, hown, hb1⟩
  have z1 := hb1.size
  simp at z1
  have HB := Lib.hid (hb0.trans (hb1.mono (by simp)))
  obtain ⟨-, p, cap, rfl, hrow⟩ := row_of_owns hown
  have HR := Lib.hid hrow
  have HC := Lib.hid hcu
  clear hb1 hb0 C hrow hown hcu
  go_wp2_with fail
  go_loopw [4, 8, 20] (fun v _ i wr => ∃ k : Nat, k ≤ cs.length ∧ i = .int .i64 k ∧ wr.ownsRow w1.heap.size 9 1 v k (((txts s cs).take k).map .string) ∧ Below w1.heap.size w1 wr) (fun _ _ i _ => cs.length - (intOf i).toNat)
  case atStart => exact ⟨0, Nat.zero_le _, rfl, World.ownsRow_nil _ _ _ _, Below.refl _ _⟩
  case round =>
    obtain ⟨k, hk, rfl, hrow, hbr⟩ := hrel
    have zr := hbr.size
    by_cases hlt : k < cs.length
    · have hpl : k < (pcs cs).length := by rw [pcs_len]; exact hlt
      obtain ⟨g1, g2⟩ := pcells_get (pcs cs) k hpl
      rw [pcs_get cs k hpl] at g1 g2
      obtain ⟨b, off, rfl, hb, hc⟩ := HR.out _ _ g1
      obtain ⟨b', off', e', hb', hc'⟩ := HR.out _ _ g2
      obtain ⟨rfl, rfl⟩ : b = b' ∧ off = off' := by simpa using e'
      have m1 := HC.out.mono hlt
      have m2 := HC.out.le_N (i := k + 1) (by omega)
      have HT := Lib.hid (txts_take s cs k hlt)
      simp only at hc hc'
      have d1 : wr.cell? ⟨b, off + k * 2, none⟩ = some (.int .i64 (P cs k : Nat)) := (hbr.cell (p := ⟨b, off + k * 2, none⟩) hb).trans hc
      have d2 : wr.cell? ⟨b, off + k * 2 + 1, none⟩ = some (.int .i64 (P cs (k + 1) - P cs k : Nat)) := (hbr.cell (p := ⟨b, off + k * 2 + 1, none⟩) hb).trans hc'
      generalize P cs k = a at *
      generalize P cs (k + 1) = a' at *
      clear e' g1 g2 hc hc' hb'
      have HB2 := Lib.hid hbr
      have hx : a + (a' - a) = a' := by omega
      go_wp2_with (first
        | (at_builtin; refine wpList_append_own_at _ rfl _ _ 24 rfl w1.heap.size 9 i0 (.string ⟨#[]⟩) 1 16 Tryd.underlying24 hi hz0 hz1 hz2 rfl (by decide) _ _ _ rfl ((hrow.alloc _).alloc _) ⟨wr.heap.size + 1, 0, none⟩ 1 1 [.string (s.extract a a')] rfl rfl (by have := cell_one_new (wr.alloc (.cells #[.int .i64 (a : Nat), .int .i64 (a' - a : Nat)] 57)) (.string (s.extract a a')) 9; rwa [World.size_alloc] at this) (strs_oneCell [s.extract a a']) (by unfold maxLen; omega) (by omega) (by simp; omega) ?_; intro v' w2 hown' hgrow hnil hloc)
        | go_in)
      refine ⟨⟨k + 1, by omega, by go_num, ?_, ?_⟩, by simp only [intOf]; omega⟩
      · rw [HT.out, List.map_append]; exact hown'
      · exact ((HB2.out.alloc (by omega) _).alloc (by simp; omega) _).grown hgrow (by simp; omega) (fun j hj => owns_base hrow hj)
    · obtain rfl : k = cs.length := by omega
      have HO := Lib.hid hrow
      clear hrow
      go_wp2_with fail
      go_ret2
      refine ⟨_, rfl, ?_, HB.out.trans (hbr.mono (by omega))⟩
      have := HO.out
      rw [List.take_of_length_le (by rw [txts_len]; exact Nat.le_refl _)] at this
      exact owns_mono this (by omega)
theorem infoI' : (Tryd.prog.info? 3).map (fun i => (i.zero, i.size, i.bytes)) = some (some (.int .i64 0), 1, 8) := by kernel_rfl
/-- the cells of a row of numbers -/
def icells (l : List Nat) : List Value := l.map fun k => Value.int .i64 (k : Nat)
set_option maxRecDepth 100000 in
set_option maxHeartbeats 1000000 in
/-- maslinlaw09.cuts of the texts between places: the places -/
theorem cuts_any (s : ByteArray) (cs : List Nat) (v : Value) (w : World) (hc : Cutting s.size cs) (hs : s.size ≤ 4000) (hl : cs.length ≤ 4000) (hr : Row w 1 v cs.length ((txts s cs).map .string)) :
    Calls Tryd.prog 24 #[v] w fun e w' => ∃ v', e = .returned v' ∧ w'.ownsRow w.heap.size 3 1 v' cs.length (icells cs) ∧ Below w.heap.size w w' := by
  obtain ⟨-, p, cap, rfl, hrow⟩ := hr
  have HR := Lib.hid hrow
  have HC := Lib.hid hc
  obtain ⟨i0, hi, hz0, hz1, hz2⟩ := info_parts infoI'
  clear hrow hc
  go_enter Tryd.func24, Tryd.ntmps24
  go_wp2_with fail
  go_loopw [3, 4, 5] (fun v n i wr => ∃ k : Nat, k ≤ cs.length ∧ i = .int .i64 k ∧ n = .int .i64 (P cs k : Nat) ∧ wr.ownsRow w.heap.size 3 1 v k (icells (cs.take k)) ∧ Below w.heap.size w wr) (fun _ _ i _ => cs.length - (intOf i).toNat)
  case atStart => exact ⟨0, Nat.zero_le _, rfl, rfl, World.ownsRow_nil _ _ _ _, Below.refl _ _⟩
  case round =>
    obtain ⟨k, hk, rfl, rfl, hrow, hbr⟩ := hrel
    have zr := hbr.size
    by_cases hlt : k < cs.length
    · obtain ⟨b, off, rfl, hb, hc⟩ := HR.out k (.string (s.extract (P cs k) (P cs (k + 1)))) (by rw [List.getElem?_map, txts_get s cs k hlt]; rfl)
      have m1 := HC.out.mono hlt
      have m2 := HC.out.le_N (i := k + 1) (by omega)
      have m3 := HC.out.txt_size hlt
      have HT := Lib.hid (show icells (cs.take (k + 1)) = icells (cs.take k) ++ [.int .i64 (P cs (k + 1) : Nat)] by
        rw [take_snoc cs k 0 hlt, P_succ]; simp [icells])
      have d1 : wr.cell? ⟨b, off + k, none⟩ = some (.string (s.extract (P cs k) (P cs (k + 1)))) := (hbr.cell (p := ⟨b, off + k, none⟩) hb).trans hc
      generalize s.extract (P cs k) (P cs (k + 1)) = t at *
      have HA' : ∃ a', Hid (P cs (k + 1) = a') := ⟨_, rfl⟩
      obtain ⟨a', HA'⟩ := HA'
      rw [HA'.out] at m1 m2 m3 HT
      generalize P cs k = a at *
      have m4 : t.size + a = a' := by omega
      have HB2 := Lib.hid hbr
      clear hc m3
      have hx : (a : Int) + t.size = a' := by omega
      go_wp2_with (first
        | (at_builtin; refine wpList_append_own_at _ rfl _ _ 32 rfl w.heap.size 3 i0 (.int .i64 0) 1 8 Tryd.underlying32 hi hz0 hz1 hz2 rfl (by decide) _ _ _ rfl (hrow.alloc _) ⟨wr.heap.size, 0, none⟩ 1 1 [.int .i64 (a' : Nat)] rfl rfl (cell_one_new _ _ _) (ints_oneCell .i64 [(a' : Int)]) (by unfold maxLen; omega) (by omega) (by simp; omega) ?_; intro v' w2 hown' hgrow hnil hloc)
        | go_in)
      refine ⟨⟨k + 1, by omega, by go_num, by rw [HA'.out], ?_, ?_⟩, by simp only [intOf]; omega⟩
      · rw [HT.out]; exact hown'
      · exact (HB2.out.alloc (by omega) _).grown hgrow (by simp; omega) (fun j hj => owns_base hrow hj)
    · obtain rfl : k = cs.length := by omega
      have HO := Lib.hid hrow
      clear hrow
      go_wp2_with fail
      go_ret
      refine ⟨_, rfl, ?_, hbr⟩
      have := HO.out
      rw [List.take_of_length_le (Nat.le_refl _)] at this
      exact this
end Go.Proofs.YtpkbhihkhnkhnaaDoor
