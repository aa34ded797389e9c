/- chunk.places and its iterator: which places of a text are marks. -/
import Derived.Test.YtpkbhihkhnkhnaaDoorNeeds
import Derived.Test.YtpkbhihkhnkhnaaDoorMeets
import Derived.Test.YtpkbhihkhnkhnaaDoorBytes
import Derived.Shelf.Abstract
import Derived.Shelf.RegionOpen
import Derived.OwnWalkIn
import Derived.TacticsInMore
import Derived.LoopNIn
import Derived.LoopIn
import Derived.RangeFuncNested
import Derived.Outline
namespace Go.Proofs.YtpkbhihkhnkhnaaDoor
open Go.RowKit Go.Shelf
attribute [local go_sem] Oper.semAt_some
/-- a cutter that may be, in natural numbers -/
structure CutN where
  p : Nat
  n : Nat
  mi : Nat
  ma : Nat
  bi : Nat
def CutN.five (c : CutN) : Cut5 := ⟨c.p, c.n, c.mi, c.ma, c.bi⟩
def CutN.v (c : CutN) : Value := .agg #[.int .u64 c.p, .int .i64 c.n, .int .i64 c.mi, .int .i64 c.ma, .int .i64 c.bi]
def CutN.May (c : CutN) : Prop := c.p < 18446744073709551616 ∧ RMay c.p c.n ∧ 1 ≤ c.n ∧ c.n ≤ 64 ∧ c.n ≤ c.mi ∧ c.mi ≤ c.ma ∧ c.ma ≤ 4096 ∧ c.bi ≤ 16
/-- a block that holds a cutter -/
def CutB (W : World) (b : Nat) (c : CutN) : Prop := W.heap[b]? = some (.cells #[.int .u64 c.p, .int .i64 c.n, .int .i64 c.mi, .int .i64 c.ma, .int .i64 c.bi] 38 (0, 0))
theorem CutB.cells {W : World} {b : Nat} {c : CutN} (h : CutB W b c) : W.cell? ⟨b, 0, none⟩ = some (.int .u64 c.p) ∧ W.cell? ⟨b, 1, none⟩ = some (.int .i64 c.n) ∧ W.cell? ⟨b, 2, none⟩ = some (.int .i64 c.mi) ∧ W.cell? ⟨b, 3, none⟩ = some (.int .i64 c.ma) ∧ W.cell? ⟨b, 4, none⟩ = some (.int .i64 c.bi) := by
  have e : W.heap[b]? = some (.cells #[.int .u64 c.p, .int .i64 c.n, .int .i64 c.mi, .int .i64 c.ma, .int .i64 c.bi] 38 (0, 0)) := h
  refine ⟨?_, ?_, ?_, ?_, ?_⟩ <;> simp [World.cell?, e]
theorem CutB.lt {W : World} {b : Nat} {c : CutN} (h : CutB W b c) : b < W.heap.size := (Array.getElem?_eq_some_iff.1 h).1
theorem places_any (c : CutN) (s : ByteArray) (w : World) :
    Calls Tryd.prog 49 #[.agg #[.int .u64 c.p, .int .i64 c.n, .int .i64 c.mi, .int .i64 c.ma, .int .i64 c.bi], .string s] w fun e w' => e = .returned (.func (.func 63) #[] #[.pointer (some ⟨w.heap.size, 0, none⟩), .pointer (some ⟨w.heap.size + 1, 0, none⟩)]) ∧ CutB w' w.heap.size c ∧ Boxed w' (w.heap.size + 1) 9 (.string s) ∧ w'.heap.size = w.heap.size + 2 ∧ Below w.heap.size w w' := by
  go_enter Tryd.func49, Tryd.ntmps49
  go_wp2_with fail
  go_ret
  refine ⟨rfl, ?_, ?_, by simp, ((Below.refl _ _).alloc (Nat.le_refl _) _).alloc (by simp) _⟩
  · unfold CutB; rw [Below.heap_alloc _ _ _ (by simp)]; exact World.alloc_heap_new w _
  · have := Boxed.new (w.alloc (.cells #[.int .u64 c.p, .int .i64 c.n, .int .i64 c.mi, .int .i64 c.ma, .int .i64 c.bi] 38)) 9 (.string s)
    rwa [World.size_alloc] at this
def PlCap (bc bs : Nat) (c : CutN) (s : ByteArray) (W : World) : Prop := CutB W bc c ∧ Boxed W bs 9 (.string s)
theorem ones_u64 {bi : Nat} (h : bi ≤ 16) : IntKind.u64.wrap ((2 : Int) ^ bi) = ((2 ^ bi : Nat) : Int) ∧ (2 ^ bi : Nat) ≤ 65536 ∧ 1 ≤ (2 ^ bi : Nat) := by
  have h1 : (2 ^ bi : Nat) ≤ 65536 := Nat.pow_le_pow_right (n := 2) (by omega) h
  have h2 : 1 ≤ (2 ^ bi : Nat) := Nat.one_le_two_pow
  have e : (2 : Int) ^ bi = ((2 ^ bi : Nat) : Int) := by rw [Int.natCast_pow]; rfl
  rw [e]
  exact ⟨wrap_u64 _ (by omega), h1, h2⟩
theorem extract_one (s : ByteArray) (k : Nat) (h : k < s.size) : (s.extract k (k + 1)).data.toList = [s.data.toList.getD k 0] := by
  have hl : k < s.data.toList.length := by simpa using h
  rw [ba_extract, List.take_succ_eq_append_getElem hl, List.drop_append_of_le_length (by simp; omega)]
  rw [List.getD_eq_getElem?_getD, List.getElem?_eq_getElem hl]
  simp
theorem RolG.stays {S : Nat → Prop} {A B : World} {R p n : Nat} {g : List UInt8} (h : RolG A R p n g) (k : Kept S A B) (hs : S R) : RolG B R p n g := by
  obtain ⟨a, buf, hr, hw⟩ := h
  exact ⟨a, buf, hr.stays k hs, hw⟩
theorem mark_u64 (p n bi : Nat) (s : ByteArray) (k : Nat) (h : bi ≤ 16) (hf : fp p (lastN n (s.data.toList.take k)) < 18446744073709551616) :
    (bits .and .u64 (fp p (lastN n (s.data.toList.take k)) : Nat) (IntKind.u64.wrap ((2 : Int) ^ bi - 1)) == IntKind.u64.wrap ((2 : Int) ^ bi - 1)) = mark p n bi s k := by
  obtain ⟨o1, o2, o3⟩ := ones_u64 h
  have e : (2 : Int) ^ bi = ((2 ^ bi : Nat) : Int) := by rw [Int.natCast_pow]; rfl
  have e2 : (2 : Int) ^ bi - 1 = ((2 ^ bi - 1 : Nat) : Int) := by rw [e]; omega
  rw [e2, wrap_u64 _ (by omega), u64_and_nat _ _ hf (by omega), mark, mkL]
  rw [Bool.eq_iff_iff, beq_iff_eq, decide_eq_true_iff]
  omega
set_option maxRecDepth 100000 in
set_option maxHeartbeats 1000000 in
theorem places_seq (n : Nat) (c : CutN) (s : ByteArray) (bc bs : Nat) (W0 : World) (hm : c.May) (hs : s.size ≤ 4000) :
    SeqOwn Fence.wide n Tryd.prog 63 #[.pointer (some ⟨bc, 0, none⟩), .pointer (some ⟨bs, 0, none⟩)] (fun k : Nat => #[.int .i64 (k + 1), .bool (mark c.p c.n c.bi s (k + 1))]) (List.range s.size) True (fun Ow => ∀ i, Ow i → W0.heap.size ≤ i) (PlCap bc bs c s) W0 := by
  intro l J Jx h0 hJ hcap _ hY
  obtain ⟨p, wn, mi, ma, bi⟩ := c
  obtain ⟨m0, m1, m2, m3, m4, m5, m6, m7⟩ := hm
  simp only at m0 m1 m2 m3 m4 m5 m6 m7 ⊢
  obtain ⟨o1, o2, o3⟩ := ones_u64 m7
  obtain ⟨q0, q1, q2, q3, q4⟩ := dg_56 (p := p) (by have := m1.1; omega) m1.2.1
  have hb0 : PlCap bc bs ⟨p, wn, mi, ma, bi⟩ s W0 := hcap (fun _ => False) 0 W0 (fun _ h => h.elim) (h0 _ (fun _ h => h.elim))
  obtain ⟨hcb, hsb⟩ := hb0
  obtain ⟨c0, c1, c2, c3, c4⟩ := hcb.cells
  have cs := hsb.cell
  have C1 := Lib.hid (fun W => new_any p wn W m0 m1)
  have H0 := Lib.hid h0
  have HJ := Lib.hid hJ
  have HC := Lib.hid hcap
  have HY := Lib.hid hY
  clear h0 hJ hcap hY hcb hsb c2 c3
  simp only at c0 c1 c4
  have hfn : ∀ f, Fence.wide.fn f := fun _ => trivial
  have hdp : Fence.wide.depth.isSome = false := rfl
  refine callsIn_of_wp Tryd.func63 rfl trivial ?_ rfl
  simp only [Tryd.ntmps63, List.size_toArray, List.length_cons, List.length_nil, Nat.reduceAdd, Nat.reduceSub, Array.replicate_succ, Array.replicate_zero, List.push_toArray, List.append_toArray, List.nil_append, List.cons_append]
  gi_wp2_with fail
  refine (callsIn_wide.2 (C1.out _)).mono ?_
  rintro e w1 ⟨R, rfl, hR, hG, hb1⟩
  have hcw1 := HC.out (fun i => i = R) 0 w1 (fun i hi => hi ▸ hR) (HJ.out _ _ _ _ (fun i hi => hi ▸ hR) (H0.out _ (fun i hi => hi ▸ hR)) (Kept.of_below' hb1))
  have hJ1 : J (fun i => i = R) 0 w1 := HJ.out _ _ _ _ (fun i hi => hi ▸ hR) (H0.out _ (fun i hi => hi ▸ hR)) (Kept.of_below' hb1)
  have cs' := hcw1.2.cell
  obtain ⟨-, -, -, -, c4'⟩ := hcw1.1.cells
  simp only at c4'
  have hOk : ∀ i, i = R → W0.heap.size ≤ i := fun i hi => hi ▸ hR
  have HOk := Lib.hid hOk
  clear hOk hcw1 hb1
  gi_wp2_with fail
  gi_loopw [7, 8, 9, 26] (fun _ _ _ i wr => ∃ k : Nat, k ≤ s.size ∧ i = .int .i64 k ∧ RolG wr R p wn (s.data.toList.take k) ∧ J (fun i => i = R) k wr) (fun _ _ _ i _ => s.size - (intOf i).toNat)
  case atStart => exact ⟨0, Nat.zero_le _, rfl, hG, hJ1⟩
  case round =>
    obtain ⟨k, hk, rfl, hg, hj⟩ := hrel
    clear hG hJ1
    have hcw := (HC.out _ k wr HOk.out hj).2.cell
    by_cases hlt : k < s.size
    · have C2 := Lib.hid (roll_any R p wn (s.data.toList.take k) (s.extract k (k + 1)) wr m0 m1.1 m1.2.1 (by omega) (by simp; omega) hg)
      rw [extract_one s k hlt, ← take_snoc _ _ _ (by simpa using hlt)] at C2
      have HX := Lib.hid (HJ.out _ k wr · HOk.out hj)
      have hx := mark_u64 p wn bi s (k + 1) m7 (by have := pm_56 (val (lastN wn (s.data.toList.take (k + 1)))) q0 q4; unfold fp; omega)
      clear hg hj
      gi_wp2_with fail
      refine (callsIn_wide.2 C2.out).mono ?_
      rintro e w2 ⟨rfl, hg2, hk2⟩
      have hR2 : R < w2.heap.size := by obtain ⟨a, buf, hr, _⟩ := hg2; exact hr.1
      obtain ⟨fn, tmps, assign, body, hy, hR⟩ := HY.out (fun i => i = R) k w2 (by simpa using hlt) HOk.out (fun i hi => hi ▸ hR2) (HX.out _ hk2)
      rw [List.getElem_range] at hy
      have HG2 := Lib.hid hg2
      clear hg2 hk2
      gi_wp2_with fail
      refine hR.mono ?_
      rintro e W3 (⟨rfl, hJ3, hk3⟩ | ⟨rfl, hJx3⟩)
      · have HG3 := Lib.hid (HG2.out.stays hk3 rfl)
        clear HG2 hk3
        gi_wp2_with fail
        exact ⟨⟨k + 1, by omega, by go_num, HG3.out, hJ3⟩, by simp only [intOf]; omega⟩
      · gi_wp2_with fail
        refine bodyPost_ret (results_none rfl _ _ _) rfl ?_
        exact ⟨⟨_, rfl⟩, .inr hJx3⟩
    · obtain rfl : k = s.size := by omega
      have HJ' := Lib.hid hj
      clear hj hg
      gi_wp2_with fail
      refine bodyPost_end (results_none rfl _ _ _) rfl ?_
      exact ⟨⟨_, rfl⟩, .inl ⟨_, HOk.out, by rw [List.length_range]; exact HJ'.out⟩⟩
end Go.Proofs.YtpkbhihkhnkhnaaDoor
