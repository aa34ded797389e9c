/- LinesMeet: plain facts; maslinlaw10.ends. -/
import Derived.Test.YtpkbhihkhnkhnaaDoorAlivt
import Derived.Test.YtpkbhihkhnkhnaaDoorChm
namespace Go.Proofs.YtpkbhihkhnkhnaaDoor
open Go.RowKit
theorem isE_app {a e : List UInt8} {i : Nat} (h : 1 ≤ i) : isE (a ++ e) (a.length + i) = isE e i := by
  unfold isE
  have e1 : decide (0 < a.length + i) = decide (0 < i) := by congr 1; apply propext; omega
  have e2 : decide (a.length + i = (a ++ e).length) = decide (i = e.length) := by congr 1; apply propext; simp
  have e3 : (a ++ e)[a.length + i - 1]? = e[i - 1]? := by
    rw [List.getElem?_append_right (by omega), show a.length + i - 1 - a.length = i - 1 by omega]
  rw [e1, e2, e3]
theorem al_app {a e : List UInt8} {x : Nat} (h : 1 ≤ x) : al (a ++ e) (a.length + x) = a.length + al e x := by
  rcases Nat.lt_or_ge e.length x with g | g
  · rw [al_gt (show (a ++ e).length ≤ a.length + x by simp; omega), al_gt (show e.length ≤ x by omega)]; simp
  · have h1 := al_isE (l := e) x (by omega)
    have h2 := al_ge g
    refine al_eq (by omega) ?_ (fun j hj hlt => ?_)
    · rw [isE_app (by omega)]; exact h1
    · obtain ⟨i, rfl⟩ : ∃ i, j = a.length + i := ⟨j - a.length, by omega⟩
      rw [isE_app (by omega)]
      exact al_none (b := al e x) (show x ≤ i by omega) (by omega) rfl
/-- the ends from a place on, told from there -/
def endsL (cs : List Nat) (from' : Nat) : List Nat := (cs.filter (fun x => decide (from' ≤ x))).map (· - from')
theorem mem_endsL {cs : List Nat} {f z : Nat} : z ∈ endsL cs f ↔ f + z ∈ cs := by
  unfold endsL
  rw [List.mem_map]
  constructor
  · rintro ⟨x, hx, rfl⟩
    rw [List.mem_filter, decide_eq_true_eq] at hx
    rw [show f + (x - f) = x by omega]; exact hx.1
  · intro h
    exact ⟨f + z, by rw [List.mem_filter, decide_eq_true_eq]; exact ⟨h, by omega⟩, by omega⟩
theorem endsL_sorted {cs : List Nat} {f : Nat} (h : cs.Pairwise (· < ·)) : (endsL cs f).Pairwise (· < ·) := by
  unfold endsL
  rw [List.pairwise_map]
  have h1 := h.filter (fun x => decide (f ≤ x))
  have h2 : ∀ x ∈ cs.filter (fun x => decide (f ≤ x)), f ≤ x := fun x hx => by rw [List.mem_filter, decide_eq_true_eq] at hx; exact hx.2
  exact List.Pairwise.imp_of_mem (fun {a b} ha hb hab => by have := h2 a ha; have := h2 b hb; omega) h1
theorem meet_half (c : CutN) (hc : c.May) (one two e : ByteArray) {m z : Nat} (hm : 0 < m) (h1 : one.size + m ∈ cutsOf c (one ++ e)) (h2 : two.size + m ∈ cutsOf c (two ++ e)) (hz : one.size + m + z ∈ acsOf c (one ++ e)) :
    two.size + m + z ∈ acsOf c (two ++ e) := by
  have cu1 := cutsOf_cutting c (one ++ e)
  have cu2 := cutsOf_cutting c (two ++ e)
  have la1 : (one ++ e).data.toList = one.data.toList ++ e.data.toList := ba_append _ _
  have la2 : (two ++ e).data.toList = two.data.toList ++ e.data.toList := ba_append _ _
  have al1 : ∀ j, 1 ≤ j → al (one ++ e).data.toList (one.size + j) = one.size + al e.data.toList j := fun j hj => by rw [la1, ba_size one]; exact al_app hj
  have al2 : ∀ j, 1 ≤ j → al (two ++ e).data.toList (two.size + j) = two.size + al e.data.toList j := fun j hj => by rw [la2, ba_size two]; exact al_app hj
  have hmark : ∀ k, c.mi ≤ k → k ≤ e.size → mark c.p c.n c.bi (one ++ e) (one.size + k) = mark c.p c.n c.bi (two ++ e) (two.size + k) := fun k hk hE => by
    obtain ⟨m0, m1, m2, m3, m4, m5, m6, m7⟩ := hc
    have := mark_end c.p c.n c.bi one.data.toList two.data.toList e.data.toList k (by omega) (one ++ e) (two ++ e) (ba_append _ _) (ba_append _ _) (by rw [← ba_size]; exact hE)
    rwa [← ba_size, ← ba_size] at this
  have c1 : cutsOf c (one ++ e) = cl (one.size + e.size) c.mi c.ma (mark c.p c.n c.bi (one ++ e)) (one.size + e.size) := by unfold cutsOf; rw [ba_append_size]
  have c2 : cutsOf c (two ++ e) = cl (two.size + e.size) c.mi c.ma (mark c.p c.n c.bi (two ++ e)) (two.size + e.size) := by unfold cutsOf; rw [ba_append_size]
  have cu1' := cu1
  have cu2' := cu2
  rw [ba_size] at cu1' cu2'
  unfold acsOf at hz ⊢
  rw [mem_ac cu1'] at hz
  rw [mem_ac cu2']
  obtain ⟨k, hk, hak⟩ := hz
  rcases Nat.lt_or_ge k (one.size + m) with g | g
  · refine ⟨two.size + m, h2, ?_⟩
    have hN : 0 < (one ++ e).data.toList.length := by
      have := cu1.le _ h1; rw [← ba_size]; omega
    have q1 : al (one ++ e).data.toList (one.size + m) = al (one ++ e).data.toList k :=
      Nat.le_antisymm (al_min (by omega) (al_isE _ hN)) (al_mono (by omega))
    rw [al1 m hm, hak] at q1
    rw [al2 m hm]; omega
  · obtain ⟨j, rfl⟩ : ∃ j, k = one.size + j := ⟨k - one.size, by omega⟩
    rw [al1 j (by omega)] at hak
    refine ⟨two.size + j, ?_, by rw [al2 j (by omega)]; omega⟩
    rcases Nat.eq_or_lt_of_le (show m ≤ j by omega) with e' | e'
    · subst e'; exact h2
    · rw [c1, mem_cl] at hk h1
      rw [c2, mem_cl] at h2 ⊢
      have key := meets_isC (E := e.size) (ma := c.ma) (mi := c.mi) hmark (lc_of_isC h1.2) (lc_of_isC h2.2) e' (by omega)
      exact ⟨by omega, by rw [← key]; exact hk.2⟩
theorem lines_meet (c : CutN) (hc : c.May) (one two e : ByteArray) {m : Nat} (hm : 0 < m) (h1 : one.size + m ∈ cutsOf c (one ++ e)) (h2 : two.size + m ∈ cutsOf c (two ++ e)) :
    endsL (acsOf c (one ++ e)) (one.size + m) = endsL (acsOf c (two ++ e)) (two.size + m) := by
  refine sorted_ext (endsL_sorted (acsOf_cutting _ _).inc) (endsL_sorted (acsOf_cutting _ _).inc) (fun z => ?_)
  rw [mem_endsL, mem_endsL]
  exact ⟨meet_half c hc one two e hm h1 h2, meet_half c hc two one e hm h2 h1⟩
theorem endsL_yes {cs : List Nat} {f k : Nat} (hk : k < cs.length) (h : f ≤ P cs (k + 1)) : endsL (cs.take (k + 1)) f = endsL (cs.take k) f ++ [P cs (k + 1) - f] := by
  unfold endsL
  rw [take_snoc cs k 0 hk, List.filter_append, List.map_append, ← P_succ]
  congr 1
  simp [h]
theorem endsL_no {cs : List Nat} {f k : Nat} (hk : k < cs.length) (h : P cs (k + 1) < f) : endsL (cs.take (k + 1)) f = endsL (cs.take k) f := by
  unfold endsL
  rw [take_snoc cs k 0 hk, List.filter_append, List.map_append, ← P_succ]
  have : ¬ f ≤ P cs (k + 1) := by omega
  simp [this]
theorem endsL_len (cs : List Nat) (f : Nat) : (endsL cs f).length ≤ cs.length := by
  unfold endsL; rw [List.length_map]; exact List.length_filter_le _ _
set_option maxRecDepth 100000 in
set_option maxHeartbeats 1000000 in
theorem ends_any (s : ByteArray) (cs : List Nat) (f : Nat) (v : Value) (w : World) (hc : Cutting s.size cs) (hs : s.size ≤ 4000) (hl : cs.length ≤ 4000) (hf : f ≤ 100000) (hr : Row w 1 v cs.length ((txts s cs).map .string)) :
    Calls Tryd.prog 40 #[v, .int .i64 f] w fun e w' => ∃ v', e = .returned v' ∧ w'.ownsRow w.heap.size 3 1 v' (endsL cs f).length (icells (endsL cs f)) ∧ Below w.heap.size w w' := by
  obtain ⟨-, p, cap, rfl, hrow⟩ := hr
  have HR := Lib.hid hrow
  have HC := Lib.hid hc
  obtain ⟨i0, hi, hz0, hz1, hz2⟩ := info_parts infoI'
  clear hrow hc
  go_enter Tryd.func40, Tryd.ntmps40
  go_wp2_with fail
  go_loopw [5, 6, 7] (fun v n i wr => ∃ k : Nat, k ≤ cs.length ∧ i = .int .i64 k ∧ n = .int .i64 (P cs k : Nat) ∧ wr.ownsRow w.heap.size 3 1 v (endsL (cs.take k) f).length (icells (endsL (cs.take k) f)) ∧ Below w.heap.size w wr) (fun _ _ i _ => cs.length - (intOf i).toNat)
  case atStart => exact ⟨0, Nat.zero_le _, rfl, rfl, World.ownsRow_nil _ _ _ _, Below.refl _ _⟩
  case round =>
    obtain ⟨k, hk, rfl, rfl, hrow, hbr⟩ := hrel
    have zr := hbr.size
    by_cases hlt : k < cs.length
    · obtain ⟨b, off, rfl, hb, hc⟩ := HR.out k (.string (s.extract (P cs k) (P cs (k + 1)))) (by rw [List.getElem?_map, txts_get s cs k hlt]; rfl)
      have m1 := HC.out.mono hlt
      have m2 := HC.out.le_N (i := k + 1) (by omega)
      have m3 := HC.out.txt_size hlt
      have hll : (endsL (cs.take k) f).length ≤ 4000 := by have := endsL_len (cs.take k) f; simp at this; omega
      have d1 : wr.cell? ⟨b, off + k, none⟩ = some (.string (s.extract (P cs k) (P cs (k + 1)))) := (hbr.cell (p := ⟨b, off + k, none⟩) hb).trans hc
      have HY := Lib.hid (fun h => endsL_yes (f := f) hlt h)
      have HNO := Lib.hid (fun h => endsL_no (f := f) hlt h)
      generalize s.extract (P cs k) (P cs (k + 1)) = t at *
      have HA' : ∃ a', Hid (P cs (k + 1) = a') := ⟨_, rfl⟩
      obtain ⟨a', HA'⟩ := HA'
      rw [HA'.out] at m1 m2 m3 HY HNO
      generalize P cs k = a at *
      have m4 : t.size + a = a' := by omega
      have HB2 := Lib.hid hbr
      have hx : (a : Int) + t.size = a' := by omega
      have HNX : ∃ N X, Hid ((endsL (cs.take k) f).length = N) ∧ Hid (icells (endsL (cs.take k) f) = X) := ⟨_, _, Lib.hid rfl, Lib.hid rfl⟩
      obtain ⟨N, X, HN, HX⟩ := HNX
      rw [HN.out] at hrow hll
      rw [HX.out] at hrow
      clear hc m3
      by_cases hfa : f ≤ a'
      · have HY2 := Lib.hid (HY.out hfa)
        clear HY HNO
        go_wp2_with (first
          | (at_builtin; refine wpList_append_own_at _ rfl _ _ 32 rfl w.heap.size 3 i0 (.int .i64 0) 1 8 Tryd.underlying32 hi hz0 hz1 hz2 rfl (by decide) _ N X rfl (hrow.alloc _) ⟨wr.heap.size, 0, none⟩ 1 1 [.int .i64 ((a' : Int) - f)] rfl rfl (cell_one_new _ _ _) (ints_oneCell .i64 [(a' : Int) - f]) (by unfold maxLen; omega) (by omega) (by simp; omega) ?_; intro v' w2 hown' hgrow hnil hloc)
          | go_in)
        refine ⟨⟨k + 1, by omega, by go_num, by rw [HA'.out], ?_, ?_⟩, by simp only [intOf]; omega⟩
        · rw [HY2.out, List.length_append, HN.out, show icells (endsL (cs.take k) f ++ [a' - f]) = icells (endsL (cs.take k) f) ++ [.int .i64 ((a' : Int) - f)] by simp [icells]; omega, HX.out]; exact hown'
        · exact (HB2.out.alloc (by omega) _).grown hgrow (by simp; omega) (fun j hj => owns_base hrow hj)
      · have HY2 := Lib.hid (HNO.out (by omega))
        have HROW := Lib.hid hrow
        clear HY HNO hrow
        go_wp2_with fail
        refine ⟨⟨k + 1, by omega, by go_num, by rw [HA'.out], ?_, HB2.out⟩, by simp only [intOf]; omega⟩
        rw [HY2.out, HN.out, HX.out]; exact HROW.out
    · obtain rfl : k = cs.length := by omega
      have HO := Lib.hid hrow
      clear hrow
      go_wp2_with fail
      go_ret
      refine ⟨_, rfl, ?_, hbr⟩
      have := HO.out
      rw [List.take_of_length_le (Nat.le_refl _)] at this
      exact this
end Go.Proofs.YtpkbhihkhnkhnaaDoor
