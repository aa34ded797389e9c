/- maslinref09: May, Mark, Marks, next, Cut. -/
import Derived.Test.YtpkbhihkhnkhnaaDoorTiles
import Derived.Test.YtpkbhihkhnkhnaaDoorRabr
import Derived.Deep.RegionWith
namespace Go.Proofs.YtpkbhihkhnkhnaaDoor
open Go.RowKit
set_option maxRecDepth 100000 in
set_option maxHeartbeats 2000000 in
theorem rmark_any (c : CutN) (s : ByteArray) (i : Nat) (w : World) (hm : c.May) (hs : s.size ≤ 4000) (hi : i ≤ s.size) :
    Calls Tryd.prog 52 #[.agg #[.int .u64 c.p, .int .i64 c.n, .int .i64 c.mi, .int .i64 c.ma, .int .i64 c.bi], .string s, .int .i64 i] w fun e w' => e = .returned (.bool (mark c.p c.n c.bi s i)) ∧ Below w.heap.size w w' := by
  obtain ⟨m0, m1, m2, m3, m4, m5, m6, m7⟩ := hm
  obtain ⟨q0, q1, q2, q3, q4⟩ := dg_56 (p := c.p) (by have := m1.1; omega) m1.2.1
  have C1 := Lib.hid (fun W => last_any (s.extract 0 i) c.n W (by omega) (by omega) (by simp; omega))
  have C2 := Lib.hid (fun W => r8of_any c.p ⟨(lastN c.n (s.data.toList.take i)).toArray⟩ W (by omega) (by omega) (by rw [Int.toNat_natCast]; exact m1.1) (by rw [Int.toNat_natCast]; exact m1.2.1) (by rw [ba_mk_size, lastN_length]; omega))
  have hx := mark_u64 c.p c.n c.bi s i m7 (by have := pm_56 (val (lastN c.n (s.data.toList.take i))) q0 q4; unfold fp; omega)
  rw [Int.toNat_natCast, ba_extract, List.drop_zero] at C1
  rw [Int.toNat_natCast, ba_mk] at C2
  obtain ⟨o1, -, -⟩ := ones_u64 m7
  clear m0 m1 q0 q1 q2 q3 q4
  generalize fp c.p (lastN c.n (s.data.toList.take i)) = f at *
  generalize (⟨(lastN c.n (s.data.toList.take i)).toArray⟩ : ByteArray) = tx at *
  generalize mark c.p c.n c.bi s i = mk at *
  go_enter Tryd.func52, Tryd.ntmps52
  go_wp2_with fail
  obtain ⟨W1, hW1⟩ : ∃ W1, W1 = w.alloc (.cells #[.int .u64 c.p, .int .i64 c.n, .int .i64 c.mi, .int .i64 c.ma, .int .i64 c.bi] 38) := ⟨_, rfl⟩
  have hb1 : Below w.heap.size w W1 := by rw [hW1]; exact (Below.refl _ _).alloc (Nat.le_refl _) _
  have hc1 : CutB W1 w.heap.size c := by rw [hW1]; exact World.alloc_heap_new w _
  have z1 : w.heap.size < W1.heap.size := by rw [hW1]; simp
  rw [← hW1]
  have B1 := Lib.hid hb1
  have HC1 := Lib.hid hc1
  obtain ⟨d0, d1, d2, d3, d4⟩ := hc1.cells
  clear hW1 hb1 hc1
  go_region_with (first | (go_at_call 68; refine (C1.out _).mono ?_; rintro e w2 ⟨rfl, hb2'⟩; have hb2 : Below W1.heap.size W1 w2 := ⟨hb2'.os, hb2'.tape, hb2'.output, hb2'.size, hb2'.block⟩; have B2 := Lib.hid (B1.out.trans (hb2.mono (by omega))); have hc2 : CutB w2 w.heap.size c := HC1.out.stays (Kept.of_below' (S := fun _ => True) hb2) trivial; obtain ⟨f0, f1, f2, f3, f4⟩ := hc2.cells; clear hb2 hb2' hc2) | (go_at_call 67; refine (C2.out _).mono ?_; rintro e w3 ⟨rfl, rfl⟩))
  all_goals
    go_wp2_with fail
    go_ret
    exact ⟨rfl, B2.out⟩
set_option maxRecDepth 100000 in
set_option maxHeartbeats 1000000 in
theorem rmarks_any (c : CutN) (s : ByteArray) (w : World) (hm : c.May) (hs : s.size ≤ 4000) :
    Calls Tryd.prog 32 #[.agg #[.int .u64 c.p, .int .i64 c.n, .int .i64 c.mi, .int .i64 c.ma, .int .i64 c.bi], .string s] w fun e w' => ∃ v, e = .returned v ∧ w'.ownsRow w.heap.size 3 1 v (mlK c s s.size).length (icells (mlK c s s.size)) ∧ Below w.heap.size w w' := by
  have C1 := Lib.hid (fun i W (h : i ≤ s.size) => rmark_any c s i W hm hs h)
  obtain ⟨i0, hi, hz0, hz1, hz2⟩ := info_parts infoI'
  clear hm
  go_enter Tryd.func32, Tryd.ntmps32
  go_wp2_with fail
  obtain ⟨W1, hW1⟩ : ∃ W1, W1 = w.alloc (.cells #[.int .u64 c.p, .int .i64 c.n, .int .i64 c.mi, .int .i64 c.ma, .int .i64 c.bi] 38) := ⟨_, rfl⟩
  have hb1 : Below w.heap.size w W1 := by rw [hW1]; exact (Below.refl _ _).alloc (Nat.le_refl _) _
  have hc1 : CutB W1 w.heap.size c := by rw [hW1]; exact World.alloc_heap_new w _
  have z1 : w.heap.size + 1 = W1.heap.size := by rw [hW1]; simp
  rw [← hW1]
  have B1 := Lib.hid hb1
  have HC1 := Lib.hid hc1
  clear hW1 hb1 hc1
  go_loopw [5, 6] (fun v i wr => ∃ k : Nat, k ≤ s.size ∧ i = .int .i64 ((k : Int) + 1) ∧ wr.ownsRow W1.heap.size 3 1 v (mlK c s k).length (icells (mlK c s k)) ∧ Below W1.heap.size W1 wr) (fun _ i _ => s.size + 2 - (intOf i).toNat)
  case atStart => exact ⟨0, Nat.zero_le _, rfl, by rw [mlK_zero]; exact World.ownsRow_nil _ _ _ _, Below.refl _ _⟩
  case round =>
    obtain ⟨k, hk, rfl, hrow, hbr⟩ := hrel
    have zr := hbr.size
    have hcl := mlK_len c s k
    obtain ⟨d0, d1, d2, d3, d4⟩ := (HC1.out.stays (Kept.of_below' (S := fun _ => True) hbr) trivial).cells
    by_cases hlt : k < s.size
    · have C2 := Lib.hid (C1.out (k + 1) wr (by omega))
      rw [Int.natCast_add, Int.natCast_one] at C2
      have HBR := Lib.hid hbr
      have HROW := Lib.hid hrow
      cases hmk : mark c.p c.n c.bi s (k + 1)
      · have HK := Lib.hid (mlK_no hmk)
        rw [hmk] at C2
        clear hmk hbr hrow
        go_wp2_with fail
        refine C2.out.mono ?_
        rintro e w2 ⟨rfl, hb2⟩
        have HB2 := Lib.hid hb2
        clear hb2
        go_wp2_with fail
        refine ⟨⟨k + 1, by omega, by go_num, ?_, HBR.out.trans (HB2.out.mono (by omega))⟩, by simp only [intOf]; omega⟩
        rw [HK.out]
        exact owns_below HROW.out HB2.out
      · have HK := Lib.hid (mlK_yes hmk)
        rw [hmk] at C2
        clear hmk hbr hrow
        go_wp2_with fail
        refine C2.out.mono ?_
        rintro e w2 ⟨rfl, hb2⟩
        have hr2 := owns_below HROW.out hb2
        have B2 := Lib.hid (HBR.out.trans (hb2.mono (by omega)))
        have z2 := hb2.size
        clear hb2
        have HN : ∃ N X, Hid ((mlK c s k).length = N) ∧ Hid (icells (mlK c s k) = X) := ⟨_, _, Lib.hid rfl, Lib.hid rfl⟩
        obtain ⟨N, X, HN, HX⟩ := HN
        rw [HN.out] at hr2 hcl
        rw [HX.out] at hr2
        go_wp2_with (first
          | (at_builtin; refine wpList_append_own_at _ rfl _ _ 32 rfl W1.heap.size 3 i0 (.int .i64 0) 1 8 Tryd.underlying32 hi hz0 hz1 hz2 rfl (by decide) _ N X rfl (hr2.alloc _) ⟨w2.heap.size, 0, none⟩ 1 1 [.int .i64 ((k : Int) + 1)] rfl rfl (cell_one_new _ _ _) (ints_oneCell .i64 [(k : Int) + 1]) (by unfold maxLen; omega) (by omega) (by simp; omega) ?_; intro v' w3 hown' hgrow hnil hloc)
          | fail)
        refine ⟨⟨k + 1, by omega, by go_num, ?_, ?_⟩, by simp only [intOf]; omega⟩
        · rw [HK.out, List.length_append, HN.out, show icells (mlK c s k ++ [k + 1]) = icells (mlK c s k) ++ [.int .i64 ((k : Int) + 1)] by simp [icells], HX.out]; exact hown'
        · exact (B2.out.alloc (by omega) _).grown hgrow (by simp; omega) (fun j hj => owns_base hr2 hj)
    · obtain rfl : k = s.size := by omega
      have HO := Lib.hid hrow
      have HBR := Lib.hid hbr
      clear hrow hbr
      go_wp2_with fail
      go_ret
      exact ⟨_, rfl, owns_mono HO.out (by omega), B1.out.trans (HBR.out.mono (by omega))⟩
set_option maxRecDepth 100000 in
set_option maxHeartbeats 1000000 in
/-- two rows of the same numbers are the same -/
theorem ints_any (l : List Nat) (v v' : Value) (w : World) (hl : l.length ≤ 1000000) (h1 : Row w 1 v l.length (icells l)) (h2 : Row w 1 v' l.length (icells l)) :
    Calls Tryd.prog 31 #[v, v'] w fun e w' => e = .returned (.bool true) ∧ Below w.heap.size w w' := by
  obtain ⟨-, p1, cap1, rfl, R1⟩ := h1
  obtain ⟨-, p2, cap2, rfl, R2⟩ := h2
  have HR1 := Lib.hid R1
  have HR2 := Lib.hid R2
  clear R1 R2
  go_enter Tryd.func31, Tryd.ntmps31
  go_wp2_with fail
  go_loopw [5] (fun j wr => ∃ m : Nat, m ≤ l.length ∧ j = .int .i64 m ∧ ∃ nd, wr = w.drewN nd) (fun j _ => l.length - (intOf j).toNat)
  case atStart => exact ⟨0, Nat.zero_le _, rfl, 0, rfl⟩
  case round =>
    obtain ⟨m, hm, rfl, nd, rfl⟩ := hrel
    by_cases hlt : m < l.length
    · obtain ⟨b1, o1, rfl, k1, d1⟩ := HR1.out m (.int .i64 (l[m] : Nat)) (by simp [icells, hlt])
      obtain ⟨b2, o2, rfl, k2, d2⟩ := HR2.out m (.int .i64 (l[m] : Nat)) (by simp [icells, hlt])
      generalize l[m] = x at *
      go_wp2_with fail
      go_region
      go_wp2_with fail
      exact ⟨⟨m + 1, by omega, by go_num, _, rfl⟩, by simp only [intOf]; omega⟩
    · obtain rfl : m = l.length := by omega
      go_wp2_with fail
      go_ret
      exact ⟨rfl, below_drewN (Below.refl _ _) _⟩
end Go.Proofs.YtpkbhihkhnkhnaaDoor
