/- maslinref11.Of. -/
import Derived.Test.YtpkbhihkhnkhnaaDoorOf
import Derived.Test.YtpkbhihkhnkhnaaDoorBytes
namespace Go.Proofs.YtpkbhihkhnkhnaaDoor
open Go.RowKit
theorem ext_cat (a : ByteArray) (i j : Nat) (h : i ≤ j) (hj : j ≤ a.size) : (a.extract i j).size = j - i := by simp; omega
theorem ext_ext (a : ByteArray) (k m : Nat) (h : m ≤ k) : (a.extract 0 k).extract 0 m = a.extract 0 m := by
  apply ba_ext; simp only [ba_extract, List.drop_zero, List.take_take]; congr 1; omega
theorem ext_all (a : ByteArray) : a.extract 0 a.size = a := by
  apply ba_ext; simp
theorem last_get {x x' : ByteArray} {j : Nat} (hx : x' = x.extract 0 (x.size - j)) (h : j < x.size) : x'[x'.size - 1]'(by rw [hx]; simp; omega) = x[x.size - 1 - j]'(by omega) := by
  have hs : x'.size = x.size - j := by rw [hx]; simp
  have e := ba_get x' (x'.size - 1) (by omega)
  have e2 : x'.data.toList[x'.size - 1]? = x.data.toList[x.size - 1 - j]? := by
    rw [hs, hx, ba_extract, List.drop_zero, List.getElem?_take, if_pos (by omega)]; congr 1; omega
  rw [e2, ba_get x _ (by omega)] at e
  exact (Option.some.inj e).symm
theorem ext_step (x : ByteArray) (j : Nat) (h : j < x.size) : x.extract 0 (x.size - (j + 1)) = (x.extract 0 (x.size - j)).extract 0 ((x.extract 0 (x.size - j)).size - 1) := by
  rw [show (x.extract 0 (x.size - j)).size = x.size - j by simp, ext_ext _ _ _ (by omega)]; congr 1
set_option maxRecDepth 100000 in
set_option maxHeartbeats 1000000 in
theorem rof_any (a b : ByteArray) (w : World) (ha : a.size ≤ 140737488351232) (hb : b.size ≤ 140737488351232) (n e : Nat) (x y : ByteArray) (hn : n = pre a b) (hx : x = a.extract n a.size) (hy : y = b.extract n b.size) (he : e = suf x y) :
    Calls Tryd.prog 18 #[.string a, .string b] w fun r w' => r = .returned (.agg #[.int .i64 n, .int .i64 (x.size - e : Int), .string (y.extract 0 (y.size - e))]) ∧ Below w.heap.size w w' := by
  have hn1 := pre_le a b
  have hn2 : ∀ k, k < n → decide (a.data.toList[k]? = b.data.toList[k]?) = true := fun k hk => by rw [decide_eq_true_iff]; exact cp_lt (by rw [hn] at hk; exact hk)
  have hn3 : n < min a.size b.size → decide (a.data.toList[n]? = b.data.toList[n]?) = false := fun h => by
    rw [decide_eq_false_iff_not, hn]; rw [hn] at h; exact pre_at (by omega) (by omega)
  rw [← hn] at hn1
  have he1 := suf_le x y
  have he2 : ∀ k, k < e → decide (x.data.toList.reverse[k]? = y.data.toList.reverse[k]?) = true := fun k hk => by rw [decide_eq_true_iff]; exact cp_lt (by rw [he] at hk; exact hk)
  have he3 : e < min x.size y.size → decide (x.data.toList.reverse[e]? = y.data.toList.reverse[e]?) = false := fun h => by
    rw [decide_eq_false_iff_not, he]; rw [he] at h; exact suf_at (by omega) (by omega)
  rw [← he] at he1
  have hxs : x.size ≤ 140737488351232 := by rw [hx]; simp; omega
  have hys : y.size ≤ 140737488351232 := by rw [hy]; simp; omega
  have HN2 := Lib.hid hn2
  have HN3 := Lib.hid hn3
  have HE2 := Lib.hid he2
  have HE3 := Lib.hid he3
  have HX := Lib.hid hx
  have HY := Lib.hid hy
  obtain ⟨hn11, hn12⟩ := hn1
  obtain ⟨he11, he12⟩ := he1
  clear hn2 hn3 he2 he3 hn he hx hy
  go_enter Tryd.func18, Tryd.ntmps18
  go_wp2_with fail
  obtain ⟨W0, hW0⟩ : ∃ W0, W0 = w.alloc (.cells #[.int .i64 0, .int .i64 0, .string ⟨#[]⟩] 23) := ⟨_, rfl⟩
  have z0 : W0.heap.size = w.heap.size + 1 := by rw [hW0]; simp
  have b0 := Lib.hid (show Below w.heap.size w W0 by rw [hW0]; exact (Below.refl _ _).alloc (Nat.le_refl _) _)
  have o0 := Lib.hid (show W0.heap[w.heap.size]? = some (.cells #[.int .i64 0, .int .i64 0, .string ⟨#[]⟩] 23 (0, 0)) by
    rw [hW0, World.alloc_heap_new])
  rw [← hW0]
  clear hW0
  go_loopw [5] (fun i wr => ∃ k : Nat, k ≤ n ∧ i = .int .i64 k ∧ Below W0.heap.size W0 wr) (fun i _ => n - (intOf i).toNat)
  case atStart => exact ⟨0, by omega, rfl, Below.refl _ _⟩
  case round =>
    obtain ⟨k, hk, rfl, hbr⟩ := hrel
    by_cases h1 : k < n
    · have ka : k < a.size := by omega
      have kb : k < b.size := by omega
      have hd : ((a[k].toNat : Int) == (b[k].toNat : Int)) = true := by rw [byte_beq, pk ka kb]; exact HN2.out k h1
      go_wp2_with fail
      go_quiet (fail)
      go_wp2_with fail
      exact ⟨⟨k + 1, by omega, by go_num, below_drewN hbr _⟩, by simp only [intOf]; omega⟩
    · obtain rfl : k = n := by omega
      clear h1 hk
      have hc : (∃ (ka : k < a.size) (kb : k < b.size), ((a[k].toNat : Int) == (b[k].toNat : Int)) = false) ∨ (k < a.size ∧ ¬ k < b.size ∧ decide ((k : Int) < b.size) = false) ∨ (¬ k < a.size ∧ decide ((k : Int) < a.size) = false) := by
        by_cases ka : k < a.size
        · by_cases kb : k < b.size
          · exact .inl ⟨ka, kb, by rw [byte_beq, pk ka kb]; exact HN3.out (by omega)⟩
          · exact .inr (.inl ⟨ka, kb, by rw [decide_eq_false_iff_not]; omega⟩)
        · exact .inr (.inr ⟨ka, by rw [decide_eq_false_iff_not]; omega⟩)
      rcases hc with ⟨ka, kb, hd⟩ | ⟨ka, kb, hd⟩ | ⟨ka, hd⟩
      all_goals
        go_wp2_with fail
        go_quiet (fail)
        go_wp2_with fail
        go_quiet (fail)
        go_wp2_with fail
        clear hd
        rw [← HX.out, ← HY.out]
        have hbr' := Lib.hid hbr
        clear hbr
        go_loopw [6, 7] (fun s6 s7 wr => ∃ j : Nat, j ≤ e ∧ s6 = .string (x.extract 0 (x.size - j)) ∧ s7 = .string (y.extract 0 (y.size - j)) ∧ Below W0.heap.size W0 wr) (fun s6 _ _ => match s6 with | .string t => t.size | _ => 0)
        case atStart => exact ⟨0, by omega, by rw [Nat.sub_zero, ext_all], by rw [Nat.sub_zero, ext_all], below_drewN (below_drewN hbr'.out _) _⟩
        case round =>
          clear hbr'
          obtain ⟨j, hj, rfl, rfl, hbr⟩ := hrel
          obtain ⟨x', hx'⟩ : ∃ x', x' = x.extract 0 (x.size - j) := ⟨_, rfl⟩
          obtain ⟨y', hy'⟩ : ∃ y', y' = y.extract 0 (y.size - j) := ⟨_, rfl⟩
          have sx := Lib.hid (show x'.size = x.size - j by rw [hx']; simp)
          have sy := Lib.hid (show y'.size = y.size - j by rw [hy']; simp)
          have bx : x'.size ≤ 140737488351232 := by have := sx.out; omega
          have by' : y'.size ≤ 140737488351232 := by have := sy.out; omega
          rw [← hx', ← hy']
          have HX' := Lib.hid hx'
          have HY' := Lib.hid hy'
          clear hx' hy'
          by_cases h1 : j < e
          · have lx : 0 < x'.size := by have := sx.out; omega
            have ly : 0 < y'.size := by have := sy.out; omega
            have i1 : (1 : Int) ≤ x'.size := by omega
            have i2 : (x'.size : Int) - 1 < x'.size := by omega
            have i3 : (1 : Int) ≤ y'.size := by omega
            have i4 : (y'.size : Int) - 1 < y'.size := by omega
            have hd : ((x'[x'.size - 1].toNat : Int) == (y'[y'.size - 1].toNat : Int)) = true := by
              rw [byte_beq, last_get HX'.out (by omega), last_get HY'.out (by omega), pk2 (by omega) (by omega)]
              exact HE2.out j h1
            go_wp2_with fail
            go_quiet (fail)
            go_wp2_with fail
            refine ⟨⟨j + 1, by omega, ?_, ?_, below_drewN hbr _⟩, ?_⟩
            · rw [HX'.out, ← ext_step _ _ (by omega)]
            · rw [HY'.out, ← ext_step _ _ (by omega)]
            · simp; omega
          · obtain rfl : j = e := by omega
            clear h1 hj
            have hc : (∃ (lx : 0 < x'.size) (ly : 0 < y'.size), ((x'[x'.size - 1].toNat : Int) == (y'[y'.size - 1].toNat : Int)) = false) ∨ (0 < x'.size ∧ ¬ 0 < y'.size ∧ decide ((0 : Int) < y'.size) = false) ∨ (¬ 0 < x'.size ∧ decide ((0 : Int) < x'.size) = false) := by
              by_cases lx : 0 < x'.size
              · by_cases ly : 0 < y'.size
                · refine .inl ⟨lx, ly, ?_⟩
                  have := sx.out
                  have := sy.out
                  rw [byte_beq, last_get HX'.out (by omega), last_get HY'.out (by omega), pk2 (by omega) (by omega)]
                  exact HE3.out (by omega)
                · exact .inr (.inl ⟨lx, ly, by rw [decide_eq_false_iff_not]; omega⟩)
              · exact .inr (.inr ⟨lx, by rw [decide_eq_false_iff_not]; omega⟩)
            have zr := hbr.size
            obtain ⟨d0, d1, d2, f0, f1, f2⟩ := cells3 (show wr.heap[w.heap.size]? = some (.cells #[.int .i64 0, .int .i64 0, .string ⟨#[]⟩] 23 (0, 0)) by rw [hbr.block _ (by omega)]; exact o0.out)
            have B7 := Lib.hid (b0.out.trans (hbr.mono (by omega)))
            have hlt1 : w.heap.size < wr.heap.size := by omega
            clear hbr
            have key := Lib.hid (show Ending.returned (.agg #[.int .i64 k, .int .i64 x'.size, .string y']) = Ending.returned (.agg #[.int .i64 k, .int .i64 (x.size - j : Int), .string (y.extract 0 (y.size - j))]) by
              rw [sx.out, HY'.out]; congr 6; omega)
            rcases hc with ⟨lx, ly, hd⟩ | ⟨lx, ly, hd⟩ | ⟨lx, hd⟩
            · have i1 : (1 : Int) ≤ x'.size := by omega
              have i2 : (x'.size : Int) - 1 < x'.size := by omega
              have i3 : (1 : Int) ≤ y'.size := by omega
              have i4 : (y'.size : Int) - 1 < y'.size := by omega
              go_wp2_with fail
              go_quiet (fail)
              go_wp2_with fail
              refine bodyPost_ret (v := .agg #[.int .i64 k, .int .i64 x'.size, .string y']) (by simp [results, Tryd.results18, go_sem, *]) rfl ⟨key.out, ?_⟩
              exact (((below_drewN B7.out _).setCell (show w.heap.size ≤ w.heap.size by omega) _).setCell (show w.heap.size ≤ w.heap.size by omega) _).setCell (show w.heap.size ≤ w.heap.size by omega) _
            all_goals
              go_wp2_with fail
              go_quiet (fail)
              go_wp2_with fail
              refine bodyPost_ret (v := .agg #[.int .i64 k, .int .i64 x'.size, .string y']) (by simp [results, Tryd.results18, go_sem, *]) rfl ⟨key.out, ?_⟩
              exact (((below_drewN B7.out _).setCell (show w.heap.size ≤ w.heap.size by omega) _).setCell (show w.heap.size ≤ w.heap.size by omega) _).setCell (show w.heap.size ≤ w.heap.size by omega) _
end Go.Proofs.YtpkbhihkhnkhnaaDoor
