/- EditBack: the walk. -/
import Derived.Test.YtpkbhihkhnkhnaaDoorBack
import Derived.Deep.DeepCutAuto
import Derived.Laws.StructEq
import Derived.MapKept
namespace Go.Proofs.YtpkbhihkhnkhnaaDoor
open Go.RowKit
theorem str_ne {a b : ByteArray} (h : ¬ a = b) : (a == b) = false := Bool.eq_false_iff.2 fun e => h ((MapKept.bytes_beq _ _).1 e)
set_option maxRecDepth 100000 in
set_option maxHeartbeats 2000000 in
theorem back_small (a b q : ByteArray) (i c : Int) (n0 : Nat) (w : World) (hs : a.size + b.size + q.size ≤ 4000) (hN : Needs n0 w) :
    Calls Tryd.prog 4 #[.string a, .string b, .agg #[.int .i64 i, .int .i64 c, .string q]] w fun e w' => e = .returned (.bool true) ∧ Below w.heap.size w w' := by
  have CA := Lib.hid (fun W (hb : Below w.heap.size w W) => alive11_any n0 W (hN.below (hb.mono hN.size)))
  clear hN
  obtain ⟨n, k, p, CO, ok⟩ : ∃ (n k : Nat) (p : ByteArray), Hid (∀ W, Calls Tryd.prog 17 #[.string a, .string b] W fun r w' => r = .returned (.agg #[.int .i64 n, .int .i64 k, .string p]) ∧ Below W.heap.size W w') ∧ OfOk a b n k p := by
    refine ⟨pre a b, (a.extract (pre a b) a.size).size - suf (a.extract (pre a b) a.size) (b.extract (pre a b) b.size), _, Lib.hid fun W => ?_, of_ok a b _ _ _ _ rfl rfl rfl rfl⟩
    have h := of_any a b W (by omega) (by omega) _ _ _ _ rfl rfl rfl rfl
    rw [← Int.ofNat_sub (suf_le _ _).1] at h
    exact h
  have C1 := Lib.hid (fun W => app_yes a p n k W (by omega) (by have := ok.qs; omega) ⟨by omega, by omega, by have := ok.le; omega, by have := ok.le; omega⟩)
  simp only [Int.toNat_natCast, ok.eq] at C1
  have o1 := ok.le
  have o2 := ok.qs
  have hcase : (k = 0) ∨ (0 < k ∧ p.size = 0) ∨ (∃ (h0 : 0 < k) (h1 : 0 < p.size), ((a[n].toNat : Int) == (p[0].toNat : Int)) = false ∧ ((a[n + k - 1].toNat : Int) == (p[p.size - 1].toNat : Int)) = false) := by
    by_cases h0 : k = 0
    · exact .inl h0
    · by_cases h1 : p.size = 0
      · exact .inr (.inl ⟨by omega, h1⟩)
      · refine .inr (.inr ⟨by omega, by omega, ?_, ?_⟩)
        · rw [byte_beq, decide_eq_false_iff_not]; exact ok.fst (by omega) (by omega) (by omega)
        · rw [byte_beq, decide_eq_false_iff_not]; exact ok.lst (by omega) (by omega) (by omega)
  clear ok
  have HC := Lib.hid hcase
  clear hcase
  go_enter Tryd.func4, Tryd.ntmps4
  go_wp2_with fail
  refine (CO.out _).mono ?_
  rintro e w1 ⟨rfl, hb1⟩
  have z1 := hb1.size
  simp only [World.size_alloc] at z1
  have e1 : w1.heap[w.heap.size]? = some (.cells #[.int .i64 i, .int .i64 c, .string q] 23 (0, 0)) := by
    rw [hb1.block _ (by simp), World.alloc_heap_new]
  have B1 := Lib.hid (((Below.refl w.heap.size w).alloc (Nat.le_refl _) _).trans (hb1.mono (by simp)))
  clear hb1 CO
  go_wp2_with fail
  obtain ⟨W2, hW2⟩ : ∃ W2, W2 = w1.alloc (.cells #[.int .i64 n, .int .i64 k, .string p] 23) := ⟨_, rfl⟩
  have e2 : W2.heap[w1.heap.size]? = some (.cells #[.int .i64 n, .int .i64 k, .string p] 23 (0, 0)) := by rw [hW2, World.alloc_heap_new]
  have hb2 : Below w1.heap.size w1 W2 := by rw [hW2]; exact (Below.refl _ _).alloc (Nat.le_refl _) _
  have z2 : W2.heap.size = w1.heap.size + 1 := by rw [hW2]; simp
  rw [← hW2]
  clear hW2
  refine (C1.out _).mono ?_
  rintro e w3 ⟨rfl, hb3⟩
  have z3 := hb3.size
  have e3 : w3.heap[w1.heap.size]? = some (.cells #[.int .i64 n, .int .i64 k, .string p] 23 (0, 0)) := by rw [hb3.block _ (by omega)]; exact e2
  have e4 : w3.heap[w.heap.size]? = some (.cells #[.int .i64 i, .int .i64 c, .string q] 23 (0, 0)) := by rw [hb3.block _ (by omega), hb2.block _ (by omega)]; exact e1
  have B3 := Lib.hid ((B1.out.trans (hb2.mono (by omega))).trans (hb3.mono (by omega)))
  obtain ⟨d0, d1, d2, f0, f1, f2⟩ := cells3 e3
  obtain ⟨k0, k1, k2, g0, g1, g2⟩ := cells3 e4
  have E4 := Lib.hid e4
  clear e1 e2 e3 e4 hb2 hb3 C1 B1 f0 f1 f2 g0 g1 g2
  go_upto_region 7 with fail
  go_cut [105] (fun s wx => s = .bool false ∧ ∃ m, wx = w3.drewN m)
  case first =>
    rcases HC.out with hk | ⟨hk, hp⟩ | ⟨hk, hp, h1, h2⟩
    · subst hk
      go_wp2_with fail
      go_quiet (fail)
      go_wp2_with fail
      go_meet
      exact ⟨rfl, _, rfl⟩
    · obtain rfl : p = ⟨#[]⟩ := ba_ext (List.length_eq_zero_iff.1 (by rw [← ba_size]; exact hp))
      clear hp
      go_wp2_with fail
      go_quiet (fail)
      go_wp2_with fail
      go_meet
      exact ⟨rfl, _, rfl⟩
    · have i1 : (1 : Int) ≤ (n : Int) + k := by omega
      have i2 : (n : Int) + k - 1 < a.size := by omega
      have i3 : (1 : Int) ≤ p.size := by omega
      have i4 : (p.size : Int) - 1 < p.size := by omega
      have i5 : (0 : Int) < p.size := by omega
      have i6 : n < a.size := by omega
      have i7 : (n : Int) < a.size := by omega
      have hne : ¬ p = ⟨#[]⟩ := by intro e; rw [e] at hp; exact absurd hp (by decide)
      have hn1 : (p == ⟨#[]⟩) = false := str_ne hne
      have hn3 : (p.toList == []) = false := by
        have e := hn1
        rw [beq_toListBytes, show (⟨#[]⟩ : ByteArray).toList = [] by rw [ByteArray.toList_eq]] at e
        exact e
      go_wp2_with fail
      go_quiet (fail)
      go_wp2_with fail
      go_meet
      exact ⟨rfl, _, rfl⟩
  case rest =>
    obtain ⟨rfl, m, rfl⟩ := hcut
    obtain ⟨W4, hW4⟩ : ∃ W4, W4 = w3.drewN m := ⟨_, rfl⟩
    have z4 : W4.heap.size = w3.heap.size := by rw [hW4]; rfl
    have B4 := Lib.hid (show Below w.heap.size w W4 by rw [hW4]; exact below_drewN B3.out _)
    have E4 := Lib.hid (show W4.heap[w.heap.size]? = some (.cells #[.int .i64 i, .int .i64 c, .string q] 23 (0, 0)) by rw [hW4]; exact E4.out)
    obtain ⟨k0, k1, k2, -, -, -⟩ := cells3 E4.out
    rw [← hW4]
    clear hW4 HC d0 d1 d2 B3
    by_cases hm : EMay a i c
    · have C1 := Lib.hid (fun W => app_yes a q i c W (by omega) (by omega) hm)
      have C2 := Lib.hid (fun W => back_yes a q i c W (by omega) hm)
      obtain ⟨m1, m2, m3, m4⟩ := hm
      obtain ⟨i, rfl⟩ := Int.eq_ofNat_of_zero_le m1
      obtain ⟨c, rfl⟩ := Int.eq_ofNat_of_zero_le m2
      simp only [Int.toNat_natCast] at C1 C2
      have m5 : i + c ≤ a.size := by omega
      obtain ⟨t, ht⟩ : ∃ t, t = a.extract 0 i ++ q ++ a.extract (i + c) a.size := ⟨_, rfl⟩
      have hbk := back_ok a q i c m5 t ht
      have ts : t.size = a.size + q.size - c := by rw [ht]; simp; omega
      rw [← ht] at C1
      have C3 := Lib.hid (fun W => app_yes t (a.extract i (i + c)) i q.size W (by omega) (by simp; omega) ⟨by omega, by omega, by omega, by omega⟩)
      simp only [Int.toNat_natCast, hbk] at C3
      obtain ⟨r, hr⟩ : ∃ r, r = a.extract i (i + c) := ⟨_, rfl⟩
      rw [← hr] at C2 C3
      clear ht hbk ts hr m1 m2 m3 m4
      go_wp2_with fail
      refine (C1.out _).mono ?_
      rintro e w5 ⟨rfl, hb5⟩
      have z5 := hb5.size
      obtain ⟨k0, k1, k2, -, -, -⟩ := cells3 (show w5.heap[w.heap.size]? = some (.cells #[.int .i64 i, .int .i64 c, .string q] 23 (0, 0)) by rw [hb5.block _ (by omega)]; exact E4.out)
      have B5 := Lib.hid (B4.out.trans (hb5.mono (by omega)))
      clear hb5
      go_wp2_with fail
      refine (C2.out _).mono ?_
      rintro e w6 ⟨rfl, hb6⟩
      have z6 := hb6.size
      have B6 := Lib.hid (B5.out.trans (hb6.mono (by omega)))
      clear hb6
      go_wp2_with fail
      refine (C3.out _).mono ?_
      rintro e w7 ⟨rfl, hb7⟩
      have z7 := hb7.size
      have B7 := Lib.hid ((B6.out.alloc (by omega) _).trans (hb7.mono (by simp; omega)))
      clear hb7
      go_wp2_with fail
      refine (CA.out _ B7.out).mono ?_
      rintro e w8 ⟨rfl, hb8⟩
      simp at z7
      have B8 := Lib.hid (B7.out.trans (hb8.mono (by omega)))
      clear hb8
      go_wp2_with fail
      go_ret
      exact ⟨rfl, B8.out⟩
    · have C1 := Lib.hid (fun W => app_no a q i c W (by omega) hm)
      have C2 := Lib.hid (fun W => back_no a q i c W (by omega) hm)
      clear hm
      go_wp2_with fail
      refine (C1.out _).mono ?_
      rintro e w5 ⟨rfl, hb5⟩
      have z5 := hb5.size
      obtain ⟨k0, k1, k2, -, -, -⟩ := cells3 (show w5.heap[w.heap.size]? = some (.cells #[.int .i64 i, .int .i64 c, .string q] 23 (0, 0)) by rw [hb5.block _ (by omega)]; exact E4.out)
      have B5 := Lib.hid (B4.out.trans (hb5.mono (by omega)))
      clear hb5
      go_wp2_with fail
      refine (C2.out _).mono ?_
      rintro e w6 ⟨rfl, hb6⟩
      have z6 := hb6.size
      have B6 := Lib.hid ((B5.out.trans (hb6.mono (by omega))).alloc (show w.heap.size ≤ _ by omega) (.cells #[.int .i64 0, .int .i64 0, .string ⟨#[]⟩] 23))
      clear hb6
      go_wp2_with fail
      refine (CA.out _ B6.out).mono ?_
      rintro e w8 ⟨rfl, hb8⟩
      have B8 := Lib.hid (B6.out.trans (hb8.mono (by simp; omega)))
      clear hb8
      go_wp2_with fail
      go_ret
      exact ⟨rfl, B8.out⟩
set_option maxRecDepth 100000 in
set_option maxHeartbeats 1000000 in
theorem editBack_any (a b q : ByteArray) (i c : Int) (n0 : Nat) (w : World) (r1 : a.size ≤ 140737488351232) (r2 : b.size ≤ 140737488351232) (r3 : q.size ≤ 140737488351232) (hN : Needs n0 w) :
    Calls Tryd.prog 4 #[.string a, .string b, .agg #[.int .i64 i, .int .i64 c, .string q]] w fun e w' => e = .returned (.bool true) ∧ Below w.heap.size w w' := by
  by_cases hs : a.size + b.size + q.size ≤ 4000
  · exact back_small a b q i c n0 w hs hN
  · have CA := Lib.hid (fun W (hb : Below w.heap.size w W) => alive11_any n0 W (hN.below (hb.mono hN.size)))
    clear hN
    have B0 : Below w.heap.size w (w.alloc (.cells #[.int .i64 i, .int .i64 c, .string q] 23)) := (Below.refl _ _).alloc (Nat.le_refl _) _
    go_enter Tryd.func4, Tryd.ntmps4
    go_wp2_with fail
    refine (CA.out _ B0).mono ?_
    rintro e w2 ⟨rfl, hb2⟩
    go_wp2_with fail
    go_ret
    exact ⟨rfl, B0.trans (hb2.mono (by simp))⟩
end Go.Proofs.YtpkbhihkhnkhnaaDoor
