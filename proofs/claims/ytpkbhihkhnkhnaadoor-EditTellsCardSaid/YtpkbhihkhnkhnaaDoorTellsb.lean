/- EditTells: the walk. -/
import Derived.Test.YtpkbhihkhnkhnaaDoorTells
import Derived.Laws.StructEq
import Derived.MapKept
namespace Go.Proofs.YtpkbhihkhnkhnaaDoor
open Go.RowKit
set_option maxRecDepth 100000 in
set_option maxHeartbeats 4000000 in
theorem tells_small (s q a b : ByteArray) (i c : Int) (old now : List ByteArray) (vo vn : Value) (n0 : Nat) (w : World) (hs : s.size + q.size + a.size + b.size ≤ 4000) (hl : old.length + now.length ≤ 100)
    (ho : Row w 1 vo old.length (old.map .string)) (hn : Row w 1 vn now.length (now.map .string)) (s1 : ∀ t ∈ old, t.size ≤ 140737488351232) (s2 : ∀ t ∈ now, t.size ≤ 140737488351232) (hN : Needs n0 w) :
    Calls Tryd.prog 3 #[.string s, .agg #[.int .i64 i, .int .i64 c, .string q], .string a, .string b, vo, vn] w fun e w' => e = .returned (.bool true) ∧ Below w.heap.size w w' := by
  have CA := Lib.hid (fun W (hb : Below w.heap.size w W) => alive11_any n0 W (hN.below (hb.mono hN.size)))
  clear hN
  have HO := Lib.hid ho
  have HNW := Lib.hid hn
  have S1 := Lib.hid s1
  have S2 := Lib.hid s2
  obtain ⟨-, po, co, rfl, -⟩ := ho
  obtain ⟨-, pn, cn, rfl, -⟩ := hn
  clear s1 s2
  obtain ⟨n, k, p, CO, CR⟩ : ∃ (n k : Int) (p : ByteArray), Hid (∀ W, Calls Tryd.prog 17 #[.string a, .string b] W fun r w' => r = .returned (.agg #[.int .i64 n, .int .i64 k, .string p]) ∧ Below W.heap.size W w') ∧
      Hid (∀ W, Calls Tryd.prog 18 #[.string a, .string b] W fun r w' => r = .returned (.agg #[.int .i64 n, .int .i64 k, .string p]) ∧ Below W.heap.size W w') :=
    ⟨_, _, _, Lib.hid fun W => of_any a b W (by omega) (by omega) _ _ _ _ rfl rfl rfl rfl, Lib.hid fun W => rof_any a b W (by omega) (by omega) _ _ _ _ rfl rfl rfl rfl⟩
  by_cases hm : EMay s i c
  · have C1 := Lib.hid (fun W => app_yes s q i c W (by omega) (by omega) hm)
    have C2 := Lib.hid (fun W => rapp_yes s q i c W (by omega) (by omega) hm)
    have C3 := Lib.hid (fun W => back_yes s q i c W (by omega) hm)
    obtain ⟨m1, m2, m3, m4⟩ := hm
    obtain ⟨i, rfl⟩ := Int.eq_ofNat_of_zero_le m1
    obtain ⟨c, rfl⟩ := Int.eq_ofNat_of_zero_le m2
    simp only [Int.toNat_natCast] at C1 C2 C3
    have m5 : i + c ≤ s.size := by omega
    obtain ⟨t, ht⟩ : ∃ t, t = s.extract 0 i ++ q ++ s.extract (i + c) s.size := ⟨_, rfl⟩
    rw [← ht] at C1 C2
    have m6 : (i : Int) + c ≤ s.size := by omega
    have m7 : (i : Int) ≤ (i : Int) + c := by omega
    clear ht m1 m2 m3 m4
    go_enter Tryd.func3, Tryd.ntmps3
    go_wp2_with fail
    refine (C1.out _).mono ?_
    rintro e w1 ⟨rfl, hb1⟩
    have z1 := hb1.size
    simp only [World.size_alloc] at z1
    have e1 : w1.heap[w.heap.size]? = some (.cells #[.int .i64 i, .int .i64 c, .string q] 23 (0, 0)) := by
      rw [hb1.block _ (by simp), World.alloc_heap_new]
    have B1 := Lib.hid (((Below.refl w.heap.size w).alloc (Nat.le_refl _) _).trans (hb1.mono (by simp)))
    have E1 := Lib.hid e1
    obtain ⟨k0, k1, k2, -, -, -⟩ := cells3 e1
    clear hb1 e1 C1
    go_wp2_with fail
    refine (C2.out _).mono ?_
    rintro e w2 ⟨rfl, hb2⟩
    have z2 := hb2.size
    have E2 := Lib.hid (show w2.heap[w.heap.size]? = some (.cells #[.int .i64 i, .int .i64 c, .string q] 23 (0, 0)) by rw [hb2.block _ (by omega)]; exact E1.out)
    have B2 := Lib.hid (B1.out.trans (hb2.mono (by omega)))
    clear hb2 C2 k0 k1 k2 E1 B1
    go_wp2_with fail
    refine (CO.out _).mono ?_
    rintro e w3 ⟨rfl, hb3⟩
    have z3 := hb3.size
    go_wp2_with fail
    refine (CR.out _).mono ?_
    rintro e w4 ⟨rfl, hb4⟩
    have z4 := hb4.size
    have E4 := Lib.hid (show w4.heap[w.heap.size]? = some (.cells #[.int .i64 i, .int .i64 c, .string q] 23 (0, 0)) by rw [hb4.block _ (by omega), hb3.block _ (by omega)]; exact E2.out)
    have B4 := Lib.hid ((B2.out.trans (hb3.mono (by omega))).trans (hb4.mono (by omega)))
    obtain ⟨k0, k1, k2, -, -, -⟩ := cells3 E4.out
    clear hb3 hb4 E2 B2
    go_wp2_with fail
    refine (C3.out _).mono ?_
    rintro e w5 ⟨rfl, hb5⟩
    have z5 := hb5.size
    have E5 := Lib.hid (show w5.heap[w.heap.size]? = some (.cells #[.int .i64 i, .int .i64 c, .string q] 23 (0, 0)) by rw [hb5.block _ (by omega)]; exact E4.out)
    have B5 := Lib.hid (B4.out.trans (hb5.mono (by omega)))
    obtain ⟨k0, k1, k2, -, -, -⟩ := cells3 E5.out
    clear hb5 E4 B4 C3
    go_upto_region 11 with fail
    obtain ⟨V6, hV6⟩ : ∃ V6, V6 = w5.alloc (.cells #[.int .i64 i, .int .i64 q.size, .string (s.extract i (i + c))] 23) := ⟨_, rfl⟩
    have e6 : V6.heap[w5.heap.size]? = some (.cells #[.int .i64 i, .int .i64 q.size, .string (s.extract i (i + c))] 23 (0, 0)) := by rw [hV6, World.alloc_heap_new]
    have hb6 : Below w5.heap.size w5 V6 := by rw [hV6]; exact (Below.refl _ _).alloc (Nat.le_refl _) _
    have e7 : V6.heap[w.heap.size]? = some (.cells #[.int .i64 i, .int .i64 c, .string q] 23 (0, 0)) := by rw [hb6.block _ (by omega)]; exact E5.out
    have D6 := Lib.hid (B5.out.trans (hb6.mono (by omega)))
    obtain ⟨d0, d1, d2, -, -, -⟩ := cells3 e6
    obtain ⟨k0, k1, k2, -, -, -⟩ := cells3 e7
    rw [← hV6]
    clear hV6 hb6 e6 e7 B5 E5
    go_wp2_with fail
    go_quiet (fail)
    go_upto_region 13 with fail
    obtain ⟨W6, hW6⟩ : ∃ W6, W6 = V6.drewN nq := ⟨_, rfl⟩
    have B6 := Lib.hid (show Below w.heap.size w W6 by rw [hW6]; exact below_drewN D6.out _)
    rw [← hW6]
    clear hW6 D6 d0 d1 d2 k0 k1 k2

    obtain ⟨v1, W1, hr1, ho1, hb6⟩ := copy_run W6 _ old.length old (by omega) rfl (HO.out.below B6.out)
    obtain ⟨v2, W2, hr2, ho2, hb7⟩ := copy_run W1 _ now.length now (by omega) rfl (HNW.out.below (B6.out.trans (hb6.mono B6.out.size)))
    have z6 := B6.out.size
    have z7 := hb6.size
    have z8 := hb7.size
    have B8 := Lib.hid ((B6.out.trans (hb6.mono (by omega))).trans (hb7.mono (by omega)))
    have C4 := Lib.hid (fresh_any old now v1 v2 W2 ((row_of_owns ho1).below hb7) (row_of_owns ho2) (by omega) (by omega) S1.out S2.out)
    clear ho1 ho2 hb6 hb7
    have T1 : True := trivial
    go_wp2_with (first | (at_builtin; clear T1; refine wpList_append_run rfl _ _ 24 rfl _ _ v1 W1 rfl rfl 24 rfl hr1 ?_; clear hr1) | (at_builtin; refine wpList_append_run rfl _ _ 24 rfl _ _ v2 W2 rfl rfl 24 rfl hr2 ?_; clear hr2) | fail)
    refine C4.out.mono ?_
    rintro e w9 ⟨v, rfl, hv, hb9⟩
    have z9 := hb9.size
    have B9 := Lib.hid (B8.out.trans (hb9.mono (by omega)))
    have C5 := Lib.hid (rfresh_any old now _ _ w9 (HO.out.below B9.out) (HNW.out.below B9.out) (by omega) (by omega))
    clear C4
    go_wp2_with fail
    refine C5.out.mono ?_
    rintro e w10 ⟨v', rfl, hv', hb10⟩
    have z10 := hb10.size
    have B10 := Lib.hid (B9.out.trans (hb10.mono (by omega)))
    have HV := Lib.hid ((row_of_owns hv).below hb10)
    have HV' := Lib.hid (row_of_owns hv')
    have hfl := frs_len old now now.length
    clear hv hv' hb9 hb10 C5 B9 B8 HO HNW S1 S2
    generalize frs old now now.length = F at *
    obtain ⟨-, p1, cap1, rfl, R1⟩ := HV.out
    obtain ⟨-, p2, cap2, rfl, R2⟩ := HV'.out
    have HR1 := Lib.hid R1
    have HR2 := Lib.hid R2
    clear R1 R2 HV HV'
    go_wp2_with fail
    go_loopw [21] (fun j wr => ∃ m : Nat, m ≤ F.length ∧ j = .int .i64 m ∧ ∃ nd, wr = w10.drewN nd) (fun j _ => F.length - (intOf j).toNat)
    case atStart => exact ⟨0, Nat.zero_le _, rfl, 0, rfl⟩
    case round =>
      obtain ⟨m, hm, rfl, nd, rfl⟩ := hrel
      by_cases hlt : m < F.length
      · obtain ⟨b1, o1, rfl, g1, d1⟩ := HR1.out m (.int .i64 (F.getD m 0 : Nat)) (by simp [hlt])
        obtain ⟨b2, o2, rfl, g2, d2⟩ := HR2.out m (.int .i64 (F.getD m 0 : Nat)) (by simp [hlt])
        generalize F.getD m 0 = x at *
        go_wp2_with fail
        go_region
        go_wp2_with fail
        exact ⟨⟨m + 1, by omega, by go_num, _, rfl⟩, by simp only [intOf]; omega⟩
      · obtain rfl : m = F.length := by omega
        have B11 := below_drewN B10.out nd
        go_wp2_with fail
        refine (CA.out _ B11).mono ?_
        rintro e w11 ⟨rfl, hb11⟩
        have B12 := Lib.hid (B11.trans (hb11.mono (by simp; omega)))
        clear hb11
        go_wp2_with fail
        go_ret
        exact ⟨rfl, B12.out⟩
  · have C1 := Lib.hid (fun W => app_no s q i c W (by omega) hm)
    have C2 := Lib.hid (fun W => rapp_no s q i c W (by omega) hm)
    have C3 := Lib.hid (fun W => back_no s q i c W (by omega) hm)
    clear hm
    go_enter Tryd.func3, Tryd.ntmps3
    go_wp2_with fail
    refine (C1.out _).mono ?_
    rintro e w1 ⟨rfl, hb1⟩
    have z1 := hb1.size
    simp only [World.size_alloc] at z1
    have e1 : w1.heap[w.heap.size]? = some (.cells #[.int .i64 i, .int .i64 c, .string q] 23 (0, 0)) := by
      rw [hb1.block _ (by simp), World.alloc_heap_new]
    have B1 := Lib.hid (((Below.refl w.heap.size w).alloc (Nat.le_refl _) _).trans (hb1.mono (by simp)))
    have E1 := Lib.hid e1
    obtain ⟨k0, k1, k2, -, -, -⟩ := cells3 e1
    clear hb1 e1 C1
    go_wp2_with fail
    refine (C2.out _).mono ?_
    rintro e w2 ⟨rfl, hb2⟩
    have z2 := hb2.size
    have E2 := Lib.hid (show w2.heap[w.heap.size]? = some (.cells #[.int .i64 i, .int .i64 c, .string q] 23 (0, 0)) by rw [hb2.block _ (by omega)]; exact E1.out)
    have B2 := Lib.hid (B1.out.trans (hb2.mono (by omega)))
    clear hb2 C2 k0 k1 k2 E1 B1
    go_wp2_with fail
    refine (CO.out _).mono ?_
    rintro e w3 ⟨rfl, hb3⟩
    have z3 := hb3.size
    go_wp2_with fail
    refine (CR.out _).mono ?_
    rintro e w4 ⟨rfl, hb4⟩
    have z4 := hb4.size
    have E4 := Lib.hid (show w4.heap[w.heap.size]? = some (.cells #[.int .i64 i, .int .i64 c, .string q] 23 (0, 0)) by rw [hb4.block _ (by omega), hb3.block _ (by omega)]; exact E2.out)
    have B4 := Lib.hid ((B2.out.trans (hb3.mono (by omega))).trans (hb4.mono (by omega)))
    obtain ⟨k0, k1, k2, -, -, -⟩ := cells3 E4.out
    clear hb3 hb4 E2 B2
    go_wp2_with fail
    refine (C3.out _).mono ?_
    rintro e w5 ⟨rfl, hb5⟩
    have z5 := hb5.size
    have E5 := Lib.hid (show w5.heap[w.heap.size]? = some (.cells #[.int .i64 i, .int .i64 c, .string q] 23 (0, 0)) by rw [hb5.block _ (by omega)]; exact E4.out)
    have B5 := Lib.hid (B4.out.trans (hb5.mono (by omega)))
    obtain ⟨k0, k1, k2, -, -, -⟩ := cells3 E5.out
    clear hb5 E4 B4 C3
    go_upto_region 13 with fail
    obtain ⟨W6, hW6⟩ : ∃ W6, W6 = w5.alloc (.cells #[.int .i64 0, .int .i64 0, .string ⟨#[]⟩] 23) := ⟨_, rfl⟩
    have B6 := Lib.hid (show Below w.heap.size w W6 by rw [hW6]; exact B5.out.alloc (by omega) _)
    rw [← hW6]
    clear hW6 B5 E5 k0 k1 k2

    obtain ⟨v1, W1, hr1, ho1, hb6⟩ := copy_run W6 _ old.length old (by omega) rfl (HO.out.below B6.out)
    obtain ⟨v2, W2, hr2, ho2, hb7⟩ := copy_run W1 _ now.length now (by omega) rfl (HNW.out.below (B6.out.trans (hb6.mono B6.out.size)))
    have z6 := B6.out.size
    have z7 := hb6.size
    have z8 := hb7.size
    have B8 := Lib.hid ((B6.out.trans (hb6.mono (by omega))).trans (hb7.mono (by omega)))
    have C4 := Lib.hid (fresh_any old now v1 v2 W2 ((row_of_owns ho1).below hb7) (row_of_owns ho2) (by omega) (by omega) S1.out S2.out)
    clear ho1 ho2 hb6 hb7
    have T1 : True := trivial
    go_wp2_with (first | (at_builtin; clear T1; refine wpList_append_run rfl _ _ 24 rfl _ _ v1 W1 rfl rfl 24 rfl hr1 ?_; clear hr1) | (at_builtin; refine wpList_append_run rfl _ _ 24 rfl _ _ v2 W2 rfl rfl 24 rfl hr2 ?_; clear hr2) | fail)
    refine C4.out.mono ?_
    rintro e w9 ⟨v, rfl, hv, hb9⟩
    have z9 := hb9.size
    have B9 := Lib.hid (B8.out.trans (hb9.mono (by omega)))
    have C5 := Lib.hid (rfresh_any old now _ _ w9 (HO.out.below B9.out) (HNW.out.below B9.out) (by omega) (by omega))
    clear C4
    go_wp2_with fail
    refine C5.out.mono ?_
    rintro e w10 ⟨v', rfl, hv', hb10⟩
    have z10 := hb10.size
    have B10 := Lib.hid (B9.out.trans (hb10.mono (by omega)))
    have HV := Lib.hid ((row_of_owns hv).below hb10)
    have HV' := Lib.hid (row_of_owns hv')
    have hfl := frs_len old now now.length
    clear hv hv' hb9 hb10 C5 B9 B8 HO HNW S1 S2
    generalize frs old now now.length = F at *
    obtain ⟨-, p1, cap1, rfl, R1⟩ := HV.out
    obtain ⟨-, p2, cap2, rfl, R2⟩ := HV'.out
    have HR1 := Lib.hid R1
    have HR2 := Lib.hid R2
    clear R1 R2 HV HV'
    go_wp2_with fail
    go_loopw [21] (fun j wr => ∃ m : Nat, m ≤ F.length ∧ j = .int .i64 m ∧ ∃ nd, wr = w10.drewN nd) (fun j _ => F.length - (intOf j).toNat)
    case atStart => exact ⟨0, Nat.zero_le _, rfl, 0, rfl⟩
    case round =>
      obtain ⟨m, hm, rfl, nd, rfl⟩ := hrel
      by_cases hlt : m < F.length
      · obtain ⟨b1, o1, rfl, g1, d1⟩ := HR1.out m (.int .i64 (F.getD m 0 : Nat)) (by simp [hlt])
        obtain ⟨b2, o2, rfl, g2, d2⟩ := HR2.out m (.int .i64 (F.getD m 0 : Nat)) (by simp [hlt])
        generalize F.getD m 0 = x at *
        go_wp2_with fail
        go_region
        go_wp2_with fail
        exact ⟨⟨m + 1, by omega, by go_num, _, rfl⟩, by simp only [intOf]; omega⟩
      · obtain rfl : m = F.length := by omega
        have B11 := below_drewN B10.out nd
        go_wp2_with fail
        refine (CA.out _ B11).mono ?_
        rintro e w11 ⟨rfl, hb11⟩
        have B12 := Lib.hid (B11.trans (hb11.mono (by simp; omega)))
        clear hb11
        go_wp2_with fail
        go_ret
        exact ⟨rfl, B12.out⟩
set_option maxRecDepth 100000 in
set_option maxHeartbeats 1000000 in
theorem editTells_any (s q a b : ByteArray) (i c : Int) (old now : List ByteArray) (vo vn : Value) (n0 : Nat) (w : World) (r1 : s.size ≤ 140737488351232) (r2 : q.size ≤ 140737488351232) (r3 : a.size ≤ 140737488351232) (r4 : b.size ≤ 140737488351232) (l1 : old.length ≤ 140737488351232) (l2 : now.length ≤ 140737488351232)
    (ho : Row w 1 vo old.length (old.map .string)) (hn : Row w 1 vn now.length (now.map .string)) (s1 : ∀ t ∈ old, t.size ≤ 140737488351232) (s2 : ∀ t ∈ now, t.size ≤ 140737488351232) (hN : Needs n0 w) :
    Calls Tryd.prog 3 #[.string s, .agg #[.int .i64 i, .int .i64 c, .string q], .string a, .string b, vo, vn] w fun e w' => e = .returned (.bool true) ∧ Below w.heap.size w w' := by
  by_cases hs : s.size + q.size + a.size + b.size ≤ 4000
  · by_cases hl : old.length + now.length ≤ 100
    · exact tells_small s q a b i c old now vo vn n0 w hs hl ho hn s1 s2 hN
    · have CA := Lib.hid (fun W (hb : Below w.heap.size w W) => alive11_any n0 W (hN.below (hb.mono hN.size)))
      obtain ⟨-, po, co, rfl, -⟩ := ho
      obtain ⟨-, pn, cn, rfl, -⟩ := hn
      clear hN s1 s2
      have B0 : Below w.heap.size w (w.alloc (.cells #[.int .i64 i, .int .i64 c, .string q] 23)) := (Below.refl _ _).alloc (Nat.le_refl _) _
      go_enter Tryd.func3, Tryd.ntmps3
      go_wp2_with fail
      refine (CA.out _ B0).mono ?_
      rintro e w2 ⟨rfl, hb2⟩
      go_wp2_with fail
      go_ret
      exact ⟨rfl, B0.trans (hb2.mono (by simp))⟩
  · have CA := Lib.hid (fun W (hb : Below w.heap.size w W) => alive11_any n0 W (hN.below (hb.mono hN.size)))
    obtain ⟨-, po, co, rfl, -⟩ := ho
    obtain ⟨-, pn, cn, rfl, -⟩ := hn
    clear hN s1 s2
    have B0 : Below w.heap.size w (w.alloc (.cells #[.int .i64 i, .int .i64 c, .string q] 23)) := (Below.refl _ _).alloc (Nat.le_refl _) _
    go_enter Tryd.func3, Tryd.ntmps3
    go_wp2_with fail
    refine (CA.out _ B0).mono ?_
    rintro e w2 ⟨rfl, hb2⟩
    go_wp2_with fail
    go_ret
    exact ⟨rfl, B0.trans (hb2.mono (by simp))⟩
end Go.Proofs.YtpkbhihkhnkhnaaDoor
