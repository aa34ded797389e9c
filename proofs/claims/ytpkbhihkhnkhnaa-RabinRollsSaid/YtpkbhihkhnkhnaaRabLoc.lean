/- RabinLocal: the walk. -/
import Derived.Test.YtpkbhihkhnkhnaaRabLaws
namespace Go.Proofs.Ytpkbhihkhnkhnaa
open Go.RowKit
theorem RolG.stays {S : Nat → Prop} {A B : World} {R p n : Nat} {g : List UInt8} (h : RolG A R p n g) (k : Kept S A B) (hs : S R) : RolG B R p n g := by
  obtain ⟨a, buf, hr, hw⟩ := h; exact ⟨a, buf, hr.stays k hs, hw⟩
theorem RolG.lt {W : World} {R p n : Nat} {g : List UInt8} (h : RolG W R p n g) : R < W.heap.size := by
  obtain ⟨a, buf, hr, hw⟩ := h; exact hr.1
set_option maxRecDepth 100000 in
set_option maxHeartbeats 2000000 in
theorem local_may (p n : Nat) (one two s : ByteArray) (t : Nat) (w : World) (hp : p < 18446744073709551616) (hm : RMay p n) (ht : t < 65536) (hs : one.size + two.size + s.size ≤ 2000) :
    Calls Try.prog 8 #[.int .u64 p, .int .i64 n, .string one, .string two, .string s, .int .u16 t] w fun e w' => e = .returned (.bool true) ∧ Below w.heap.size w w' := by
  have N1 := Lib.hid (fun W => new_any p n W hp hm)
  obtain ⟨g1, g2, g3, g4⟩ := hm
  have hn1 : 1 ≤ n := by omega
  have hn2 : n ≤ 64 := by omega
  clear g3 g4
  have RR := Lib.hid (fun R g (x : ByteArray) W (hx : x.size ≤ 4000) h => roll_any R p n g x W hp g1 g2 hn2 hx h)
  clear hp g1 g2
  obtain ⟨k, hk⟩ : ∃ k, k = t % (s.size + 1) := ⟨_, rfl⟩
  have hk2 : k ≤ s.size := by rw [hk]; have := Nat.mod_lt t (show 0 < s.size + 1 by omega); omega
  have hkI : (t : Int) % ((s.size : Int) + 1) = (k : Int) := by rw [hk]; rfl
  have HKI := Lib.hid hkI
  clear hk
  go_enter Try.func8, Try.ntmps8
  go_wp2_with fail
  refine (N1.out _).mono ?_
  rintro e w1 ⟨R1, rfl, hR1, hG1, hb1⟩
  have z1 := hb1.size
  have l1 := hG1.lt
  go_wp2_with fail
  refine (N1.out _).mono ?_
  rintro e w2 ⟨R2, rfl, hR2, hG2, hb2⟩
  have z2 := hb2.size
  have l2 := hG2.lt
  have hG1 := hG1.stays (Kept.of_below' (S := fun _ => True) hb2) trivial
  go_wp2_with fail
  refine (RR.out R1 [] one _ (by omega) hG1).mono ?_
  rintro e w3 ⟨rfl, hG1, hk3⟩
  have z3 := hk3.size
  have hG2 := hG2.stays hk3 (by show R2 ≠ R1; omega)
  go_wp2_with fail
  refine (RR.out R2 [] two _ (by omega) hG2).mono ?_
  rintro e w4 ⟨rfl, hG2, hk4⟩
  have z4 := hk4.size
  have hG1 := hG1.stays hk4 (by show R1 ≠ R2; omega)
  go_wp2_with fail
  refine (RR.out R1 ([] ++ one.data.toList) s _ (by omega) hG1).mono ?_
  rintro e w5 ⟨rfl, hG1, hk5⟩
  have z5 := hk5.size
  have hG2 := hG2.stays hk5 (by show R2 ≠ R1; omega)
  obtain ⟨X, hX⟩ : ∃ X, X = fp p (lastN n ([] ++ one.data.toList ++ s.data.toList)) := ⟨_, rfl⟩
  rw [← hX]
  have HX := Lib.hid hX
  clear hX
  go_wp2_with fail
  refine (RR.out R2 ([] ++ two.data.toList) _ _ (by simp; omega) hG2).mono ?_
  rintro e w6 ⟨rfl, hG2, hk6⟩
  have z6 := hk6.size
  go_wp2_with fail
  refine (RR.out R2 _ _ _ (by simp; omega) hG2).mono ?_
  rintro e w7 ⟨rfl, hG2, hk7⟩
  have z7 := hk7.size
  rw [show ([] ++ two.data.toList ++ (s.extract 0 k).data.toList ++ (s.extract k s.size).data.toList) = two.data.toList ++ s.data.toList by
    rw [ba_extract, ba_extract, List.nil_append, List.append_assoc, List.drop_zero, ba_size, List.take_length, List.take_append_drop]]
  obtain ⟨Y, hY⟩ : ∃ Y, Y = fp p (lastN n (two.data.toList ++ s.data.toList)) := ⟨_, rfl⟩
  rw [← hY]
  have hxy : n ≤ s.size → X = Y := fun h => by
    rw [HX.out, hY, List.nil_append, lastN_eq _ _ _ (by rw [← ba_size]; exact h), lastN_eq _ _ _ (by rw [← ba_size]; exact h)]
  have HXY := Lib.hid hxy
  clear hY hxy hG1 hG2
  by_cases hsn : n ≤ s.size
  · obtain rfl := HXY.out hsn
    go_wp2_with fail
    refine (N1.out _).mono ?_
    rintro e w8 ⟨R3, rfl, hR3, hG3, hb8⟩
    have z8 := hb8.size
    go_wp2_with fail
    refine (RR.out R3 [] one _ (by omega) hG3).mono ?_
    rintro e w9 ⟨rfl, hG3, hk9⟩
    have z9 := hk9.size
    go_wp2_with fail
    refine (RR.out R3 ([] ++ one.data.toList) s _ (by omega) hG3).mono ?_
    rintro e w10 ⟨rfl, hG3, hk10⟩
    have z10 := hk10.size
    rw [← HX.out]
    go_wp2_with fail
    refine (alive8_any _).mono ?_
    rintro e w11 ⟨rfl, hb11⟩
    go_wp2_with fail
    go_ret
    refine ⟨rfl, ?_⟩
    have q5 : Below w.heap.size w w7 := ((((((hb1.trans (hb2.mono (by omega))).trans (hk3.below (by omega) (fun i hi => by omega))).trans (hk4.below (by omega) (fun i hi => by omega))).trans (hk5.below (by omega) (fun i hi => by omega))).trans (hk6.below (by omega) (fun i hi => by omega))).trans (hk7.below (by omega) (fun i hi => by omega)))
    exact (((q5.trans (hb8.mono (by omega))).trans (hk9.below (by omega) (fun i hi => by omega))).trans (hk10.below (by omega) (fun i hi => by omega))).trans (hb11.mono (by omega))
  · go_wp2_with fail
    refine (N1.out _).mono ?_
    rintro e w8 ⟨R3, rfl, hR3, hG3, hb8⟩
    have z8 := hb8.size
    go_wp2_with fail
    refine (RR.out R3 [] one _ (by omega) hG3).mono ?_
    rintro e w9 ⟨rfl, hG3, hk9⟩
    have z9 := hk9.size
    go_wp2_with fail
    refine (RR.out R3 ([] ++ one.data.toList) s _ (by omega) hG3).mono ?_
    rintro e w10 ⟨rfl, hG3, hk10⟩
    have z10 := hk10.size
    rw [← HX.out]
    go_wp2_with fail
    refine (alive8_any _).mono ?_
    rintro e w11 ⟨rfl, hb11⟩
    go_wp2_with fail
    go_ret
    refine ⟨rfl, ?_⟩
    have q5 : Below w.heap.size w w7 := ((((((hb1.trans (hb2.mono (by omega))).trans (hk3.below (by omega) (fun i hi => by omega))).trans (hk4.below (by omega) (fun i hi => by omega))).trans (hk5.below (by omega) (fun i hi => by omega))).trans (hk6.below (by omega) (fun i hi => by omega))).trans (hk7.below (by omega) (fun i hi => by omega)))
    exact (((q5.trans (hb8.mono (by omega))).trans (hk9.below (by omega) (fun i hi => by omega))).trans (hk10.below (by omega) (fun i hi => by omega))).trans (hb11.mono (by omega))
set_option maxRecDepth 100000 in
set_option maxHeartbeats 2000000 in
theorem rabinLocal_any (p n : Int) (one two s : ByteArray) (t : Int) (wp : (Lit.int .u64 p).wf = true) (r1 : one.size ≤ 140737488351232) (r2 : two.size ≤ 140737488351232) (r3 : s.size ≤ 140737488351232) (wt : (Lit.int .u16 t).wf = true) (w : World) :
    Calls Try.prog 8 #[.int .u64 p, .int .i64 n, .string one, .string two, .string s, .int .u16 t] w fun e w' => e = .returned (.bool true) ∧ Below w.heap.size w w' := by
  obtain ⟨hp0, hp⟩ := wf_u64 wp
  have ht := bounds_u16 wt
  clear wp wt
  by_cases hs : one.size + two.size + s.size ≤ 2000
  · by_cases hm : RMay p.toNat n
    · obtain ⟨n, rfl⟩ := Int.eq_ofNat_of_zero_le (show 0 ≤ n by have := hm.2.2.1; omega)
      obtain ⟨p, rfl⟩ := Int.eq_ofNat_of_zero_le hp0
      obtain ⟨t, rfl⟩ := Int.eq_ofNat_of_zero_le ht.1
      rw [Int.toNat_natCast] at hm
      exact local_may p n one two s t w (by omega) hm (by omega) hs
    · have N1 := Lib.hid (fun W => new_no p n W hp0 hp hm)
      clear hm hp0 hp ht r1 r2 r3
      go_enter Try.func8, Try.ntmps8
      go_wp2_with fail
      refine (N1.out _).mono ?_
      rintro e w1 ⟨rfl, hb1⟩
      go_wp2_with fail
      refine (N1.out _).mono ?_
      rintro e w2 ⟨rfl, hb2⟩
      go_wp2_with fail
      refine (alive8_any _).mono ?_
      rintro e w3 ⟨rfl, hb3⟩
      go_wp2_with fail
      go_ret
      have z1 := hb1.size
      have z2 := hb2.size
      exact ⟨rfl, (hb1.trans (hb2.mono (by omega))).trans (hb3.mono (by omega))⟩
  · clear hp0 hp ht
    go_enter Try.func8, Try.ntmps8
    go_wp2_with fail
    refine (alive8_any _).mono ?_
    rintro e w3 ⟨rfl, hb3⟩
    go_wp2_with fail
    go_ret
    exact ⟨rfl, hb3⟩
end Go.Proofs.Ytpkbhihkhnkhnaa
