/- PolyPrimes, PolyRing, PolyFields: the walks. -/
import Derived.Test.YtpkbhihkhnkhnaaPolyLaws
namespace Go.Proofs.Ytpkbhihkhnkhnaa
open Go.RowKit
set_option maxHeartbeats 1000000 in
theorem polyPrimes_any (p : Int) (wp : (Lit.int .u64 p).wf = true) (w : World) :
    Calls Try.prog 4 #[.int .u64 p] w fun e w' => e = .returned (.bool true) ∧ Below w.heap.size w w' := by
  obtain ⟨hp0, hp⟩ := wf_u64 wp
  clear wp
  by_cases h1 : 56 < dg p.toNat
  · have c1 := Lib.hid (fun w => prime_no p w hp0 hp (.inr h1))
    have c2 := Lib.hid (fun w => rdeg_any p w hp0 hp)
    clear hp0 hp
    generalize dg p.toNat = d at *
    go_enter Try.func4, Try.ntmps4
    go_wp2_with fail
    refine (c2.out _).mono ?_
    rintro e w' ⟨rfl, rfl⟩
    go_wp2_with fail
    refine (c1.out _).mono ?_
    rintro e w1 ⟨rfl, hb1⟩
    go_wp2_with fail
    refine (alive_any _).mono ?_
    rintro e w2 ⟨rfl, hb2⟩
    go_wp2_with fail
    go_ret
    exact ⟨rfl, hb1.trans (hb2.mono hb1.size)⟩
  · by_cases h2 : 16 < dg p.toNat
    · have c2 := Lib.hid (fun w => rdeg_any p w hp0 hp)
      clear hp0 hp
      generalize dg p.toNat = d at *
      go_enter Try.func4, Try.ntmps4
      go_wp2_with fail
      refine (c2.out _).mono ?_
      rintro e w' ⟨rfl, rfl⟩
      go_wp2_with fail
      refine (alive_any _).mono ?_
      rintro e w2 ⟨rfl, hb2⟩
      go_wp2_with fail
      go_ret
      exact ⟨rfl, hb2⟩
    · obtain ⟨b, c1, c3⟩ : ∃ b : Bool, Hid (∀ w, Calls Try.prog 22 #[.int .u64 p] w fun e w' => e = .returned (.bool b) ∧ Below w.heap.size w w') ∧ Hid (∀ w, Calls Try.prog 23 #[.int .u64 p] w fun e w' => e = .returned (.bool b) ∧ w = w') := by
        by_cases h3 : dg p.toNat < 1
        · exact ⟨false, fun w => prime_no p w hp0 hp (.inl h3), fun w => rprime_no p w hp0 hp h3⟩
        · refine ⟨prB p.toNat, fun w => prime_may p w hp0 hp (by omega) (by omega), fun w => ?_⟩
          obtain ⟨q0, q1, q2, q3, q4⟩ := dg_56 (p := p.toNat) (by omega) (by omega)
          rw [pr_eq_tr (by omega) (by omega) (by have := dg_of q0; omega)]
          exact rprime_any p w hp0 hp (by omega) (by omega)
      have c2 := Lib.hid (fun w => rdeg_any p w hp0 hp)
      clear hp0 hp
      generalize dg p.toNat = d at *
      go_enter Try.func4, Try.ntmps4
      go_wp2_with fail
      refine (c2.out _).mono ?_
      rintro e w' ⟨rfl, rfl⟩
      go_wp2_with fail
      refine (c1.out _).mono ?_
      rintro e w1 ⟨rfl, hb1⟩
      go_wp2_with fail
      refine (c3.out _).mono ?_
      rintro e w' ⟨rfl, rfl⟩
      go_wp2_with fail
      refine (alive_any _).mono ?_
      rintro e w2 ⟨rfl, hb2⟩
      go_wp2_with fail
      go_ret
      exact ⟨rfl, hb1.trans (hb2.mono hb1.size)⟩
theorem mul_nat (a b p : Nat) (w : World) (ha : a < 18446744073709551616) (hb : b < 18446744073709551616) (hp : p < 18446744073709551616) (h1 : 1 ≤ dg p) (h2 : dg p ≤ 56) :
    Calls Try.prog 13 #[.int .u64 a, .int .u64 b, .int .u64 p] w fun e w' => e = .returned (.tuple #[.int .u64 (Gf2.pm (Gf2.cm a b) p : Nat), .int .i64 0]) ∧ w = w' := by
  have := mul_any a b p w (by omega) (by omega) (by omega) (by omega) (by omega) (by omega) (by rw [Int.toNat_natCast]; exact h1) (by rw [Int.toNat_natCast]; exact h2)
  rw [Int.toNat_natCast, Int.toNat_natCast, Int.toNat_natCast] at this
  exact this
theorem mod_nat (a p : Nat) (w : World) (ha : a < 18446744073709551616) (hp : p < 18446744073709551616) (h0 : p ≠ 0) :
    Calls Try.prog 11 #[.int .u64 a, .int .u64 p] w fun e w' => e = .returned (.tuple #[.int .u64 (Gf2.pm a p : Nat), .int .i64 0]) ∧ w = w' := by
  have := mod_any a p w (by omega) (by omega) (by omega) (by omega)
  rw [Int.toNat_natCast, Int.toNat_natCast] at this
  exact this
theorem deg_nat (a : Nat) (w : World) (ha : a < 18446744073709551616) :
    Calls Try.prog 15 #[.int .u64 a] w fun e w' => e = .returned (.int .i64 (dg a)) ∧ w = w' := by
  have := deg_any a w (by omega) (by omega)
  rw [Int.toNat_natCast] at this
  exact this
theorem gcd_nat (a b : Nat) (w : World) (ha : a < 18446744073709551616) (hb : b < 18446744073709551616) :
    Calls Try.prog 17 #[.int .u64 a, .int .u64 b] w fun e w' => e = .returned (.int .u64 (Gf2.pg a b : Nat)) ∧ w = w' := by
  have := gcd_any a b w (by omega) (by omega) (by omega) (by omega)
  rw [Int.toNat_natCast, Int.toNat_natCast] at this
  exact this
theorem dg_lt {r p : Nat} (hp : p ≠ 0) (h : r < 2 ^ p.log2) : dg r < dg p := by
  rw [dg_of hp]
  by_cases h0 : r = 0
  · subst h0; rw [dg_zero]; omega
  · rw [dg_of h0]; have := (Nat.log2_lt h0).2 h; omega
set_option maxRecDepth 100000 in
set_option maxHeartbeats 2000000 in
theorem ring_may (a b c p : Nat) (w : World) (ha : a < 18446744073709551616) (hb : b < 18446744073709551616) (hc : c < 18446744073709551616) (hp : p < 18446744073709551616) (h1 : 1 ≤ dg p) (h2 : dg p ≤ 56) :
    Calls Try.prog 5 #[.int .u64 a, .int .u64 b, .int .u64 c, .int .u64 p] w fun e w' => e = .returned (.bool true) ∧ Below w.heap.size w w' := by
  obtain ⟨q0, q1, q2, q3, q4⟩ := dg_56 h1 h2
  obtain ⟨X, hX⟩ : ∃ X, X = Gf2.pm (Gf2.cm a b) p := ⟨_, rfl⟩
  obtain ⟨L, hL⟩ : ∃ X, X = Gf2.pm (Gf2.cm a c) p := ⟨_, rfl⟩
  obtain ⟨V, hV⟩ : ∃ X, X = Gf2.pm (Gf2.cm b c) p := ⟨_, rfl⟩
  obtain ⟨U, hU⟩ : ∃ Y, Y = Gf2.pm (Gf2.cm X c) p := ⟨_, rfl⟩
  obtain ⟨R, hR⟩ : ∃ Y, Y = Gf2.pm a p := ⟨_, rfl⟩
  have bX : X < 72057594037927936 := by rw [hX]; exact pm_56 _ q0 q4
  have bL : L < 72057594037927936 := by rw [hL]; exact pm_56 _ q0 q4
  have bV : V < 72057594037927936 := by rw [hV]; exact pm_56 _ q0 q4
  have bR : R < 72057594037927936 := by rw [hR]; exact pm_56 _ q0 q4
  have lX : X < 2 ^ p.log2 := by rw [hX]; exact Gf2.pm_lt _ q0
  have e1 : Gf2.pm (Gf2.cm b a) p = X := by rw [hX, Gf2.cm_comm]
  have e2 : Gf2.pm (Gf2.cm a V) p = U := by rw [hU, hX, hV, Gf2.pm_cm_right _ _ q0, Gf2.pm_cm_left _ _ q0, Gf2.cm_assoc]
  have e3 : Gf2.pm (Gf2.cm a (b ^^^ c)) p = X ^^^ L := by rw [hX, hL, Gf2.cm_xor, Gf2.pm_xor _ _ q0]
  have e4 : Gf2.pm (Gf2.cm a 1) p = R := by rw [hR, Gf2.cm_one]
  have e6 : Gf2.pm X p = X := Gf2.pm_small lX
  have e5 : Gf2.pm (a ^^^ X ^^^ R) p = X := by
    rw [Gf2.pm_xor _ _ q0, Gf2.pm_xor _ _ q0, hR, Gf2.pm_pm _ q0, Nat.xor_comm (Gf2.pm a p), Gf2.xor_cancel, e6]
  have d1 : dg X < dg p := dg_lt q0 lX
  have d2 : dg R < dg p := by rw [hR]; exact dg_lt q0 (Gf2.pm_lt _ q0)
  have hbc : b ^^^ c < 18446744073709551616 := xor_lt64 hb hc
  have hxl : X ^^^ L < 18446744073709551616 := xor_lt64 (by omega) (by omega)
  have hax : a ^^^ X < 18446744073709551616 := xor_lt64 ha (by omega)
  have haxr : a ^^^ X ^^^ R < 18446744073709551616 := xor_lt64 hax (by omega)
  have C1 := Lib.hid (fun w => mul_nat a b p w ha hb hp h1 h2)
  have C2 := Lib.hid (fun w => mul_nat b a p w hb ha hp h1 h2)
  have C3 := Lib.hid (fun w => mul_nat X c p w (by omega) hc hp h1 h2)
  have C4 := Lib.hid (fun w => mul_nat b c p w hb hc hp h1 h2)
  have C5 := Lib.hid (fun w => mul_nat a V p w ha (by omega) hp h1 h2)
  have C6 := Lib.hid (fun w => mul_nat a (b ^^^ c) p w ha hbc hp h1 h2)
  have C7 := Lib.hid (fun w => mul_nat a c p w ha hc hp h1 h2)
  have C8 := Lib.hid (fun w => mod_nat a p w ha hp q0)
  have C9 := Lib.hid (fun w => mul_nat a 1 p w ha (by omega) hp h1 h2)
  have C10 := Lib.hid (fun w => mod_nat (a ^^^ X ^^^ R) p w haxr hp q0)
  have C11 := Lib.hid (fun w => mod_nat X p w (by omega) hp q0)
  have D1 := Lib.hid (fun w => deg_nat X w (by omega))
  have D2 := Lib.hid (fun w => deg_nat p w hp)
  have D3 := Lib.hid (fun w => deg_nat R w (by omega))
  rw [← hX] at C1
  rw [e1] at C2
  rw [← hU] at C3
  rw [← hV] at C4
  rw [e2] at C5
  rw [e3] at C6
  rw [← hL] at C7
  rw [← hR] at C8
  rw [e4] at C9
  rw [e5] at C10
  rw [e6] at C11
  have x1 := u64_xor_nat b c hb hc
  have x2 := u64_xor_nat X L (by omega) (by omega)
  have x3 := u64_xor_nat a X (by omega) (by omega)
  have x4 := u64_xor_nat (a ^^^ X) R (by omega) (by omega)
  clear hX hL hV hU hR e1 e2 e3 e4 e5 e6 bX bL bV bR lX q0 q1 q2 q3 q4 h1 h2 hbc hxl hax haxr ha hb hc hp
  generalize X ^^^ L = XL at *
  generalize b ^^^ c = BC at *
  generalize a ^^^ X ^^^ R = AXR at *
  generalize a ^^^ X = AX at *
  generalize dg X = dX at *
  generalize dg R = dR at *
  generalize dg p = dp at *
  go_enter Try.func5, Try.ntmps5
  go_wp2_with fail
  refine (C1.out _).mono ?_
  rintro e w' ⟨rfl, rfl⟩
  go_wp2_with fail
  refine (C2.out _).mono ?_
  rintro e w' ⟨rfl, rfl⟩
  go_wp2_with fail
  refine (C3.out _).mono ?_
  rintro e w' ⟨rfl, rfl⟩
  go_wp2_with fail
  refine (C4.out _).mono ?_
  rintro e w' ⟨rfl, rfl⟩
  go_wp2_with fail
  refine (C5.out _).mono ?_
  rintro e w' ⟨rfl, rfl⟩
  go_wp2_with fail
  refine (C6.out _).mono ?_
  rintro e w' ⟨rfl, rfl⟩
  go_wp2_with fail
  refine (C7.out _).mono ?_
  rintro e w' ⟨rfl, rfl⟩
  go_wp2_with fail
  refine (D1.out _).mono ?_
  rintro e w' ⟨rfl, rfl⟩
  go_wp2_with fail
  refine (D2.out _).mono ?_
  rintro e w' ⟨rfl, rfl⟩
  go_wp2_with fail
  refine (C8.out _).mono ?_
  rintro e w' ⟨rfl, rfl⟩
  go_wp2_with fail
  refine (C9.out _).mono ?_
  rintro e w' ⟨rfl, rfl⟩
  go_wp2_with fail
  refine (C10.out _).mono ?_
  rintro e w' ⟨rfl, rfl⟩
  go_wp2_with fail
  refine (C11.out _).mono ?_
  rintro e w' ⟨rfl, rfl⟩
  go_wp2_with fail
  refine (D3.out _).mono ?_
  rintro e w' ⟨rfl, rfl⟩
  go_wp2_with fail
  refine (D2.out _).mono ?_
  rintro e w' ⟨rfl, rfl⟩
  go_wp2_with fail
  refine (alive_any _).mono ?_
  rintro e w2 ⟨rfl, hb2⟩
  go_wp2_with fail
  go_ret
  exact ⟨rfl, hb2⟩
set_option maxRecDepth 100000 in
theorem polyRing_any (a b c p : Int) (wa : (Lit.int .u64 a).wf = true) (wb : (Lit.int .u64 b).wf = true) (wc : (Lit.int .u64 c).wf = true) (wp : (Lit.int .u64 p).wf = true) (w : World) :
    Calls Try.prog 5 #[.int .u64 a, .int .u64 b, .int .u64 c, .int .u64 p] w fun e w' => e = .returned (.bool true) ∧ Below w.heap.size w w' := by
  obtain ⟨ha0, ha⟩ := wf_u64 wa
  obtain ⟨hb0, hb⟩ := wf_u64 wb
  obtain ⟨hc0, hc⟩ := wf_u64 wc
  obtain ⟨hp0, hp⟩ := wf_u64 wp
  by_cases h : 1 ≤ dg p.toNat ∧ dg p.toNat ≤ 56
  · obtain ⟨a, rfl⟩ := Int.eq_ofNat_of_zero_le ha0
    obtain ⟨b, rfl⟩ := Int.eq_ofNat_of_zero_le hb0
    obtain ⟨c, rfl⟩ := Int.eq_ofNat_of_zero_le hc0
    obtain ⟨p, rfl⟩ := Int.eq_ofNat_of_zero_le hp0
    rw [Int.toNat_natCast] at h
    exact ring_may a b c p w (by omega) (by omega) (by omega) (by omega) h.1 h.2
  · have C1 := Lib.hid (fun w => mul_no a b p w hp0 hp (by omega))
    clear wa wb wc wp ha0 ha hb0 hb hc0 hc hp0 hp h
    go_enter Try.func5, Try.ntmps5
    go_wp2_with fail
    refine (C1.out _).mono ?_
    rintro e w' ⟨rfl, rfl⟩
    go_wp2_with fail
    refine (alive_any _).mono ?_
    rintro e w2 ⟨rfl, hb2⟩
    go_wp2_with fail
    go_ret
    exact ⟨rfl, hb2⟩
open Classical in
theorem irr_of_prB {p : Nat} (h : prB p = true) : Gf2.Irr p ∧ 1 ≤ dg p ∧ dg p ≤ 56 := by
  unfold prB at h; rw [decide_eq_true_eq] at h
  obtain ⟨h1, h2, h3⟩ := h
  exact ⟨Gf2.irr_of_ask (dg_56 h1 h2).2.1 h3, h1, h2⟩
set_option maxRecDepth 100000 in
set_option maxHeartbeats 2000000 in
theorem fields_yes (a p : Nat) (w : World) (ha : a < 18446744073709551616) (hp : p < 18446744073709551616) (h : prB p = true) (hd : 2 ≤ dg p) :
    Calls Try.prog 6 #[.int .u64 a, .int .u64 p] w fun e w' => e = .returned (.bool true) ∧ Below w.heap.size w w' := by
  obtain ⟨hi, h1, h2⟩ := irr_of_prB h
  obtain ⟨q0, q1, q2, q3, q4⟩ := dg_56 h1 h2
  have D2 := Lib.hid (fun w => deg_nat p w hp)
  have C0 := Lib.hid (fun w => prime_may p w (by omega) (by omega) (by rw [Int.toNat_natCast]; exact h1) (by rw [Int.toNat_natCast]; exact h2))
  rw [Int.toNat_natCast, h] at C0
  have C1 := Lib.hid (fun w => mod_nat a p w ha hp q0)
  obtain ⟨R, hR⟩ : ∃ Y, Y = Gf2.pm a p := ⟨_, rfl⟩
  have bR : R < 72057594037927936 := by rw [hR]; exact pm_56 _ q0 q4
  have lR : R < 2 ^ p.log2 := by rw [hR]; exact Gf2.pm_lt _ q0
  rw [← hR] at C1
  have G1 := Lib.hid (fun w => gcd_nat R p w (by omega) hp)
  obtain ⟨d, hdd⟩ : ∃ d : Nat, d = p.log2 := ⟨_, rfl⟩
  have hdg : dg p = d := by rw [dg_of q0, hdd]
  rw [hdg] at D2 hd h1 h2
  clear hR ha h
  by_cases hz : R = 0
  · subst hz
    go_enter Try.func6, Try.ntmps6
    go_wp2_with fail
    refine (D2.out _).mono ?_
    rintro e w' ⟨rfl, rfl⟩
    go_wp2_with fail
    refine (C0.out _).mono ?_
    rintro e w1 ⟨rfl, hb1⟩
    go_wp2_with fail
    refine (C1.out _).mono ?_
    rintro e w' ⟨rfl, rfl⟩
    go_wp2_with fail
    refine (alive_any _).mono ?_
    rintro e w2 ⟨rfl, hb2⟩
    go_wp2_with fail
    go_ret
    exact ⟨rfl, hb1.trans (hb2.mono hb1.size)⟩
  · have hzb : ((R : Int) == 0) = false := by rw [beq_eq_false_iff_ne]; omega
    have hnd : ¬ Gf2.Dv p R := fun hdv => hz (Gf2.dv_low hdv q0 lR)
    rw [Gf2.gcd_irr hi hnd] at G1
    have HI := Lib.hid hi
    have HN := Lib.hid hnd
    have HL := Lib.hid hdd
    have hone : Gf2.pm 1 p = 1 := Gf2.pm_small (by have := Nat.pow_le_pow_right (n := 2) (by omega) q3; omega)
    have S1 := Lib.hid (show R = Gf2.pm (Gf2.pw R (2 ^ 0)) p by rw [Nat.pow_zero, Gf2.pw, Gf2.pw, Gf2.one_cm, Gf2.pm_small lR])
    have S2 := Lib.hid (show 1 = Gf2.pm (Gf2.pw R (2 ^ (0 + 1) - 2)) p by rw [show 2 ^ (0 + 1) - 2 = 0 from rfl, Gf2.pw, hone])
    have hp2 := Lib.hid (show 1 ≤ dg p ∧ dg p ≤ 56 by rw [hdg]; omega)
    clear hi hnd hdd hdg hone lR hz q1 q3 q4
    go_enter Try.func6, Try.ntmps6
    go_wp2_with fail
    refine (D2.out _).mono ?_
    rintro e w' ⟨rfl, rfl⟩
    go_wp2_with fail
    refine (C0.out _).mono ?_
    rintro e w1 ⟨rfl, hb1⟩
    go_wp2_with fail
    refine (C1.out _).mono ?_
    rintro e w' ⟨rfl, rfl⟩
    go_wp2_with fail
    go_loop [8, 9, 10] (fun x y i => ∃ k q j : Nat, j + 1 ≤ d ∧ k < 72057594037927936 ∧ q < 72057594037927936 ∧ Hid (q = Gf2.pm (Gf2.pw R (2 ^ j)) p) ∧ Hid (k = Gf2.pm (Gf2.pw R (2 ^ (j + 1) - 2)) p) ∧ x = .int .u64 k ∧ y = .int .u64 q ∧ i = .int .i64 ((j : Int) + 1)) (fun _ _ i => d - (intOf i).toNat)
    case atStart => exact ⟨1, R, 0, by omega, by omega, bR, S1, S2, rfl, rfl, rfl⟩
    case round =>
      obtain ⟨k, q, j, hj, hk, hq, HQ, HK, rfl, rfl, rfl⟩ := hrel
      by_cases hlt : j + 1 < d
      · obtain ⟨n1, n2⟩ := Gf2.inv_step q0 HQ.out HK.out
        have M1 := Lib.hid (fun w => mul_nat q q p w (by omega) (by omega) hp hp2.out.1 hp2.out.2)
        have b1 := pm_56 (Gf2.cm q q) q0 (by have := HL.out; omega)
        have M2 := Lib.hid (fun w => mul_nat k (Gf2.pm (Gf2.cm q q) p) p w (by omega) (by omega) hp hp2.out.1 hp2.out.2)
        have b2 := pm_56 (Gf2.cm k (Gf2.pm (Gf2.cm q q) p)) q0 (by have := HL.out; omega)
        have N1 := Lib.hid n1
        have N2 := Lib.hid n2
        clear n1 n2
        generalize Gf2.pm (Gf2.cm q q) p = q' at *
        generalize Gf2.pm (Gf2.cm k q') p = k' at *
        go_wp2_with fail
        refine (M1.out _).mono ?_
        rintro e w' ⟨rfl, rfl⟩
        go_wp2_with fail
        refine (M2.out _).mono ?_
        rintro e w' ⟨rfl, rfl⟩
        go_wp2_with fail
        exact ⟨⟨k', q', j + 1, by omega, b2, b1, N1, N2, rfl, rfl, by go_num⟩, by simp only [intOf]; omega⟩
      · obtain rfl : d = j + 1 := by omega
        have M1 := Lib.hid (fun w => mul_nat R k p w (by omega) (by omega) hp hp2.out.1 hp2.out.2)
        rw [Gf2.inv_end HI.out HL.out (by omega) HN.out HK.out] at M1
        go_wp2_with fail
        refine (M1.out _).mono ?_
        rintro e w' ⟨rfl, rfl⟩
        go_wp2_with fail
        refine (G1.out _).mono ?_
        rintro e w' ⟨rfl, rfl⟩
        go_wp2_with fail
        refine (alive_any _).mono ?_
        rintro e w2 ⟨rfl, hb2⟩
        go_wp2_with fail
        go_ret
        exact ⟨rfl, hb1.trans (hb2.mono hb1.size)⟩
set_option maxRecDepth 100000 in
set_option maxHeartbeats 1000000 in
theorem polyFields_any (a p : Int) (wa : (Lit.int .u64 a).wf = true) (wp : (Lit.int .u64 p).wf = true) (w : World) :
    Calls Try.prog 6 #[.int .u64 a, .int .u64 p] w fun e w' => e = .returned (.bool true) ∧ Below w.heap.size w w' := by
  obtain ⟨ha0, ha⟩ := wf_u64 wa
  obtain ⟨hp0, hp⟩ := wf_u64 wp
  by_cases hy : (1 ≤ dg p.toNat ∧ dg p.toNat ≤ 56) ∧ prB p.toNat = true ∧ 2 ≤ dg p.toNat
  · obtain ⟨a, rfl⟩ := Int.eq_ofNat_of_zero_le ha0
    obtain ⟨p, rfl⟩ := Int.eq_ofNat_of_zero_le hp0
    rw [Int.toNat_natCast] at hy
    exact fields_yes a p w (by omega) (by omega) hy.2.1 hy.2.2
  · have D2 := Lib.hid (fun w => deg_any p w hp0 hp)
    obtain ⟨b, C0, hb⟩ : ∃ b : Bool, Hid (∀ w, Calls Try.prog 22 #[.int .u64 p] w fun e w' => e = .returned (.bool b) ∧ Below w.heap.size w w') ∧ (b = false ∨ b = true ∧ dg p.toNat < 2) := by
      by_cases h3 : 1 ≤ dg p.toNat ∧ dg p.toNat ≤ 56
      · refine ⟨prB p.toNat, fun w => prime_may p w hp0 hp h3.1 h3.2, ?_⟩
        cases hb : prB p.toNat with
        | false => exact .inl rfl
        | true =>
          right
          refine ⟨rfl, Int.lt_of_not_ge fun hge => hy ⟨h3, hb, hge⟩⟩
      · exact ⟨false, fun w => prime_no p w hp0 hp (by omega), .inl rfl⟩
    clear hy wa wp ha0 ha hp0 hp
    generalize dg p.toNat = d at *
    rcases hb with rfl | ⟨rfl, hlt⟩
    all_goals
      go_enter Try.func6, Try.ntmps6
      go_wp2_with fail
      refine (D2.out _).mono ?_
      rintro e w' ⟨rfl, rfl⟩
      go_wp2_with fail
      refine (C0.out _).mono ?_
      rintro e w1 ⟨rfl, hb1⟩
      go_wp2_with fail
      refine (alive_any _).mono ?_
      rintro e w2 ⟨rfl, hb2⟩
      go_wp2_with fail
      go_ret
      exact ⟨rfl, hb1.trans (hb2.mono hb1.size)⟩
end Go.Proofs.Ytpkbhihkhnkhnaa
