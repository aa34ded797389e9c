/- RabinRolls: the walk. -/
import Derived.Test.YtpkbhihkhnkhnaaRst
import Derived.Test.YtpkbhihkhnkhnaaAlivh
import Derived.Test.YtpkbhihkhnkhnaaRabr
namespace Go.Proofs.Ytpkbhihkhnkhnaa
open Go.RowKit
/-- a row of steps that came in -/
def Steps (W : World) (v : Value) (xs : List (Int × ByteArray)) : Prop := ∃ p cap, v = .slice p xs.length cap ∧ ∀ k (hk : k < xs.length), ∃ b off, p = some ⟨b, off, none⟩ ∧ b < W.heap.size ∧ W.cell? ⟨b, off + k * 2, none⟩ = some (.int .i64 xs[k].1) ∧ W.cell? ⟨b, off + k * 2 + 1, none⟩ = some (.string xs[k].2)
theorem ret_bool' {a b : Bool} (h : a = b) : Ending.returned (.bool a) = .returned (.bool b) := by rw [h]
theorem sz_app (a b : ByteArray) : (a ++ b).size = a.size + b.size := by simp
def tot (xs : List (Int × ByteArray)) (k : Nat) : Nat := ((xs.take k).map fun x => x.2.size).sum
theorem tot_zero (xs : List (Int × ByteArray)) : tot xs 0 = 0 := by simp [tot]
theorem tot_succ (xs : List (Int × ByteArray)) (k : Nat) (h : k < xs.length) : tot xs (k + 1) = tot xs k + xs[k].2.size := by
  unfold tot
  rw [List.take_succ_eq_append_getElem h, List.map_append, List.sum_append]; simp
theorem tot_le (B : Nat) (xs : List (Int × ByteArray)) (h : ∀ x ∈ xs, x.2.size ≤ B) (k : Nat) (hk : k ≤ xs.length) : tot xs k ≤ k * B := by
  induction k with
  | zero => rw [tot_zero]; omega
  | succ k ih =>
    rw [tot_succ xs k (by omega), Nat.succ_mul]
    have := ih (by omega)
    have := h xs[k] (List.getElem_mem (by omega))
    omega
theorem tot_mono (xs : List (Int × ByteArray)) {a b : Nat} (hab : a ≤ b) (hb : b ≤ xs.length) : tot xs a ≤ tot xs b := by
  induction b with
  | zero => rw [show a = 0 by omega]; omega
  | succ b ih =>
    rcases Nat.lt_or_ge b a with g | g
    · rw [show a = b + 1 by omega]; omega
    · rw [tot_succ xs b (by omega)]
      have := ih g (by omega); omega
set_option maxRecDepth 100000 in
theorem long_any (xs : List (Int × ByteArray)) (v : Value) (w : World) (hv : Steps w v xs) (hl : xs.length ≤ 140737488351232) (hs : ∀ x ∈ xs, x.2.size ≤ 140737488351232) :
    Calls Try.prog 32 #[v] w fun e w' => e = .returned (.bool (decide (60 < xs.length) || decide (2000 < tot xs (min 100 xs.length)))) ∧ w = w' := by
  obtain ⟨p, cap, rfl, hc⟩ := hv
  have HC := Lib.hid hc
  have HL := Lib.hid (tot_le _ xs hs)
  have HS := Lib.hid (tot_succ xs)
  have HZ := Lib.hid hs
  clear hc hs
  go_enter Try.func32, Try.ntmps32
  go_wp2_with fail
  go_loop [3, 4] (fun n i => ∃ k : Nat, k ≤ xs.length ∧ k ≤ 100 ∧ i = .int .i64 k ∧ n = .int .i64 (tot xs k : Nat)) (fun _ i => 100 - (intOf i).toNat)
  case atStart => exact ⟨0, Nat.zero_le _, by omega, rfl, by rw [tot_zero]; rfl⟩
  case round =>
    obtain ⟨k, hk, hk2, rfl, rfl⟩ := hrel
    by_cases hlt : k < xs.length ∧ k < 100
    · obtain ⟨h1, h2⟩ := hlt
      obtain ⟨b, off, rfl, hb, c1, c2⟩ := HC.out k h1
      have y1 := HL.out k hk
      have y2 := HZ.out xs[k] (List.getElem_mem h1)
      have HT := Lib.hid (HS.out k h1)
      generalize xs[k] = x at *
      obtain ⟨x0, x1⟩ := x
      simp only at *
      generalize tot xs k = t at *
      go_wp2_with fail
      go_round
      case rel => exact ⟨k + 1, by omega, by omega, by go_num, by rw [HT.out]; go_num⟩
      case measure => simp only [intOf]; omega
    · have hkm : k = min 100 xs.length := by omega
      have hq := HL.out k hk
      obtain ⟨t, ht⟩ : ∃ t, t = tot xs k := ⟨_, rfl⟩
      rw [← ht] at hq
      have HK := Lib.hid (show tot xs (min 100 xs.length) = t by rw [← hkm, ht])
      rw [← ht]
      clear hkm ht
      by_cases g2 : 60 < xs.length
      · have e2 : decide (60 < xs.length) = true := decide_eq_true g2
        by_cases g1 : k < xs.length
        all_goals
          go_wp2_with fail
          go_ret
          exact ⟨ret_bool' rfl, rfl⟩
      · have g1 : ¬ k < xs.length := by omega
        have e2 : decide (60 < xs.length) = false := decide_eq_false g2
        go_wp2_with fail
        go_ret
        refine ⟨ret_bool' ?_, rfl⟩
        rw [HK.out, Bool.eq_iff_iff]
        simp only [Bool.or_eq_true, decide_eq_true_eq]
        omega
theorem Steps.below {W W' : World} {v : Value} {xs : List (Int × ByteArray)} (h : Steps W v xs) (hb : Below W.heap.size W W') : Steps W' v xs := by
  obtain ⟨p, cap, e, hc⟩ := h
  refine ⟨p, cap, e, fun k hk => ?_⟩
  obtain ⟨b, off, e1, h1, h2, h3⟩ := hc k hk
  exact ⟨b, off, e1, Nat.lt_of_lt_of_le h1 hb.size, (hb.cell (p := ⟨b, off + k * 2, none⟩) h1).trans h2, (hb.cell (p := ⟨b, off + k * 2 + 1, none⟩) h1).trans h3⟩
set_option maxRecDepth 100000 in
set_option maxHeartbeats 4000000 in
theorem rolls_may (p n : Nat) (xs : List (Int × ByteArray)) (v : Value) (w : World) (hp : p < 18446744073709551616) (hm : RMay p n) (hv : Steps w v xs) (hl : xs.length ≤ 60) (ht : tot xs xs.length ≤ 2000) :
    Calls Try.prog 10 #[.int .u64 p, .int .i64 n, v] w fun e w' => e = .returned (.bool true) ∧ Below w.heap.size w w' := by
  have hsz : ∀ x ∈ xs, x.2.size ≤ 2000 := fun x hx => by
    obtain ⟨k, hk, rfl⟩ := List.getElem_of_mem hx
    have h1 := tot_succ xs k hk
    have h2 := tot_mono xs (a := k + 1) (b := xs.length) (by omega) (Nat.le_refl _)
    omega
  have CL := Lib.hid (long_any xs v w hv (by omega) (fun x hx => by have := hsz x hx; omega))
  have hlong : (decide (60 < xs.length) || decide (2000 < tot xs (min 100 xs.length))) = false := by
    rw [show min 100 xs.length = xs.length by omega, Bool.or_eq_false_iff]
    exact ⟨decide_eq_false (by omega), decide_eq_false (by omega)⟩
  rw [hlong] at CL
  clear hlong
  have N1 := Lib.hid (fun W => new_any p n W hp hm)
  have CM := Lib.hid (fun W => (r8may_yes p n W (by omega) (by omega) (by rw [Int.toNat_natCast]; exact hm)).mono (R' := fun e w' => e = .returned (.bool true) ∧ w' = W) (fun e w' h => ⟨h.1, h.2.symm⟩))
  obtain ⟨g1, g2, g3, g4⟩ := hm
  have hn1 : 1 ≤ n := by omega
  have hn2 : n ≤ 64 := by omega
  clear g3 g4
  have RR := Lib.hid (fun R g (x : ByteArray) W (hx : x.size ≤ 4000) h => roll_any R p n g x W hp g1 g2 hn2 hx h)
  have CS := Lib.hid (fun R g W h => sum_any R p n g W h)
  have CR := Lib.hid (fun R g W h => reset_any R p n g W hn1 h)
  have CC := Lib.hid (fun R g W h => copy_any R p n g W h)
  have CLa := Lib.hid (fun (s : ByteArray) W (hs : s.size ≤ 4000) => last_any s n W (by omega) (by omega) hs)
  simp only [Int.toNat_natCast] at CLa
  have CO := Lib.hid (fun (l : List UInt8) W (hs : l.length = n) => (r8of_any p ⟨l.toArray⟩ W (by omega) (by omega) (by rw [Int.toNat_natCast]; exact g1) (by rw [Int.toNat_natCast]; exact g2) (by rw [ba_mk_size]; omega)).mono (R' := fun e w' => e = .returned (.int .u64 (fp p l : Nat)) ∧ w' = W) (fun e w' h => ⟨by rw [h.1, Int.toNat_natCast, ba_mk], h.2.symm⟩))
  obtain ⟨pv, cap, rfl, hc⟩ := hv
  have HC := Lib.hid hc
  have HT := Lib.hid (tot_succ xs)
  have HM := Lib.hid (fun a b (h1 : a ≤ b) (h2 : b ≤ xs.length) => tot_mono xs h1 h2)
  have HS := Lib.hid hsz
  have END := Lib.hid (fun (Gz : ByteArray) (h : Gz.size ≤ 4000) => show ∃ (F : Nat) (T : ByteArray), Hid (∀ W, Calls Try.prog 36 #[.string Gz, .int .i64 n] W fun e w' => e = .returned (.string T) ∧ Below W.heap.size W w') ∧
      Hid (∀ W, Calls Try.prog 29 #[.int .u64 p, .string T] W fun e w' => e = .returned (.int .u64 F) ∧ w' = W) ∧
      Hid (∀ {R} W, Hid (RolG W R p n Gz.data.toList) → Calls Try.prog 34 #[.pointer (some ⟨R, 0, none⟩)] W fun e w' => e = .returned (.int .u64 F) ∧ w' = W) ∧ Hid (F = fp p (lastN n Gz.data.toList)) from
    ⟨_, _, Lib.hid (fun W => CLa.out Gz W h), Lib.hid (fun W => CO.out _ W (lastN_length _ _)), Lib.hid (fun W h => CS.out _ _ W h.out), Lib.hid rfl⟩)
  clear hc hp g1 g2 hsz CLa CO CS
  go_enter Try.func10, Try.ntmps10
  go_wp2_with fail
  refine CL.out.mono ?_
  rintro e w1 ⟨rfl, rfl⟩
  go_wp2_with fail
  refine (roll_nil _ _).mono ?_
  rintro e w2 ⟨rfl, rfl⟩
  go_wp2_with fail
  refine (reset_nil _).mono ?_
  rintro e w3 ⟨rfl, rfl⟩
  go_wp2_with fail
  refine (sum_nil _).mono ?_
  rintro e w4 ⟨rfl, rfl⟩
  go_wp2_with fail
  refine (copy_nil _).mono ?_
  rintro e w5 ⟨rfl, rfl⟩
  go_wp2_with fail
  refine (N1.out _).mono ?_
  rintro e w6 ⟨R, rfl, hR, hG, hb6⟩
  have HG := Lib.hid hG
  have HB := Lib.hid hb6
  clear hG hb6 CL N1
  go_wp2_with fail
  refine (CM.out _).mono ?_
  rintro e w7 ⟨rfl, rfl⟩
  clear CM
  go_wp2_with fail
  go_loopw [10, 12, 13, 14, 15, 16] (fun s10 s12 s13 _ _ _ wr => ∃ (i Q : Nat) (G : ByteArray), i ≤ xs.length ∧ s10 = .pointer (some ⟨Q, 0, none⟩) ∧ s12 = .string G ∧ s13 = .int .i64 i ∧ w5.heap.size ≤ Q ∧ Hid (RolG wr Q p n G.data.toList) ∧ G.size ≤ tot xs i ∧ Hid (Below w5.heap.size w5 wr)) (fun _ _ s13 _ _ _ _ => xs.length - (intOf s13).toNat)
  case atStart => exact ⟨0, R, ⟨#[]⟩, Nat.zero_le _, rfl, rfl, rfl, hR, HG, Nat.zero_le _, HB⟩
  case round =>
    clear HG HB hR
    obtain ⟨i, Q, G, hi, rfl, rfl, rfl, hQ, HG, hGs, HB⟩ := hrel
    by_cases hlt : i < xs.length
    · obtain ⟨b, off, rfl, hb, c1, c2⟩ := HC.out i hlt
      have HC2 := Lib.hid c2
      have d1 := (HB.out.cell (p := ⟨b, off + i * 2, none⟩) hb).trans c1
      have d2 := (HB.out.cell (p := ⟨b, off + i * 2 + 1, none⟩) hb).trans c2
      have ht1 := HT.out i hlt
      have ht2 := HM.out (i + 1) xs.length (by omega) (Nat.le_refl _)
      have hx := HS.out xs[i] (List.getElem_mem hlt)
      clear c1 c2
      generalize xs[i] = x at *
      obtain ⟨d, s⟩ := x
      simp only at *
      have hGs' : G.size ≤ 2000 := by omega
      have HT1 := Lib.hid ht1
      have hGx : G.size + s.size ≤ 2000 := by omega
      clear ht1 ht2
      by_cases h0 : d = 0
      · subst h0
        go_wp2_with fail
        refine (RR.out Q G.data.toList s _ (by omega) HG.out).mono ?_
        rintro e w8 ⟨rfl, hG8, hk8⟩
        have HBz := Lib.hid (HB.out.trans (hk8.below (B := w5.heap.size) HB.out.size (fun i hi => by omega)))
        have HGz : Hid (RolG w8 Q p n (G ++ s).data.toList) := Lib.hid (by rw [ba_append]; exact hG8)
        obtain ⟨F, T, CLz, COz, CSz, HF⟩ := END.out (G ++ s) (by rw [sz_app]; omega)
        rw [show fp p (lastN n (G.data.toList ++ s.data.toList)) = F by rw [← ba_append]; exact HF.out.symm]
        have d3 := (HBz.out.cell (p := ⟨b, off + i * 2 + 1, none⟩) hb).trans HC2.out
        clear hG8 hk8 d1 d2 HG HB HF
        go_wp2_with fail
        refine (CLz.out _).mono ?_
        rintro e w9 ⟨rfl, hb9⟩
        have HGz := Lib.hid (HGz.out.stays (Kept.of_below' (S := fun _ => True) hb9) trivial)
        have HBz := Lib.hid (HBz.out.trans (hb9.mono HBz.out.size))
        clear hb9 d3
        go_wp2_with fail
        refine (COz.out _).mono ?_
        rintro e w9 ⟨rfl, rfl⟩
        go_wp2_with fail
        refine (CSz.out _ HGz).mono ?_
        rintro e wy ⟨rfl, rfl⟩
        go_wp2_with fail
        refine (CLz.out _).mono ?_
        rintro e wa ⟨rfl, hba⟩
        have HGa := Lib.hid (HGz.out.stays (Kept.of_below' (S := fun _ => True) hba) trivial)
        have HBa := Lib.hid (HBz.out.trans (hba.mono HBz.out.size))
        clear hba HGz HBz
        go_wp2_with fail
        refine (COz.out _).mono ?_
        rintro e wb ⟨rfl, rfl⟩
        go_wp2_with fail
        exact ⟨⟨i + 1, Q, G ++ s, by omega, rfl, rfl, by go_num, hQ, HGa, by rw [HT1.out]; rw [sz_app]; omega, HBa⟩, by simp only [intOf]; omega⟩
      · by_cases h1 : d = 1
        · subst h1
          go_wp2_with fail
          refine (CR.out Q G.data.toList _ HG.out).mono ?_
          rintro e w8 ⟨rfl, hG8, hk8⟩
          have HBz := Lib.hid (HB.out.trans (hk8.below (B := w5.heap.size) HB.out.size (fun i hi => by omega)))
          have HGz : Hid (RolG w8 Q p n (⟨#[]⟩ : ByteArray).data.toList) := Lib.hid hG8
          obtain ⟨F, T, CLz, COz, CSz, HF⟩ := END.out ⟨#[]⟩ (by decide)
          clear hG8 hk8 d1 d2 HG HB HF
          go_wp2_with fail
          refine (CSz.out _ HGz).mono ?_
          rintro e wy ⟨rfl, rfl⟩
          go_wp2_with fail
          refine (CLz.out _).mono ?_
          rintro e wa ⟨rfl, hba⟩
          have HGa := Lib.hid (HGz.out.stays (Kept.of_below' (S := fun _ => True) hba) trivial)
          have HBa := Lib.hid (HBz.out.trans (hba.mono HBz.out.size))
          clear hba HGz HBz
          go_wp2_with fail
          refine (COz.out _).mono ?_
          rintro e wb ⟨rfl, rfl⟩
          go_wp2_with fail
          exact ⟨⟨i + 1, Q, ⟨#[]⟩, by omega, rfl, rfl, by go_num, hQ, HGa, by rw [HT1.out]; exact Nat.zero_le _, HBa⟩, by simp only [intOf]; omega⟩
        · by_cases h2 : d = 2
          · subst h2
            have hlq := HG.out.lt
            go_wp2_with fail
            refine (CC.out Q G.data.toList _ HG.out).mono ?_
            rintro e w8 ⟨rfl, hG8, hb8⟩
            have HG2 := Lib.hid (HG.out.stays (Kept.of_below' (S := fun _ => True) hb8) trivial)
            have HB2 := Lib.hid (HB.out.trans (hb8.mono HB.out.size))
            have z8 := HB.out.size
            have HG8 := Lib.hid hG8
            clear hG8 hb8 d1 d2 HG HB
            go_wp2_with fail
            refine (RR.out Q G.data.toList _ _ (by decide) HG2.out).mono ?_
            rintro e w9 ⟨rfl, -, hk9⟩
            have HGz := Lib.hid (HG8.out.stays hk9 (by omega))
            have HBz := Lib.hid (HB2.out.trans (hk9.below (B := w5.heap.size) HB2.out.size (fun i hi => by omega)))
            obtain ⟨F, T, CLz, COz, CSz, HF⟩ := END.out G (by omega)
            clear hk9 HG2 HB2 HG8 HF
            go_wp2_with fail
            refine (CSz.out _ HGz).mono ?_
            rintro e wy ⟨rfl, rfl⟩
            go_wp2_with fail
            refine (CLz.out _).mono ?_
            rintro e wa ⟨rfl, hba⟩
            have HGa := Lib.hid (HGz.out.stays (Kept.of_below' (S := fun _ => True) hba) trivial)
            have HBa := Lib.hid (HBz.out.trans (hba.mono HBz.out.size))
            clear hba HGz HBz
            go_wp2_with fail
            refine (COz.out _).mono ?_
            rintro e wb ⟨rfl, rfl⟩
            go_wp2_with fail
            exact ⟨⟨i + 1, _, G, by omega, rfl, rfl, by go_num, by omega, HGa, by rw [HT1.out]; omega, HBa⟩, by simp only [intOf]; omega⟩
          · have HGz := HG
            have HBz := HB
            have k0 : (d == 0) = false := by rw [beq_eq_false_iff_ne]; exact h0
            have k1 : (d == 1) = false := by rw [beq_eq_false_iff_ne]; exact h1
            have k2 : (d == 2) = false := by rw [beq_eq_false_iff_ne]; exact h2
            obtain ⟨F, T, CLz, COz, CSz, HF⟩ := END.out G (by omega)
            clear HG HB HF
            go_wp2_with fail
            refine (CSz.out _ HGz).mono ?_
            rintro e wy ⟨rfl, rfl⟩
            go_wp2_with fail
            refine (CLz.out _).mono ?_
            rintro e wa ⟨rfl, hba⟩
            have HGa := Lib.hid (HGz.out.stays (Kept.of_below' (S := fun _ => True) hba) trivial)
            have HBa := Lib.hid (HBz.out.trans (hba.mono HBz.out.size))
            clear hba HGz HBz
            go_wp2_with fail
            refine (COz.out _).mono ?_
            rintro e wb ⟨rfl, rfl⟩
            go_wp2_with fail
            exact ⟨⟨i + 1, Q, G, by omega, rfl, rfl, by go_num, hQ, HGa, by rw [HT1.out]; omega, HBa⟩, by simp only [intOf]; omega⟩
    · go_wp2_with fail
      refine (alive8_any _).mono ?_
      rintro e w8 ⟨rfl, hb8⟩
      have B8 := Lib.hid (HB.out.trans (hb8.mono HB.out.size))
      clear hb8
      go_wp2_with fail
      go_ret
      exact ⟨rfl, B8.out⟩
end Go.Proofs.Ytpkbhihkhnkhnaa
