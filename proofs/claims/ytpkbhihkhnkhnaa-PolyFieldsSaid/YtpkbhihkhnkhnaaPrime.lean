/- poly.squares and its iterator; poly.Prime: what they return. -/
import Derived.Test.YtpkbhihkhnkhnaaRange
import Derived.Test.YtpkbhihkhnkhnaaRefb
import Derived.RangeFuncNested
import Derived.Shelf.Abstract
import Derived.Shelf.RegionOpen
import Derived.OwnWalkIn
import Derived.TacticsInMore
import Derived.LoopNIn
import Derived.LoopIn
namespace Go.Proofs.Ytpkbhihkhnkhnaa
open Go.RowKit Go.Shelf
attribute [local go_sem] Oper.semAt_some
theorem sq_pm {p k : Nat} (hp : p ≠ 0) : Gf2.pm (Gf2.cm (Gf2.pm (2 ^ 2 ^ k) p) (Gf2.pm (2 ^ 2 ^ k) p)) p = Gf2.pm (2 ^ 2 ^ (k + 1)) p := Gf2.sq_step hp rfl
def sqAt (p k : Nat) : Nat := Gf2.pm (2 ^ 2 ^ k) p
set_option maxHeartbeats 1000000 in
theorem squares_seq (n p bp N : Nat) (W0 : World) (hp : p < 18446744073709551616) (h1 : 1 ≤ dg p) (h2 : dg p ≤ 56) (hN : N < 1000) :
    SeqOwn Fence.wide n Try.prog 47 #[.pointer (some ⟨bp, 0, none⟩)] (fun k : Nat => #[.int .i64 (k + 1), .int .u64 (sqAt p (k + 1))]) (List.range N) False (fun Ow => ∀ i, ¬ Ow i) (fun W => W.cell? ⟨bp, 0, none⟩ = some (.int .u64 p)) W0 := by
  intro l J Jx h0 hJ hcap hend hY
  have hO : ∀ i : Nat, ¬ (fun _ : Nat => False) i := fun i h => h
  have hend' : ∀ W, ¬ J (fun _ => False) N W := fun W => by
    rcases hend with h | h
    · exact h.elim
    · have := h (fun _ => False) W hO; simpa using this
  have hY' := fun k W (h : k < N) => hY (fun _ => False) k W (by simpa using h) hO
  have h0' := h0 _ hO
  have hc' := fun k W => hcap (fun _ => False) k W hO
  clear hY hend h0 hcap
  simp only [List.getElem_range] at hY'
  obtain ⟨q0, q1, q2, q3, q4⟩ := dg_56 h1 h2
  have hc0 := hc' 0 W0 h0'
  have HY := Lib.hid hY'
  have HC := Lib.hid hc'
  have HE := Lib.hid hend'
  have HJ := Lib.hid hJ
  clear hY' hc' hend' hJ
  have hfn : ∀ f, Fence.wide.fn f := fun _ => trivial
  have hdp : Fence.wide.depth.isSome = false := rfl
  refine callsIn_of_wp Try.func47 rfl trivial ?_ rfl
  simp only [Try.ntmps47, List.size_toArray, List.length_cons, List.length_nil, Nat.reduceAdd, Nat.reduceSub, Array.replicate_succ, Array.replicate_zero, List.push_toArray, List.append_toArray, List.nil_append, List.cons_append]
  gi_wp2_with (gi_at_call 11; refine (callsIn_wide.2 (mod_any _ _ _ (by omega) (by omega) (by omega) (by omega))).mono ?_; rintro e w' ⟨rfl, rfl⟩)
  gi_loopw [3, 5] (fun x i wr => ∃ k : Nat, k ≤ N ∧ x = .int .u64 (sqAt p k) ∧ i = .int .i64 ((k : Int) + 1) ∧ J (fun _ => False) k wr) (fun _ i _ => N + 1 - (intOf i).toNat)
  case atStart => exact ⟨0, by omega, rfl, rfl, h0'⟩
  case round =>
    obtain ⟨k, hk, rfl, rfl, hj⟩ := hrel
    have hcw := HC.out k wr hj
    have hlt : k < N := by
      rcases Nat.lt_or_ge k N with h | h
      · exact h
      · obtain rfl : k = N := by omega
        exact absurd hj (HE.out wr)
    obtain ⟨fn, tmps, assign, body, hy, hR⟩ := HY.out k wr hlt hj
    have hx : sqAt p k < 72057594037927936 := pm_56 _ q0 q4
    have HS := Lib.hid (show Gf2.pm (Gf2.cm (sqAt p k) (sqAt p k)) p = sqAt p (k + 1) from sq_pm q0)
    gi_wp2_with fail
    refine (callsIn_wide.2 (mul_any _ _ _ _ (by omega) (by omega) (by omega) (by omega) (by omega) (by omega) (by simpa using h1) (by simpa using h2))).mono ?_
    rintro e w' ⟨rfl, rfl⟩
    rw [Int.toNat_natCast, Int.toNat_natCast, HS.out]
    gi_wp2_with fail
    refine hR.mono ?_
    rintro e W3 (⟨rfl, hJ3, hk3⟩ | ⟨rfl, hJx3⟩)
    · gi_wp2_with fail
      exact ⟨⟨k + 1, by omega, rfl, by go_num, hJ3⟩, by simp only [intOf]; omega⟩
    · gi_wp2_with fail
      refine bodyPost_ret (results_none rfl _ _ _) rfl ?_
      exact ⟨⟨_, rfl⟩, .inr hJx3⟩
theorem squares_any (p : Int) (w : World) :
    Calls Try.prog 42 #[.int .u64 p] w fun e w' => e = .returned (.func (.func 47) #[] #[.pointer (some ⟨w.heap.size, 0, none⟩)]) ∧ w.alloc (.cells #[.int .u64 p] 22) = w' := by
  go_enter Try.func42, Try.ntmps42
  go_wp2
  go_ret
  exact ⟨rfl, rfl⟩
/-- what the test asks, all in all -/
def PrP (p : Nat) : Prop := 1 ≤ dg p ∧ dg p ≤ 56 ∧ ∀ k, 1 ≤ k → 2 * k ≤ p.log2 → Gf2.Ask p k
open Classical in
noncomputable def prB (p : Nat) : Bool := decide (PrP p)
theorem prime_no (p : Int) (w : World) (h0 : 0 ≤ p) (hp : p < 18446744073709551616) (h : dg p.toNat < 1 ∨ 56 < dg p.toNat) :
    Calls Try.prog 22 #[.int .u64 p] w fun e w' => e = .returned (.bool false) ∧ Below w.heap.size w w' := by
  have H := Lib.hid h
  clear h
  go_enter Try.func22, Try.ntmps22
  go_wp2_with (first | (go_at_call 15; refine (deg_any _ _ h0 hp).mono ?_; rintro e w' ⟨rfl, rfl⟩) | (go_at_call 38; refine (may_no _ _ h0 hp H.out).mono ?_; rintro e w' ⟨rfl, rfl⟩))
  exact bodyPost_ret (v := .bool false) (by simp [results, Try.results22, go_sem]) rfl ⟨rfl, (((Below.refl _ _).alloc (Nat.le_refl _) _).alloc (by simp) _).alloc (by simp; omega) _⟩
def PrI (w : World) (B p k : Nat) (W : World) : Prop :=
  (∀ j, 1 ≤ j → j ≤ k → 2 * j ≤ p.log2 ∧ Gf2.Ask p j) ∧ Boxed W B 22 (.int .u64 p) ∧ Boxed W (B + 1) 4 (.bool false) ∧ Boxed W (B + 1 + 1) 3 (.int .i64 (dg p)) ∧ Boxed W (B + 1 + 1 + 1) 22 (.int .u64 (Gf2.pm 2 p : Nat)) ∧ Boxed W (B + 1 + 1 + 1 + 1) 22 (.int .u64 p) ∧ Below B w W
def PrX (w : World) (B p : Nat) (c : Code) (W : World) : Prop := c = .ret ∧ Boxed W (B + 1) 4 (.bool (prB p)) ∧ Below B w W
theorem PrI.stays {w : World} {B p k : Nat} {W W' : World} {S : Nat → Prop} (h : PrI w B p k W) (hk : Kept S W W') (hS : ∀ i, i < B + 5 → S i) (hz : B ≤ W.heap.size) : PrI w B p k W' := by
  obtain ⟨i1, i2, i3, i4, i5, i6, i7⟩ := h
  exact ⟨i1, box_stays i2 hk (hS _ (by omega)), box_stays i3 hk (hS _ (by omega)), box_stays i4 hk (hS _ (by omega)), box_stays i5 hk (hS _ (by omega)), box_stays i6 hk (hS _ (by omega)), i7.trans (hk.below hz (fun i hi => hS i (by omega)))⟩
theorem PrI.size {w : World} {B p k : Nat} {W : World} (h : PrI w B p k W) : B ≤ W.heap.size := by
  obtain ⟨i1, i2, i3, i4, i5, i6, i7⟩ := h; have := i2.lt; omega
theorem PrI.begin (w : World) (p : Nat) : PrI w w.heap.size p 0 (((((w.alloc (.cells #[.int .u64 p] 22)).alloc (.cells #[.bool false] 4)).alloc (.cells #[.int .i64 (dg p)] 3)).alloc (.cells #[.int .u64 (Gf2.pm 2 p : Nat)] 22)).alloc (.cells #[.int .u64 p] 22)) := by
  refine ⟨fun j h1 h2 => absurd h1 (by omega), ?_, ?_, ?_, ?_, ?_, ?_⟩
  · exact ((((Boxed.new w _ _).alloc _).alloc _).alloc _).alloc _
  · have := (Boxed.new (w.alloc (.cells #[.int .u64 p] 22)) 4 (.bool false)); rw [World.size_alloc] at this
    exact ((this.alloc _).alloc _).alloc _
  · have := ((Boxed.new ((w.alloc (.cells #[.int .u64 p] 22)).alloc (.cells #[.bool false] 4)) 3 (.int .i64 (dg p)))); rw [World.size_alloc, World.size_alloc] at this
    exact (this.alloc _).alloc _
  · have := ((Boxed.new (((w.alloc (.cells #[.int .u64 p] 22)).alloc (.cells #[.bool false] 4)).alloc (.cells #[.int .i64 (dg p)] 3)) 22 (.int .u64 (Gf2.pm 2 p : Nat)))); rw [World.size_alloc, World.size_alloc, World.size_alloc] at this
    exact this.alloc _
  · have := ((Boxed.new ((((w.alloc (.cells #[.int .u64 p] 22)).alloc (.cells #[.bool false] 4)).alloc (.cells #[.int .i64 (dg p)] 3)).alloc (.cells #[.int .u64 (Gf2.pm 2 p : Nat)] 22)) 22 (.int .u64 p))); rw [World.size_alloc, World.size_alloc, World.size_alloc, World.size_alloc] at this
    exact this
  · exact (((((Below.refl _ _).alloc (Nat.le_refl _) _).alloc (by simp) _).alloc (by simp; omega) _).alloc (by simp; omega) _).alloc (by simp; omega) _
open Classical in
theorem pr_true {p k : Nat} (h1 : 1 ≤ dg p) (h2 : dg p ≤ 56) (h : ∀ j, 1 ≤ j → j ≤ k → 2 * j ≤ p.log2 ∧ Gf2.Ask p j) (hd : p.log2 < 2 * (k + 1)) : prB p = true := by
  unfold prB; rw [decide_eq_true_eq]
  exact ⟨h1, h2, fun j g1 g2 => (h j g1 (by omega)).2⟩
open Classical in
theorem pr_false {p k : Nat} (hk : 2 * (k + 1) ≤ p.log2) (h : ¬ Gf2.Ask p (k + 1)) : prB p = false := by
  unfold prB; rw [decide_eq_false_iff_not]
  exact fun hp => h (hp.2.2 (k + 1) (by omega) hk)
theorem pr_next {p k : Nat} (h : ∀ j, 1 ≤ j → j ≤ k → 2 * j ≤ p.log2 ∧ Gf2.Ask p j) (hk : 2 * (k + 1) ≤ p.log2) (ha : Gf2.Ask p (k + 1)) : ∀ j, 1 ≤ j → j ≤ k + 1 → 2 * j ≤ p.log2 ∧ Gf2.Ask p j := by
  intro j g1 g2
  by_cases e : j = k + 1
  · subst e; exact ⟨hk, ha⟩
  · exact h j g1 (by omega)
set_option maxHeartbeats 2000000 in
theorem prime_may (p : Int) (w : World) (h0 : 0 ≤ p) (hp : p < 18446744073709551616) (h1 : 1 ≤ dg p.toNat) (h2 : dg p.toNat ≤ 56) :
    Calls Try.prog 22 #[.int .u64 p] w fun e w' => e = .returned (.bool (prB p.toNat)) ∧ Below w.heap.size w w' := by
  obtain ⟨p, rfl⟩ := Int.eq_ofNat_of_zero_le h0
  rw [Int.toNat_natCast] at h1 h2 ⊢
  have hp' : p < 18446744073709551616 := by omega
  clear h0 hp
  obtain ⟨q0, q1, q2, q3, q4⟩ := dg_56 h1 h2
  have hfn : ∀ f, Fence.wide.fn f := fun _ => trivial
  have hdp : Fence.wide.depth.isSome = false := rfl
  refine (callsIn_wide (n := 9)).1 ?_
  refine callsIn_of_wp_marks Try.func22 rfl trivial ?_ rfl
  simp only [Try.ntmps22, List.size_toArray, List.length_cons, List.length_nil, Nat.reduceAdd, Nat.reduceSub, Array.replicate_succ, Array.replicate_zero, List.push_toArray, List.append_toArray, List.nil_append, List.cons_append]
  gi_wp2_with (first | (gi_at_call 15; refine (callsIn_wide.2 (deg_any _ _ (by omega) (by omega))).mono ?_; rintro e w' ⟨rfl, rfl⟩) | (gi_at_call 38; refine (callsIn_wide.2 (may_yes _ _ (by omega) (by omega) (by simpa using h1) (by simpa using h2))).mono ?_; rintro e w' ⟨rfl, rfl⟩) | (gi_at_call 11; refine (callsIn_wide.2 (mod_any _ _ _ (by omega) (by omega) (by omega) (by omega))).mono ?_; rintro e w' ⟨rfl, rfl⟩) | (gi_at_call 42; refine (callsIn_wide.2 (squares_any _ _)).mono ?_; rintro e w' ⟨rfl, rfl⟩))
  have hI0 := PrI.begin w p
  have hz0 : (((((w.alloc (.cells #[.int .u64 p] 22)).alloc (.cells #[.bool false] 4)).alloc (.cells #[.int .i64 (dg p)] 3)).alloc (.cells #[.int .u64 (Gf2.pm 2 p : Nat)] 22)).alloc (.cells #[.int .u64 p] 22)).heap.size = w.heap.size + 5 := by simp
  generalize (((((w.alloc (.cells #[.int .u64 p] 22)).alloc (.cells #[.bool false] 4)).alloc (.cells #[.int .i64 (dg p)] 3)).alloc (.cells #[.int .u64 (Gf2.pm 2 p : Nat)] 22)).alloc (.cells #[.int .u64 p] 22)) = W0 at *
  generalize hB : w.heap.size = B at *
  have HB := Lib.hid hB
  have HZ := Lib.hid hz0
  have hz1 : B + 5 ≤ W0.heap.size := by omega
  clear hB hz0
  refine wpIn_range rfl (by omega) (gf := 47) (lb := #[.pointer (some ⟨B + 1 + 1 + 1 + 1, 0, none⟩)]) rfl trivial (enters_of Try.func47 (by kernel_rfl) rfl) (fun W1 _ _ => squares_seq 8 p (B + 1 + 1 + 1 + 1) (p.log2 + 1) W1 hp' h1 h2 (by omega)) (fun x => rfl) (fun Ow hO => ⟨hO _, hO _⟩)
    (fun _ k W => PrI w B p k W) (PrX w B p)
    ?h0 ?hI ?hIx ?hcap ?hend ?hround ?hdone ?hstop
  case h0 =>
    intro Ow W1 hO hb _
    exact hI0.stays (Kept.of_below' (S := fun _ => True) hb) (fun _ _ => trivial) hI0.size
  case hI =>
    intro Ow k A C hO hA hK
    exact hA.stays hK (fun i hi => ⟨hO i, by omega⟩) hA.size
  case hIx =>
    rintro c A C ⟨rfl, i3, i7⟩ hK
    exact ⟨rfl, box_stays i3 hK (by omega), i7.trans (hK.below (by have := i3.lt; omega) (fun i hi => by omega))⟩
  case hcap =>
    rintro Ow k W hO ⟨i1, i2, i3, i4, i5, i6, i7⟩
    exact i6.cell
  case hend =>
    right
    rintro Ow W hO ⟨i1, _⟩
    have := (i1 (p.log2 + 1) (by omega) (by simp)).1
    omega
  case hround =>
    rintro l Ow k W hk hO hI hs
    rw [List.getElem_range]
    gi_wp2_with fail
    refine ⟨trivial, ?_⟩
    rintro Wb ⟨i1, i2, i3, i4, i5, i6, i7⟩ hs
    have HI1 := Lib.hid i1
    clear i1 hI
    have c2 := i2.cell
    have c3 := i3.cell
    have f3 := i3.frozen
    have c4 := i4.cell
    have c5 := i5.cell
    have HD := Lib.hid (dg_of q0)
    have hx1 : sqAt p (k + 1) < 72057594037927936 := pm_56 _ q0 q4
    have hx2 : Gf2.pm 2 p < 72057594037927936 := pm_56 _ q0 q4
    have hk' : k < p.log2 + 1 := by simpa using hk
    by_cases hd : p.log2 < 2 * (k + 1)
    · have hd' : dg p < 2 * ((k : Int) + 1) := by rw [HD.out]; omega
      have HT := Lib.hid (pr_true h1 h2 HI1.out hd)
      clear hd
      gi_wp2_with fail
      exact ⟨(Kept.refl _ _).setCell (p := ⟨B + 1, 0, none⟩) (by show ¬ (B + 1 = _ ∨ B + 1 = _); omega) _, rfl, by rw [HT.out]; exact i3.set _, i7.setCell (p := ⟨B + 1, 0, none⟩) (by show B ≤ B + 1; omega) _⟩
    · have hd' : 2 * ((k : Int) + 1) ≤ dg p := by rw [HD.out]; omega
      have hx := u64_xor_nat (sqAt p (k + 1)) (Gf2.pm 2 p) (by omega) (by omega)
      have hx3 : sqAt p (k + 1) ^^^ Gf2.pm 2 p < 18446744073709551616 := xor_lt64 (by omega) (by omega)
      by_cases ha : Gf2.Ask p (k + 1)
      · have ha' : (((Gf2.pg p (sqAt p (k + 1) ^^^ Gf2.pm 2 p) : Nat) : Int) != 1) = false := by rw [show Gf2.pg p (sqAt p (k + 1) ^^^ Gf2.pm 2 p) = 1 from ha]; rfl
        have HN := Lib.hid (pr_next HI1.out (by omega) ha)
        clear hd ha
        gi_wp2_with (gi_at_call 17; refine (CallsIn.inRound l (callsIn_wide.2 (gcd_any _ _ _ (by omega) (by omega) (by omega) (by omega)))).mono ?_; rintro e w' ⟨rfl, rfl⟩)
        exact ⟨Kept.refl _ _, HN.out, i2, i3, i4, i5, i6, i7⟩
      · have ha' : (((Gf2.pg p (sqAt p (k + 1) ^^^ Gf2.pm 2 p) : Nat) : Int) != 1) = true := by
          have : Gf2.pg p (sqAt p (k + 1) ^^^ Gf2.pm 2 p) ≠ 1 := ha
          rw [bne_iff_ne]; omega
        have HT := Lib.hid (pr_false (by omega) ha)
        clear hd ha
        gi_wp2_with (gi_at_call 17; refine (CallsIn.inRound l (callsIn_wide.2 (gcd_any _ _ _ (by omega) (by omega) (by omega) (by omega)))).mono ?_; rintro e w' ⟨rfl, rfl⟩)
        exact ⟨(Kept.refl _ _).setCell (p := ⟨B + 1, 0, none⟩) (by show ¬ (B + 1 = _ ∨ B + 1 = _); omega) _, rfl, by rw [HT.out]; exact i3.set _, i7.setCell (p := ⟨B + 1, 0, none⟩) (by show B ≤ B + 1; omega) _⟩
  case hdone =>
    intro Ow W hO hI
    exfalso
    have := (hI.1 (p.log2 + 1) (by omega) (by simp)).1
    omega
  case hstop =>
    rintro c W ⟨rfl, i3, i7⟩ hK
    gi_wp2_with fail
    refine ⟨by simp, .inl ⟨_, _, rfl, run_takeDeferred hK, ?_⟩⟩
    have hkp := Kept.putObj W W0.heap.size (.deferred none)
    have hc := (box_stays i3 hkp (by omega)).cell
    refine ⟨.bool (prB p), by simp [results, Try.results22, go_sem, hc], rfl, ?_⟩
    rw [HB.out]
    exact i7.trans (hkp.below (by have := i3.lt; omega) (fun i hi => by omega))
end Go.Proofs.Ytpkbhihkhnkhnaa
