/- RabinRolls: the whole, and a row of steps that comes in. -/
import Derived.Test.YtpkbhihkhnkhnaaRls
import Derived.Deep.SlicePairs
import Derived.Deep.OwnRows
import Derived.WideKeyArgs
import Derived.Below
import Derived.SizedLaws
import Derived.ProofKit
import Derived.OpenShut
import Derived.ShutString
import Derived.WalkKit
import Derived.ChangeShapes
import Derived.WideShapes
import Derived.Lib.SmallJoins
namespace Go.Proofs.Ytpkbhihkhnkhnaa
open Go.RowKit
set_option maxRecDepth 100000 in
set_option maxHeartbeats 1000000 in
theorem rolls_no (p n : Int) (xs : List (Int × ByteArray)) (v : Value) (w : World) (h0 : 0 ≤ p) (hp : p < 18446744073709551616) (hm : ¬ RMay p.toNat n) (hv : Steps w v xs) (hl : xs.length ≤ 140737488351232) (hs : ∀ x ∈ xs, x.2.size ≤ 140737488351232)
    (hlong : (decide (60 < xs.length) || decide (2000 < tot xs (min 100 xs.length))) = false) :
    Calls Try.prog 10 #[.int .u64 p, .int .i64 n, v] w fun e w' => e = .returned (.bool true) ∧ Below w.heap.size w w' := by
  have CL := Lib.hid (long_any xs v w hv hl hs)
  rw [hlong] at CL
  have N1 := Lib.hid (fun W => new_no p n W h0 hp hm)
  have CM := Lib.hid (fun W => (r8may_no p n W h0 hp hm).mono (R' := fun e w' => e = .returned (.bool false) ∧ w' = W) (fun e w' h => ⟨h.1, h.2.symm⟩))
  clear hm hv hs hlong
  go_enter Try.func10, Try.ntmps10
  go_wp2_with fail
  refine CL.out.mono ?_
  rintro e w1 ⟨rfl, rfl⟩
  go_wp2_with fail
  refine (roll_nil _ _).mono ?_
  rintro e w2 ⟨rfl, rfl⟩
  go_wp2_with fail
  refine (reset_nil _).mono ?_
  rintro e w3 ⟨rfl, rfl⟩
  go_wp2_with fail
  refine (sum_nil _).mono ?_
  rintro e w4 ⟨rfl, rfl⟩
  go_wp2_with fail
  refine (copy_nil _).mono ?_
  rintro e w5 ⟨rfl, rfl⟩
  go_wp2_with fail
  refine (N1.out _).mono ?_
  rintro e w6 ⟨rfl, hb6⟩
  have HB := Lib.hid hb6
  clear hb6 CL N1
  go_wp2_with fail
  refine (CM.out _).mono ?_
  rintro e w7 ⟨rfl, rfl⟩
  clear CM
  go_wp2_with fail
  refine (alive8_any _).mono ?_
  rintro e w8 ⟨rfl, hb8⟩
  have B8 := Lib.hid (HB.out.trans (hb8.mono HB.out.size))
  clear hb8
  go_wp2_with fail
  go_ret
  exact ⟨rfl, B8.out⟩
theorem rolls_long (p n : Int) (xs : List (Int × ByteArray)) (v : Value) (w : World) (hv : Steps w v xs) (hl : xs.length ≤ 140737488351232) (hs : ∀ x ∈ xs, x.2.size ≤ 140737488351232)
    (hlong : (decide (60 < xs.length) || decide (2000 < tot xs (min 100 xs.length))) = true) :
    Calls Try.prog 10 #[.int .u64 p, .int .i64 n, v] w fun e w' => e = .returned (.bool true) ∧ Below w.heap.size w w' := by
  have CL := Lib.hid (long_any xs v w hv hl hs)
  rw [hlong] at CL
  clear hv hs hlong
  go_enter Try.func10, Try.ntmps10
  go_wp2_with fail
  refine CL.out.mono ?_
  rintro e w1 ⟨rfl, rfl⟩
  go_wp2_with fail
  refine (alive8_any _).mono ?_
  rintro e w8 ⟨rfl, hb8⟩
  have B8 := Lib.hid hb8
  clear hb8
  go_wp2_with fail
  go_ret
  exact ⟨rfl, B8.out⟩
theorem rabinRolls_any (p n : Int) (xs : List (Int × ByteArray)) (v : Value) (w : World) (h0 : 0 ≤ p) (hp : p < 18446744073709551616) (hv : Steps w v xs) (hl : xs.length ≤ 140737488351232) (hs : ∀ x ∈ xs, x.2.size ≤ 140737488351232) :
    Calls Try.prog 10 #[.int .u64 p, .int .i64 n, v] w fun e w' => e = .returned (.bool true) ∧ Below w.heap.size w w' := by
  cases hlong : decide (60 < xs.length) || decide (2000 < tot xs (min 100 xs.length))
  · by_cases hm : RMay p.toNat n
    · have hn : 0 ≤ n := by have := hm.2.2.1; omega
      obtain ⟨p, rfl⟩ := Int.eq_ofNat_of_zero_le h0
      obtain ⟨n, rfl⟩ := Int.eq_ofNat_of_zero_le hn
      rw [Int.toNat_natCast] at hm
      rw [Bool.or_eq_false_iff, decide_eq_false_iff_not, decide_eq_false_iff_not] at hlong
      have h60 : xs.length ≤ 60 := by omega
      refine rolls_may p n xs v w (by omega) hm hv h60 ?_
      have := hlong.2
      rw [show min 100 xs.length = xs.length by omega] at this
      omega
    · exact rolls_no p n xs v w h0 hp hm hv hl hs hlong
  · exact rolls_long p n xs v w hv hl hs hlong
section
open Go.ChangeShapes Go.WideShapes Go.ChangeAt Go.RowKit Go.Joins Go.Deep
theorem cell_blockR {W : World} {b off : Nat} {v : Value} (h : W.cell? ⟨b, off, none⟩ = some v) : b < W.heap.size := by
  rcases Nat.lt_or_ge b W.heap.size with g | g
  · exact g
  · rw [World.cell?, Array.getElem?_eq_none (by exact g)] at h; cases h
theorem laidOutR : laidOutB Try.prog = true := by kernel_rfl
/-- an argument reads again as it did -/
theorem againR {H : Type} {enc : TypeId × Value → H} {t : TypeId} (hr : Try.prog.readableRec t = true) (hrow : t < Try.prog.types.size) {W W' : World} {v : Value} {d : DataW H} {p : List MemPlace} (hb : Below W.heap.size W W')
    (h : DataW.Trod enc Try.prog W 0 (fun _ => true) true t v d p) : DataW.Trod enc Try.prog W' 0 (fun b => decide (b < W.heap.size)) true t v d p := by
  have lt : ∀ x ∈ p, x.block < W.heap.size := fun x hx => (trodAll_mk1 h).lt x (by simpa using hx)
  exact Go.WideElems.Trod_stays laidOutR hr hrow h (fun x hx => hb.same (lt x hx)) (fun x hx => by simpa using lt x hx)
theorem weights_allR {H : Type} {P : Program} {e : TypeId} : ∀ {l : List (DataW H)} {d : DataW H}, d ∈ l → ∀ n ∈ d.weights P e, n ∈ DataW.weightsAll P e l
  | _ :: l, d, hd, n, hn => by
    rw [DataW.weightsAll, List.mem_append]
    rcases List.mem_cons.1 hd with rfl | hd
    · exact .inl hn
    · exact .inr (weights_allR hd n hn)
theorem cellsStep : Try.prog.cellsOf 53 = 2 := by kernel_rfl
theorem bytesStep : Try.prog.bytesOf 53 = 24 := by kernel_rfl
set_option maxRecDepth 100000 in
/-- a row of steps that came in -/
theorem open_steps {H : Type} {enc : TypeId × Value → H} {w : World} {r : Reach} {b0 : Nat} {v : Value} {d : DataW H} {p : List MemPlace} {ts : List TypeId} {ds : List (DataW H)} {j : Nat}
    (hv : Value.okWide Try.prog w r b0 48 v) (h : DataW.Trod enc Try.prog w 0 (fun _ => true) true 48 v d p)
    (hsz : (DataW.weightsEach Try.prog ts ds).all (· ≤ reachBytes) = true) (ht : ts[j]? = some 48) (hd : ds[j]? = some d) :
    ∃ xs : List (Int × ByteArray), Steps w v xs ∧ xs.length ≤ 140737488351232 ∧ ∀ x ∈ xs, x.2.size ≤ 140737488351232 := by
  obtain ⟨a, len, cap, rfl⟩ := okWide_slice Try.underlying48 hv
  obtain ⟨fuel, hf⟩ := h
  rcases open_slice_pairs Try.underlying48 Try.underlying53 cellsStep rfl rfl (by kernel_rfl) (by kernel_rfl) hf with ⟨hcs, hx⟩ | ⟨a', len', cap', m, n, V0, V1, D0, D1, P0, P1, hcs, _, hl, hm, hmm, hx, hcell⟩
  · simp [Value.cells] at hcs
    obtain ⟨rfl, rfl, rfl⟩ := hcs
    exact ⟨[], ⟨_, _, rfl, fun k hk => absurd hk (Nat.not_lt_zero _)⟩, by simp, by simp⟩
  · simp [Value.cells] at hcs
    obtain ⟨rfl, rfl, rfl⟩ := hcs
    simp only [Prod.mk.injEq] at hx
    obtain ⟨rfl, rfl⟩ := hx
    simp at hmm
    subst hmm
    have hall := List.all_eq_true.1 hsz
    have hw := fun n hn => of_decide_eq_true (hall _ (DataW.weights_mem_each ht hd n hn))
    have each : ∀ i, i < len → ∃ q : Int × ByteArray, V0 i = .int .i64 q.1 ∧ V1 i = .string q.2 ∧ D1 i = .lit (.string q.2.data.toList) := fun i hi => by
      obtain ⟨c0, c1, t0, t1⟩ := hcell i (by omega)
      obtain ⟨x, e0, _, _⟩ := DataW.trod_int Try.underlying3 t0
      obtain ⟨s, e1, e2, _⟩ := DataW.trod_string Try.underlying9 t1
      simp only [Prod.mk.injEq] at e2
      exact ⟨(x, s), by simpa using e0, by simpa using e1, e2.1⟩
    obtain ⟨q, hq⟩ := choose_lt each
    refine ⟨(List.range len).map q, ⟨some a', m, by simp, fun k hk => ?_⟩, ?_, ?_⟩
    · have hk : k < len := by simpa using hk
      obtain ⟨c0, c1, -, -⟩ := hcell k (by omega)
      obtain ⟨e0, e1, -⟩ := hq k hk
      obtain ⟨b, off, spot⟩ := a'
      have hspot : spot = none := by simpa [Addr.add] using World.cell?_spot (hcell 0 (by omega)).1
      subst hspot
      rw [Addr.add_mid] at c0 c1
      rw [e0] at c0
      rw [e1, ← Nat.add_assoc] at c1
      refine ⟨b, off, rfl, cell_blockR c0, ?_, ?_⟩
      · simpa using c0
      · simpa using c1
    · have := hw _ (by rw [DataW.weights, Try.underlying48]; exact List.mem_cons_self)
      rw [bytesStep] at this
      simp [reachBytes] at this ⊢
      omega
    · intro x hx
      obtain ⟨k, hk, rfl⟩ := List.mem_map.1 hx
      have hk := List.mem_range.1 hk
      have := hw (q k).2.data.toList.length (by
        rw [DataW.weights, Try.underlying48]
        refine List.mem_cons_of_mem _ (List.mem_append_left _ (weights_allR (d := .agg [D0 k, D1 k]) (List.mem_map.2 ⟨k, List.mem_range.2 hk, rfl⟩) _ ?_))
        rw [(hq k hk).2.2]
        simp [DataW.weights, DataW.weightsEach, Try.underlying53])
      simpa [reachBytes] using this
end
end Go.Proofs.Ytpkbhihkhnkhnaa
