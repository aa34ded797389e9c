/- More of the cards' frame: cutters, rows of texts that come in; each argument reads again as it did. -/
import Derived.Test.YtpkbhihkhnkhnaaDoorDoor
import Derived.Test.YtpkbhihkhnkhnaaDoorFresh
import Derived.Deep.Strs
import Derived.Deep.OwnRows
import Derived.WideKeyArgs
namespace Go.Proofs.YtpkbhihkhnkhnaaDoor
open Go.ChangeShapes Go.WideShapes Go.ChangeAt Go.RowKit Go.Joins Go.Deep
theorem laidOutK : laidOutB Tryd.prog = true := by kernel_rfl
theorem cellsS : Tryd.prog.cellsOf 9 = 1 := by kernel_rfl
theorem cellsC : Tryd.prog.cellsOf 38 = 5 := by kernel_rfl
/-- an argument reads again as it did -/
theorem again {H : Type} {enc : TypeId × Value → H} {t : TypeId} (hr : Tryd.prog.readableRec t = true) (hrow : t < Tryd.prog.types.size) {W W' : World} {v : Value} {d : DataW H} {p : List MemPlace} (hb : Below W.heap.size W W')
    (h : DataW.Trod enc Tryd.prog W 0 (fun _ => true) true t v d p) : DataW.Trod enc Tryd.prog W' 0 (fun b => decide (b < W.heap.size)) true t v d p := by
  have lt : ∀ x ∈ p, x.block < W.heap.size := fun x hx => (trodAll_mk1 h).lt x (by simpa using hx)
  exact Go.WideElems.Trod_stays laidOutK hr hrow h (fun x hx => hb.same (lt x hx)) (fun x hx => by simpa using lt x hx)
theorem array5 {α : Type} {cs : Array α} (h : cs.size = 5) : ∃ c0 c1 c2 c3 c4, cs = #[c0, c1, c2, c3, c4] := by
  obtain ⟨l⟩ := cs
  match l, h with
  | [c0, c1, c2, c3, c4], _ => exact ⟨c0, c1, c2, c3, c4, rfl⟩
set_option maxRecDepth 100000 in
/-- a cutter that came in -/
theorem open_cutter {H : Type} {enc : TypeId × Value → H} {w : World} {base : Nat} {spare : Nat → Bool} {held : Bool} {r : Reach} {b0 : Nat} {v : Value} {d : DataW H} {p : List MemPlace}
    (hv : Value.okWide Tryd.prog w r b0 38 v) (h : DataW.Trod enc Tryd.prog w base spare held 38 v d p) :
    ∃ c : Cut5, v = c.v ∧ c.p < 18446744073709551616 ∧ (-9223372036854775808 ≤ c.n ∧ c.n ≤ 9223372036854775807) ∧ (-9223372036854775808 ≤ c.mi ∧ c.mi ≤ 9223372036854775807) ∧ (-9223372036854775808 ≤ c.ma ∧ c.ma ≤ 9223372036854775807) ∧ (-9223372036854775808 ≤ c.bi ∧ c.bi ≤ 9223372036854775807) := by
  obtain ⟨cs, rfl, hsz⟩ := okWide_struct Tryd.underlying38 hv
  obtain ⟨c0, c1, c2, c3, c4, rfl⟩ := array5 (hsz.trans cellsC)
  obtain ⟨fuel, hf⟩ := h
  obtain ⟨xs, n, _, _, hl, hlen, hfi⟩ := DataW.trod_struct Tryd.underlying38 hf
  match xs, hlen with
  | [y0, y1, y2, y3, y4], _ =>
    have h0 := hfi 0 _ rfl
    have h1 := hfi 1 _ rfl
    have h2 := hfi 2 _ rfl
    have h3 := hfi 3 _ rfl
    have h4 := hfi 4 _ rfl
    have k0 : Tryd.prog.cellsOf 36 = 1 := by kernel_rfl
    have k1 : Tryd.prog.cellsOf 3 = 1 := by kernel_rfl
    simp [Value.cells, k0, k1] at h0 h1 h2 h3 h4
    obtain ⟨x0, e0, _, w0⟩ := DataW.trod_int Tryd.underlying36 h0
    obtain ⟨x1, e1, _, w1⟩ := DataW.trod_int Tryd.underlying3 h1
    obtain ⟨x2, e2, _, w2⟩ := DataW.trod_int Tryd.underlying3 h2
    obtain ⟨x3, e3, _, w3⟩ := DataW.trod_int Tryd.underlying3 h3
    obtain ⟨x4, e4, _, w4⟩ := DataW.trod_int Tryd.underlying3 h4
    simp at e0 e1 e2 e3 e4
    subst e0 e1 e2 e3 e4
    have b0 := bounds_u64 w0
    obtain ⟨x0, rfl⟩ := Int.eq_ofNat_of_zero_le b0.1
    exact ⟨⟨x0, x1, x2, x3, x4⟩, rfl, by simp only; omega, bounds_i64 w1, bounds_i64 w2, bounds_i64 w3, bounds_i64 w4⟩
theorem weights_all {H : Type} {P : Program} {e : TypeId} : ∀ {l : List (DataW H)} {d : DataW H}, d ∈ l → ∀ n ∈ d.weights P e, n ∈ DataW.weightsAll P e l
  | _ :: l, d, hd, n, hn => by
    rw [DataW.weightsAll, List.mem_append]
    rcases List.mem_cons.1 hd with rfl | hd
    · exact .inl hn
    · exact .inr (weights_all hd n hn)
theorem bytesS : Tryd.prog.bytesOf 9 = 16 := by kernel_rfl
set_option maxRecDepth 100000 in
/-- a row of texts that came in -/
theorem open_texts {H : Type} {enc : TypeId × Value → H} {w : World} {r : Reach} {b0 : Nat} {v : Value} {d : DataW H} {p : List MemPlace} {ts : List TypeId} {ds : List (DataW H)} {j : Nat}
    (hv : Value.okWide Tryd.prog w r b0 24 v) (h : DataW.Trod enc Tryd.prog w 0 (fun _ => true) true 24 v d p)
    (hsz : (DataW.weightsEach Tryd.prog ts ds).all (· ≤ reachBytes) = true) (ht : ts[j]? = some 24) (hd : ds[j]? = some d) :
    ∃ xs : List ByteArray, Row w 1 v xs.length (xs.map .string) ∧ xs.length ≤ 140737488351232 ∧ ∀ s ∈ xs, s.size ≤ 140737488351232 := by
  obtain ⟨a, len, cap, rfl⟩ := okWide_slice Tryd.underlying24 hv
  have hlt : ∀ x ∈ p, x.block < w.heap.size := fun x hx => (trodAll_mk1 h).lt x (by simpa using hx)
  obtain ⟨fuel, hf⟩ := h
  rcases open_strs Tryd.underlying24 Tryd.underlying9 cellsS hf with ⟨hcs, hx⟩ | ⟨a', len', cap', m, Sx, hcs, _, hl, hm, hmm, hx, hcell⟩
  · simp [Value.cells] at hcs
    obtain ⟨rfl, rfl, rfl⟩ := hcs
    exact ⟨[], ⟨rfl, _, _, rfl, fun k x hk => by simp at hk⟩, by simp, by simp⟩
  · simp [Value.cells] at hcs
    obtain ⟨rfl, rfl, rfl⟩ := hcs
    simp only [Prod.mk.injEq] at hx
    obtain ⟨rfl, rfl⟩ := hx
    simp at hmm
    subst hmm
    have hall := List.all_eq_true.1 hsz
    have hw := fun n hn => of_decide_eq_true (hall _ (DataW.weights_mem_each ht hd n hn))
    refine ⟨(List.range len).map Sx, ⟨by simp, some a', m, by simp, fun k x hk => ?_⟩, ?_, ?_⟩
    · simp only [List.getElem?_map] at hk
      rcases Nat.lt_or_ge k len with g | g
      · rw [List.getElem?_range g] at hk
        simp at hk
        subst hk
        have hc := (hcell k (by omega)).1
        obtain ⟨b, off, spot⟩ := a'
        have hspot : spot = none := by simpa [Addr.add] using World.cell?_spot (hcell 0 (by omega)).1
        subst hspot
        have hc' : w.cell? ⟨b, off + k, none⟩ = some (.string (Sx k)) := by rw [show (⟨b, off + k, none⟩ : Addr) = (⟨b, off, none⟩ : Addr).add k by unfold Addr.add; split <;> simp_all]; exact hc
        exact ⟨b, off, rfl, cell_block hc', hc'⟩
      · rw [List.getElem?_eq_none (by simpa using g)] at hk; simp at hk
    · have := hw _ (by rw [DataW.weights, Tryd.underlying24]; exact List.mem_cons_self)
      rw [bytesS] at this
      simp [reachBytes] at this ⊢
      omega
    · intro s hs
      obtain ⟨k, hk, rfl⟩ := List.mem_map.1 hs
      have := hw (Sx k).data.toList.length (by
        rw [DataW.weights, Tryd.underlying24]
        refine List.mem_cons_of_mem _ (List.mem_append_left _ (weights_all (d := .lit (.string (Sx k).data.toList)) (List.mem_map.2 ⟨k, hk, rfl⟩) _ ?_))
        simp [DataW.weights])
      simpa [reachBytes] using this
/-- the weight of a text that came in -/
theorem edit_weight {H : Type} {ts : List TypeId} {ds : List (DataW H)} {j : Nat} {x y : DataW H} {q : ByteArray}
    (hsz : (DataW.weightsEach Tryd.prog ts ds).all (· ≤ reachBytes) = true) (ht : ts[j]? = some 23) (hd : ds[j]? = some (.agg [x, y, .lit (.string q.data.toList)])) : q.size ≤ 140737488351232 := by
  have := List.all_eq_true.1 hsz _ (DataW.weights_mem_each ht hd q.data.toList.length (by simp [DataW.weights, DataW.weightsEach, Tryd.underlying23]))
  have t : q.data.toList.length ≤ reachBytes := of_decide_eq_true this
  simpa [reachBytes] using t
end Go.Proofs.YtpkbhihkhnkhnaaDoor
