/- edit.Fresh, maslinref11.Fresh. -/
import Derived.Test.YtpkbhihkhnkhnaaDoorEdit
import Derived.Test.YtpkbhihkhnkhnaaDoorBytes
import Derived.Maps.AppendAt
import Derived.Maps.OwnOps
import Derived.Maps.Views
import Derived.StringKeys
namespace Go.Proofs.YtpkbhihkhnkhnaaDoor
open Go.RowKit Go.WideMaps Go.Maps
/-- a slice whose cells are known -/
def Row (W : World) (sz : Nat) (v : Value) (n : Nat) (xs : List Value) : Prop := xs.length = n * sz ∧ ∃ p cap, v = .slice p n cap ∧ ∀ k x, xs[k]? = some x → ∃ b off, p = some ⟨b, off, none⟩ ∧ b < W.heap.size ∧ W.cell? ⟨b, off + k, none⟩ = some x
theorem Row.below {W W' : World} {sz n : Nat} {v : Value} {xs : List Value} (h : Row W sz v n xs) (hb : Below W.heap.size W W') : Row W' sz v n xs := by
  obtain ⟨h0, p, cap, h1, h2⟩ := h
  refine ⟨h0, p, cap, h1, fun k x hk => ?_⟩
  obtain ⟨b, off, h3, h4, h5⟩ := h2 k x hk
  exact ⟨b, off, h3, Nat.lt_of_lt_of_le h4 hb.size, by rw [hb.cell (p := ⟨b, off + k, none⟩) h4]; exact h5⟩
theorem row_of_owns {W : World} {base sz n : Nat} {e : TypeId} {v : Value} {xs : List Value} (h : W.ownsRow base e sz v n xs) : Row W sz v n xs := by
  obtain ⟨h0, h⟩ := h
  rcases h with ⟨rfl, rfl⟩ | ⟨g, cap, cur, rfl, hb, hg, h1, h2, h3, ht⟩
  · refine ⟨h0, none, 0, rfl, fun k x hk => ?_⟩
    have : xs = [] := List.length_eq_zero_iff.1 (by omega)
    rw [this] at hk; simp at hk
  · refine ⟨h0, _, cap, rfl, fun k x hk => ⟨g, 0, rfl, (Array.getElem?_eq_some_iff.1 hg).1, ?_⟩⟩
    have hc : W.cell? ⟨g, 0 + k, none⟩ = cur[k]? := by simp [World.cell?, hg]
    rw [hc, ← Array.getElem?_toList]
    rw [← ht, List.getElem?_take] at hk
    split at hk
    · exact hk
    · cases hk
theorem owns_base {w : World} {base : Nat} {e : TypeId} {size : Nat} {v : Value} {n : Nat} {xs : List Value} (h : w.ownsRow base e size v n xs) {g : Nat} (hg : v.ownBlock = some g) : base ≤ g := by
  rcases h.2 with ⟨rfl, _⟩ | ⟨g', cap, cur, rfl, hb, _⟩
  · simp [Value.ownBlock] at hg
  · simp [Value.ownBlock] at hg; omega
theorem owns_below {W W' : World} {base n sz : Nat} {e : TypeId} {v : Value} {xs : List Value} (h : W.ownsRow base e sz v n xs) (hb : Below W.heap.size W W') : W'.ownsRow base e sz v n xs := by
  obtain ⟨h0, h⟩ := h
  refine ⟨h0, ?_⟩
  rcases h with h | ⟨g, cap, cur, h1, h2, hg, h3⟩
  · exact .inl h
  · exact .inr ⟨g, cap, cur, h1, h2, by rw [hb.block g (Array.getElem?_eq_some_iff.1 hg).1]; exact hg, h3⟩
theorem owns_mono {W : World} {base base' n sz : Nat} {e : TypeId} {v : Value} {xs : List Value} (h : W.ownsRow base e sz v n xs) (hb : base' ≤ base) : W.ownsRow base' e sz v n xs := by
  obtain ⟨h0, h⟩ := h
  refine ⟨h0, ?_⟩
  rcases h with h | ⟨g, cap, cur, h1, h2, h3⟩
  · exact .inl h
  · exact .inr ⟨g, cap, cur, h1, by omega, h3⟩
/-- does a text stand in a row? -/
def isin (s : ByteArray) (l : List ByteArray) : Bool := l.any fun t => decide (t.data.toList = s.data.toList)
def cnt (s : ByteArray) (l : List ByteArray) : Nat := l.countP fun t => decide (t.data.toList = s.data.toList)
theorem cnt_isin (s : ByteArray) (l : List ByteArray) : isin s l = decide (0 < cnt s l) := by
  unfold isin cnt
  rw [Bool.eq_iff_iff, decide_eq_true_iff, List.countP_pos_iff, List.any_eq_true]
theorem cnt_le (s : ByteArray) (l : List ByteArray) : cnt s l ≤ l.length := List.countP_le_length
/-- which texts are fresh, of the first k -/
def frs (old now : List ByteArray) (k : Nat) : List Nat := (List.range k).filter fun i => !isin (now.getD i ⟨#[]⟩) old
theorem frs_yes {old now : List ByteArray} {k : Nat} (h : isin (now.getD k ⟨#[]⟩) old = false) : frs old now (k + 1) = frs old now k ++ [k] := by
  unfold frs; rw [List.range_succ, List.filter_append]
  congr 1
  simp only [List.filter_cons, List.filter_nil]
  rw [if_pos (by rw [h]; rfl)]
theorem frs_no {old now : List ByteArray} {k : Nat} (h : isin (now.getD k ⟨#[]⟩) old = true) : frs old now (k + 1) = frs old now k := by
  unfold frs; rw [List.range_succ, List.filter_append]
  simp only [List.filter_cons, List.filter_nil]
  rw [if_neg (by rw [h]; simp), List.append_nil]
theorem frs_len (old now : List ByteArray) (k : Nat) : (frs old now k).length ≤ k := by
  have := List.length_filter_le (fun i => !isin (now.getD i ⟨#[]⟩) old) (List.range k)
  simpa [frs] using this
theorem mlaw : Keyed Tryd.prog 9 := string_keyed Tryd.underlying9
theorem zeroI (w : World) : (zeroValue 3).run Tryd.prog w = .ok (.int .i64 0) w := by kernel_rfl
theorem infoI : (Tryd.prog.info? 3).map (fun i => (i.zero, i.size, i.bytes)) = some (some (.int .i64 0), 1, 8) := by kernel_rfl
/-- the map tells how often each text stands in a row -/
def Tells (D : DataW Unit) (l : List ByteArray) : Prop := IsMap D ∧ ∀ s : ByteArray, D.atKey (.string s.data.toList) (.lit (.int .i64 0)) = .lit (.int .i64 (cnt s l : Nat))
theorem tells_nil : Tells (.map []) [] := ⟨isMap_empty, fun _ => rfl⟩
theorem Tells.snoc {D : DataW Unit} {l : List ByteArray} {s : ByteArray} (h : Tells D l) : Tells (D.put (.string s.data.toList) (.lit (.int .i64 ((cnt s l : Nat) + 1)))) (l ++ [s]) := by
  refine ⟨h.1.put _ _, fun t => ?_⟩
  by_cases e : t.data.toList = s.data.toList
  · rw [e, atKey_put_same h.1 (show WideAt.IsKeyLit (.string _) from trivial)]
    simp [cnt, e]
  · rw [atKey_put_other (by intro hc; apply e; simpa using hc), h.2 t]
    have e' : ¬ s.data.toList = t.data.toList := fun x => e x.symm
    simp only [cnt, List.countP_append, List.countP_cons, List.countP_nil, e']; simp
theorem str_eq (s t : ByteArray) : decide (s = t) = decide (s.data.toList = t.data.toList) := by
  by_cases h : s = t
  · subst h; simp
  · have : ¬ s.data.toList = t.data.toList := fun e => h (ba_ext e)
    simp [h, this]
theorem owns_map {H : Type} {w w' : World} {P : Program} {k : TypeId} {R : Value → Option (DataW H × List MemPlace)} {b n m : Nat} {D : DataW H} (h : w.ownsMap P k R b n D) (hb : Below m w w') (hm : b < m) : w'.ownsMap P k R b n D := by
  unfold World.ownsMap at *
  rw [hb.block b hm]; exact h
set_option maxRecDepth 100000 in
set_option maxHeartbeats 1000000 in
theorem fresh_any (old now : List ByteArray) (vo vn : Value) (w : World) (ho : Row w 1 vo old.length (old.map .string)) (hn : Row w 1 vn now.length (now.map .string)) (l1 : old.length ≤ 1000000) (l2 : now.length ≤ 1000000) (s1 : ∀ s ∈ old, s.size ≤ 140737488351232) (s2 : ∀ s ∈ now, s.size ≤ 140737488351232) :
    Calls Tryd.prog 20 #[vo, vn] w fun e w' => ∃ v, e = .returned v ∧ w'.ownsRow w.heap.size 3 1 v (frs old now now.length).length ((frs old now now.length).map fun k => Value.int .i64 (k : Nat)) ∧ Below w.heap.size w w' := by
  obtain ⟨-, po, co, rfl, hro⟩ := ho
  obtain ⟨-, pn, cn, rfl, hrn⟩ := hn
  have HRO := Lib.hid hro
  have HRN := Lib.hid hrn
  have S1 := Lib.hid s1
  have S2 := Lib.hid s2
  clear hro hrn s1 s2
  have hmm := @run_makeMap Tryd.prog
  go_enter Tryd.func20, Tryd.ntmps20
  go_wp2_with fail
  go_loopw [7, 13] (fun _ i wr => ∃ (k : Nat) (D : DataW Unit), k ≤ old.length ∧ i = .int .i64 k ∧ wr.ownsMap Tryd.prog 9 (plainElem Tryd.prog 3) w.heap.size k D ∧ Tells D (old.take k) ∧ Below w.heap.size w wr) (fun _ i _ => old.length - (intOf i).toNat)
  case atStart => exact ⟨0, .map [], Nat.zero_le _, rfl, World.ownsMap_made _ _ _ _, tells_nil, (Below.refl _ _).alloc (Nat.le_refl _) _⟩
  case round =>
    obtain ⟨k, D, hk, rfl, hown, hT, hbr⟩ := hrel
    by_cases hlt : k < old.length
    · obtain ⟨b, off, rfl, hb, hc⟩ := HRO.out k (.string (old.getD k ⟨#[]⟩)) (by simp [hlt])
      obtain ⟨s, hs⟩ : ∃ s, s = old.getD k ⟨#[]⟩ := ⟨_, rfl⟩
      rw [← hs] at hc
      have hcx : wr.cell? ⟨b, off + k, none⟩ = some (.string s) := (hbr.cell (p := ⟨b, off + k, none⟩) hb).trans hc
      have hsz : s.size ≤ 140737488351232 := S1.out s (by rw [hs]; simp [hlt])
      have hkey : keyOf Tryd.prog 9 (.string s) = some (.string s.data.toList) := keyOf_string_mk Tryd.underlying9 (by unfold maxLen; omega)
      have HS := Lib.hid hs
      clear hs hc
      have HT := Lib.hid hT
      clear hT
      go_wp2_with (first
        | (at_lookup; refine wpList_lookup_own_int _ rfl _ _ 76 rfl 9 3 .i64 mlaw Tryd.underlying76 Tryd.underlying3 (zeroI _) w.heap.size k _ rfl hown _ _ rfl hkey ?_; intro c hat hwc)
        | (at_mapUpdate; refine wpList_mapUpdate_own _ rfl _ _ _ 76 rfl 9 3 mlaw Tryd.underlying76 _ w.heap.size k _ rfl hown (by unfold maxLen; omega) _ _ _ rfl rfl hkey _ [] (plainElem_int Tryd.underlying3 (wrap64_wf _)) ?_; intro w1 hown1 hgrow1)
        | go_in)
      rw [HT.out.2 s] at hat
      obtain rfl : c = (cnt s (old.take k) : Nat) := by simpa using hat.symm
      have hcn : cnt s (old.take k) ≤ k := Nat.le_trans (cnt_le _ _) (by simp; omega)
      have hw : wrap64 ((cnt s (old.take k) : Nat) + 1 : Int) = (cnt s (old.take k) : Nat) + 1 := by unfold wrap64; omega
      refine ⟨⟨k + 1, _, by omega, by go_num, hown1, ?_, hbr.grown hgrow1 hbr.size (fun j hj => by cases hj; exact Nat.le_refl _)⟩, by simp only [intOf]; omega⟩
      rw [take_snoc old k ⟨#[]⟩ hlt, ← HS.out]
      have := HT.out.snoc (s := s)
      rw [← hw] at this
      exact this
    · obtain rfl : k = old.length := by omega
      rw [List.take_of_length_le (Nat.le_refl _)] at hT
      have HT := Lib.hid hT
      obtain ⟨i0, hi, hz0, hz1, hz2⟩ := info_parts infoI
      clear hT hmm HRO S1 hk
      go_wp2_with fail
      have HB := Lib.hid hbr
      have HO := Lib.hid hown
      have zr := hbr.size
      obtain ⟨W1, hW1⟩ : ∃ W1, W1 = wr := ⟨_, rfl⟩
      rw [← hW1] at HB HO zr ⊢
      clear hW1 hbr hown
      clear wr
      go_loopw [4, 8, 9, 24] (fun v _ _ i wr => ∃ (k : Nat), k ≤ now.length ∧ i = .int .i64 k ∧ wr.ownsRow W1.heap.size 3 1 v (frs old now k).length ((frs old now k).map fun k => Value.int .i64 (k : Nat)) ∧ Below W1.heap.size W1 wr) (fun _ _ _ i _ => now.length - (intOf i).toNat)
      case atStart => exact ⟨0, Nat.zero_le _, rfl, World.ownsRow_nil _ _ _ _, Below.refl _ _⟩
      case round =>
        obtain ⟨k, hk, rfl, hrow, hbr⟩ := hrel
        have zr2 := hbr.size
        by_cases hlt : k < now.length
        · obtain ⟨b, off, rfl, hb, hc⟩ := HRN.out k (.string (now.getD k ⟨#[]⟩)) (by simp [hlt])
          obtain ⟨s, hs⟩ : ∃ s, s = now.getD k ⟨#[]⟩ := ⟨_, rfl⟩
          rw [← hs] at hc
          have hcx : wr.cell? ⟨b, off + k, none⟩ = some (.string s) := (hbr.cell (p := ⟨b, off + k, none⟩) (by show b < _; omega)).trans ((HB.out.cell (p := ⟨b, off + k, none⟩) hb).trans hc)
          have hsz : s.size ≤ 140737488351232 := S2.out s (by rw [hs]; simp [hlt])
          have hkey : keyOf Tryd.prog 9 (.string s) = some (.string s.data.toList) := keyOf_string_mk Tryd.underlying9 (by unfold maxLen; omega)
          have HS := Lib.hid hs
          have hown := owns_map HO.out hbr HO.out.lt
          have hll := frs_len old now k
          clear hs hc
          have hcn := cnt_le s old
          have hci := cnt_isin s old
          by_cases hz : cnt s old = 0
          · have hf : isin s old = false := by rw [hci, hz]; rfl
            have HF := Lib.hid hf
            clear hf hci
            go_wp2_with (first
              | (at_lookup; refine wpList_lookup_own_int _ rfl _ _ 76 rfl 9 3 .i64 mlaw Tryd.underlying76 Tryd.underlying3 (zeroI _) w.heap.size old.length _ rfl hown _ _ rfl hkey ?_; intro c hat hwc; rw [HT.out.2 s, hz] at hat; obtain rfl : c = 0 := by simpa using hat.symm)
              | (at_builtin; refine wpList_append_own_at _ rfl _ _ 32 rfl W1.heap.size 3 i0 (.int .i64 0) 1 8 Tryd.underlying32 hi hz0 hz1 hz2 rfl (by decide) _ _ _ rfl (hrow.alloc _) ⟨wr.heap.size, 0, none⟩ 1 1 [.int .i64 k] rfl rfl (cell_one_new _ _ _) (ints_oneCell .i64 [(k : Int)]) (by unfold maxLen; omega) (by omega) (by simp; omega) ?_; intro v' w1 hown' hgrow hnil hloc)
              | go_in)
            refine ⟨⟨k + 1, by omega, by go_num, ?_, ?_⟩, by simp only [intOf]; omega⟩
            · rw [frs_yes (by rw [← HS.out]; exact HF.out), List.map_append, List.length_append]; exact hown'
            · exact (hbr.alloc (by omega) _).grown hgrow (by simp; omega) (fun j hj => owns_base hrow hj)
          · have hf : isin s old = true := by rw [hci]; simp; omega
            have HF := Lib.hid hf
            obtain ⟨n1, hn1⟩ : ∃ n1 : Nat, n1 = cnt s old := ⟨_, rfl⟩
            have hn2 : 0 < n1 := by omega
            have HN1 := Lib.hid hn1
            clear hf hci hz hn1 hcn
            go_wp2_with (first
              | (at_lookup; refine wpList_lookup_own_int _ rfl _ _ 76 rfl 9 3 .i64 mlaw Tryd.underlying76 Tryd.underlying3 (zeroI _) w.heap.size old.length _ rfl hown _ _ rfl hkey ?_; intro c hat hwc; rw [HT.out.2 s, ← HN1.out] at hat; obtain rfl : c = (n1 : Int) := by simpa using hat.symm)
              | go_in)
            refine ⟨⟨k + 1, by omega, by go_num, ?_, hbr⟩, by simp only [intOf]; omega⟩
            rw [frs_no (by rw [← HS.out]; exact HF.out)]; exact hrow
        · obtain rfl : k = now.length := by omega
          go_wp2_with fail
          go_ret
          refine ⟨_, rfl, ?_, HB.out.trans (hbr.mono (by omega))⟩
          exact owns_mono hrow (by omega)
end Go.Proofs.YtpkbhihkhnkhnaaDoor
