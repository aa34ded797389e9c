/- strings.IndexByte, lines.Align, lines.records and its iterator. -/
import Derived.Test.YtpkbhihkhnkhnaaDoorAlign
import Derived.Test.YtpkbhihkhnkhnaaDoorCtexts
import Derived.Lib.Bytealg
import Derived.MapKept
import Derived.Laws.StructEq
import Derived.MapKept
import Derived.Laws.StructEq
import Derived.MapKept
import Derived.Laws.StructEq
import Derived.MapKept
import Derived.Laws.StructEq
import Derived.MapKept
import Derived.Laws.StructEq
namespace Go.Proofs.YtpkbhihkhnkhnaaDoor
open Go.RowKit Go.Shelf
attribute [local go_sem] Oper.semAt_some
set_option maxRecDepth 100000 in
set_option maxHeartbeats 1000000 in
theorem indexByte_any (s : ByteArray) (w : World) :
    Calls Tryd.prog 57 #[.string s, .int .u8 10] w fun e w' => e = .returned (.int .i64 (Lib.indexByte s.data.toList 10)) ∧ w = w' := by
  go_enter Tryd.func57, Tryd.ntmps57
  go_wp2
  rw [run_callFunc_extern Tryd.func81 (by kernel_rfl) (by kernel_rfl) (by kernel_rfl) (e := Extern.BytealgIndexByte.indexByte) (by kernel_rfl), Lib.run_indexByteString]
  simp only [Result.andThen]
  rw [Oper.upon_value]
  go_wp2
  go_ret
  exact ⟨rfl, rfl⟩
theorem ext_to_end (s : ByteArray) (k : Nat) : (s.extract k s.size).data.toList = s.data.toList.drop k := by
  rw [ba_extract, List.take_of_length_le (by simp)]
set_option maxRecDepth 100000 in
set_option maxHeartbeats 1000000 in
theorem align_any (s : ByteArray) (at' : Int) (w : World) (hs : s.size ≤ 4000) :
    Calls Tryd.prog 39 #[.string s, .int .i64 at'] w fun e w' => e = .returned (.int .i64 (al s.data.toList at'.toNat : Nat)) ∧ w = w' := by
  have C := Lib.hid (fun k W => indexByte_any (s.extract k s.size) W)
  simp only [ext_to_end] at C
  have C0 := Lib.hid (fun W => indexByte_any s W)
  have hl : s.data.toList.length = s.size := by simp
  obtain ⟨k, hk⟩ : ∃ k : Nat, (k : Int) = max at' 1 := ⟨(max at' 1).toNat, by omega⟩
  have e : al s.data.toList at'.toNat = al s.data.toList k := by
    rcases Nat.eq_zero_or_pos at'.toNat with h | h
    · rw [h, al_zero, show k = 1 by omega]
    · rw [show at'.toNat = k by omega]
  rw [e]
  have hk1 : 1 ≤ k := by omega
  clear e
  by_cases hlt : k < s.size
  · have C2 := C.out (k - 1)
    rcases al_index hk1 (show k ≤ s.data.toList.length by rw [hl]; omega) with ⟨h1, h2⟩ | ⟨i, h1, h2, h3⟩
    · rw [h1] at C2
      rw [h2, hl]
      have C3 := Lib.hid C2
      by_cases ha : at' < 1
      · obtain rfl : k = 1 := by omega
        rw [show (1 : Nat) - 1 = 0 from rfl, List.drop_zero] at h1
        rw [h1] at C0
        clear C C2 h1 h2 hk C3
        go_enter Tryd.func39, Tryd.ntmps39
        go_wp2_with fail
        refine (C0.out _).mono ?_
        rintro e w' ⟨rfl, rfl⟩
        go_wp2_with fail
        go_ret
        exact ⟨rfl, rfl⟩
      · obtain rfl : at' = (k : Int) := by omega
        clear C C2 h1 h2 hk C0
        go_enter Tryd.func39, Tryd.ntmps39
        go_wp2_with fail
        refine (C3.out _).mono ?_
        rintro e w' ⟨rfl, rfl⟩
        go_wp2_with fail
        go_ret
        exact ⟨rfl, rfl⟩
    · rw [h1] at C2
      rw [h2]
      have C3 := Lib.hid C2
      rw [hl] at h3
      by_cases ha : at' < 1
      · obtain rfl : k = 1 := by omega
        rw [show (1 : Nat) - 1 = 0 from rfl, List.drop_zero] at h1
        rw [h1] at C0
        clear C C2 h1 h2 hk C3
        go_enter Tryd.func39, Tryd.ntmps39
        go_wp2_with fail
        refine (C0.out _).mono ?_
        rintro e w' ⟨rfl, rfl⟩
        go_wp2_with fail
        go_ret
        exact ⟨ret_int (by omega), rfl⟩
      · obtain rfl : at' = (k : Int) := by omega
        clear C C2 h1 h2 hk C0
        go_enter Tryd.func39, Tryd.ntmps39
        go_wp2_with fail
        refine (C3.out _).mono ?_
        rintro e w' ⟨rfl, rfl⟩
        go_wp2_with fail
        go_ret
        exact ⟨ret_int (by omega), rfl⟩
  · rw [al_gt (show s.data.toList.length ≤ k by rw [hl]; omega), hl]
    clear C C0
    by_cases ha : at' < 1
    · have hz : s.size ≤ 1 := by omega
      go_enter Tryd.func39, Tryd.ntmps39
      go_wp2_with fail
      go_ret
      exact ⟨rfl, rfl⟩
    · have hz : (s.size : Int) ≤ at' := by omega
      have hz2 : (1 : Int) ≤ at' := by omega
      go_enter Tryd.func39, Tryd.ntmps39
      go_wp2_with fail
      go_ret
      exact ⟨rfl, rfl⟩
theorem re_next {l : List UInt8} {k : Nat} (hk : k < (re l).length) : P (re l) (k + 1) = al l (P (re l) k + 1) := by
  have hc := re_cutting l
  have h1 := hc.mono hk
  have h2 := hc.le_N (i := k + 1) (by omega)
  have h3 : isE l (P (re l) (k + 1)) = true := mem_re.1 (mem_P hk)
  have h4 : al l (P (re l) k + 1) ≤ P (re l) (k + 1) := al_min (by omega) h3
  have h5 := al_isE (l := l) (P (re l) k + 1) (by omega)
  have h6 := al_ge (l := l) (k := P (re l) k + 1) (by omega)
  obtain ⟨j, hj, hjx⟩ := List.getElem_of_mem (mem_re.2 h5)
  have e : P (re l) (j + 1) = al l (P (re l) k + 1) := by rw [P_succ]; simp [hj, hjx]
  rcases Nat.lt_or_ge k (j + 1) with g | g
  · have := hc.P_le (i := k + 1) (j := j + 1) (by omega) (by omega); omega
  · have := hc.P_le (i := j + 1) (j := k) (by omega) (by omega); omega
/-- a text's records -/
abbrev reS (s : ByteArray) : List Nat := re s.data.toList
def recs (s : ByteArray) : List ByteArray := txts s (reS s)
theorem reS_cutting (s : ByteArray) : Cutting s.size (reS s) := by have := re_cutting s.data.toList; rwa [← ba_size] at this
theorem reS_len (s : ByteArray) : (reS s).length ≤ s.size := by
  have h1 : ∀ k, k ≤ (reS s).length → k ≤ P (reS s) k := by
    intro k
    induction k with
    | zero => intro _; exact Nat.zero_le _
    | succ k ih => intro hk; have := ih (by omega); have := (reS_cutting s).mono (i := k) (by omega); omega
  have := h1 _ (Nat.le_refl _)
  rw [(reS_cutting s).P_end] at this
  exact this
theorem records_any (s : ByteArray) (w : World) :
    Calls Tryd.prog 56 #[.string s] w fun e w' => e = .returned (.func (.func 70) #[] #[.pointer (some ⟨w.heap.size, 0, none⟩)]) ∧ w.alloc (.cells #[.string s] 9) = w' := by
  go_enter Tryd.func56, Tryd.ntmps56
  go_wp2
  go_ret
  exact ⟨rfl, rfl⟩
theorem ba_ne_nil {s : ByteArray} (h : 0 < s.size) : (s == ⟨#[]⟩) = false ∧ (s.toList == []) = false := by
  have hne : ¬ s = ⟨#[]⟩ := by intro e; rw [e] at h; exact absurd h (by decide)
  have hn1 : (s == ⟨#[]⟩) = false := Bool.eq_false_iff.2 fun e => hne ((MapKept.bytes_beq _ _).1 e)
  refine ⟨hn1, ?_⟩
  have e := hn1
  rw [beq_toListBytes, show (⟨#[]⟩ : ByteArray).toList = [] by rw [ByteArray.toList_eq]] at e
  exact e
set_option maxRecDepth 100000 in
set_option maxHeartbeats 1000000 in
theorem records_seq (n : Nat) (s : ByteArray) (bs : Nat) (W0 : World) (hs : s.size ≤ 4000) (hb : Boxed W0 bs 9 (.string s)) :
    SeqOwn Fence.wide n Tryd.prog 70 #[.pointer (some ⟨bs, 0, none⟩)] (fun x : ByteArray => #[.string x]) (recs s) True (fun Ow => ∀ i, Ow i ↔ i = bs) (fun _ => True) W0 := by
  intro l J Jx h0 hJ hcap _ hY
  have C := Lib.hid (fun t W => indexByte_any t W)
  have H0 := h0 (fun i => i = bs) (fun i => Iff.rfl)
  have HJ := Lib.hid (fun k A B => hJ (fun i => i = bs) k A B (fun i => Iff.rfl))
  have HY := Lib.hid (fun k W (h : k < (recs s).length) (hz : bs < W.heap.size) => hY (fun i => i = bs) k W h (fun i => Iff.rfl) (fun i hi => hi ▸ hz))
  clear h0 hJ hcap hY
  have hcu := reS_cutting s
  have hlen : (recs s).length = (reS s).length := txts_len _ _
  have HRN := Lib.hid (fun k (hk : k < (reS s).length) => re_next (l := s.data.toList) hk)
  have hge : ∀ k (hk : k < (recs s).length), (recs s)[k] = s.extract (P (reS s) k) (P (reS s) (k + 1)) := fun k hk => by simp [recs, txts]
  have HGE := Lib.hid hge
  have HCU := Lib.hid hcu
  have HLEN := Lib.hid hlen
  have HB := Lib.hid hb
  clear hcu hlen hb hge
  have hfn : ∀ f, Fence.wide.fn f := fun _ => trivial
  have hdp : Fence.wide.depth.isSome = false := rfl
  refine callsIn_of_wp Tryd.func70 rfl trivial ?_ rfl
  simp only [Tryd.ntmps70, List.size_toArray, List.length_cons, List.length_nil, Nat.reduceAdd, Nat.reduceSub, Array.replicate_succ, Array.replicate_zero, List.push_toArray, List.append_toArray, List.nil_append, List.cons_append]
  gi_wp2_with fail
  gi_loopw [3] (fun _ wr => ∃ k : Nat, k ≤ (reS s).length ∧ Boxed wr bs 9 (.string (s.extract (P (reS s) k) s.size)) ∧ J (fun i => i = bs) k wr) (fun _ wr => match wr.cell? ⟨bs, 0, none⟩ with | some (.string t) => t.size | _ => 0)
  case atStart => exact ⟨0, Nat.zero_le _, by rw [P_zero, show s.extract 0 s.size = s by simp]; exact HB.out, H0⟩
  case round =>
    obtain ⟨k, hk, hbx, hj⟩ := hrel
    have hc := hbx.cell
    have hf := hbx.frozen
    by_cases hlt : k < (reS s).length
    · have y1 := HCU.out.mono hlt
      have y2 := HCU.out.le_N (i := k + 1) (by omega)
      have y3 := HRN.out k hlt
      have hA : ∃ a a', Hid (P (reS s) k = a) ∧ Hid (P (reS s) (k + 1) = a') := ⟨_, _, Lib.hid rfl, Lib.hid rfl⟩
      obtain ⟨a, a', HA, HA'⟩ := hA
      have hYk := HY.out k wr (by rw [HLEN.out]; exact hlt) hbx.lt hj
      rw [HGE.out k (by rw [HLEN.out]; exact hlt), HA.out, HA'.out] at hYk
      rw [HA.out] at y1 y3 hbx hc
      rw [HA'.out] at y1 y2 y3
      have ht : (s.extract a s.size).data.toList = s.data.toList.drop a := ext_to_end s a
      have hsz : (s.extract a s.size).size = s.size - a := by simp
      have hy : ∀ m, a + m = a' → (s.extract a s.size).extract 0 m = s.extract a a' := fun m hm => ba_ext (by
        rw [ba_extract, ht, ba_extract, List.drop_zero, ← hm, List.drop_take, Nat.add_sub_cancel_left])
      have hz : ∀ m, a + m = a' → (s.extract a s.size).extract m (s.extract a s.size).size = s.extract a' s.size := fun m hm => ba_ext (by
        rw [ext_to_end, ht, ext_to_end, List.drop_drop, hm])
      have C2 := C.out (s.extract a s.size)
      rw [ht] at C2
      obtain ⟨t, HTE⟩ : ∃ t, Hid (s.extract a s.size = t) := ⟨_, Lib.hid rfl⟩
      rw [HTE.out] at hsz hbx hc C2
      simp only [HTE.out] at hy hz
      have hidx := al_index (l := s.data.toList) (k := a + 1) (by omega) (by rw [← ba_size]; omega)
      rw [← y3, show a + 1 - 1 = a by omega, ← ba_size] at hidx
      have hn := ba_ne_nil (s := t) (by omega)
      obtain ⟨hn1, hn2⟩ := hn
      obtain ⟨fn, tmps, assign, body, hyv, hR⟩ := hYk
      rcases hidx with ⟨h1, rfl⟩ | ⟨i, h1, h2, h3⟩
      · rw [h1] at C2
        have e1 := hy t.size (by omega)
        have e2 := hz t.size (by omega)
        rw [show t.extract 0 t.size = t by simp] at e1
        rw [← e1] at hyv
        have C3 := Lib.hid C2
        have HE2 := Lib.hid (show ByteArray.empty = s.extract s.size s.size by rw [← e2]; exact ba_ext (by rw [ext_to_end]; simp))
        have HBX := Lib.hid hbx
        have hs2 : t.size + a = s.size := by omega
        have hs3 : 0 < t.size := by omega
        clear hy hz C2 h1 e1 e2 ht hbx hj y3 hsz
        gi_wp2_with fail
        refine (callsIn_wide.2 (C3.out _)).mono ?_
        rintro e w2 ⟨rfl, rfl⟩
        gi_wp2_with fail
        refine hR.mono ?_
        rintro e W3 (⟨rfl, hJ3, hk3⟩ | ⟨rfl, hJx3⟩)
        · have hbx3 := box_stays HBX.out hk3 rfl
          have hc3 := hbx3.cell
          have hf3 := hbx3.frozen
          have HB3 := Lib.hid hbx3
          have HJ3 := Lib.hid hJ3
          clear hbx3 hk3 hJ3
          gi_wp2_with fail
          refine ⟨⟨k + 1, by omega, ?_, ?_⟩, ?_⟩
          · rw [HA'.out, ← HE2.out]
            exact HB3.out.set _
          · exact HJ.out _ _ _ HJ3.out ((Kept.refl _ _).setCell (p := ⟨bs, 0, none⟩) (by simp) _)
          · rw [(HB3.out.set _).cell, hc]
            show (ByteArray.empty).size < t.size
            exact hs3
        · gi_wp2_with fail
          refine bodyPost_ret (results_none rfl _ _ _) rfl ?_
          exact ⟨⟨_, rfl⟩, .inr hJx3⟩
      · rw [h1] at C2
        have e1 := hy (i + 1) (by omega)
        have e2 := hz (i + 1) (by omega)
        have C3 := Lib.hid C2
        have HE2 := Lib.hid e2
        have HBX := Lib.hid hbx
        have hs2 : i + 1 ≤ t.size := by omega
        have hs3 : 0 < t.size := by omega
        rw [← e1] at hyv
        clear hy hz C2 h1 e1 e2 ht hbx hj y3 hsz
        gi_wp2_with fail
        refine (callsIn_wide.2 (C3.out _)).mono ?_
        rintro e w2 ⟨rfl, rfl⟩
        gi_wp2_with fail
        refine hR.mono ?_
        rintro e W3 (⟨rfl, hJ3, hk3⟩ | ⟨rfl, hJx3⟩)
        · have hbx3 := box_stays HBX.out hk3 rfl
          have hc3 := hbx3.cell
          have hf3 := hbx3.frozen
          have HB3 := Lib.hid hbx3
          have HJ3 := Lib.hid hJ3
          clear hbx3 hk3 hJ3
          gi_wp2_with fail
          refine ⟨⟨k + 1, by omega, ?_, ?_⟩, ?_⟩
          · rw [HA'.out, ← HE2.out]
            exact HB3.out.set _
          · exact HJ.out _ _ _ HJ3.out ((Kept.refl _ _).setCell (p := ⟨bs, 0, none⟩) (by simp) _)
          · rw [(HB3.out.set _).cell, hc]
            show (t.extract (i + 1) t.size).size < t.size
            simp; omega
        · gi_wp2_with fail
          refine bodyPost_ret (results_none rfl _ _ _) rfl ?_
          exact ⟨⟨_, rfl⟩, .inr hJx3⟩
    · obtain rfl : k = (reS s).length := by omega
      have HJ' := Lib.hid hj
      rw [HCU.out.P_end] at hc
      have e0 : s.extract s.size s.size = ⟨#[]⟩ := ba_ext (by rw [ext_to_end]; simp)
      rw [e0] at hc
      clear hj e0
      gi_wp2_with fail
      refine bodyPost_end (results_none rfl _ _ _) rfl ?_
      exact ⟨⟨_, rfl⟩, .inl ⟨_, fun i => Iff.rfl, by rw [HLEN.out]; exact HJ'.out⟩⟩
end Go.Proofs.YtpkbhihkhnkhnaaDoor
