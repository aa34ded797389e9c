/- LinesAlign: the walk. -/
import Derived.Test.YtpkbhihkhnkhnaaDoorAlivt
import Derived.Deep.DeepCutAuto
namespace Go.Proofs.YtpkbhihkhnkhnaaDoor
open Go.RowKit
/-- has one of the first k record ends been at x? -/
def seen (cs : List Nat) (N x k : Nat) : Bool := decide (N = 0) || decide (x ∈ cs.take k)
theorem seen_succ (cs : List Nat) (N x k : Nat) (h : k < cs.length) : seen cs N x (k + 1) = (seen cs N x k || decide (P cs (k + 1) = x)) := by
  unfold seen
  rw [take_snoc cs k 0 h, P_succ, Bool.or_assoc]
  congr 1
  simp only [List.mem_append, List.mem_singleton]
  rw [Bool.decide_or]
  congr 1
  exact decide_eq_decide.2 eq_comm
set_option maxRecDepth 100000 in
set_option maxHeartbeats 4000000 in
theorem lna_small (s : ByteArray) (a b : Int) (n0 : Nat) (w : World) (hs : s.size ≤ 3000) (hN : Needs n0 w) :
    Calls Tryd.prog 10 #[.string s, .int .i64 a, .int .i64 b] w fun e w' => e = .returned (.bool true) ∧ Below w.heap.size w w' := by
  have CA := Lib.hid (fun W (hb : Below w.heap.size w W) => alive10_any n0 W (hN.below (hb.mono hN.size)))
  have C1 := Lib.hid (fun W => align_any s a W (by omega))
  have C2 := Lib.hid (fun W => align_any s b W (by omega))
  have C3 := Lib.hid (fun W => align_any s (al s.data.toList a.toNat : Nat) W (by omega))
  rw [Int.toNat_natCast, al_idem] at C3
  have C4 := Lib.hid (fun W => records_all s W (by omega))
  have hx := al_le s.data.toList a.toNat
  rw [← ba_size] at hx
  have h1 : (a ≤ s.size ∧ 0 < s.size ∧ a ≤ (al s.data.toList a.toNat : Nat)) ∨ (s.size : Int) < a ∨ (a ≤ s.size ∧ s.size < 1) := by
    by_cases g1 : a ≤ s.size
    · rcases Nat.eq_zero_or_pos s.size with g2 | g2
      · exact .inr (.inr ⟨g1, by omega⟩)
      · have := al_ge (l := s.data.toList) (k := a.toNat) (by rw [← ba_size]; omega)
        exact .inl ⟨g1, g2, by omega⟩
    · exact .inr (.inl (by omega))
  have h2 : (a ≤ b ∧ al s.data.toList a.toNat ≤ al s.data.toList b.toNat) ∨ b < a := by
    by_cases g1 : a ≤ b
    · exact .inl ⟨g1, al_mono (by omega)⟩
    · exact .inr (by omega)
  have HCU := Lib.hid (reS_cutting s)
  have hlen := reS_len s
  have hl2 := recs_len s
  have HGE := Lib.hid (fun k (hk : k < (reS s).length) => show (recs s)[k]? = some (s.extract (P (reS s) k) (P (reS s) (k + 1))) from txts_get s (reS s) k hk)
  have HP := Lib.hid (fun k (hk : k < (reS s).length) => show a.toNat ≤ P (reS s) (k + 1) → al s.data.toList a.toNat ≤ P (reS s) (k + 1) from fun h => al_min h (mem_re.1 (mem_P hk)))
  have HE := Lib.hid (show seen (reS s) s.size (al s.data.toList a.toNat) (reS s).length = true by
    unfold seen
    rcases Nat.eq_zero_or_pos s.size with g | g
    · simp [g]
    · have : al s.data.toList a.toNat ∈ reS s := mem_re.2 (al_isE _ (by rw [← ba_size]; exact g))
      rw [List.take_length]; simp [this])
  clear hN
  generalize al s.data.toList a.toNat = x at *
  generalize al s.data.toList b.toNat = y at *
  generalize recs s = rl at *
  generalize reS s = cs at *
  have hb1 : decide ((x : Int) < 0) = false := by rw [decide_eq_false_iff_not]; omega
  have hb2 : decide (s.size < x) = false := by rw [decide_eq_false_iff_not]; omega
  go_enter Tryd.func10, Tryd.ntmps10
  go_wp2_with fail
  refine (C1.out _).mono ?_
  rintro e w1 ⟨rfl, rfl⟩
  go_wp2_with fail
  refine (C2.out _).mono ?_
  rintro e w1 ⟨rfl, rfl⟩
  go_upto_region 4 with fail
  go_cut [63] (fun v wx => v = .bool false ∧ w = wx)
  case first =>
    rcases h1 with ⟨g1, g2, g3⟩ | g1 | ⟨g1, g2⟩
    all_goals
      rcases h2 with ⟨g4, g5⟩ | g4
      all_goals
        go_wp2_with fail
        refine (C3.out _).mono ?_
        rintro e w1 ⟨rfl, rfl⟩
        go_wp2_with fail
        go_meet
        refine ⟨?_, rfl⟩
        first
          | rfl
          | (congr 1; rw [decide_eq_false_iff_not]; omega)
  case rest =>
    obtain ⟨rfl, rfl⟩ := hcut
    clear h1 h2 C1 C2 C3 hb1 hb2
    go_wp2_with fail
    refine (C4.out _).mono ?_
    rintro e w3 ⟨v3, rfl, hv3, hb3⟩
    have B3 := Lib.hid hb3
    obtain ⟨-, p3, c3, rfl, g3⟩ := row_of_owns hv3
    have G3 := Lib.hid g3
    have HL2 := Lib.hid hl2
    rw [HL2.out]
    clear hb3 hv3 g3 C4 hl2
    have hsz0 : ∃ z : Bool, Hid (z = decide (s.size = 0)) ∧ ((s.size : Int) == 0) = z := ⟨_, Lib.hid rfl, by rw [Bool.eq_iff_iff, beq_iff_eq, decide_eq_true_iff]; omega⟩
    obtain ⟨z, HZ, hz⟩ := hsz0
    go_wp2_with fail
    go_loopw [10, 11, 12] (fun vn vs vi wr => ∃ k : Nat, k ≤ cs.length ∧ vi = .int .i64 k ∧ vn = .int .i64 (P cs k : Nat) ∧ vs = .bool (seen cs s.size x k) ∧ w3 = wr) (fun _ _ vi _ => cs.length - (intOf vi).toNat)
    case atStart => exact ⟨0, Nat.zero_le _, rfl, rfl, by rw [HZ.out]; simp [seen], rfl⟩
    case round =>
      obtain ⟨k, hk, rfl, rfl, rfl, rfl⟩ := hrel
      by_cases hlt : k < cs.length
      · obtain ⟨b1, o1, rfl, k1, e1⟩ := G3.out k (.string (s.extract (P cs k) (P cs (k + 1)))) (by rw [List.getElem?_map, HGE.out k hlt]; rfl)
        have y1 := HCU.out.mono hlt
        have y2 := HCU.out.le_N (i := k + 1) (by omega)
        have y3 := HCU.out.txt_size hlt
        have HX := Lib.hid (seen_succ cs s.size x k hlt)
        have hp := HP.out k hlt
        have hA : ∃ a1 a', Hid (P cs k = a1) ∧ Hid (P cs (k + 1) = a') := ⟨_, _, Lib.hid rfl, Lib.hid rfl⟩
        obtain ⟨a1, a', HA, HA'⟩ := hA
        rw [HA.out] at y1 y3 e1 ⊢
        rw [HA'.out] at y1 y2 y3 e1 HX hp
        generalize s.extract a1 a' = tx at *
        have htx : tx.size + a1 = a' := by omega
        have htI : (a1 : Int) + tx.size = a' := by omega
        have hno : (a' < x ∧ (a' : Int) < a) ∨ x ≤ a' := by
          by_cases g : a.toNat ≤ a'
          · exact .inr (hp g)
          · by_cases g' : a' < x
            · exact .inl ⟨g', by omega⟩
            · exact .inr (by omega)
        generalize seen cs s.size x k = sk at *
        have hfin : ∀ vz : Bool, vz = (sk || decide (a' = x)) → (∃ k_1, k_1 ≤ cs.length ∧ Value.int .i64 ((k : Int) + 1) = .int .i64 (k_1 : Nat) ∧ Value.int .i64 (a' : Nat) = .int .i64 (P cs k_1 : Nat) ∧ Value.bool vz = .bool (seen cs s.size x k_1) ∧ True) := fun vz hvz =>
          ⟨k + 1, by omega, by go_num, by rw [HA'.out], by rw [HX.out, hvz], trivial⟩
        have HF := Lib.hid hfin
        clear y3 hp hfin
        cases sk
        · by_cases gx : a' = x
          · have gxb : ((a' : Int) == (x : Int)) = true := by rw [beq_iff_eq]; omega
            have gl : x ≤ a' := by omega
            have HG := Lib.hid gx
            clear gx hno
            go_wp2_with fail
            exact ⟨HF.out true (by simp [HG.out]), by simp only [intOf]; omega⟩
          · have gxb : ((a' : Int) == (x : Int)) = false := by rw [beq_eq_false_iff_ne]; omega
            have HG := Lib.hid gx
            clear gx
            rcases hno with ⟨q1, q2⟩ | q1
            all_goals
              go_wp2_with fail
              exact ⟨HF.out false (by simp [HG.out]), by simp only [intOf]; omega⟩
        · rcases hno with ⟨q1, q2⟩ | q1
          all_goals
            go_wp2_with fail
            exact ⟨HF.out true (by simp), by simp only [intOf]; omega⟩
      · obtain rfl : k = cs.length := by omega
        have hE := HCU.out.P_end
        rw [hE, HE.out]
        have B4 := B3.out
        clear hE
        go_wp2_with fail
        refine (CA.out _ B4).mono ?_
        rintro e w6 ⟨rfl, hb6⟩
        have B6 := Lib.hid (B4.trans (hb6.mono B4.size))
        clear hb6 B4
        go_wp2_with fail
        go_ret
        exact ⟨rfl, B6.out⟩
set_option maxRecDepth 100000 in
set_option maxHeartbeats 1000000 in
theorem linesAlign_any (s : ByteArray) (a b : Int) (n0 : Nat) (w : World) (r0 : s.size ≤ 140737488351232) (hN : Needs n0 w) :
    Calls Tryd.prog 10 #[.string s, .int .i64 a, .int .i64 b] w fun e w' => e = .returned (.bool true) ∧ Below w.heap.size w w' := by
  by_cases hs : s.size ≤ 3000
  · exact lna_small s a b n0 w hs hN
  · have CA := Lib.hid (fun W (hb : Below w.heap.size w W) => alive10_any n0 W (hN.below (hb.mono hN.size)))
    clear hN
    have B0 : Below w.heap.size w w := Below.refl _ _
    go_enter Tryd.func10, Tryd.ntmps10
    go_wp2_with fail
    refine (CA.out _ B0).mono ?_
    rintro e w2 ⟨rfl, hb2⟩
    go_wp2_with fail
    go_ret
    exact ⟨rfl, hb2⟩
end Go.Proofs.YtpkbhihkhnkhnaaDoor
