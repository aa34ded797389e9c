/- chunk.Check: which cutters may be. -/
import Derived.Test.YtpkbhihkhnkhnaaDoorNew
import Derived.BigQuiet
import Derived.Deep.QuietTactic
namespace Go.Proofs.YtpkbhihkhnkhnaaDoor
open Go.RowKit
/-- the table of what a cutter must be, below block n -/
def Needs (n : Nat) (W : World) : Prop := ∃ b off cap, 0 < n ∧ b < n ∧ n ≤ W.heap.size ∧ W.cell? ⟨0, 0, none⟩ = some (.slice (some ⟨b, off, none⟩) 4 cap) ∧
  W.cell? ⟨b, off, none⟩ = some (.func (.func 107) #[] #[]) ∧ W.cell? ⟨b, off + 1, none⟩ = some (.func (.func 108) #[] #[]) ∧ W.cell? ⟨b, off + 2, none⟩ = some (.func (.func 109) #[] #[]) ∧ W.cell? ⟨b, off + 3, none⟩ = some (.func (.func 110) #[] #[])
theorem Needs.below {n : Nat} {W W' : World} (h : Needs n W) (hb : Below n W W') : Needs n W' := by
  obtain ⟨b, off, cap, h0, h1, h2, h3, h4, h5, h6, h7⟩ := h
  refine ⟨b, off, cap, h0, h1, Nat.le_trans h2 hb.size, ?_, ?_, ?_, ?_, ?_⟩
  · rw [hb.cell (p := ⟨0, 0, none⟩) h0]; exact h3
  · rw [hb.cell (p := ⟨b, off, none⟩) h1]; exact h4
  · rw [hb.cell (p := ⟨b, off + 1, none⟩) h1]; exact h5
  · rw [hb.cell (p := ⟨b, off + 2, none⟩) h1]; exact h6
  · rw [hb.cell (p := ⟨b, off + 3, none⟩) h1]; exact h7
theorem Needs.size {n : Nat} {W : World} (h : Needs n W) : n ≤ W.heap.size := by
  obtain ⟨b, off, cap, h0, h1, h2, _⟩ := h; exact h2
/-- a cutter's five numbers -/
structure Cut5 where
  p : Nat
  n : Int
  mi : Int
  ma : Int
  bi : Int
def Cut5.v (c : Cut5) : Value := .agg #[.int .u64 c.p, .int .i64 c.n, .int .i64 c.mi, .int .i64 c.ma, .int .i64 c.bi]
def Cut5.cs (c : Cut5) : Array Value := #[.int .u64 c.p, .int .i64 c.n, .int .i64 c.mi, .int .i64 c.ma, .int .i64 c.bi]
def CMay (c : Cut5) : Prop := RMay c.p c.n ∧ (c.n ≤ c.mi ∧ c.mi ≤ c.ma) ∧ (1 ≤ c.ma ∧ c.ma ≤ 4096) ∧ (0 ≤ c.bi ∧ c.bi ≤ 16)
theorem needs1_yes (p n mi ma bi : Int) (w : World) (h0 : 0 ≤ p) (hp : p < 18446744073709551616) (h : RMay p.toNat n) :
    Calls Tryd.prog 107 #[.agg #[.int .u64 p, .int .i64 n, .int .i64 mi, .int .i64 ma, .int .i64 bi]] w fun e w' => e = .returned (.bool true) ∧ Below w.heap.size w w' := by
  have C := Lib.hid (fun W => check_yes p n W h0 hp h)
  clear h h0 hp
  go_enter Tryd.func107, Tryd.ntmps107
  go_wp2_with fail
  refine (C.out _).mono ?_
  rintro e w' ⟨rfl, rfl⟩
  go_wp2_with fail
  go_ret
  exact ⟨rfl, (Below.refl _ _).alloc (Nat.le_refl _) _⟩
theorem needs1_no (p n mi ma bi : Int) (w : World) (h0 : 0 ≤ p) (hp : p < 18446744073709551616) (h : ¬ RMay p.toNat n) :
    Calls Tryd.prog 107 #[.agg #[.int .u64 p, .int .i64 n, .int .i64 mi, .int .i64 ma, .int .i64 bi]] w fun e w' => e = .returned (.bool false) ∧ Below w.heap.size w w' := by
  have C := Lib.hid (fun W => check_no p n W h0 hp h)
  clear h h0 hp
  go_enter Tryd.func107, Tryd.ntmps107
  go_wp2_with fail
  refine (C.out _).mono ?_
  rintro e w' ⟨rfl, rfl⟩
  go_wp2_with fail
  go_ret
  exact ⟨rfl, (Below.refl _ _).alloc (Nat.le_refl _) _⟩
theorem needs2_yes (p n mi ma bi : Int) (w : World) (h1 : n ≤ mi) (h2 : mi ≤ ma) :
    Calls Tryd.prog 108 #[.agg #[.int .u64 p, .int .i64 n, .int .i64 mi, .int .i64 ma, .int .i64 bi]] w fun e w' => e = .returned (.bool true) ∧ Below w.heap.size w w' := by
    go_enter Tryd.func108, Tryd.ntmps108
    go_wp2_with fail
    go_ret
    exact ⟨rfl, (Below.refl _ _).alloc (Nat.le_refl _) _⟩
theorem needs2_no (p n mi ma bi : Int) (w : World) (h : ¬ (n ≤ mi ∧ mi ≤ ma)) :
    Calls Tryd.prog 108 #[.agg #[.int .u64 p, .int .i64 n, .int .i64 mi, .int .i64 ma, .int .i64 bi]] w fun e w' => e = .returned (.bool false) ∧ Below w.heap.size w w' := by
  by_cases h1 : n ≤ mi
  · have h2 : decide (mi ≤ ma) = false := by rw [decide_eq_false_iff_not]; exact fun e => h ⟨h1, e⟩
    clear h
    go_enter Tryd.func108, Tryd.ntmps108
    go_wp2_with fail
    go_ret
    exact ⟨rfl, (Below.refl _ _).alloc (Nat.le_refl _) _⟩
  · have h3 : decide (n ≤ mi) = false := by rw [decide_eq_false_iff_not]; exact h1
    clear h
    go_enter Tryd.func108, Tryd.ntmps108
    go_wp2_with fail
    go_ret
    exact ⟨rfl, (Below.refl _ _).alloc (Nat.le_refl _) _⟩
theorem needs3_yes (p n mi ma bi : Int) (w : World) (h1 : 1 ≤ ma) (h2 : ma ≤ 4096) :
    Calls Tryd.prog 109 #[.agg #[.int .u64 p, .int .i64 n, .int .i64 mi, .int .i64 ma, .int .i64 bi]] w fun e w' => e = .returned (.bool true) ∧ Below w.heap.size w w' := by
    go_enter Tryd.func109, Tryd.ntmps109
    go_wp2_with fail
    go_ret
    exact ⟨rfl, (Below.refl _ _).alloc (Nat.le_refl _) _⟩
theorem needs3_no (p n mi ma bi : Int) (w : World) (h : ¬ (1 ≤ ma ∧ ma ≤ 4096)) :
    Calls Tryd.prog 109 #[.agg #[.int .u64 p, .int .i64 n, .int .i64 mi, .int .i64 ma, .int .i64 bi]] w fun e w' => e = .returned (.bool false) ∧ Below w.heap.size w w' := by
  by_cases h1 : 1 ≤ ma
  · have h2 : decide (ma ≤ 4096) = false := by rw [decide_eq_false_iff_not]; exact fun e => h ⟨h1, e⟩
    clear h
    go_enter Tryd.func109, Tryd.ntmps109
    go_wp2_with fail
    go_ret
    exact ⟨rfl, (Below.refl _ _).alloc (Nat.le_refl _) _⟩
  · have h3 : decide (1 ≤ ma) = false := by rw [decide_eq_false_iff_not]; exact h1
    clear h
    go_enter Tryd.func109, Tryd.ntmps109
    go_wp2_with fail
    go_ret
    exact ⟨rfl, (Below.refl _ _).alloc (Nat.le_refl _) _⟩
theorem needs4_yes (p n mi ma bi : Int) (w : World) (h1 : 0 ≤ bi) (h2 : bi ≤ 16) :
    Calls Tryd.prog 110 #[.agg #[.int .u64 p, .int .i64 n, .int .i64 mi, .int .i64 ma, .int .i64 bi]] w fun e w' => e = .returned (.bool true) ∧ Below w.heap.size w w' := by
    go_enter Tryd.func110, Tryd.ntmps110
    go_wp2_with fail
    go_ret
    exact ⟨rfl, (Below.refl _ _).alloc (Nat.le_refl _) _⟩
theorem needs4_no (p n mi ma bi : Int) (w : World) (h : ¬ (0 ≤ bi ∧ bi ≤ 16)) :
    Calls Tryd.prog 110 #[.agg #[.int .u64 p, .int .i64 n, .int .i64 mi, .int .i64 ma, .int .i64 bi]] w fun e w' => e = .returned (.bool false) ∧ Below w.heap.size w w' := by
  by_cases h1 : 0 ≤ bi
  · have h2 : decide (bi ≤ 16) = false := by rw [decide_eq_false_iff_not]; exact fun e => h ⟨h1, e⟩
    clear h
    go_enter Tryd.func110, Tryd.ntmps110
    go_wp2_with fail
    go_ret
    exact ⟨rfl, (Below.refl _ _).alloc (Nat.le_refl _) _⟩
  · have h3 : decide (0 ≤ bi) = false := by rw [decide_eq_false_iff_not]; exact h1
    clear h
    go_enter Tryd.func110, Tryd.ntmps110
    go_wp2_with fail
    go_ret
    exact ⟨rfl, (Below.refl _ _).alloc (Nat.le_refl _) _⟩
open Classical in
/-- what Check tells -/
noncomputable def ckE (c : Cut5) : Int := if CMay c then 0 else 2
theorem ckE_yes {c : Cut5} (h : CMay c) : ckE c = 0 := by unfold ckE; rw [if_pos h]
theorem ckE_no {c : Cut5} (h : ¬ CMay c) : ckE c = 2 := by unfold ckE; rw [if_neg h]
/-- the first k of the needs are met -/
def Met (c : Cut5) : Nat → Prop
  | 0 => True
  | 1 => RMay c.p c.n
  | 2 => RMay c.p c.n ∧ (c.n ≤ c.mi ∧ c.mi ≤ c.ma)
  | 3 => RMay c.p c.n ∧ (c.n ≤ c.mi ∧ c.mi ≤ c.ma) ∧ (1 ≤ c.ma ∧ c.ma ≤ 4096)
  | _ => CMay c
set_option maxHeartbeats 1000000 in
theorem ck_any (c : Cut5) (n0 : Nat) (w : World) (hp : c.p < 18446744073709551616) (hN : Needs n0 w) :
    Calls Tryd.prog 25 #[.agg #[.int .u64 c.p, .int .i64 c.n, .int .i64 c.mi, .int .i64 c.ma, .int .i64 c.bi]] w fun e w' => e = .returned (.int .i64 (ckE c)) ∧ Below w.heap.size w w' := by
  have hz := hN.size
  obtain ⟨b, off, cap, h0, h1, h2, h3, h4, h5, h6, h7⟩ := hN
  have H4 := Lib.hid h4
  have H5 := Lib.hid h5
  have H6 := Lib.hid h6
  have H7 := Lib.hid h7
  have h3' : ∀ o, (w.alloc o).cell? ⟨0, 0, none⟩ = some (.slice (some ⟨b, off, none⟩) 4 cap) := fun o => by
    rw [((Below.refl w.heap.size w).alloc (Nat.le_refl _) o).cell (p := ⟨0, 0, none⟩) (by show 0 < _; omega)]; exact h3
  clear h4 h5 h6 h7
  obtain ⟨p, n, mi, ma, bi⟩ := c
  simp only at hp ⊢
  obtain ⟨E, hE⟩ : ∃ E, E = ckE ⟨p, n, mi, ma, bi⟩ := ⟨_, rfl⟩
  rw [← hE]
  have HE := Lib.hid hE
  clear hE
  go_enter Tryd.func25, Tryd.ntmps25
  go_wp2_with fail
  obtain ⟨W1, hW1⟩ : ∃ W1, W1 = w.alloc (.cells #[.int .u64 p, .int .i64 n, .int .i64 mi, .int .i64 ma, .int .i64 bi] 38) := ⟨_, rfl⟩
  have hb1 : Below w.heap.size w W1 := by rw [hW1]; exact (Below.refl _ _).alloc (Nat.le_refl _) _
  have hz1 : W1.heap.size = w.heap.size + 1 := by rw [hW1]; simp
  have hcs : W1.heap[w.heap.size]? = some (.cells #[.int .u64 p, .int .i64 n, .int .i64 mi, .int .i64 ma, .int .i64 bi] 38 (0, 0)) := by rw [hW1]; exact World.alloc_heap_new w _
  rw [← hW1]
  clear hW1 h3 h3'
  go_loopw [4, 7] (fun _ i wr => ∃ k : Nat, k ≤ 4 ∧ i = .int .i64 k ∧ Met ⟨p, n, mi, ma, bi⟩ k ∧ Below W1.heap.size W1 wr) (fun _ i _ => 4 - (intOf i).toNat)
  case atStart => exact ⟨0, by omega, rfl, trivial, Below.refl _ _⟩
  case round =>
    obtain ⟨k, hk, rfl, hm, hbr⟩ := hrel
    have zr := hbr.size
    have hbw : Below n0 w wr := (hb1.mono hz).trans (hbr.mono (by omega))
    have hcr : wr.heap[w.heap.size]? = some (.cells #[.int .u64 p, .int .i64 n, .int .i64 mi, .int .i64 ma, .int .i64 bi] 38 (0, 0)) := by rw [hbr.block _ (by omega)]; exact hcs
    have c0 : wr.cell? ⟨w.heap.size, 0, none⟩ = some (.int .u64 p) := by simp [World.cell?, hcr]
    have c1 : wr.cell? ⟨w.heap.size, 1, none⟩ = some (.int .i64 n) := by simp [World.cell?, hcr]
    have c2 : wr.cell? ⟨w.heap.size, 2, none⟩ = some (.int .i64 mi) := by simp [World.cell?, hcr]
    have c3 : wr.cell? ⟨w.heap.size, 3, none⟩ = some (.int .i64 ma) := by simp [World.cell?, hcr]
    have c4 : wr.cell? ⟨w.heap.size, 4, none⟩ = some (.int .i64 bi) := by simp [World.cell?, hcr]
    clear hcr
    have hm' := Lib.hid hm
    clear hm
    rcases (show k = 0 ∨ k = 1 ∨ k = 2 ∨ k = 3 ∨ k = 4 by omega) with rfl | rfl | rfl | rfl | rfl
    · have g4 : wr.cell? ⟨b, off, none⟩ = some (.func (.func 107) #[] #[]) := (hbw.cell (p := ⟨b, off, none⟩) h1).trans H4.out
      clear hbw
      by_cases hc : RMay p n
      · go_wp2_with fail
        refine (needs1_yes p n mi ma bi _ (by omega) (by omega) (by rw [Int.toNat_natCast]; exact hc)).mono ?_
        rintro e w2 ⟨rfl, hb2⟩
        go_wp2_with fail
        exact ⟨⟨1, by omega, rfl, hc, hbr.trans (hb2.mono zr)⟩, by simp only [intOf]; omega⟩
      · go_wp2_with fail
        refine (needs1_no p n mi ma bi _ (by omega) (by omega) (by rw [Int.toNat_natCast]; exact hc)).mono ?_
        rintro e w2 ⟨rfl, hb2⟩
        go_wp2_with fail
        go_ret
        exact ⟨ret_int (by rw [HE.out, ckE_no (fun h => hc h.1)]), (hb1.trans (hbr.mono (by omega))).trans (hb2.mono (by omega))⟩
    · have g5 : wr.cell? ⟨b, off + 1, none⟩ = some (.func (.func 108) #[] #[]) := (hbw.cell (p := ⟨b, off + 1, none⟩) h1).trans H5.out
      clear hbw
      by_cases hc : n ≤ mi ∧ mi ≤ ma
      · have HC := Lib.hid hc
        clear hc
        go_wp2_with fail
        refine (needs2_yes p n mi ma bi _ HC.out.1 HC.out.2).mono ?_
        rintro e w2 ⟨rfl, hb2⟩
        go_wp2_with fail
        exact ⟨⟨2, by omega, rfl, ⟨hm'.out, HC.out⟩, hbr.trans (hb2.mono zr)⟩, by simp only [intOf]; omega⟩
      · have HC := Lib.hid hc
        clear hc
        go_wp2_with fail
        refine (needs2_no p n mi ma bi _ HC.out).mono ?_
        rintro e w2 ⟨rfl, hb2⟩
        go_wp2_with fail
        go_ret
        exact ⟨ret_int (by rw [HE.out, ckE_no (fun h => HC.out h.2.1)]), (hb1.trans (hbr.mono (by omega))).trans (hb2.mono (by omega))⟩
    · have g6 : wr.cell? ⟨b, off + 2, none⟩ = some (.func (.func 109) #[] #[]) := (hbw.cell (p := ⟨b, off + 2, none⟩) h1).trans H6.out
      clear hbw
      by_cases hc : 1 ≤ ma ∧ ma ≤ 4096
      · have HC := Lib.hid hc
        clear hc
        go_wp2_with fail
        refine (needs3_yes p n mi ma bi _ HC.out.1 HC.out.2).mono ?_
        rintro e w2 ⟨rfl, hb2⟩
        go_wp2_with fail
        exact ⟨⟨3, by omega, rfl, ⟨hm'.out.1, hm'.out.2, HC.out⟩, hbr.trans (hb2.mono zr)⟩, by simp only [intOf]; omega⟩
      · have HC := Lib.hid hc
        clear hc
        go_wp2_with fail
        refine (needs3_no p n mi ma bi _ HC.out).mono ?_
        rintro e w2 ⟨rfl, hb2⟩
        go_wp2_with fail
        go_ret
        exact ⟨ret_int (by rw [HE.out, ckE_no (fun h => HC.out h.2.2.1)]), (hb1.trans (hbr.mono (by omega))).trans (hb2.mono (by omega))⟩
    · have g7 : wr.cell? ⟨b, off + 3, none⟩ = some (.func (.func 110) #[] #[]) := (hbw.cell (p := ⟨b, off + 3, none⟩) h1).trans H7.out
      clear hbw
      by_cases hc : 0 ≤ bi ∧ bi ≤ 16
      · have HC := Lib.hid hc
        clear hc
        go_wp2_with fail
        refine (needs4_yes p n mi ma bi _ HC.out.1 HC.out.2).mono ?_
        rintro e w2 ⟨rfl, hb2⟩
        go_wp2_with fail
        exact ⟨⟨4, by omega, rfl, ⟨hm'.out.1, hm'.out.2.1, hm'.out.2.2, HC.out⟩, hbr.trans (hb2.mono zr)⟩, by simp only [intOf]; omega⟩
      · have HC := Lib.hid hc
        clear hc
        go_wp2_with fail
        refine (needs4_no p n mi ma bi _ HC.out).mono ?_
        rintro e w2 ⟨rfl, hb2⟩
        go_wp2_with fail
        go_ret
        exact ⟨ret_int (by rw [HE.out, ckE_no (fun h => HC.out h.2.2.2)]), (hb1.trans (hbr.mono (by omega))).trans (hb2.mono (by omega))⟩
    · clear hbw
      go_wp2_with fail
      go_ret
      exact ⟨ret_int (by rw [HE.out, ckE_yes hm'.out]), hb1.trans (hbr.mono (by omega))⟩
end Go.Proofs.YtpkbhihkhnkhnaaDoor
