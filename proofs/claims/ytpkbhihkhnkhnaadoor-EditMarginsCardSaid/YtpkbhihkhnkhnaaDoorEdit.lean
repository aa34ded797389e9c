/- edit: may, Apply, Back; maslinref11: May, Apply. -/
import Derived.Test.YtpkbhihkhnkhnaaDoorNeeds
namespace Go.Proofs.YtpkbhihkhnkhnaaDoor
open Go.RowKit
/-- may an edit be done? -/
def EMay (s : ByteArray) (at' cut : Int) : Prop := 0 ≤ at' ∧ 0 ≤ cut ∧ at' ≤ s.size ∧ cut ≤ s.size - at'
theorem below_drewN {B : Nat} {a w : World} (h : Below B a w) (n : Nat) : Below B a (w.drewN n) := h.trans ⟨rfl, rfl, rfl, Nat.le_refl _, fun _ _ => rfl⟩
theorem emay_yes (s put : ByteArray) (a c : Int) (w : World) (hs : s.size ≤ 140737488351232) (h : EMay s a c) :
    Calls Tryd.prog 45 #[.string s, .agg #[.int .i64 a, .int .i64 c, .string put]] w fun e w' => e = .returned (.bool true) ∧ Below w.heap.size w w' := by
  obtain ⟨h1, h2, h3, h4⟩ := h
  go_enter Tryd.func45, Tryd.ntmps45
  go_wp2_with fail
  go_ret
  exact ⟨rfl, (Below.refl _ _).alloc (Nat.le_refl _) _⟩
theorem emay_no (s put : ByteArray) (a c : Int) (w : World) (hs : s.size ≤ 140737488351232) (h : ¬ EMay s a c) :
    Calls Tryd.prog 45 #[.string s, .agg #[.int .i64 a, .int .i64 c, .string put]] w fun e w' => e = .returned (.bool false) ∧ Below w.heap.size w w' := by
  by_cases h1 : 0 ≤ a
  · by_cases h2 : 0 ≤ c
    · by_cases h3 : a ≤ s.size
      · have h4 : decide (c ≤ s.size - a) = false := by rw [decide_eq_false_iff_not]; exact fun e => h ⟨h1, h2, h3, e⟩
        clear h
        go_enter Tryd.func45, Tryd.ntmps45
        go_wp2_with fail
        go_ret
        exact ⟨rfl, (Below.refl _ _).alloc (Nat.le_refl _) _⟩
      · have h4 : decide (a ≤ s.size) = false := by rw [decide_eq_false_iff_not]; exact h3
        clear h h3
        go_enter Tryd.func45, Tryd.ntmps45
        go_wp2_with fail
        go_ret
        exact ⟨rfl, (Below.refl _ _).alloc (Nat.le_refl _) _⟩
    · have h4 : decide (0 ≤ c) = false := by rw [decide_eq_false_iff_not]; exact h2
      clear h h2
      go_enter Tryd.func45, Tryd.ntmps45
      go_wp2_with fail
      go_ret
      exact ⟨rfl, (Below.refl _ _).alloc (Nat.le_refl _) _⟩
  · have h4 : decide (0 ≤ a) = false := by rw [decide_eq_false_iff_not]; exact h1
    clear h h1
    go_enter Tryd.func45, Tryd.ntmps45
    go_wp2_with fail
    go_ret
    exact ⟨rfl, (Below.refl _ _).alloc (Nat.le_refl _) _⟩
theorem rmay_yes (s put : ByteArray) (a c : Int) (w : World) (hs : s.size ≤ 140737488351232) (h : EMay s a c) :
    Calls Tryd.prog 42 #[.string s, .agg #[.int .i64 a, .int .i64 c, .string put]] w fun e w' => e = .returned (.bool true) ∧ Below w.heap.size w w' := by
  obtain ⟨h1, h2, h3, h4⟩ := h
  go_enter Tryd.func42, Tryd.ntmps42
  go_wp2_with fail
  go_ret
  exact ⟨rfl, (Below.refl _ _).alloc (Nat.le_refl _) _⟩
theorem rmay_no (s put : ByteArray) (a c : Int) (w : World) (hs : s.size ≤ 140737488351232) (h : ¬ EMay s a c) :
    Calls Tryd.prog 42 #[.string s, .agg #[.int .i64 a, .int .i64 c, .string put]] w fun e w' => e = .returned (.bool false) ∧ Below w.heap.size w w' := by
  by_cases h1 : 0 ≤ a
  · by_cases h2 : 0 ≤ c
    · by_cases h3 : a ≤ s.size
      · have h4 : decide (c ≤ s.size - a) = false := by rw [decide_eq_false_iff_not]; exact fun e => h ⟨h1, h2, h3, e⟩
        clear h
        go_enter Tryd.func42, Tryd.ntmps42
        go_wp2_with fail
        go_ret
        exact ⟨rfl, (Below.refl _ _).alloc (Nat.le_refl _) _⟩
      · have h4 : decide (a ≤ s.size) = false := by rw [decide_eq_false_iff_not]; exact h3
        clear h h3
        go_enter Tryd.func42, Tryd.ntmps42
        go_wp2_with fail
        go_ret
        exact ⟨rfl, (Below.refl _ _).alloc (Nat.le_refl _) _⟩
    · have h4 : decide (0 ≤ c) = false := by rw [decide_eq_false_iff_not]; exact h2
      clear h h2
      go_enter Tryd.func42, Tryd.ntmps42
      go_wp2_with fail
      go_ret
      exact ⟨rfl, (Below.refl _ _).alloc (Nat.le_refl _) _⟩
  · have h4 : decide (0 ≤ a) = false := by rw [decide_eq_false_iff_not]; exact h1
    clear h h1
    go_enter Tryd.func42, Tryd.ntmps42
    go_wp2_with fail
    go_ret
    exact ⟨rfl, (Below.refl _ _).alloc (Nat.le_refl _) _⟩
open Classical in
/-- what an edit makes of a text -/
noncomputable def appS (s : ByteArray) (a c : Int) (put : ByteArray) : ByteArray := if EMay s a c then s.extract 0 a.toNat ++ put ++ s.extract (a.toNat + c.toNat) s.size else ⟨#[]⟩
open Classical in
noncomputable def appE (s : ByteArray) (a c : Int) : Int := if EMay s a c then 0 else 2
theorem app_no (s put : ByteArray) (a c : Int) (w : World) (hs : s.size ≤ 140737488351232) (h : ¬ EMay s a c) :
    Calls Tryd.prog 15 #[.string s, .agg #[.int .i64 a, .int .i64 c, .string put]] w fun e w' => e = .returned (.tuple #[.string ⟨#[]⟩, .int .i64 2]) ∧ Below w.heap.size w w' := by
  have C := Lib.hid (fun W => emay_no s put a c W hs h)
  clear h
  go_enter Tryd.func15, Tryd.ntmps15
  go_wp2_with fail
  refine (C.out _).mono ?_
  rintro e w' ⟨rfl, hb⟩
  go_wp2_with fail
  go_ret2
  exact ⟨rfl, ((Below.refl _ _).alloc (Nat.le_refl _) _).trans (hb.mono (show w.heap.size ≤ _ by simp))⟩
theorem app_yes (s put : ByteArray) (a c : Int) (w : World) (hs : s.size ≤ 140737488351232) (hp : put.size ≤ 140737488351232) (h : EMay s a c) :
    Calls Tryd.prog 15 #[.string s, .agg #[.int .i64 a, .int .i64 c, .string put]] w fun e w' => e = .returned (.tuple #[.string (s.extract 0 a.toNat ++ put ++ s.extract (a.toNat + c.toNat) s.size), .int .i64 0]) ∧ Below w.heap.size w w' := by
  have C := Lib.hid (fun W => emay_yes s put a c W hs h)
  obtain ⟨h1, h2, h3, h4⟩ := h
  obtain ⟨a, rfl⟩ := Int.eq_ofNat_of_zero_le h1
  obtain ⟨c, rfl⟩ := Int.eq_ofNat_of_zero_le h2
  rw [Int.toNat_natCast, Int.toNat_natCast]
  have h5 : a + c ≤ s.size := by omega
  clear h1 h2 h3 h4
  go_enter Tryd.func15, Tryd.ntmps15
  go_wp2_with fail
  refine (C.out _).mono ?_
  rintro e w' ⟨rfl, hb⟩
  have hc : ∀ k : Nat, w'.cell? ⟨w.heap.size, k, none⟩ = (w.alloc (.cells #[.int .i64 a, .int .i64 c, .string put] 23)).cell? ⟨w.heap.size, k, none⟩ := fun k => hb.cell (p := ⟨w.heap.size, k, none⟩) (by simp)
  have c0 := hc 0
  have c1 := hc 1
  have c2 := hc 2
  simp [World.cell?] at c0 c1 c2
  go_wp2_with fail
  go_quiet (fail)
  go_wp2_with fail
  go_ret2
  exact ⟨rfl, ((Below.refl _ _).alloc (Nat.le_refl _) _).trans (below_drewN (hb.mono (show w.heap.size ≤ _ by simp)) _)⟩
theorem rapp_no (s put : ByteArray) (a c : Int) (w : World) (hs : s.size ≤ 140737488351232) (h : ¬ EMay s a c) :
    Calls Tryd.prog 16 #[.string s, .agg #[.int .i64 a, .int .i64 c, .string put]] w fun e w' => e = .returned (.tuple #[.string ⟨#[]⟩, .int .i64 2]) ∧ Below w.heap.size w w' := by
  have C := Lib.hid (fun W => rmay_no s put a c W hs h)
  clear h
  go_enter Tryd.func16, Tryd.ntmps16
  go_wp2_with fail
  refine (C.out _).mono ?_
  rintro e w' ⟨rfl, hb⟩
  go_wp2_with fail
  go_ret2
  exact ⟨rfl, ((Below.refl _ _).alloc (Nat.le_refl _) _).trans (hb.mono (show w.heap.size ≤ _ by simp))⟩
theorem rapp_yes (s put : ByteArray) (a c : Int) (w : World) (hs : s.size ≤ 140737488351232) (hp : put.size ≤ 140737488351232) (h : EMay s a c) :
    Calls Tryd.prog 16 #[.string s, .agg #[.int .i64 a, .int .i64 c, .string put]] w fun e w' => e = .returned (.tuple #[.string (s.extract 0 a.toNat ++ put ++ s.extract (a.toNat + c.toNat) s.size), .int .i64 0]) ∧ Below w.heap.size w w' := by
  have C := Lib.hid (fun W => rmay_yes s put a c W hs h)
  obtain ⟨h1, h2, h3, h4⟩ := h
  obtain ⟨a, rfl⟩ := Int.eq_ofNat_of_zero_le h1
  obtain ⟨c, rfl⟩ := Int.eq_ofNat_of_zero_le h2
  rw [Int.toNat_natCast, Int.toNat_natCast]
  have h5 : a + c ≤ s.size := by omega
  clear h1 h2 h3 h4
  go_enter Tryd.func16, Tryd.ntmps16
  go_wp2_with fail
  refine (C.out _).mono ?_
  rintro e w' ⟨rfl, hb⟩
  have hc : ∀ k : Nat, w'.cell? ⟨w.heap.size, k, none⟩ = (w.alloc (.cells #[.int .i64 a, .int .i64 c, .string put] 23)).cell? ⟨w.heap.size, k, none⟩ := fun k => hb.cell (p := ⟨w.heap.size, k, none⟩) (by simp)
  have c0 := hc 0
  have c1 := hc 1
  have c2 := hc 2
  simp [World.cell?] at c0 c1 c2
  go_wp2_with fail
  go_quiet (fail)
  go_wp2_with fail
  go_ret2
  exact ⟨rfl, ((Below.refl _ _).alloc (Nat.le_refl _) _).trans (below_drewN (hb.mono (show w.heap.size ≤ _ by simp)) _)⟩
theorem zeroEdit : ∀ W, (zeroValue 23).run Tryd.prog W = .ok (.agg #[.int .i64 0, .int .i64 0, .string ⟨#[]⟩]) W := fun W => by kernel_rfl
theorem cells3 {w : World} {g : Nat} {x y z : Value} {t : TypeId} (h : w.heap[g]? = some (.cells #[x, y, z] t (0, 0))) :
    w.cell? ⟨g, 0, none⟩ = some x ∧ w.cell? ⟨g, 1, none⟩ = some y ∧ w.cell? ⟨g, 2, none⟩ = some z ∧ w.frozen? ⟨g, 0, none⟩ = false ∧ w.frozen? ⟨g, 1, none⟩ = false ∧ w.frozen? ⟨g, 2, none⟩ = false := by
  refine ⟨?_, ?_, ?_, ?_, ?_, ?_⟩ <;> simp [World.cell?, World.frozen?, h]
theorem editBlocks {w w' : World} {o o' : Array Value} {t t' : TypeId} (hb : Below ((w.alloc (.cells o t)).alloc (.cells o' t')).heap.size ((w.alloc (.cells o t)).alloc (.cells o' t')) w') :
    w'.heap[w.heap.size]? = some (.cells o t (0, 0)) ∧ w'.heap[w.heap.size + 1]? = some (.cells o' t' (0, 0)) := by
  constructor
  · rw [hb.block _ (by simp; omega), Below.heap_alloc _ _ _ (by simp), World.alloc_heap_new]
  · rw [hb.block _ (by simp)]
    have := World.alloc_heap_new (w.alloc (.cells o t)) (.cells o' t')
    rwa [World.size_alloc] at this
theorem back_no (s put : ByteArray) (a c : Int) (w : World) (hs : s.size ≤ 140737488351232) (h : ¬ EMay s a c) :
    Calls Tryd.prog 19 #[.string s, .agg #[.int .i64 a, .int .i64 c, .string put]] w fun e w' => e = .returned (.tuple #[.agg #[.int .i64 0, .int .i64 0, .string ⟨#[]⟩], .int .i64 2]) ∧ Below w.heap.size w w' := by
  have C := Lib.hid (fun W => emay_no s put a c W hs h)
  clear h
  go_enter Tryd.func19, Tryd.ntmps19
  go_wp2_with fail
  refine (C.out _).mono ?_
  rintro e w' ⟨rfl, hb⟩
  have hs1 := hb.size
  simp only [World.size_alloc] at hs1
  obtain ⟨e0, e1⟩ := editBlocks hb
  obtain ⟨k0, k1, k2, q0, q1, q2⟩ := cells3 e0
  obtain ⟨d0, d1, d2, f0, f1, f2⟩ := cells3 e1
  have HB := Lib.hid ((((Below.refl w.heap.size w).alloc (Nat.le_refl _) _).alloc (show w.heap.size ≤ _ by simp) _).trans (hb.mono (show w.heap.size ≤ _ by simp; omega)))
  clear e0 e1 hb
  go_wp2_with fail
  refine bodyPost_ret (v := .tuple #[.agg #[.int .i64 0, .int .i64 0, .string ⟨#[]⟩], .int .i64 2]) (by simp [results, Tryd.results19, go_sem, *]) rfl ⟨rfl, ?_⟩
  exact ((HB.out.setCell (by simp) _).setCell (by simp) _).setCell (by simp) _
theorem back_yes (s put : ByteArray) (a c : Int) (w : World) (hs : s.size ≤ 140737488351232) (h : EMay s a c) :
    Calls Tryd.prog 19 #[.string s, .agg #[.int .i64 a, .int .i64 c, .string put]] w fun e w' => e = .returned (.tuple #[.agg #[.int .i64 a, .int .i64 put.size, .string (s.extract a.toNat (a.toNat + c.toNat))], .int .i64 0]) ∧ Below w.heap.size w w' := by
  have C := Lib.hid (fun W => emay_yes s put a c W hs h)
  obtain ⟨h1, h2, h3, h4⟩ := h
  obtain ⟨a, rfl⟩ := Int.eq_ofNat_of_zero_le h1
  obtain ⟨c, rfl⟩ := Int.eq_ofNat_of_zero_le h2
  rw [Int.toNat_natCast, Int.toNat_natCast]
  have h5 : a + c ≤ s.size := by omega
  clear h1 h2 h3 h4
  go_enter Tryd.func19, Tryd.ntmps19
  go_wp2_with fail
  refine (C.out _).mono ?_
  rintro e w' ⟨rfl, hb⟩
  have hs1 := hb.size
  simp only [World.size_alloc] at hs1
  obtain ⟨e0, e1⟩ := editBlocks hb
  obtain ⟨k0, k1, k2, q0, q1, q2⟩ := cells3 e0
  obtain ⟨d0, d1, d2, f0, f1, f2⟩ := cells3 e1
  have HB := Lib.hid ((((Below.refl w.heap.size w).alloc (Nat.le_refl _) _).alloc (show w.heap.size ≤ _ by simp) _).trans (hb.mono (show w.heap.size ≤ _ by simp; omega)))
  clear e0 e1 hb
  go_wp2_with fail
  go_region
  go_wp2_with fail
  refine bodyPost_ret (v := .tuple #[.agg #[.int .i64 a, .int .i64 put.size, .string (s.extract a (a + c))], .int .i64 0]) (by simp [results, Tryd.results19, go_sem, *]) rfl ⟨rfl, ?_⟩
  exact (((below_drewN HB.out _).setCell (show w.heap.size ≤ w.heap.size + 1 by omega) _).setCell (show w.heap.size ≤ w.heap.size + 1 by omega) _).setCell (show w.heap.size ≤ w.heap.size + 1 by omega) _
end Go.Proofs.YtpkbhihkhnkhnaaDoor
