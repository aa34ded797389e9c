/- edit.Of. -/
import Derived.Test.YtpkbhihkhnkhnaaDoorAlike
import Derived.Deep.DeepCutAuto
namespace Go.Proofs.YtpkbhihkhnkhnaaDoor
open Go.RowKit
theorem ret_bool {a b : Bool} (h : a = b) : Ending.returned (.bool a) = .returned (.bool b) := by rw [h]
theorem byte_beq (x y : UInt8) : ((x.toNat : Int) == (y.toNat : Int)) = decide (x = y) := by
  by_cases h : x = y
  · subst h; simp
  · have : ¬ ((x.toNat : Int) = (y.toNat : Int)) := fun e => h (UInt8.toNat_inj.1 (Int.natCast_inj.1 e))
    simp [h, this]
/-- how many of two rows are alike, one by one -/
def cp {α : Type} [DecidableEq α] : List α → List α → Nat
  | x :: a, y :: b => if x = y then cp a b + 1 else 0
  | _, _ => 0
theorem cp_le {α : Type} [DecidableEq α] (a b : List α) : cp a b ≤ a.length ∧ cp a b ≤ b.length := by
  induction a generalizing b with
  | nil => simp [cp]
  | cons x a ih => cases b with
    | nil => simp [cp]
    | cons y b =>
      have := ih b
      unfold cp; split <;> simp <;> omega
theorem cp_take {α : Type} [DecidableEq α] (a b : List α) : a.take (cp a b) = b.take (cp a b) := by
  induction a generalizing b with
  | nil => simp [cp]
  | cons x a ih => cases b with
    | nil => simp [cp]
    | cons y b =>
      unfold cp; split
      · next h => subst h; simp [ih b]
      · simp
theorem cp_lt {α : Type} [DecidableEq α] {a b : List α} {k : Nat} (h : k < cp a b) : a[k]? = b[k]? := by
  have := congrArg (fun l => l[k]?) (cp_take a b)
  simpa [List.getElem?_take, h] using this
theorem cp_at {α : Type} [DecidableEq α] {a b : List α} (h1 : cp a b < a.length) (h2 : cp a b < b.length) : a[cp a b]? ≠ b[cp a b]? := by
  induction a generalizing b with
  | nil => simp at h1
  | cons x a ih => cases b with
    | nil => simp at h2
    | cons y b =>
      unfold cp at h1 h2 ⊢
      split
      · next h =>
        rw [if_pos h] at h1 h2
        simp only [List.getElem?_cons_succ]
        exact ih (by simpa using h1) (by simpa using h2)
      · next h => simpa using h
theorem of1_any (a b : ByteArray) (A B k : Nat) (w : World) (c1 : w.cell? ⟨A, 0, none⟩ = some (.string a)) (c2 : w.cell? ⟨B, 0, none⟩ = some (.string b)) (h1 : k < a.size) (h2 : k < b.size) :
    Calls Tryd.prog 47 #[.int .i64 k, .pointer (some ⟨A, 0, none⟩), .pointer (some ⟨B, 0, none⟩)] w fun e w' => e = .returned (.bool (decide (a[k] = b[k]))) ∧ Below w.heap.size w w' := by
  go_enter Tryd.func47, Tryd.ntmps47
  go_wp2_with fail
  go_quiet (fail)
  go_wp2_with fail
  go_ret
  refine ⟨?_, below_drewN (Below.refl _ _) _⟩
  exact ret_bool (byte_beq _ _)
theorem of2_any (a b : ByteArray) (A B k : Nat) (w : World) (ha : a.size ≤ 140737488351232) (hb : b.size ≤ 140737488351232) (c1 : w.cell? ⟨A, 0, none⟩ = some (.string a)) (c2 : w.cell? ⟨B, 0, none⟩ = some (.string b)) (h1 : k < a.size) (h2 : k < b.size) :
    Calls Tryd.prog 48 #[.int .i64 k, .pointer (some ⟨A, 0, none⟩), .pointer (some ⟨B, 0, none⟩)] w fun e w' => e = .returned (.bool (decide (a[a.size - 1 - k] = b[b.size - 1 - k]))) ∧ Below w.heap.size w w' := by
  have i1 : (k : Int) ≤ (a.size : Int) - 1 := by omega
  have i2 : (a.size : Int) - 1 - k < a.size := by omega
  have i3 : (k : Int) ≤ (b.size : Int) - 1 := by omega
  have i4 : (b.size : Int) - 1 - k < b.size := by omega
  go_enter Tryd.func48, Tryd.ntmps48
  go_wp2_with fail
  go_quiet (fail)
  go_wp2_with fail
  go_ret
  refine ⟨?_, below_drewN (Below.refl _ _) _⟩
  exact ret_bool (byte_beq _ _)
theorem ba_get (a : ByteArray) (k : Nat) (h : k < a.size) : a.data.toList[k]? = some a[k] := by simp [h]; rfl
theorem pk {a b : ByteArray} {k : Nat} (h1 : k < a.size) (h2 : k < b.size) : decide (a[k] = b[k]) = decide (a.data.toList[k]? = b.data.toList[k]?) := by
  rw [ba_get a k h1, ba_get b k h2]; simp
theorem pk2 {a b : ByteArray} {k : Nat} (h1 : k < a.size) (h2 : k < b.size) : decide (a[a.size - 1 - k] = b[b.size - 1 - k]) = decide (a.data.toList.reverse[k]? = b.data.toList.reverse[k]?) := by
  have e1 : a.data.toList.reverse[k]? = some a[a.size - 1 - k] := by
    rw [List.getElem?_reverse (by simpa using h1), ← ba_get a _ (by omega)]; simp
  have e2 : b.data.toList.reverse[k]? = some b[b.size - 1 - k] := by
    rw [List.getElem?_reverse (by simpa using h2), ← ba_get b _ (by omega)]; simp
  rw [e1, e2]; simp
/-- how many bytes two texts begin with alike -/
def pre (a b : ByteArray) : Nat := cp a.data.toList b.data.toList
def suf (a b : ByteArray) : Nat := cp a.data.toList.reverse b.data.toList.reverse
theorem pre_le (a b : ByteArray) : pre a b ≤ a.size ∧ pre a b ≤ b.size := by
  have := cp_le a.data.toList b.data.toList
  simpa [pre] using this
theorem suf_le (a b : ByteArray) : suf a b ≤ a.size ∧ suf a b ≤ b.size := by
  have := cp_le a.data.toList.reverse b.data.toList.reverse
  simpa [suf] using this
theorem pre_at {a b : ByteArray} (h1 : pre a b < a.size) (h2 : pre a b < b.size) : a.data.toList[pre a b]? ≠ b.data.toList[pre a b]? := by
  unfold pre at *; exact cp_at (by simpa using h1) (by simpa using h2)
theorem suf_at {a b : ByteArray} (h1 : suf a b < a.size) (h2 : suf a b < b.size) : a.data.toList.reverse[suf a b]? ≠ b.data.toList.reverse[suf a b]? := by
  unfold suf at *; exact cp_at (by simpa using h1) (by simpa using h2)
set_option maxRecDepth 100000 in
set_option maxHeartbeats 400000 in
theorem of_any (a b : ByteArray) (w : World) (ha : a.size ≤ 140737488351232) (hb : b.size ≤ 140737488351232) (n e : Nat) (x y : ByteArray) (hn : n = pre a b) (hx : x = a.extract n a.size) (hy : y = b.extract n b.size) (he : e = suf x y) :
    Calls Tryd.prog 17 #[.string a, .string b] w fun r w' => r = .returned (.agg #[.int .i64 n, .int .i64 (x.size - e : Int), .string (y.extract 0 (y.size - e))]) ∧ Below w.heap.size w w' := by
  have hn1 := pre_le a b
  have hn2 : ∀ k, k < n → decide (a.data.toList[k]? = b.data.toList[k]?) = true := fun k hk => by rw [decide_eq_true_iff]; exact cp_lt (by rw [hn] at hk; exact hk)
  have hn3 : n < min a.size b.size → decide (a.data.toList[n]? = b.data.toList[n]?) = false := fun h => by
    rw [decide_eq_false_iff_not, hn]; rw [hn] at h; exact pre_at (by omega) (by omega)
  rw [← hn] at hn1
  have he1 := suf_le x y
  have he2 : ∀ k, k < e → decide (x.data.toList.reverse[k]? = y.data.toList.reverse[k]?) = true := fun k hk => by rw [decide_eq_true_iff]; exact cp_lt (by rw [he] at hk; exact hk)
  have he3 : e < min x.size y.size → decide (x.data.toList.reverse[e]? = y.data.toList.reverse[e]?) = false := fun h => by
    rw [decide_eq_false_iff_not, he]; rw [he] at h; exact suf_at (by omega) (by omega)
  rw [← he] at he1
  have hxs : x.size ≤ 140737488351232 := by rw [hx]; simp; omega
  have hys : y.size ≤ 140737488351232 := by rw [hy]; simp; omega
  have HN2 := Lib.hid hn2
  have HN3 := Lib.hid hn3
  have HE2 := Lib.hid he2
  have HE3 := Lib.hid he3
  have HX := Lib.hid hx
  have HY := Lib.hid hy
  obtain ⟨hn11, hn12⟩ := hn1
  obtain ⟨he11, he12⟩ := he1
  clear hn2 hn3 he2 he3 hn he hx hy
  go_enter Tryd.func17, Tryd.ntmps17
  go_wp2_with fail
  obtain ⟨W0, hW0⟩ : ∃ W0, W0 = ((w.alloc (.cells #[.string a] 9)).alloc (.cells #[.string b] 9)).alloc (.cells #[.int .i64 0, .int .i64 0, .string ⟨#[]⟩] 23) := ⟨_, rfl⟩
  have z0 : W0.heap.size = w.heap.size + 3 := by rw [hW0]; simp
  have b0 : Below w.heap.size w W0 := by rw [hW0]; exact (((Below.refl _ _).alloc (Nat.le_refl _) _).alloc (by simp) _).alloc (by simp; omega) _
  have o0 : W0.heap[w.heap.size]? = some (.cells #[.string a] 9 (0, 0)) := by
    rw [hW0, Below.heap_alloc _ _ _ (by simp; omega), Below.heap_alloc _ _ _ (by simp), World.alloc_heap_new]
  have o1 : W0.heap[w.heap.size + 1]? = some (.cells #[.string b] 9 (0, 0)) := by
    rw [hW0, Below.heap_alloc _ _ _ (by simp)]
    have := World.alloc_heap_new (w.alloc (.cells #[.string a] 9)) (.cells #[.string b] 9)
    rwa [World.size_alloc] at this
  have o2 : W0.heap[w.heap.size + 1 + 1]? = some (.cells #[.int .i64 0, .int .i64 0, .string ⟨#[]⟩] 23 (0, 0)) := by
    rw [hW0]
    have := World.alloc_heap_new ((w.alloc (.cells #[.string a] 9)).alloc (.cells #[.string b] 9)) (.cells #[.int .i64 0, .int .i64 0, .string ⟨#[]⟩] 23)
    rwa [World.size_alloc, World.size_alloc] at this
  rw [← hW0]
  clear hW0
  obtain ⟨W1, cap1, hcv1, -, hb1, z1⟩ := conv_bytes a W0
  rw [hcv1.out]
  have p0 : W1.heap[w.heap.size]? = some (.cells #[.string a] 9 (0, 0)) := by rw [hb1.block _ (by omega)]; exact o0
  have p1 : W1.heap[w.heap.size + 1]? = some (.cells #[.string b] 9 (0, 0)) := by rw [hb1.block _ (by omega)]; exact o1
  have p2 : W1.heap[w.heap.size + 1 + 1]? = some (.cells #[.int .i64 0, .int .i64 0, .string ⟨#[]⟩] 23 (0, 0)) := by rw [hb1.block _ (by omega)]; exact o2
  have q1 : W1.cell? ⟨w.heap.size + 1, 0, none⟩ = some (.string b) := by simp [World.cell?, p1]
  have P0 := Lib.hid p0
  have P1 := Lib.hid p1
  have P2 := Lib.hid p2
  have B1 := Lib.hid (b0.trans (hb1.mono (by omega)))
  clear p0 p1 p2 hb1 b0 o0 o1 o2 hcv1
  go_wp2_with fail
  obtain ⟨W2, cap2, hcv2, -, hb2, z2⟩ := conv_bytes b W1
  rw [hcv2.out]
  have P0 := Lib.hid (show W2.heap[w.heap.size]? = some (.cells #[.string a] 9 (0, 0)) by rw [hb2.block _ (by omega)]; exact P0.out)
  have P1 := Lib.hid (show W2.heap[w.heap.size + 1]? = some (.cells #[.string b] 9 (0, 0)) by rw [hb2.block _ (by omega)]; exact P1.out)
  have P2 := Lib.hid (show W2.heap[w.heap.size + 1 + 1]? = some (.cells #[.int .i64 0, .int .i64 0, .string ⟨#[]⟩] 23 (0, 0)) by rw [hb2.block _ (by omega)]; exact P2.out)
  have B2 := Lib.hid (B1.out.trans (hb2.mono (by omega)))
  clear hb2 hcv2
  go_wp2_with fail
  refine (alikeb1_any _ _ _ _ a.size cap1 b.size cap2 (fun k => decide (a.data.toList[k]? = b.data.toList[k]?)) n _ W2 ha hb rfl (by omega) HN2.out HN3.out (fun k W hk hB => ?_)).mono ?_
  · rw [← pk (show k < a.size by omega) (show k < b.size by omega)]
    refine of1_any a b _ _ k W ?_ ?_ (by omega) (by omega)
    · rw [hB.cell (p := ⟨w.heap.size, 0, none⟩) (by show w.heap.size < _; omega)]; simp [World.cell?, P0.out]
    · rw [hB.cell (p := ⟨w.heap.size + 1, 0, none⟩) (by show w.heap.size + 1 < _; omega)]; simp [World.cell?, P1.out]
  rintro r W3 ⟨rfl, hb3⟩
  have z3 := hb3.size
  have q0 : W3.cell? ⟨w.heap.size, 0, none⟩ = some (.string a) := by rw [hb3.cell (p := ⟨w.heap.size, 0, none⟩) (by show w.heap.size < _; omega)]; simp [World.cell?, P0.out]
  have q1 : W3.cell? ⟨w.heap.size + 1, 0, none⟩ = some (.string b) := by rw [hb3.cell (p := ⟨w.heap.size + 1, 0, none⟩) (by show w.heap.size + 1 < _; omega)]; simp [World.cell?, P1.out]
  have P2 := Lib.hid (show W3.heap[w.heap.size + 1 + 1]? = some (.cells #[.int .i64 0, .int .i64 0, .string ⟨#[]⟩] 23 (0, 0)) by rw [hb3.block _ (by omega)]; exact P2.out)
  have B3 := Lib.hid (B2.out.trans (hb3.mono (by omega)))
  clear hb3 P0 P1 B1 B2
  have r0 : ∀ o, (W3.alloc o).cell? ⟨w.heap.size, 0, none⟩ = some (.string a) := fun o => by
    rw [((Below.refl W3.heap.size W3).alloc (Nat.le_refl _) o).cell (p := ⟨w.heap.size, 0, none⟩) (by show w.heap.size < _; omega)]; exact q0
  have r1 : ∀ o, (W3.alloc o).cell? ⟨w.heap.size + 1, 0, none⟩ = some (.string b) := fun o => by
    rw [((Below.refl W3.heap.size W3).alloc (Nat.le_refl _) o).cell (p := ⟨w.heap.size + 1, 0, none⟩) (by show w.heap.size + 1 < _; omega)]; exact q1
  have r2 : ∀ o o', ((W3.alloc o).alloc o').cell? ⟨w.heap.size, 0, none⟩ = some (.string a) := fun o o' => by
    rw [(((Below.refl W3.heap.size W3).alloc (Nat.le_refl _) o).alloc (by simp) o').cell (p := ⟨w.heap.size, 0, none⟩) (by show w.heap.size < _; omega)]; exact q0
  have r3 : ∀ o o', ((W3.alloc o).alloc o').cell? ⟨w.heap.size + 1, 0, none⟩ = some (.string b) := fun o o' => by
    rw [(((Below.refl W3.heap.size W3).alloc (Nat.le_refl _) o).alloc (by simp) o').cell (p := ⟨w.heap.size + 1, 0, none⟩) (by show w.heap.size + 1 < _; omega)]; exact q1
  have hlt0 : w.heap.size < W3.heap.size := by omega
  have hlt1 : w.heap.size + 1 < W3.heap.size := by omega
  go_upto_region 2 with fail
  go_cut [6, 7] (fun s6 s7 wx => ∃ X Y, s6 = .pointer (some ⟨X, 0, none⟩) ∧ s7 = .pointer (some ⟨Y, 0, none⟩) ∧ X < wx.heap.size ∧ Y < wx.heap.size ∧ wx.cell? ⟨X, 0, none⟩ = some (.string x) ∧ wx.cell? ⟨Y, 0, none⟩ = some (.string y) ∧ Below W3.heap.size W3 wx)
  case first =>
    go_wp2_with fail
    go_region
    all_goals go_wp2_with fail
    · go_meet
      rw [HX.out, HY.out]
      refine ⟨_, _, rfl, rfl, by simp; omega, by simp, ?_, ?_, (((Below.refl _ _).alloc (Nat.le_refl _) _).alloc (by simp) _).drew⟩
      · exact ((Boxed.new W3 _ _).alloc _).cell
      · have := (Boxed.new (W3.alloc (.cells #[.string (a.extract n a.size)] 9)) 9 (.string (b.extract n b.size))).cell
        rw [World.size_alloc] at this; exact this
    · go_meet
      rw [HX.out, HY.out]
      refine ⟨_, _, rfl, rfl, by simp, by simp; omega, ?_, ?_, (((Below.refl _ _).alloc (Nat.le_refl _) _).alloc (by simp) _).drew⟩
      · have := (Boxed.new (W3.alloc (.cells #[.string (b.extract n b.size)] 9)) 9 (.string (a.extract n a.size))).cell
        rw [World.size_alloc] at this; exact this
      · exact ((Boxed.new W3 _ _).alloc _).cell
  case rest =>
    obtain ⟨X, Y, rfl, rfl, hX, hY, cX, cY, hbx⟩ := hcut
    have z4 := hbx.size
    have P2 := Lib.hid (show wc.heap[w.heap.size + 1 + 1]? = some (.cells #[.int .i64 0, .int .i64 0, .string ⟨#[]⟩] 23 (0, 0)) by rw [hbx.block _ (by omega)]; exact P2.out)
    have B4 := Lib.hid (B3.out.trans (hbx.mono (by omega)))
    clear hbx r0 r1 r2 r3 q0 q1 B3
    go_wp2_with fail
    obtain ⟨W5, cap5, hcv5, -, hb5, z5⟩ := conv_bytes x wc
    rw [hcv5.out]
    have dX : W5.cell? ⟨X, 0, none⟩ = some (.string x) := by rw [hb5.cell (p := ⟨X, 0, none⟩) hX]; exact cX
    have dY : W5.cell? ⟨Y, 0, none⟩ = some (.string y) := by rw [hb5.cell (p := ⟨Y, 0, none⟩) hY]; exact cY
    have P2 := Lib.hid (show W5.heap[w.heap.size + 1 + 1]? = some (.cells #[.int .i64 0, .int .i64 0, .string ⟨#[]⟩] 23 (0, 0)) by rw [hb5.block _ (by omega)]; exact P2.out)
    have B5 := Lib.hid (B4.out.trans (hb5.mono (by omega)))
    clear hb5 hcv5 cX cY
    go_wp2_with fail
    obtain ⟨W6, cap6, hcv6, -, hb6, z6⟩ := conv_bytes y W5
    rw [hcv6.out]
    have cX : W6.cell? ⟨X, 0, none⟩ = some (.string x) := by rw [hb6.cell (p := ⟨X, 0, none⟩) (by show X < _; omega)]; exact dX
    have cY : W6.cell? ⟨Y, 0, none⟩ = some (.string y) := by rw [hb6.cell (p := ⟨Y, 0, none⟩) (by show Y < _; omega)]; exact dY
    have P2 := Lib.hid (show W6.heap[w.heap.size + 1 + 1]? = some (.cells #[.int .i64 0, .int .i64 0, .string ⟨#[]⟩] 23 (0, 0)) by rw [hb6.block _ (by omega)]; exact P2.out)
    have B6 := Lib.hid (B5.out.trans (hb6.mono (by omega)))
    clear hb6 hcv6 dX dY B4 B5
    go_wp2_with fail
    refine (alikeb2_any _ _ _ _ x.size cap5 y.size cap6 (fun k => decide (x.data.toList.reverse[k]? = y.data.toList.reverse[k]?)) e _ W6 (by omega) (by omega) rfl (by omega) HE2.out HE3.out (fun k W hk hB => ?_)).mono ?_
    · rw [← pk2 (show k < x.size by omega) (show k < y.size by omega)]
      refine of2_any x y _ _ k W (by omega) (by omega) ?_ ?_ (by omega) (by omega)
      · rw [hB.cell (p := ⟨X, 0, none⟩) (by show X < _; omega)]; exact cX
      · rw [hB.cell (p := ⟨Y, 0, none⟩) (by show Y < _; omega)]; exact cY
    rintro r W7 ⟨rfl, hb7⟩
    have z7 := hb7.size
    have dX : W7.cell? ⟨X, 0, none⟩ = some (.string x) := by rw [hb7.cell (p := ⟨X, 0, none⟩) (by show X < _; omega)]; exact cX
    have dY : W7.cell? ⟨Y, 0, none⟩ = some (.string y) := by rw [hb7.cell (p := ⟨Y, 0, none⟩) (by show Y < _; omega)]; exact cY
    obtain ⟨d0, d1, d2, f0, f1, f2⟩ := cells3 (show W7.heap[w.heap.size + 1 + 1]? = some (.cells #[.int .i64 0, .int .i64 0, .string ⟨#[]⟩] 23 (0, 0)) by rw [hb7.block _ (by omega)]; exact P2.out)
    have B7 := Lib.hid (B6.out.trans (hb7.mono (by omega)))
    clear hb7 cX cY B6 P2
    have hlt1 : w.heap.size + 1 + 1 < W7.heap.size := by omega
    go_wp2_with fail
    go_region
    all_goals go_wp2_with fail
    refine bodyPost_ret (v := .agg #[.int .i64 n, .int .i64 (x.size - e : Int), .string (y.extract 0 (y.size - e))]) (by simp [results, Tryd.results17, go_sem, *]) rfl ⟨rfl, ?_⟩
    exact (((B7.out.setCell (show w.heap.size ≤ w.heap.size + 1 + 1 by omega) _).setCell (show w.heap.size ≤ w.heap.size + 1 + 1 by omega) _).setCell (show w.heap.size ≤ w.heap.size + 1 + 1 by omega) _).drew
end Go.Proofs.YtpkbhihkhnkhnaaDoor
