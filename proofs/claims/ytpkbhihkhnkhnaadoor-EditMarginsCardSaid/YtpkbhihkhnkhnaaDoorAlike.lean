/- edit.alike, edit.Of, maslinref11.Of. -/
import Derived.Test.YtpkbhihkhnkhnaaDoorEdit
namespace Go.Proofs.YtpkbhihkhnkhnaaDoor
open Go.RowKit
set_option maxHeartbeats 400000 in
theorem alikeb1_any (x y : Value) (pa pb : Option Addr) (la ca lb cb : Nat) (P : Nat → Bool) (n m : Nat) (w : World) (ha : la ≤ 140737488351232) (hb : lb ≤ 140737488351232) (hm : m = min la lb) (hn : n ≤ m) (hP : ∀ k, k < n → P k = true) (hN : n < m → P n = false)
    (C : ∀ (k : Nat) W, k < m → Below w.heap.size w W → Calls Tryd.prog 47 #[.int .i64 k, x, y] W fun e w' => e = .returned (.bool (P k)) ∧ Below W.heap.size W w') :
    Calls Tryd.prog 46 #[.slice pa la ca, .slice pb lb cb, .func (.func 47) #[] #[x, y]] w fun e w' => e = .returned (.int .i64 n) ∧ Below w.heap.size w w' := by
  have C := Lib.hid C
  have HP := Lib.hid hP
  have HN := Lib.hid hN
  clear hP hN
  have hl : la ≤ lb ∧ m = la ∨ lb < la ∧ m = lb := by omega
  clear hm
  rcases hl with ⟨hl, rfl⟩ | ⟨hl, rfl⟩
  · go_enter Tryd.func46, Tryd.ntmps46
    go_wp2_with fail
    go_loopw [6] (fun i wr => ∃ k : Nat, k ≤ n ∧ i = .int .i64 k ∧ Below w.heap.size w wr) (fun i _ => n - (intOf i).toNat)
    case atStart => exact ⟨0, by omega, rfl, Below.refl _ _⟩
    case round =>
      obtain ⟨k, hk, rfl, hbr⟩ := hrel
      by_cases h1 : k < n
      · have CK := Lib.hid (C.out k wr (by omega) hbr)
        rw [HP.out k h1] at CK
        go_wp2_with fail
        refine CK.out.mono ?_
        rintro e w2 ⟨rfl, hb2⟩
        go_wp2_with fail
        exact ⟨⟨k + 1, by omega, by go_num, hbr.trans (hb2.mono hbr.size)⟩, by simp only [intOf]; omega⟩
      · obtain rfl : k = n := by omega
        by_cases h2 : k < m
        · have CK := Lib.hid (C.out k wr (by omega) hbr)
          rw [HN.out h2] at CK
          go_wp2_with fail
          refine CK.out.mono ?_
          rintro e w2 ⟨rfl, hb2⟩
          go_wp2_with fail
          go_ret
          exact ⟨rfl, hbr.trans (hb2.mono hbr.size)⟩
        · go_wp2_with fail
          go_ret
          exact ⟨rfl, hbr⟩
  · go_enter Tryd.func46, Tryd.ntmps46
    go_wp2_with fail
    go_loopw [6] (fun i wr => ∃ k : Nat, k ≤ n ∧ i = .int .i64 k ∧ Below w.heap.size w wr) (fun i _ => n - (intOf i).toNat)
    case atStart => exact ⟨0, by omega, rfl, Below.refl _ _⟩
    case round =>
      obtain ⟨k, hk, rfl, hbr⟩ := hrel
      by_cases h1 : k < n
      · have CK := Lib.hid (C.out k wr (by omega) hbr)
        rw [HP.out k h1] at CK
        go_wp2_with fail
        refine CK.out.mono ?_
        rintro e w2 ⟨rfl, hb2⟩
        go_wp2_with fail
        exact ⟨⟨k + 1, by omega, by go_num, hbr.trans (hb2.mono hbr.size)⟩, by simp only [intOf]; omega⟩
      · obtain rfl : k = n := by omega
        by_cases h2 : k < m
        · have CK := Lib.hid (C.out k wr (by omega) hbr)
          rw [HN.out h2] at CK
          go_wp2_with fail
          refine CK.out.mono ?_
          rintro e w2 ⟨rfl, hb2⟩
          go_wp2_with fail
          go_ret
          exact ⟨rfl, hbr.trans (hb2.mono hbr.size)⟩
        · go_wp2_with fail
          go_ret
          exact ⟨rfl, hbr⟩
set_option maxHeartbeats 400000 in
theorem alikeb2_any (x y : Value) (pa pb : Option Addr) (la ca lb cb : Nat) (P : Nat → Bool) (n m : Nat) (w : World) (ha : la ≤ 140737488351232) (hb : lb ≤ 140737488351232) (hm : m = min la lb) (hn : n ≤ m) (hP : ∀ k, k < n → P k = true) (hN : n < m → P n = false)
    (C : ∀ (k : Nat) W, k < m → Below w.heap.size w W → Calls Tryd.prog 48 #[.int .i64 k, x, y] W fun e w' => e = .returned (.bool (P k)) ∧ Below W.heap.size W w') :
    Calls Tryd.prog 46 #[.slice pa la ca, .slice pb lb cb, .func (.func 48) #[] #[x, y]] w fun e w' => e = .returned (.int .i64 n) ∧ Below w.heap.size w w' := by
  have C := Lib.hid C
  have HP := Lib.hid hP
  have HN := Lib.hid hN
  clear hP hN
  have hl : la ≤ lb ∧ m = la ∨ lb < la ∧ m = lb := by omega
  clear hm
  rcases hl with ⟨hl, rfl⟩ | ⟨hl, rfl⟩
  · go_enter Tryd.func46, Tryd.ntmps46
    go_wp2_with fail
    go_loopw [6] (fun i wr => ∃ k : Nat, k ≤ n ∧ i = .int .i64 k ∧ Below w.heap.size w wr) (fun i _ => n - (intOf i).toNat)
    case atStart => exact ⟨0, by omega, rfl, Below.refl _ _⟩
    case round =>
      obtain ⟨k, hk, rfl, hbr⟩ := hrel
      by_cases h1 : k < n
      · have CK := Lib.hid (C.out k wr (by omega) hbr)
        rw [HP.out k h1] at CK
        go_wp2_with fail
        refine CK.out.mono ?_
        rintro e w2 ⟨rfl, hb2⟩
        go_wp2_with fail
        exact ⟨⟨k + 1, by omega, by go_num, hbr.trans (hb2.mono hbr.size)⟩, by simp only [intOf]; omega⟩
      · obtain rfl : k = n := by omega
        by_cases h2 : k < m
        · have CK := Lib.hid (C.out k wr (by omega) hbr)
          rw [HN.out h2] at CK
          go_wp2_with fail
          refine CK.out.mono ?_
          rintro e w2 ⟨rfl, hb2⟩
          go_wp2_with fail
          go_ret
          exact ⟨rfl, hbr.trans (hb2.mono hbr.size)⟩
        · go_wp2_with fail
          go_ret
          exact ⟨rfl, hbr⟩
  · go_enter Tryd.func46, Tryd.ntmps46
    go_wp2_with fail
    go_loopw [6] (fun i wr => ∃ k : Nat, k ≤ n ∧ i = .int .i64 k ∧ Below w.heap.size w wr) (fun i _ => n - (intOf i).toNat)
    case atStart => exact ⟨0, by omega, rfl, Below.refl _ _⟩
    case round =>
      obtain ⟨k, hk, rfl, hbr⟩ := hrel
      by_cases h1 : k < n
      · have CK := Lib.hid (C.out k wr (by omega) hbr)
        rw [HP.out k h1] at CK
        go_wp2_with fail
        refine CK.out.mono ?_
        rintro e w2 ⟨rfl, hb2⟩
        go_wp2_with fail
        exact ⟨⟨k + 1, by omega, by go_num, hbr.trans (hb2.mono hbr.size)⟩, by simp only [intOf]; omega⟩
      · obtain rfl : k = n := by omega
        by_cases h2 : k < m
        · have CK := Lib.hid (C.out k wr (by omega) hbr)
          rw [HN.out h2] at CK
          go_wp2_with fail
          refine CK.out.mono ?_
          rintro e w2 ⟨rfl, hb2⟩
          go_wp2_with fail
          go_ret
          exact ⟨rfl, hbr.trans (hb2.mono hbr.size)⟩
        · go_wp2_with fail
          go_ret
          exact ⟨rfl, hbr⟩
set_option maxHeartbeats 400000 in
theorem alikes1_any (x y : Value) (pa pb : Option Addr) (la ca lb cb : Nat) (P : Nat → Bool) (n m : Nat) (w : World) (ha : la ≤ 140737488351232) (hb : lb ≤ 140737488351232) (hm : m = min la lb) (hn : n ≤ m) (hP : ∀ k, k < n → P k = true) (hN : n < m → P n = false)
    (C : ∀ (k : Nat) W, k < m → Below w.heap.size w W → Calls Tryd.prog 59 #[.int .i64 k, x, y] W fun e w' => e = .returned (.bool (P k)) ∧ Below W.heap.size W w') :
    Calls Tryd.prog 58 #[.slice pa la ca, .slice pb lb cb, .func (.func 59) #[] #[x, y]] w fun e w' => e = .returned (.int .i64 n) ∧ Below w.heap.size w w' := by
  have C := Lib.hid C
  have HP := Lib.hid hP
  have HN := Lib.hid hN
  clear hP hN
  have hl : la ≤ lb ∧ m = la ∨ lb < la ∧ m = lb := by omega
  clear hm
  rcases hl with ⟨hl, rfl⟩ | ⟨hl, rfl⟩
  · go_enter Tryd.func58, Tryd.ntmps58
    go_wp2_with fail
    go_loopw [6] (fun i wr => ∃ k : Nat, k ≤ n ∧ i = .int .i64 k ∧ Below w.heap.size w wr) (fun i _ => n - (intOf i).toNat)
    case atStart => exact ⟨0, by omega, rfl, Below.refl _ _⟩
    case round =>
      obtain ⟨k, hk, rfl, hbr⟩ := hrel
      by_cases h1 : k < n
      · have CK := Lib.hid (C.out k wr (by omega) hbr)
        rw [HP.out k h1] at CK
        go_wp2_with fail
        refine CK.out.mono ?_
        rintro e w2 ⟨rfl, hb2⟩
        go_wp2_with fail
        exact ⟨⟨k + 1, by omega, by go_num, hbr.trans (hb2.mono hbr.size)⟩, by simp only [intOf]; omega⟩
      · obtain rfl : k = n := by omega
        by_cases h2 : k < m
        · have CK := Lib.hid (C.out k wr (by omega) hbr)
          rw [HN.out h2] at CK
          go_wp2_with fail
          refine CK.out.mono ?_
          rintro e w2 ⟨rfl, hb2⟩
          go_wp2_with fail
          go_ret
          exact ⟨rfl, hbr.trans (hb2.mono hbr.size)⟩
        · go_wp2_with fail
          go_ret
          exact ⟨rfl, hbr⟩
  · go_enter Tryd.func58, Tryd.ntmps58
    go_wp2_with fail
    go_loopw [6] (fun i wr => ∃ k : Nat, k ≤ n ∧ i = .int .i64 k ∧ Below w.heap.size w wr) (fun i _ => n - (intOf i).toNat)
    case atStart => exact ⟨0, by omega, rfl, Below.refl _ _⟩
    case round =>
      obtain ⟨k, hk, rfl, hbr⟩ := hrel
      by_cases h1 : k < n
      · have CK := Lib.hid (C.out k wr (by omega) hbr)
        rw [HP.out k h1] at CK
        go_wp2_with fail
        refine CK.out.mono ?_
        rintro e w2 ⟨rfl, hb2⟩
        go_wp2_with fail
        exact ⟨⟨k + 1, by omega, by go_num, hbr.trans (hb2.mono hbr.size)⟩, by simp only [intOf]; omega⟩
      · obtain rfl : k = n := by omega
        by_cases h2 : k < m
        · have CK := Lib.hid (C.out k wr (by omega) hbr)
          rw [HN.out h2] at CK
          go_wp2_with fail
          refine CK.out.mono ?_
          rintro e w2 ⟨rfl, hb2⟩
          go_wp2_with fail
          go_ret
          exact ⟨rfl, hbr.trans (hb2.mono hbr.size)⟩
        · go_wp2_with fail
          go_ret
          exact ⟨rfl, hbr⟩
set_option maxHeartbeats 400000 in
theorem alikes2_any (x y : Value) (pa pb : Option Addr) (la ca lb cb : Nat) (P : Nat → Bool) (n m : Nat) (w : World) (ha : la ≤ 140737488351232) (hb : lb ≤ 140737488351232) (hm : m = min la lb) (hn : n ≤ m) (hP : ∀ k, k < n → P k = true) (hN : n < m → P n = false)
    (C : ∀ (k : Nat) W, k < m → Below w.heap.size w W → Calls Tryd.prog 60 #[.int .i64 k, x, y] W fun e w' => e = .returned (.bool (P k)) ∧ Below W.heap.size W w') :
    Calls Tryd.prog 58 #[.slice pa la ca, .slice pb lb cb, .func (.func 60) #[] #[x, y]] w fun e w' => e = .returned (.int .i64 n) ∧ Below w.heap.size w w' := by
  have C := Lib.hid C
  have HP := Lib.hid hP
  have HN := Lib.hid hN
  clear hP hN
  have hl : la ≤ lb ∧ m = la ∨ lb < la ∧ m = lb := by omega
  clear hm
  rcases hl with ⟨hl, rfl⟩ | ⟨hl, rfl⟩
  · go_enter Tryd.func58, Tryd.ntmps58
    go_wp2_with fail
    go_loopw [6] (fun i wr => ∃ k : Nat, k ≤ n ∧ i = .int .i64 k ∧ Below w.heap.size w wr) (fun i _ => n - (intOf i).toNat)
    case atStart => exact ⟨0, by omega, rfl, Below.refl _ _⟩
    case round =>
      obtain ⟨k, hk, rfl, hbr⟩ := hrel
      by_cases h1 : k < n
      · have CK := Lib.hid (C.out k wr (by omega) hbr)
        rw [HP.out k h1] at CK
        go_wp2_with fail
        refine CK.out.mono ?_
        rintro e w2 ⟨rfl, hb2⟩
        go_wp2_with fail
        exact ⟨⟨k + 1, by omega, by go_num, hbr.trans (hb2.mono hbr.size)⟩, by simp only [intOf]; omega⟩
      · obtain rfl : k = n := by omega
        by_cases h2 : k < m
        · have CK := Lib.hid (C.out k wr (by omega) hbr)
          rw [HN.out h2] at CK
          go_wp2_with fail
          refine CK.out.mono ?_
          rintro e w2 ⟨rfl, hb2⟩
          go_wp2_with fail
          go_ret
          exact ⟨rfl, hbr.trans (hb2.mono hbr.size)⟩
        · go_wp2_with fail
          go_ret
          exact ⟨rfl, hbr⟩
  · go_enter Tryd.func58, Tryd.ntmps58
    go_wp2_with fail
    go_loopw [6] (fun i wr => ∃ k : Nat, k ≤ n ∧ i = .int .i64 k ∧ Below w.heap.size w wr) (fun i _ => n - (intOf i).toNat)
    case atStart => exact ⟨0, by omega, rfl, Below.refl _ _⟩
    case round =>
      obtain ⟨k, hk, rfl, hbr⟩ := hrel
      by_cases h1 : k < n
      · have CK := Lib.hid (C.out k wr (by omega) hbr)
        rw [HP.out k h1] at CK
        go_wp2_with fail
        refine CK.out.mono ?_
        rintro e w2 ⟨rfl, hb2⟩
        go_wp2_with fail
        exact ⟨⟨k + 1, by omega, by go_num, hbr.trans (hb2.mono hbr.size)⟩, by simp only [intOf]; omega⟩
      · obtain rfl : k = n := by omega
        by_cases h2 : k < m
        · have CK := Lib.hid (C.out k wr (by omega) hbr)
          rw [HN.out h2] at CK
          go_wp2_with fail
          refine CK.out.mono ?_
          rintro e w2 ⟨rfl, hb2⟩
          go_wp2_with fail
          go_ret
          exact ⟨rfl, hbr.trans (hb2.mono hbr.size)⟩
        · go_wp2_with fail
          go_ret
          exact ⟨rfl, hbr⟩
end Go.Proofs.YtpkbhihkhnkhnaaDoor
