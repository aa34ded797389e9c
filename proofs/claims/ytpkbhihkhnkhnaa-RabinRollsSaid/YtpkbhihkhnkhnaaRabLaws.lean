/- RabinTells, RabinSums: the walks. -/
import Derived.Test.YtpkbhihkhnkhnaaAlivh
import Derived.OpenShut
namespace Go.Proofs.Ytpkbhihkhnkhnaa
open Go.RowKit
theorem wf_u64 {a : Int} (h : (Lit.int .u64 a).wf = true) : 0 ≤ a ∧ a < 18446744073709551616 := by
  have := bounds_u64 h; omega
set_option maxRecDepth 100000 in
set_option maxHeartbeats 1000000 in
theorem rabinTells_any (p n : Int) (s : ByteArray) (wp : (Lit.int .u64 p).wf = true) (ws : s.size ≤ maxLen) (w : World) :
    Calls Try.prog 7 #[.int .u64 p, .int .i64 n, .string s] w fun e w' => e = .returned (.bool true) ∧ Below w.heap.size w w' := by
  obtain ⟨hp0, hp⟩ := wf_u64 wp
  unfold maxLen at ws
  clear wp
  by_cases hs : s.size ≤ 2000
  · by_cases hd : 8 ≤ dg p.toNat ∧ dg p.toNat ≤ 56
    · have C3 := Lib.hid (fun W => of_any p s W hp0 hp hd.1 hd.2 (by omega))
      have C4 := Lib.hid (fun W => r8of_any p s W hp0 hp hd.1 hd.2 (by omega))
      have C5 := Lib.hid (fun W => r8deg_yes p W hp0 hp hd.1 hd.2)
      by_cases hm : RMay p.toNat n
      · have C1 := Lib.hid (fun W => check_yes p n W hp0 hp hm)
        have C2 := Lib.hid (fun W => r8may_yes p n W hp0 hp hm)
        clear hm hd hp0 hp
        generalize fp p.toNat s.data.toList = f at *
        go_enter Try.func7, Try.ntmps7
        go_wp2_with fail
        refine (C1.out _).mono ?_
        rintro e w' ⟨rfl, rfl⟩
        go_wp2_with fail
        refine (C3.out _).mono ?_
        rintro e w1 ⟨rfl, hb1⟩
        go_wp2_with fail
        refine (C2.out _).mono ?_
        rintro e w' ⟨rfl, rfl⟩
        go_wp2_with fail
        refine (C5.out _).mono ?_
        rintro e w' ⟨rfl, rfl⟩
        go_wp2_with fail
        refine (C4.out _).mono ?_
        rintro e w' ⟨rfl, rfl⟩
        go_wp2_with fail
        refine (alive8_any _).mono ?_
        rintro e w2 ⟨rfl, hb2⟩
        go_wp2_with fail
        go_ret
        exact ⟨rfl, hb1.trans (hb2.mono hb1.size)⟩
      · have C1 := Lib.hid (fun W => check_no p n W hp0 hp hm)
        have C2 := Lib.hid (fun W => r8may_no p n W hp0 hp hm)
        clear hm hd hp0 hp
        generalize fp p.toNat s.data.toList = f at *
        go_enter Try.func7, Try.ntmps7
        go_wp2_with fail
        refine (C1.out _).mono ?_
        rintro e w' ⟨rfl, rfl⟩
        go_wp2_with fail
        refine (C3.out _).mono ?_
        rintro e w1 ⟨rfl, hb1⟩
        go_wp2_with fail
        refine (C2.out _).mono ?_
        rintro e w' ⟨rfl, rfl⟩
        go_wp2_with fail
        refine (C5.out _).mono ?_
        rintro e w' ⟨rfl, rfl⟩
        go_wp2_with fail
        refine (C4.out _).mono ?_
        rintro e w' ⟨rfl, rfl⟩
        go_wp2_with fail
        refine (alive8_any _).mono ?_
        rintro e w2 ⟨rfl, hb2⟩
        go_wp2_with fail
        go_ret
        exact ⟨rfl, hb1.trans (hb2.mono hb1.size)⟩
    · have hm : ¬ RMay p.toNat n := fun h => hd ⟨h.1, h.2.1⟩
      have C1 := Lib.hid (fun W => check_no p n W hp0 hp hm)
      have C2 := Lib.hid (fun W => r8may_no p n W hp0 hp hm)
      have C3 := Lib.hid (fun W => of_no p s W hp0 hp (by omega))
      have C5 := Lib.hid (fun W => r8deg_no p W hp0 hp (by omega))
      clear hm hd hp0 hp
      go_enter Try.func7, Try.ntmps7
      go_wp2_with fail
      refine (C1.out _).mono ?_
      rintro e w' ⟨rfl, rfl⟩
      go_wp2_with fail
      refine (C3.out _).mono ?_
      rintro e w' ⟨rfl, rfl⟩
      go_wp2_with fail
      refine (C2.out _).mono ?_
      rintro e w' ⟨rfl, rfl⟩
      go_wp2_with fail
      refine (C5.out _).mono ?_
      rintro e w' ⟨rfl, rfl⟩
      go_wp2_with fail
      refine (alive8_any _).mono ?_
      rintro e w2 ⟨rfl, hb2⟩
      go_wp2_with fail
      go_ret
      exact ⟨rfl, hb2⟩
  · clear hp0 hp
    go_enter Try.func7, Try.ntmps7
    go_wp2_with fail
    refine (alive8_any _).mono ?_
    rintro e w2 ⟨rfl, hb2⟩
    go_wp2_with fail
    go_ret
    exact ⟨rfl, hb2⟩
end Go.Proofs.Ytpkbhihkhnkhnaa
