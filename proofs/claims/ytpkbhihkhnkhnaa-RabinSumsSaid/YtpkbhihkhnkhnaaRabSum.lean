/- RabinSums: the walk. -/
import Derived.Test.YtpkbhihkhnkhnaaRabLaws
import Derived.Maps.AppendAt
import Derived.Deep.RegionWith
import Derived.Deep.AppendLies
import Derived.Deep.RegionLaw
import Derived.Deep.DeepCutAuto
namespace Go.Proofs.Ytpkbhihkhnkhnaa
open Go.RowKit
/-- by exclusive or, byte by byte -/
def zx (a b : List UInt8) : List UInt8 := List.zipWith (fun x y => x ^^^ y) a b
theorem toNat_xor8 (x y : UInt8) : (x ^^^ y).toNat = x.toNat ^^^ y.toNat := by simp
theorem val_zx (a b : List UInt8) (h : a.length = b.length) : val (zx a b) = val a ^^^ val b := by
  induction a generalizing b with
  | nil => cases b with
    | nil => rfl
    | cons y b => simp at h
  | cons x a ih => cases b with
    | nil => simp at h
    | cons y b =>
      have hl : a.length = b.length := by simpa using h
      have h1 := val_cons x a
      have h2 := val_cons y b
      have h3 := val_cons (x ^^^ y) (zx a b)
      have e : (zx a b).length = a.length := by simp [zx, hl]
      rw [e] at h3
      rw [← hl] at h2
      have hx : (x.toNat ^^^ y.toNat) * 2 ^ (8 * a.length) = x.toNat * 2 ^ (8 * a.length) ^^^ y.toNat * 2 ^ (8 * a.length) := by
        rw [← Gf2.cm_pow, ← Gf2.cm_pow, ← Gf2.cm_pow, Gf2.xor_cm]
      show val ((x ^^^ y) :: zx a b) = _
      rw [h3.1, h1.1, h2.1, shift_xor _ _ _ h1.2, shift_xor _ _ _ h2.2, shift_xor _ _ _ h3.2, ih b hl, toNat_xor8, hx, Gf2.xor_swap]
theorem fp_zx {p : Nat} (hp : p ≠ 0) (a b : List UInt8) (h : a.length = b.length) : fp p (zx a b) = fp p a ^^^ fp p b := by
  rw [fp, fp, fp, val_zx a b h, Gf2.pm_xor _ _ hp]
theorem val_zeros (n : Nat) (l : List UInt8) : val (List.replicate n 0 ++ l) = val l := by
  induction n with
  | zero => rfl
  | succ n ih => rw [List.replicate_succ, List.cons_append, (val_cons 0 _).1, ih]; simp
theorem zx_snoc (a b : ByteArray) (k : Nat) (ha : k < a.size) (hb : k < b.size) : zx (a.data.toList.take (k + 1)) (b.data.toList.take (k + 1)) = zx (a.data.toList.take k) (b.data.toList.take k) ++ [a[k] ^^^ b[k]] := by
  have h1 : a.data.toList.take (k + 1) = a.data.toList.take k ++ [a[k]] := List.take_succ_eq_append_getElem (by simpa using ha)
  have h2 : b.data.toList.take (k + 1) = b.data.toList.take k ++ [b[k]] := List.take_succ_eq_append_getElem (by simpa using hb)
  rw [h1, h2, zx, List.zipWith_append (by simp; omega)]; rfl
theorem owns_base {w : World} {base : Nat} {e : TypeId} {size : Nat} {v : Value} {n : Nat} {xs : List Value} (h : w.ownsRow base e size v n xs) {g : Nat} (hg : v.ownBlock = some g) : base ≤ g := by
  rcases h.2 with ⟨rfl, _⟩ | ⟨g', cap, cur, rfl, hb, _⟩
  · simp [Value.ownBlock] at hg
  · simp [Value.ownBlock] at hg; omega
theorem conv_nil (W : World) : (convert 46 9 (.slice none 0 0)).run Try.prog W = .ok (.string ⟨#[]⟩) W := by kernel_rfl
theorem conv_back (W : World) (v : Value) (l : List UInt8) (base : Nat) (h : W.ownsRow base 5 1 v l.length (l.map fun x => Value.int .u8 (x.toNat : Nat))) : (convert 46 9 v).run Try.prog W = .ok (.string ⟨l.toArray⟩) W := by
  rcases h.2 with ⟨rfl, h0⟩ | ⟨g, cap, cur, rfl, _, hg, _, _, _, ht⟩
  · have : l = [] := List.length_eq_zero_iff.1 h0
    subst this
    exact conv_nil W
  · refine run_convert_bytes_back (P := Try.prog) W 46 9 5 ⟨g, 0, none⟩ cap l Try.underlying46 Try.underlying5 Try.underlying9 (fun j hj => ?_)
    rw [show (⟨g, 0, none⟩ : Addr).add j = ⟨g, j, none⟩ from by unfold Addr.add; split <;> simp_all]
    have hc : W.cell? ⟨g, j, none⟩ = cur[j]? := by simp [World.cell?, hg]
    rw [hc, ← Array.getElem?_toList]
    have : (cur.toList.take (l.length * 1))[j]? = some (Value.int .u8 ((l[j].toNat : Nat) : Int)) := by rw [ht]; simp [hj]
    rwa [List.getElem?_take_of_lt (by omega)] at this
set_option maxRecDepth 100000 in
set_option maxHeartbeats 2000000 in
theorem sums_small (p : Int) (a b : ByteArray) (n : Nat) (w : World) (F : List UInt8 → Nat) (E : Int) (hs : a.size + b.size ≤ 2000) (hn : n < 256)
    (C : Hid (∀ (s : ByteArray) (W : World), s.size ≤ 4000 → Calls Try.prog 26 #[.int .u64 p, .string s] W fun e w' => e = .returned (.tuple #[.int .u64 (F s.data.toList), .int .i64 E]) ∧ Below W.heap.size W w'))
    (hF : Hid (E = 2 ∨ E = 0 ∧ (∀ l, F l < 72057594037927936) ∧ (∀ x y : List UInt8, x.length = y.length → F (zx x y) = F x ^^^ F y) ∧ (∀ k l, F (List.replicate k 0 ++ l) = F l))) :
    Calls Try.prog 9 #[.int .u64 p, .string a, .string b, .int .u8 n] w fun e w' => e = .returned (.bool true) ∧ Below w.heap.size w w' := by
  obtain ⟨m, hm⟩ : ∃ m, m = min a.size b.size := ⟨_, rfl⟩
  have hm1 : m ≤ a.size := by omega
  have hm2 : m ≤ b.size := by omega
  have hmI : min (a.size : Int) (b.size : Int) = (m : Int) := by omega
  clear hm
  go_enter Try.func9, Try.ntmps9
  go_upto_region 3 with fail
  go_cut [9] (fun s9 wx => s9 = .int .i64 m ∧ wx = w)
  case first =>
    go_wp2_with fail
    all_goals
      go_meet
      exact ⟨by rw [← hmI]; congr 1; omega, rfl⟩
  case rest =>
    obtain ⟨rfl, rfl⟩ := hcut
    go_wp2_with fail
    refine (C.out _ _ (by simp; omega)).mono ?_
    rintro e w1 ⟨rfl, hb1⟩
    have z1 := hb1.size
    go_wp2_with fail
    refine (C.out _ _ (by simp; omega)).mono ?_
    rintro e w2 ⟨rfl, hb2⟩
    have z2 := hb2.size
    go_wp2_with fail
    obtain ⟨i0, hi, hz0, hz1, hz2⟩ := info_parts infoU8
    have HMI := Lib.hid hmI
    clear hmI
    go_loopw [14, 15] (fun v i wr => ∃ k : Nat, k ≤ m ∧ i = .int .i64 k ∧ wr.ownsRow w2.heap.size 5 1 v k ((zx (a.data.toList.take k) (b.data.toList.take k)).map fun x => Value.int .u8 (x.toNat : Nat)) ∧ Below w2.heap.size w2 wr) (fun _ i _ => m - (intOf i).toNat)
    case atStart => exact ⟨0, by omega, rfl, World.ownsRow_nil _ _ _ _, Below.refl _ _⟩
    case round =>
      obtain ⟨k, hk, rfl, hown, hbr⟩ := hrel
      have zr := hbr.size
      by_cases hlt : k < m
      · have ha1 : k < a.size := by omega
        have hb1' : k < b.size := by omega
        have haI : (k : Int) < (a.size : Int) := by omega
        have hbI : (k : Int) < (b.size : Int) := by omega
        obtain ⟨x, hx, HX⟩ : ∃ x : Nat, bits .xor .u8 ((a[k].toNat : Nat) : Int) ((b[k].toNat : Nat) : Int) = (x : Int) ∧ Hid (x = (a[k] ^^^ b[k]).toNat) := ⟨_, by
          rw [u8_xor_nat _ _ a[k].toNat_lt b[k].toNat_lt, ← toNat_xor8], Lib.hid rfl⟩
        go_wp2_with fail
        go_region_law ((refine step_append_lies _ (by rfl) _ _ 46 (by rfl) w2.heap.size 5 i0 (.int .u8 0) 1 1 Try.underlying46 hi hz0 hz1 hz2 rfl (by omega) u14 k _ (by rfl) ((hown.alloc _).drew) ⟨wr.heap.size, 0, none⟩ 1 1 [.int .u8 x] (by rfl) (by rfl) (cell_one_new _ _ _) (by simp [Value.oneCell']) (by omega) (by unfold maxLen; omega) (by omega) (by simp; omega) _ rfl ?_; intro g cap w3 hown3 hgrow3 hat3 hlt3))
        all_goals
          go_wp2_with fail
          refine ⟨⟨k + 1, by omega, by go_num, ?_, ?_⟩, by simp only [intOf]; omega⟩
          · rw [zx_snoc a b k ha1 hb1', List.map_append, List.map_singleton, ← HX.out]; exact hown3
          · exact ((hbr.alloc (by omega) _).drew).grown hgrow3 (by simp; omega) (fun j hj => owns_base hown hj)
      · obtain rfl : k = m := by omega
        obtain ⟨L, hL⟩ : ∃ L, L = zx (a.data.toList.take k) (b.data.toList.take k) := ⟨_, rfl⟩
        have hll : L.length = k := by rw [hL]; simp [zx]; omega
        rw [← hL] at hown
        have cb := Lib.hid (conv_back wr u14 L w2.heap.size (by rw [hll]; exact hown))
        have HL := Lib.hid hL
        have hll1 : L.length ≤ k := by omega
        clear hL hll hown
        go_wp2_with fail
        rw [cb.out]
        go_wp2_with fail
        refine (C.out _ _ (by rw [ba_mk_size]; omega)).mono ?_
        rintro e w5 ⟨rfl, hb5⟩
        have z5 := hb5.size
        obtain ⟨W6, m1, m2, hb6, hz6⟩ : ∃ W1 : World, Hid ((Instr.makeSlice 46 (.int .i64 n) (.int .i64 n)).run Try.prog w5.drew = .ok (.slice (some ⟨w5.heap.size, 0, none⟩) n n) W1) ∧
            Hid ((convert 46 9 (.slice (some ⟨w5.heap.size, 0, none⟩) n n)).run Try.prog W1 = .ok (.string ⟨(List.replicate n (0 : UInt8)).toArray⟩) W1) ∧ Below w5.heap.size w5.drew W1 ∧ W1.heap.size = w5.heap.size + 1 := make_zero n w5.drew (by omega)
        have hb6 : Below w5.heap.size w5 W6 := (Below.refl _ w5).drew.trans hb6
        obtain ⟨Z, hZ⟩ : ∃ Z : ByteArray, Z = ⟨(List.replicate n (0 : UInt8)).toArray⟩ := ⟨_, rfl⟩
        rw [← hZ] at m2
        have m1' := m1.out
        have m2' := m2.out
        have hZs : Z.size ≤ 255 := by rw [hZ, ba_mk_size]; simp; omega
        have HZ := Lib.hid hZ
        have z6 : w5.heap.size ≤ W6.heap.size := by omega
        have hwn : IntKind.i64.wrap (n : Int) = n := IntWalk.i64_in _ (by omega)
        clear hZ m1 m2 hz6
        have C8 := Lib.hid (fun W => C.out (Z ++ a.extract 0 k) W (by simp; omega))
        rw [show (Z ++ a.extract 0 k).data.toList = List.replicate n 0 ++ a.data.toList.take k by rw [ba_append, ba_extract, List.drop_zero, HZ.out, ba_mk]] at C8
        rcases hF.out with rfl | ⟨rfl, f1, f2, f3⟩
        · go_wp2_with fail
          go_region_with (go_at_call 26; refine (C8.out _).mono ?_; rintro e w7 ⟨rfl, hb7⟩)
          go_wp2_with fail
          refine (alive8_any _).mono ?_
          rintro e w8 ⟨rfl, hb8⟩
          go_wp2_with fail
          go_ret
          have z7 := hb7.size
          refine ⟨rfl, ?_⟩
          exact (((((hb1.trans (hb2.mono (by omega))).trans (hbr.mono (by omega))).trans (hb5.mono (by omega))).trans (hb6.mono (by omega))).trans (hb7.mono (by omega))).trans (hb8.mono (by omega))
        · have g1 := f1 (a.data.toList.take k)
          have g2 := f1 (b.data.toList.take k)
          have g3 := u64_xor_nat _ _ (show F (a.data.toList.take k) < 18446744073709551616 by omega) (show F (b.data.toList.take k) < 18446744073709551616 by omega)
          rw [← f2 _ _ (by simp; omega), ← HL.out] at g3
          rw [f3] at C8
          clear f1 f2 f3 g1 g2
          go_wp2_with fail
          go_region_with (go_at_call 26; refine (C8.out _).mono ?_; rintro e w7 ⟨rfl, hb7⟩)
          go_wp2_with fail
          refine (alive8_any _).mono ?_
          rintro e w8 ⟨rfl, hb8⟩
          go_wp2_with fail
          go_ret
          have z7 := hb7.size
          refine ⟨rfl, ?_⟩
          exact (((((hb1.trans (hb2.mono (by omega))).trans (hbr.mono (by omega))).trans (hb5.mono (by omega))).trans (hb6.mono (by omega))).trans (hb7.mono (by omega))).trans (hb8.mono (by omega))
set_option maxRecDepth 100000 in
set_option maxHeartbeats 1000000 in
theorem rabinSums_any (p : Int) (a b : ByteArray) (n : Int) (wp : (Lit.int .u64 p).wf = true) (r1 : a.size ≤ 140737488351232) (r2 : b.size ≤ 140737488351232) (wn : (Lit.int .u8 n).wf = true) (w : World) :
    Calls Try.prog 9 #[.int .u64 p, .string a, .string b, .int .u8 n] w fun e w' => e = .returned (.bool true) ∧ Below w.heap.size w w' := by
  obtain ⟨hp0, hp⟩ := wf_u64 wp
  have hn := bounds_u8 wn
  clear wp wn
  by_cases hs : a.size + b.size ≤ 2000
  · obtain ⟨n, rfl⟩ := Int.eq_ofNat_of_zero_le hn.1
    by_cases hd : 8 ≤ dg p.toNat ∧ dg p.toNat ≤ 56
    · obtain ⟨q0, q1, q2, q3, q4⟩ := dg_56 (p := p.toNat) (by omega) hd.2
      exact sums_small p a b n w (fp p.toNat) 0 hs (by omega) (fun s W h => of_any p s W hp0 hp hd.1 hd.2 h)
        (.inr ⟨rfl, fun l => pm_56 _ q0 q4, fun x y h => fp_zx q0 x y h, fun k l => by rw [fp, fp, val_zeros]⟩)
    · exact sums_small p a b n w (fun _ => 0) 2 hs (by omega) (fun s W h => (of_no p s W hp0 hp (by omega)).mono fun e w' h => ⟨h.1, by rw [← h.2]; exact Below.refl _ _⟩) (.inl rfl)
  · clear hp0 hp hn
    go_enter Try.func9, Try.ntmps9
    go_wp2_with fail
    refine (alive8_any _).mono ?_
    rintro e w2 ⟨rfl, hb2⟩
    go_wp2_with fail
    go_ret
    exact ⟨rfl, hb2⟩
end Go.Proofs.Ytpkbhihkhnkhnaa
