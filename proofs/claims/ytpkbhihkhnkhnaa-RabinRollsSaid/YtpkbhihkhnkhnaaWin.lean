/- A window, round and round: plain facts. The fingerprint of a window that goes on by one byte. -/
import Derived.Test.YtpkbhihkhnkhnaaPolyD
namespace Go.Proofs.Ytpkbhihkhnkhnaa
/-- a text as a number -/
def val (l : List UInt8) : Nat := l.foldl (fun n b => n * 256 + b.toNat) 0
theorem val_nil : val [] = 0 := rfl
theorem val_snoc (l : List UInt8) (b : UInt8) : val (l ++ [b]) = val l * 256 + b.toNat := by simp [val]
/-- a text's fingerprint -/
def fp (p : Nat) (l : List UInt8) : Nat := Gf2.pm (val l) p
theorem fp_nil (p : Nat) : fp p [] = 0 := Gf2.pm_zero p
/-- noughts ahead, then the last ones -/
def lastN (n : Nat) (l : List UInt8) : List UInt8 := (List.replicate n 0 ++ l).drop l.length
theorem lastN_length (n : Nat) (l : List UInt8) : (lastN n l).length = n := by simp [lastN]
theorem lastN_nil (n : Nat) : lastN n [] = List.replicate n 0 := by simp [lastN]
theorem lastN_snoc (n : Nat) (l : List UInt8) (b : UInt8) (hn : 1 ≤ n) : lastN n (l ++ [b]) = (lastN n l).tail ++ [b] := by
  unfold lastN
  rw [List.length_append, List.length_singleton, ← List.append_assoc, List.drop_append_of_le_length (by simp; omega), List.tail_drop]
theorem lastN_eq (n : Nat) (l m : List UInt8) (h : n ≤ m.length) : lastN n (l ++ m) = m.drop (m.length - n) := by
  unfold lastN
  rw [← List.append_assoc, List.drop_append, List.drop_eq_nil_of_le (by simp; omega), List.nil_append]
  congr 1; simp; omega
theorem shift_xor (x y k : Nat) (h : y < 2 ^ k) : x * 2 ^ k + y = x * 2 ^ k ^^^ y := by
  apply Nat.eq_of_testBit_eq; intro i
  rw [Nat.testBit_xor, Nat.mul_comm, Nat.testBit_two_pow_mul_add x h]
  have e : (2 ^ k * x).testBit i = (decide (i ≥ k) && x.testBit (i - k)) := Nat.testBit_two_pow_mul
  rw [e]
  by_cases hi : i < k
  · rw [if_pos hi]; have : ¬ (i ≥ k) := by omega
    simp [this]
  · rw [if_neg hi]
    have h1 : y.testBit i = false := Nat.testBit_lt_two_pow (Nat.lt_of_lt_of_le h (Nat.pow_le_pow_right (by omega) (by omega)))
    have h2 : i ≥ k := by omega
    simp [h1, h2]
theorem val_cons (c : UInt8) (t : List UInt8) : val (c :: t) = c.toNat * 2 ^ (8 * t.length) + val t ∧ val t < 2 ^ (8 * t.length) := by
  have h : ∀ (t : List UInt8) (x : Nat), t.foldl (fun n b => n * 256 + b.toNat) x = x * 2 ^ (8 * t.length) + val t ∧ val t < 2 ^ (8 * t.length) := by
    intro t
    induction t with
    | nil => intro x; simp [val]
    | cons d t ih =>
      intro x
      have e : 2 ^ (8 * (t.length + 1)) = 256 * 2 ^ (8 * t.length) := by rw [Nat.mul_add, Nat.pow_add, Nat.mul_comm]
      have hd : d.toNat < 256 := d.toNat_lt
      have h1 := ih (x * 256 + d.toNat)
      have h2 := ih (0 * 256 + d.toNat)
      simp only [List.foldl_cons, List.length_cons, e]
      have ev : val (d :: t) = d.toNat * 2 ^ (8 * t.length) + val t := by
        show t.foldl _ (0 * 256 + d.toNat) = _
        rw [h2.1]; simp
      rw [h1.1, ev]
      refine ⟨?_, ?_⟩
      · rw [Nat.add_mul, ← Nat.mul_assoc, Nat.add_assoc]
      · have := Nat.mul_le_mul_right (2 ^ (8 * t.length)) (show d.toNat ≤ 255 by omega)
        have h3 := h2.2
        generalize 2 ^ (8 * t.length) = z at *
        omega
  have := h t (0 * 256 + c.toNat)
  refine ⟨?_, this.2⟩
  show t.foldl _ (0 * 256 + c.toNat) = _
  rw [this.1]; simp
theorem val_replicate (n : Nat) : val (List.replicate n 0) = 0 := by
  induction n with
  | zero => rfl
  | succ n ih => rw [List.replicate_succ, (val_cons 0 _).1, ih]; simp
/-- what goes out -/
def outB (p n b : Nat) : Nat := Gf2.pm (Gf2.cm (Gf2.pm (2 ^ (8 * n)) p) b) p
theorem add_xor (x b : Nat) (h : b < 256) : x * 256 + b = x * 256 ^^^ b := shift_xor x b 8 h
theorem fp_next {p f : Nat} {l : List UInt8} (hp : p ≠ 0) (b : UInt8) (h : f = fp p l) : Gf2.pm (f * 256 + b.toNat) p = fp p (l ++ [b]) := by
  have hb : b.toNat < 256 := b.toNat_lt
  have e := Gf2.pm_mul_pow (val l) 8 hp
  rw [h, fp, fp, val_snoc, add_xor _ _ hb, add_xor _ _ hb, Gf2.pm_xor _ _ hp, Gf2.pm_xor _ _ hp, show (256 : Nat) = 2 ^ 8 from rfl, e]
theorem fp_roll {p n f : Nat} {c : UInt8} {t : List UInt8} (hp : p ≠ 0) (b : UInt8) (hn : t.length + 1 = n) (h : f = fp p (c :: t)) :
    Gf2.pm (f * 256 + b.toNat) p ^^^ outB p n c.toNat = fp p (t ++ [b]) := by
  have h2 := val_cons c (t ++ [b])
  have e : (t ++ [b]).length = n := by simp; omega
  rw [e] at h2
  rw [fp_next hp b h, outB, Gf2.pm_cm_left _ _ hp, Gf2.cm_comm, Gf2.cm_pow, List.cons_append, fp, h2.1, shift_xor _ _ _ h2.2, Gf2.pm_xor _ _ hp, Nat.xor_comm (Gf2.pm (c.toNat * 2 ^ (8 * n)) p), Gf2.xor_cancel, fp]
/-- the buffer's places, from a on, are the bytes l -/
def Win (n a : Nat) (buf : Nat → Nat) (l : List UInt8) : Prop := a < n ∧ l.length = n ∧ ∀ i, i < n → buf ((a + i) % n) = (l.getD i 0).toNat
def upd (buf : Nat → Nat) (a b : Nat) : Nat → Nat := fun i => if i = a then b else buf i
theorem Win.old {n a : Nat} {buf : Nat → Nat} {l : List UInt8} (h : Win n a buf l) : ∃ c t, l = c :: t ∧ buf a = c.toNat ∧ t.length + 1 = n := by
  obtain ⟨h1, h2, h3⟩ := h
  cases l with
  | nil => simp at h2; omega
  | cons c t =>
    refine ⟨c, t, rfl, ?_, by simpa using h2⟩
    have := h3 0 (by omega)
    simpa [Nat.mod_eq_of_lt h1] using this
theorem Win.push {n a : Nat} {buf : Nat → Nat} {l : List UInt8} (h : Win n a buf l) (b : UInt8) : Win n ((a + 1) % n) (upd buf a b.toNat) (l.tail ++ [b]) := by
  obtain ⟨c, t, rfl, _, hl⟩ := h.old
  obtain ⟨h1, h2, h3⟩ := h
  refine ⟨Nat.mod_lt _ (by omega), by simp; omega, fun i hi => ?_⟩
  have e : ((a + 1) % n + i) % n = (a + (i + 1)) % n := by rw [Nat.mod_add_mod, Nat.add_assoc, Nat.add_comm 1 i]
  rw [e, List.tail_cons]
  by_cases hin : i + 1 = n
  · have : (a + (i + 1)) % n = a := by rw [hin, Nat.add_mod_right, Nat.mod_eq_of_lt h1]
    rw [this]
    have : i = t.length := by omega
    subst this
    simp [upd, List.getD]
  · have hne : (a + (i + 1)) % n ≠ a := by
      intro he
      rcases Nat.lt_or_ge (a + (i + 1)) n with hlt | hge
      · rw [Nat.mod_eq_of_lt hlt] at he; omega
      · rw [Nat.mod_eq_sub_mod hge, Nat.mod_eq_of_lt (by omega)] at he; omega
    have h4 := h3 (i + 1) (by omega)
    unfold upd
    rw [if_neg hne, h4]
    have hit : i < t.length := by omega
    simp [List.getD, hit, List.getElem?_append]
theorem Win.new (n : Nat) (hn : 1 ≤ n) : Win n 0 (fun _ => 0) (List.replicate n 0) := by
  refine ⟨by omega, by simp, fun i hi => ?_⟩
  simp [List.getD, hi]
end Go.Proofs.Ytpkbhihkhnkhnaa
