/- EditBack: the walk, and what it asks of plain texts. -/
import Derived.Test.YtpkbhihkhnkhnaaDoorAlivk
import Derived.Test.YtpkbhihkhnkhnaaDoorOfr
namespace Go.Proofs.YtpkbhihkhnkhnaaDoor
open Go.RowKit
theorem take_app {α : Type} (l m : List α) (n : Nat) (h : n = l.length) : (l ++ m).take n = l := by subst h; simp
theorem drop_app {α : Type} (l m : List α) (n : Nat) (h : n = l.length) : (l ++ m).drop n = m := by subst h; simp
theorem back_list {α : Type} (a q : List α) (i c : Nat) (h : i + c ≤ a.length) (l : List α) (hl : l = a.take i ++ q ++ a.drop (i + c)) : l.take i ++ (a.drop i).take c ++ l.drop (i + q.length) = a := by
  have e1 : l.take i = a.take i := by rw [hl, List.append_assoc]; exact take_app _ _ _ (by simp; omega)
  have e2 : l.drop (i + q.length) = a.drop (i + c) := by rw [hl]; exact drop_app _ _ _ (by simp; omega)
  rw [e1, e2]
  have e3 : (a.drop i).take c ++ a.drop (i + c) = a.drop i := by
    rw [← List.drop_drop]; exact List.take_append_drop c (a.drop i)
  rw [List.append_assoc, e3]; exact List.take_append_drop i a
theorem of_list {α : Type} [DecidableEq α] (a b : List α) (n e : Nat) (hn : n = cp a b) (he : e = cp (a.drop n).reverse (b.drop n).reverse) :
    a.take n ++ (b.drop n).take ((b.drop n).length - e) ++ a.drop (n + ((a.drop n).length - e)) = b := by
  have h1 := cp_take a b
  rw [← hn] at h1
  have h2 := cp_take (a.drop n).reverse (b.drop n).reverse
  rw [← he] at h2
  have hle := cp_le (a.drop n).reverse (b.drop n).reverse
  rw [← he] at hle
  simp only [List.length_reverse] at hle
  have h3 : (a.drop n).drop ((a.drop n).length - e) = (b.drop n).drop ((b.drop n).length - e) := by
    have := congrArg List.reverse h2
    rwa [List.reverse_take, List.reverse_take, List.reverse_reverse, List.reverse_reverse, List.length_reverse, List.length_reverse] at this
  rw [← List.drop_drop, h3, h1, List.append_assoc, List.take_append_drop]
  exact List.take_append_drop n b
/-- what is asked of the edit of two texts -/
structure OfOk (a b : ByteArray) (n c : Nat) (q : ByteArray) : Prop where
  le : n + c ≤ a.size
  eq : a.extract 0 n ++ q ++ a.extract (n + c) a.size = b
  qs : q.size ≤ b.size
  fst : ∀ (_ : 0 < c) (h2 : 0 < q.size) (h3 : n < a.size), a[n] ≠ q[0]
  lst : ∀ (_ : 0 < c) (h2 : 0 < q.size) (h3 : n + c - 1 < a.size), a[n + c - 1] ≠ q[q.size - 1]
theorem of_ok (a b : ByteArray) (n e : Nat) (x y : ByteArray) (hn : n = pre a b) (hx : x = a.extract n a.size) (hy : y = b.extract n b.size) (he : e = suf x y) :
    OfOk a b n (x.size - e) (y.extract 0 (y.size - e)) := by
  have hn1 := pre_le a b
  rw [← hn] at hn1
  have he1 := suf_le x y
  rw [← he] at he1
  have sx : x.size = a.size - n := by rw [hx]; simp
  have sy : y.size = b.size - n := by rw [hy]; simp
  have lx : x.data.toList = a.data.toList.drop n := by rw [hx, ba_extract, List.take_of_length_le]; simp
  have ly : y.data.toList = b.data.toList.drop n := by rw [hy, ba_extract, List.take_of_length_le]; simp
  refine ⟨by omega, ?_, by simp; omega, fun h1 h2 h3 => ?_, fun h1 h2 h3 => ?_⟩
  · apply ba_ext
    rw [ba_append, ba_append]
    have := of_list a.data.toList b.data.toList n e hn (by rw [he]; unfold suf; rw [lx, ly])
    simp only [ba_extract, List.drop_zero, ly]
    rw [show a.data.toList.take a.size = a.data.toList from List.take_of_length_le (by simp)]
    simp only [List.length_drop, ← ba_size] at this
    rw [sx, sy]; exact this
  · intro hc
    have := pre_at (a := a) (b := b) (by omega) (by rw [← hn]; simp at h2; omega)
    rw [← hn] at this
    apply this
    have e1 := ba_get (y.extract 0 (y.size - e)) 0 h2
    rw [ba_extract, List.drop_zero, ly, List.getElem?_take, if_pos (by simp at h2; omega), List.getElem?_drop, Nat.add_zero] at e1
    rw [e1, ba_get a n h3, hc]
  · intro hc
    have hy0 : e < y.size := by simp at h2; omega
    have := suf_at (a := x) (b := y) (by omega) (by omega)
    rw [← he] at this
    apply this
    have := pk2 (a := x) (b := y) (k := e) (by omega) hy0
    rw [last_get rfl hy0] at hc
    have e2 : x[x.size - 1 - e]'(by omega) = a[n + (x.size - e) - 1] := by
      have g1 := ba_get x (x.size - 1 - e) (by omega)
      have g2 := ba_get a (n + (x.size - e) - 1) h3
      rw [lx, List.getElem?_drop, show n + (x.size - 1 - e) = n + (x.size - e) - 1 by omega, g2] at g1
      exact (Option.some.inj g1).symm
    rw [e2, hc] at this
    simpa using this.symm
theorem back_ok (a q : ByteArray) (i c : Nat) (h : i + c ≤ a.size) (t : ByteArray) (ht : t = a.extract 0 i ++ q ++ a.extract (i + c) a.size) : t.extract 0 i ++ a.extract i (i + c) ++ t.extract (i + q.size) t.size = a := by
  apply ba_ext
  have hl : t.data.toList = a.data.toList.take i ++ q.data.toList ++ a.data.toList.drop (i + c) := by
    rw [ht, ba_append, ba_append, ba_extract, ba_extract, List.drop_zero, show a.data.toList.take a.size = a.data.toList from List.take_of_length_le (by simp)]
  have := back_list a.data.toList q.data.toList i c (by rw [← ba_size]; exact h) t.data.toList hl
  rw [ba_append, ba_append, ba_extract, ba_extract, ba_extract, List.drop_zero, show t.data.toList.take t.size = t.data.toList from List.take_of_length_le (by simp), ba_size q]
  rw [List.drop_take, show i + c - i = c by omega]; exact this
end Go.Proofs.YtpkbhihkhnkhnaaDoor
