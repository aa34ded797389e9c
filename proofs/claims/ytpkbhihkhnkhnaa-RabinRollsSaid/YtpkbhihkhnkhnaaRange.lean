/- A range over a function whose iterator may keep state of its own in memory: the iterator's contract, and one law for the caller. -/
import Derived.RangeFuncFrom
import Derived.RangeFuncBound
import Derived.RangeFuncCalls
import Derived.RangeFuncLeaves
import Derived.RangeFuncBox
import Derived.Deep.Draws
namespace Go.Proofs.Ytpkbhihkhnkhnaa
open Go.RowKit

/-- what lies in the blocks of S lies as it lay; no block has gone -/
structure Kept (S : Nat → Prop) (A B : World) : Prop where
  os : B.os = A.os
  tape : B.tape = A.tape
  output : B.output = A.output
  size : A.heap.size ≤ B.heap.size
  block : ∀ i, i < A.heap.size → S i → B.heap[i]? = A.heap[i]?

theorem Kept.refl (S : Nat → Prop) (A : World) : Kept S A A := ⟨rfl, rfl, rfl, Nat.le_refl _, fun _ _ _ => rfl⟩
theorem Kept.trans {S : Nat → Prop} {A B C : World} (h : Kept S A B) (k : Kept S B C) : Kept S A C :=
  ⟨k.os.trans h.os, k.tape.trans h.tape, k.output.trans h.output, Nat.le_trans h.size k.size, fun i hi hs => (k.block i (Nat.lt_of_lt_of_le hi h.size) hs).trans (h.block i hi hs)⟩
theorem Kept.mono {S S' : Nat → Prop} {A B : World} (h : Kept S A B) (hS : ∀ i, S' i → S i) : Kept S' A B := ⟨h.os, h.tape, h.output, h.size, fun i hi hs => h.block i hi (hS i hs)⟩
theorem Kept.drew {S : Nat → Prop} {A B : World} (h : Kept S A B) : Kept S A B.drew := ⟨h.os, h.tape, h.output, h.size, h.block⟩
theorem Kept.drewN {S : Nat → Prop} {A B : World} (h : Kept S A B) (n : Nat) : Kept S A (B.drewN n) := ⟨h.os, h.tape, h.output, h.size, h.block⟩
theorem Kept.alloc {S : Nat → Prop} {A B : World} (h : Kept S A B) (o : Obj) : Kept S A (B.alloc o) :=
  h.trans ⟨rfl, rfl, rfl, by simp, fun k hk _ => Below.heap_alloc _ _ _ (by omega)⟩
theorem Kept.setCell {S : Nat → Prop} {A B : World} (h : Kept S A B) {p : Addr} (hp : ¬ S p.block) (u : Value) : Kept S A (B.setCell p u) :=
  h.trans ⟨rfl, rfl, rfl, by simp [World.setCell], fun k _ hs => Below.heap_setCell _ _ _ _ (fun e => hp (e ▸ hs))⟩
theorem Kept.grown {S : Nat → Prop} {A B C : World} {row : Option Nat} (h : Kept S A B) (hg : B.grownBy C row) (hr : ∀ k, row = some k → ¬ S k) : Kept S A C :=
  h.trans ⟨hg.os, hg.tape, hg.output, hg.size, fun k hk hs => hg.block k hk (fun e => hr k e.symm hs)⟩
theorem Kept.putObj (W : World) (l : Nat) (o : Obj) : Kept (fun i => i ≠ l) W (W.putObj l o) :=
  (Kept.refl _ W).grown (grownBy_putObj' W l o) (fun k e => by cases e; simp)
theorem Kept.of_below {S : Nat → Prop} {B : Nat} {A C : World} (h : Below B A C) (hS : ∀ i, i < A.heap.size → S i → i < B) : Kept S A C := ⟨h.os, h.tape, h.output, h.size, fun i hi hs => h.block i (hS i hi hs)⟩
theorem Kept.of_below' {S : Nat → Prop} {A C : World} (h : Below A.heap.size A C) : Kept S A C := .of_below h (fun _ hi _ => hi)
theorem Kept.below {S : Nat → Prop} {B : Nat} {A C : World} (h : Kept S A C) (hB : B ≤ A.heap.size) (hS : ∀ i, i < B → S i) : Below B A C := ⟨h.os, h.tape, h.output, h.size, fun i hi => h.block i (by omega) (hS i hi)⟩
theorem Kept.cell {S : Nat → Prop} {A B : World} (h : Kept S A B) {p : Addr} (hp : p.block < A.heap.size) (hs : S p.block) : B.cell? p = A.cell? p := World.cell?_of_block (w := A) (h.block p.block hp hs)
theorem Kept.frozen {S : Nat → Prop} {A B : World} (h : Kept S A B) {p : Addr} (hp : p.block < A.heap.size) (hs : S p.block) : B.frozen? p = A.frozen? p := World.frozen?_of_block (w := A) (h.block p.block hp hs)
theorem Kept.heap {S : Nat → Prop} {A B : World} (h : Kept S A B) {i : Nat} {o : Obj} (ho : A.heap[i]? = some o) (hs : S i) : B.heap[i]? = some o :=
  (h.block i (Array.getElem?_eq_some_iff.1 ho).1 hs).trans ho

/-- but for what was drawn, one world -/
structure Like (A B : World) : Prop where
  heap : A.heap = B.heap
  os : A.os = B.os
  tape : A.tape = B.tape
  output : A.output = B.output
theorem Like.cell {A B : World} (h : Like A B) (a : Addr) : A.cell? a = B.cell? a := by unfold World.cell?; rw [h.heap]
theorem Like.frozen {A B : World} (h : Like A B) (a : Addr) : A.frozen? a = B.frozen? a := by unfold World.frozen?; rw [h.heap]
theorem Kept.like {S : Nat → Prop} {A B C : World} (h : Kept S A B) (k : Like C B) : Kept S A C :=
  ⟨k.os.trans h.os, k.tape.trans h.tape, k.output.trans h.output, by rw [k.heap]; exact h.size, fun i hi hs => by rw [k.heap]; exact h.block i hi hs⟩
theorem Below.like {n : Nat} {A B C : World} (h : Below n A B) (k : Like C B) : Below n A C :=
  ⟨k.os.trans h.os, k.tape.trans h.tape, k.output.trans h.output, by rw [k.heap]; exact h.size, fun i hi => by rw [k.heap]; exact h.block i hi⟩
theorem box_stays {S : Nat → Prop} {A B : World} {b : Nat} {t : TypeId} {v : Value} (h : Boxed A b t v) (k : Kept S A B) (hs : S b) : Boxed B b t v := k.heap h hs

/-- The iterator's contract: it hands out xs in turn; Ow: the blocks that are its own, of a kind that Okay says; what the caller knows (J) abides whatever turns in these alone; a round leaves them as they lay; Cap: what the iterator reads besides. -/
def SeqOwn {α : Type} (F : Fence) (n : Nat) (P : Program) (gf : Nat) (lb : Array Value) (encs : α → Array Value) (xs : List α) (ends : Prop) (Okay : (Nat → Prop) → Prop) (Cap : World → Prop) (W0 : World) : Prop :=
  ∀ (l : Nat) (J : (Nat → Prop) → Nat → World → Prop) (Jx : World → Prop),
    (∀ Ow, Okay Ow → J Ow 0 W0) →
    (∀ Ow k A B, Okay Ow → J Ow k A → Kept (fun i => ¬ Ow i) A B → J Ow k B) →
    (∀ Ow k W, Okay Ow → J Ow k W → Cap W) →
    (ends ∨ ∀ Ow W, Okay Ow → ¬ J Ow xs.length W) →
    (∀ Ow k W (h : k < xs.length), Okay Ow → (∀ i, Ow i → i < W.heap.size) → J Ow k W → YieldAt F (n - 1) P l (encs xs[k]) W fun e W' =>
      (e = .returned (.bool true) ∧ J Ow (k + 1) W' ∧ Kept Ow W W') ∨ (e = .returned (.bool false) ∧ Jx W')) →
    CallsIn F n P gf (#[.func (.yield l) #[] #[]] ++ lb) W0 fun e W' => (∃ v, e = .returned v) ∧ ((∃ Ow, Okay Ow ∧ J Ow xs.length W') ∨ Jx W')

/-- how the body of a round may be left -/
def rangeLeft (D : Nat) (Ow : Nat → Prop) (I : (Nat → Prop) → Nat → World → Prop) (Ix : Code → World → Prop) (k : Nat) (W : World) : Exit → Act → World → Prop
  | .normal, _, W' => Kept (fun i => Ow i ∨ i = D ∨ i = D + 1) W W' ∧ I Ow (k + 1) W'
  | .ret, _, W' => Kept (fun i => i = D ∨ i = D + 1) W W' ∧ Ix .ret W'
  | .exit id, _, W' => Kept (fun i => i = D ∨ i = D + 1) W W' ∧ Ix (.exit id) W'
  | .goto t, _, W' => Kept (fun i => i = D ∨ i = D + 1) W W' ∧ Ix (.goto t) W'
  | .panic _, _, _ => False
  | .outgrown, _, _ => False

variable {F : Fence} {n : Nat} {P : Program}

theorem wpIn_range {α : Type} {g : Operand} {ps : Array Tmp} {assign body : Code} {Q : Exit → Act → World → Prop} {a : Act} {w : World}
    (hro : F.round = none) (h1 : 1 ≤ n) {gf : Nat} {lb : Array Value} (hg : a.eval g = .func (.func gf) #[] lb) (hFg : F.fn gf) (eg : ∀ args w, (callFunc gf args).run P w = .ok (.enter gf args) w)
    {encs : α → Array Value} {xs : List α} {ends : Prop} {Okay : (Nat → Prop) → Prop} {Cap : World → Prop}
    (hseq : ∀ W1, Below w.heap.size w W1 → W1.heap.size = w.heap.size + 2 → SeqOwn F (n - 1) P gf lb encs xs ends Okay Cap W1)
    (hps : ∀ x, (encs x).size = ps.size) (hOk : ∀ Ow, Okay Ow → ¬ Ow w.heap.size ∧ ¬ Ow (w.heap.size + 1))
    (I : (Nat → Prop) → Nat → World → Prop) (Ix : Code → World → Prop)
    (h0 : ∀ Ow W1, Okay Ow → Below w.heap.size w W1 → W1.heap.size = w.heap.size + 2 → I Ow 0 W1)
    (hI : ∀ Ow k A B, Okay Ow → I Ow k A → Kept (fun i => ¬ Ow i ∧ i ≠ w.heap.size + 1) A B → I Ow k B)
    (hIx : ∀ c A B, Ix c A → Kept (fun i => i ≠ w.heap.size + 1) A B → Ix c B)
    (hcap : ∀ Ow k W, Okay Ow → I Ow k W → Cap W) (hend : ends ∨ ∀ Ow W, Okay Ow → ¬ I Ow xs.length W)
    (hround : ∀ (l : Nat) (Ow : Nat → Prop) (k : Nat) (W : World) (h : k < xs.length), Okay Ow → (∀ i, Ow i → i < W.heap.size) → I Ow k W → w.heap.size + 1 < W.heap.size →
      assign.wpIn (F.inRound l) (n - 1 - 1) P (Exit.then (fun a' W' => W' = W ∧ ∀ Wb, (∀ i, Ow i → i < Wb.heap.size) → I Ow k Wb → w.heap.size + 1 < Wb.heap.size → body.wpIn (F.inRound l) (n - 1 - 1) P (rangeLeft w.heap.size Ow I Ix k Wb) a' Wb) (fun _ _ _ => False))
        { tmps := (ps.zip (encs xs[k])).foldl (fun t (p, v) => t.setIfInBounds p v) a.tmps, defers := [] } W)
    (hdone : ∀ (Ow : Nat → Prop) (W : World), Okay Ow → I Ow xs.length W → W.heap[w.heap.size]? = some (.deferred (some [])) → Q .normal { a with defers := { target := .collected w.heap.size, args := #[] } :: a.defers } W)
    (hstop : ∀ (c : Code) (W : World), Ix c W → W.heap[w.heap.size]? = some (.deferred (some [])) → c.wpIn F n P Q { a with defers := { target := .collected w.heap.size, args := #[] } :: a.defers } W) :
    (Code.rangeFunc g ps assign body).wpIn F n P Q a w := by
  refine wpIn_rangeFunc ?_
  intro fn hfn
  rw [hro]
  obtain ⟨rec, hrec⟩ : ∃ rec : LoopState → Option Code → Loop, rec = fun st pe => { state := st, pending := pe, fn, tmps := a.tmps, params := ps, assign, body, defers := w.heap.size } := ⟨_, rfl⟩
  obtain ⟨W1, hW1⟩ : ∃ W1, (w.alloc (.deferred (some []))).alloc (.loop (rec .ready none)) = W1 := ⟨_, rfl⟩
  have hL1 : W1.heap[w.heap.size + 1]? = some (.loop (rec .ready none)) := by
    rw [← hW1]; have := World.alloc_heap_new (w.alloc (.deferred (some []))) (.loop (rec .ready none)); rwa [World.size_alloc] at this
  have hK1 : W1.heap[w.heap.size]? = some (.deferred (some [])) := by
    rw [← hW1]; exact (Below.heap_alloc _ _ _ (by simp)).trans (World.alloc_heap_new w _)
  have hb1 : Below w.heap.size w W1 := by
    rw [← hW1]; exact (((Below.refl _ w).alloc (Nat.le_refl _) _).alloc (by simp) _)
  have hs1 : W1.heap.size = w.heap.size + 2 := by rw [← hW1]; simp
  refine ⟨w.heap.size + 1, [{ target := .collected w.heap.size, args := #[] }], W1, { target := .fn (.func gf) lb, args := #[.func (.yield (w.heap.size + 1)) #[] #[]] }, W1, gf,
    #[.func (.yield (w.heap.size + 1)) #[] #[]] ++ lb, W1, ?_, ?_, ?_, ?_, fun _ => h1, ?_⟩
  · rw [← hW1, hrec]; exact run_enterLoop_outer _ _ _ _ _
  · simp only [resolve, hg]
    simp [go_sem]
  · intro f' hf'; simp [Target.leads] at hf'; subst hf'; exact hFg
  · simp [invoke, go_sem, eg]
  · refine (hseq W1 hb1 hs1 (w.heap.size + 1)
      (fun Ow k W => I Ow k W ∧ W.heap[w.heap.size + 1]? = some (.loop (rec .ready none)) ∧ W.heap[w.heap.size]? = some (.deferred (some [])))
      (fun W => ∃ c, Ix c W ∧ W.heap[w.heap.size + 1]? = some (.loop (rec .done (some c))) ∧ W.heap[w.heap.size]? = some (.deferred (some [])))
      (fun Ow hO => ⟨h0 Ow W1 hO hb1 hs1, hL1, hK1⟩)
      (fun Ow k A B hO hA hK => ⟨hI Ow k A B hO hA.1 (hK.mono fun i hi => hi.1), hK.heap hA.2.1 (hOk Ow hO).2, hK.heap hA.2.2 (hOk Ow hO).1⟩)
      (fun Ow k W hO hW => hcap Ow k W hO hW.1)
      (hend.imp id (fun h Ow W hO hW => h Ow W hO hW.1))
      ?_).mono ?_
    · rintro Ow k W hk hO hOw ⟨hi, hl, hd⟩
      have hlt : w.heap.size + 1 < W.heap.size := (Array.getElem?_eq_some_iff.1 hl).1
      have hy := run_yield (P := P) (args := encs xs[k]) hl (by rw [hrec]; exact hps xs[k])
      rw [hrec] at hy
      refine ⟨fn, _, assign, body, hy, roundIn_of_wpIn hfn (wpIn_mono (hround (w.heap.size + 1) Ow k W hk hO hOw hi hlt) ?_)⟩
      rintro e0 a' W' hp0
      cases e0 with
      | normal =>
       obtain ⟨rfl, hbody⟩ := hp0
       refine ⟨_, run_beginRound hl (by rw [hrec]), ?_⟩
       have hl2 : (W'.putObj (w.heap.size + 1) (.loop { rec .ready none with state := .busy })).heap[w.heap.size + 1]? = some (.loop { rec .ready none with state := .busy }) := World.putObj_heap_same hlt
       have hk2 : (W'.putObj (w.heap.size + 1) (.loop { rec .ready none with state := .busy })).heap[w.heap.size]? = some (.deferred (some [])) := (World.putObj_heap_other (by omega)).trans hd
       have hkp := Kept.putObj W' (w.heap.size + 1) (.loop { rec .ready none with state := .busy })
       refine wpIn_mono (hbody _ (fun i hi => by rw [show (W'.putObj (w.heap.size + 1) (.loop { rec .ready none with state := .busy })).heap.size = W'.heap.size from by simp [World.putObj]]; exact hOw i hi) (hI _ _ _ _ hO hi (hkp.mono fun i hi => hi.2)) (by rw [show (W'.putObj (w.heap.size + 1) (.loop { rec .ready none with state := .busy })).heap.size = W'.heap.size from by simp [World.putObj]]; exact hlt)) ?_
       have fin : ∀ (jump : Option Code) (W3 : World), Kept (fun i => i = w.heap.size ∨ i = w.heap.size + 1) (W'.putObj (w.heap.size + 1) (.loop { rec .ready none with state := .busy })) W3 →
           (Instr.endRound (w.heap.size + 1) jump).run P W3 = .ok (.bool jump.isNone) (W3.putObj (w.heap.size + 1) (.loop (rec (if jump.isNone then .ready else .done) jump))) ∧
           W3.heap[w.heap.size + 1]? = some (.loop { rec .ready none with state := .busy }) ∧
           (W3.putObj (w.heap.size + 1) (.loop (rec (if jump.isNone then .ready else .done) jump))).heap[w.heap.size + 1]? = some (.loop (rec (if jump.isNone then .ready else .done) jump)) ∧
           (W3.putObj (w.heap.size + 1) (.loop (rec (if jump.isNone then .ready else .done) jump))).heap[w.heap.size]? = some (.deferred (some [])) := fun jump W3 hk3 => by
         have hl3 := hk3.heap hl2 (.inr rfl)
         have := run_endRound (P := P) jump hl3
         rw [hrec] at this ⊢
         exact ⟨this, by rw [hrec] at hl3; exact hl3, World.putObj_heap_same (Array.getElem?_eq_some_iff.1 hl3).1, (World.putObj_heap_other (by omega)).trans (hk3.heap hk2 (.inl rfl))⟩
       rintro e a3 W3 hp
       cases e with
       | normal =>
         obtain ⟨hk3, hi3⟩ := hp
         obtain ⟨hr, hl3, hl4, hk4⟩ := fin none W3 (hk3.mono fun i hi => .inr hi)
         have hkq := Kept.putObj W3 (w.heap.size + 1) (.loop (rec (if (none : Option Code).isNone then .ready else .done) none))
         refine ⟨_, _, hr, .inl ⟨rfl, ⟨hI _ _ _ _ hO hi3 (hkq.mono fun i hi => hi.2), hl4, hk4⟩, ?_⟩⟩
         have hne : ∀ i, Ow i → i ≠ w.heap.size + 1 := fun i hi e => (hOk Ow hO).2 (e ▸ hi)
         exact ((hkp.mono hne).trans (hk3.mono fun i hi => .inl hi)).trans (hkq.mono hne)
       | ret =>
         obtain ⟨hk3, hi3⟩ := hp
         obtain ⟨hr, hl3, hl4, hk4⟩ := fin (some .ret) W3 hk3
         exact ⟨_, _, hr, .inr ⟨rfl, .ret, hIx _ _ _ hi3 (Kept.putObj _ _ _), hl4, hk4⟩⟩
       | exit id =>
         obtain ⟨hk3, hi3⟩ := hp
         obtain ⟨hr, hl3, hl4, hk4⟩ := fin (some (.exit id)) W3 hk3
         exact ⟨_, _, hr, .inr ⟨rfl, .exit id, hIx _ _ _ hi3 (Kept.putObj _ _ _), hl4, hk4⟩⟩
       | goto t =>
         obtain ⟨hk3, hi3⟩ := hp
         obtain ⟨hr, hl3, hl4, hk4⟩ := fin (some (.goto t)) W3 hk3
         exact ⟨_, _, hr, .inr ⟨rfl, .goto t, hIx _ _ _ hi3 (Kept.putObj _ _ _), hl4, hk4⟩⟩
       | panic ch => exact hp.elim
       | outgrown => exact hp.elim
      | ret => exact hp0.elim
      | exit id => exact hp0.elim
      | goto t => exact hp0.elim
      | panic ch => exact hp0.elim
      | outgrown => exact hp0.elim
    · rintro e W2 ⟨⟨v, rfl⟩, (⟨Ow, hO, hi, hl, hk⟩ | ⟨c, hi, hl, hk⟩)⟩
      · exact ⟨none, _, by have := run_endLoop (P := P) hl (by rw [hrec]; simp); rw [hrec] at this; exact this, hdone Ow _ hO (hI _ _ _ _ hO hi ((Kept.putObj _ _ _).mono fun i hi => hi.2)) ((World.putObj_heap_other (by omega)).trans hk)⟩
      · exact ⟨some c, _, by have := run_endLoop (P := P) hl (by rw [hrec]; simp); rw [hrec] at this; exact this, hstop c _ (hIx _ _ _ hi (Kept.putObj _ _ _)) ((World.putObj_heap_other (by omega)).trans hk)⟩
end Go.Proofs.Ytpkbhihkhnkhnaa
