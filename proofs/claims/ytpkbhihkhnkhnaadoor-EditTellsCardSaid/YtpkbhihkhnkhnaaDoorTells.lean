/- EditTells: the walk. -/
import Derived.Test.YtpkbhihkhnkhnaaDoorFreshr
import Derived.Test.YtpkbhihkhnkhnaaDoorOfr
import Derived.Test.YtpkbhihkhnkhnaaDoorAlivk
import Derived.Deep.DeepCutAuto
namespace Go.Proofs.YtpkbhihkhnkhnaaDoor
open Go.RowKit
theorem infoS : (Tryd.prog.info? 9).map (fun i => (i.zero, i.size, i.bytes)) = some (some (.string ⟨#[]⟩), 1, 16) := by kernel_rfl
theorem wpList_append_run {P : Program} {w : World} {ops : Array Oper} {rest : List Oper} {o : Oper} {a : Act} {Q : Exit → Act → World → Prop} (hgd : o.guard = none) (s x : Operand) (t : TypeId)
    (ho : o.op = .call { callee := .builtin .append, args := #[s, x], argTypes := #[t, t] }) (v u v' : Value) (w' : World) (hs : a.eval s = v) (hx : a.eval x = u)
    (ty : TypeId) (hty : o.type = ty) (hr : (Builtin.append_ #[t, t] ty #[v, u]).run P w = .ok v' w') (h : wpList P ops Q rest (a.put o.dst v') w') : wpList P ops Q (o :: rest) a w := by
  subst hty
  refine wpList_plain hgd fun K hK => ?_
  unfold Oper.wp execOp
  simp only [ho, resolve, invoke, builtin, Sem.run_bind, Sem.run_pure, Result.andThen_ok, List.map_toArray, List.map_cons, List.map_nil, hs, hx, hr]
  exact hK _ _ h
theorem copy_run (W : World) (v : Value) (n : Nat) (xs : List ByteArray) (hn : n ≤ 1000000) (hl : xs.length = n) (h : Row W 1 v n (xs.map .string)) :
    ∃ v' W', (Builtin.append_ #[24, 24] 24 #[.slice none 0 0, v]).run Tryd.prog W = .ok v' W' ∧ W'.ownsRow W.heap.size 9 1 v' n (xs.map .string) ∧ Below W.heap.size W W' := by
  obtain ⟨i0, hi, hz0, hz1, hz2⟩ := info_parts infoS
  obtain ⟨h0, p, cap, rfl, hp⟩ := h
  cases p with
  | none =>
    have hn0 : n = 0 := by
      rcases Nat.eq_zero_or_pos n with e | e
      · exact e
      · obtain ⟨b, off, hc, _⟩ := hp 0 (.string (xs.getD 0 ⟨#[]⟩)) (by rw [List.getElem?_map]; simp [show 0 < xs.length by omega])
        cases hc
    subst hn0
    have hx : xs = [] := List.length_eq_zero_iff.1 hl
    subst hx
    refine ⟨.slice none 0 0, W, ?_, World.ownsRow_nil _ _ _ _, Below.refl _ _⟩
    simp [Builtin.append_, run_underlying Tryd.underlying24, sizeOf, typeInfo, hi, Builtin.lenOf, Builtin.firstCells]
  | some a =>
    obtain ⟨v', W', hr, ho, hg, _, hloc⟩ := run_append_own_at (P := Tryd.prog) W W.heap.size 24 24 9 i0 (.string ⟨#[]⟩) 1 16 Tryd.underlying24 hi hz0 hz1 hz2 rfl (by decide) (.slice none 0 0) 0 [] (World.ownsRow_nil _ _ _ _) a n cap (xs.map .string) (by simpa using hl) (fun j u hj => by
      obtain ⟨b, off, e, _, hc⟩ := hp j u hj
      cases e
      rw [show (⟨b, off, none⟩ : Addr).add j = ⟨b, off + j, none⟩ from by unfold Addr.add; split <;> simp_all]; exact hc) (fun u hu => by
      obtain ⟨s, _, rfl⟩ := List.mem_map.1 hu; rfl) (by unfold maxLen; omega) (by omega) (Nat.le_refl _)
    rw [Nat.zero_add, List.nil_append] at ho
    exact ⟨v', W', hr, ho, hg.os, hg.tape, hg.output, hg.size, fun k hk => hg.block k hk (by simp [Value.ownBlock])⟩
end Go.Proofs.YtpkbhihkhnkhnaaDoor
