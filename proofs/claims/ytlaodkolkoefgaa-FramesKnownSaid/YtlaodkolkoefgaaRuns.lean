/-
  copy and clear as operations, on rows of one-cell elements.
-/
import Derived.Test.YtlaodkolkoefgaaRow1
import Derived.Lib.SliceRun
import Derived.Laws.IdiomCopy
namespace Go.Proofs.Ytlaodkolkoefgaa
open Go.RowKit
set_option linter.unusedSimpArgs false
set_option linter.unusedVariables false

section
variable {P : Program}
theorem wpList_copy_run (w : World) {ops : Array Oper} {rest : List Oper} {o : Oper} {a : Act} {Q : Exit → Act → World → Prop} (hgd : o.guard = none) (d s : Operand) (t t' : TypeId)
    (ho : o.op = .call { callee := .builtin .copy, args := #[d, s], argTypes := #[t, t'] }) (v u : Value) (hd : a.eval d = v) (hs : a.eval s = u) {v' : Value} {w' : World}
    (hr : (Builtin.copy_ #[t, t'] o.type #[v, u]).run P w = .ok v' w') (h : wpList P ops Q rest (a.put o.dst v') w') : wpList P ops Q (o :: rest) a w :=
  wpList_plain hgd fun _ hK => by
    unfold Oper.wp execOp
    simp only [ho, resolve, invoke, builtin, Sem.run_bind, Sem.run_pure, Result.andThen_ok, List.map_toArray, List.map_cons, List.map_nil, hd, hs, hr]
    exact hK _ _ h
theorem wpList_clear_run (w : World) {ops : Array Oper} {rest : List Oper} {o : Oper} {a : Act} {Q : Exit → Act → World → Prop} (hgd : o.guard = none) (d : Operand) (t : TypeId)
    (ho : o.op = .call { callee := .builtin .clear, args := #[d], argTypes := #[t] }) (v : Value) (hd : a.eval d = v) {v' : Value} {w' : World}
    (hr : (Builtin.clear_ #[t] o.type #[v]).run P w = .ok v' w') (h : wpList P ops Q rest (a.put o.dst v') w') : wpList P ops Q (o :: rest) a w :=
  wpList_plain hgd fun _ hK => by
    unfold Oper.wp execOp
    simp only [ho, resolve, invoke, builtin, Sem.run_bind, Sem.run_pure, Result.andThen_ok, List.map_toArray, List.map_cons, List.map_nil, hd, hr]
    exact hK _ _ h
end
/-- What a run of stores leaves. -/
def runF (o : Nat) (vs : List Value) (f : Nat → Value) (j : Nat) : Value := if o ≤ j ∧ j < o + vs.length then vs.getD (j - o) undef else f j
theorem Row1.setCells {b n : Nat} {T : TypeId} : ∀ (vs : List Value) (o : Nat) {w : World} {f : Nat → Value}, Row1 w b T n f → Row1 (w.setCells b o vs) b T n (runF o vs f)
  | [], o, w, f, h => h.congr fun j _ => by unfold runF; rw [if_neg (by simp)]
  | v :: vs, o, w, f, h => by
    have h2 := Row1.setCells vs (o + 1) (h.set o v)
    refine Row1.congr h2 fun j _ => ?_
    unfold runF
    by_cases e : j = o
    · subst e
      rw [if_neg (by omega)]
      show (if j = j then v else f j) = _
      rw [if_pos rfl, if_pos (by simp), Nat.sub_self]
      rfl
    · by_cases e2 : o + 1 ≤ j ∧ j < o + 1 + vs.length
      · rw [if_pos e2, if_pos (by simp; omega), show j - o = (j - (o + 1)) + 1 by omega]
        rfl
      · rw [if_neg e2]
        show (if j = o then v else f j) = _
        rw [if_neg e, if_neg (by simp; omega)]
theorem But.setCells {b : Nat} : ∀ (vs : List Value) (o : Nat) {w W : World}, But b w W → But b w (W.setCells b o vs)
  | [], _, _, _, h => h
  | v :: vs, o, _, _, h => But.setCells vs (o + 1) (h.setCell o v)
end Go.Proofs.Ytlaodkolkoefgaa
