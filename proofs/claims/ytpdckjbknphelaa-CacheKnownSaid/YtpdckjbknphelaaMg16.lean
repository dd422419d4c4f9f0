/-
  copy and clear as operations, on rows of one-cell elements.
-/
import Derived.Test.YtpdckjbknphelaaRow1
import Derived.Lib.SliceRun
import Derived.Laws.IdiomCopy
import Derived.Test.YtpdckjbknphelaaMg15
namespace Go.Proofs.Ytpdckjbknphelaa
open Go.RowKit
set_option linter.unusedSimpArgs false
set_option linter.unusedVariables false

section
variable {P : Program}
theorem wpList_copy_run (w : World) {ops : Array Oper} {rest : List Oper} {o : Oper} {a : Act} {Q : Exit → Act → World → Prop} (hgd : o.guard = none) (d s : Operand) (t t' : TypeId)
    (ho : o.op = .call { callee := .builtin .copy, args := #[d, s], argTypes := #[t, t'] }) (v u : Value) (hd : a.eval d = v) (hs : a.eval s = u) {v' : Value} {w' : World}
    (hr : (Builtin.copy_ #[t, t'] o.type #[v, u]).run P w = .ok v' w') (h : wpList P ops Q rest (a.put o.dst v') w') : wpList P ops Q (o :: rest) a w :=
  wpList_plain hgd fun _ hK => by
    unfold Oper.wp execOp
    simp only [ho, resolve, invoke, builtin, Sem.run_bind, Sem.run_pure, Result.andThen_ok, List.map_toArray, List.map_cons, List.map_nil, hd, hs, hr]
    exact hK _ _ h
theorem wpList_clear_run (w : World) {ops : Array Oper} {rest : List Oper} {o : Oper} {a : Act} {Q : Exit → Act → World → Prop} (hgd : o.guard = none) (d : Operand) (t : TypeId)
    (ho : o.op = .call { callee := .builtin .clear, args := #[d], argTypes := #[t] }) (v : Value) (hd : a.eval d = v) {v' : Value} {w' : World}
    (hr : (Builtin.clear_ #[t] o.type #[v]).run P w = .ok v' w') (h : wpList P ops Q rest (a.put o.dst v') w') : wpList P ops Q (o :: rest) a w :=
  wpList_plain hgd fun _ hK => by
    unfold Oper.wp execOp
    simp only [ho, resolve, invoke, builtin, Sem.run_bind, Sem.run_pure, Result.andThen_ok, List.map_toArray, List.map_cons, List.map_nil, hd, hr]
    exact hK _ _ h
end
/-- What a run of stores leaves. -/
def runF (o : Nat) (vs : List Value) (f : Nat → Value) (j : Nat) : Value := if o ≤ j ∧ j < o + vs.length then vs.getD (j - o) undef else f j
theorem Row1.setCells {b n : Nat} {T : TypeId} : ∀ (vs : List Value) (o : Nat) {w : World} {f : Nat → Value}, Row1 w b T n f → Row1 (w.setCells b o vs) b T n (runF o vs f)
  | [], o, w, f, h => h.congr fun j _ => by unfold runF; rw [if_neg (by simp)]
  | v :: vs, o, w, f, h => by
    have h2 := Row1.setCells vs (o + 1) (h.set o v)
    refine Row1.congr h2 fun j _ => ?_
    unfold runF
    by_cases e : j = o
    · subst e
      rw [if_neg (by omega)]
      show (if j = j then v else f j) = _
      rw [if_pos rfl, if_pos (by simp), Nat.sub_self]
      rfl
    · by_cases e2 : o + 1 ≤ j ∧ j < o + 1 + vs.length
      · rw [if_pos e2, if_pos (by simp; omega), show j - o = (j - (o + 1)) + 1 by omega]
        rfl
      · rw [if_neg e2]
        show (if j = o then v else f j) = _
        rw [if_neg e, if_neg (by simp; omega)]
theorem But.setCells {b : Nat} : ∀ (vs : List Value) (o : Nat) {w W : World}, But b w W → But b w (W.setCells b o vs)
  | [], _, _, _, h => h
  | v :: vs, o, _, _, h => But.setCells vs (o + 1) (h.setCell o v)
end Go.Proofs.Ytpdckjbknphelaa

/-
  A frame is taken, given; how many are taken.
-/
namespace Go.Proofs.Ytpdckjbknphelaa
open Go.RowKit
set_option linter.unusedSimpArgs false
set_option linter.unusedVariables false

/-- The first frame that is not taken. -/
def Fst (n : Nat) (tk : Nat → Bool) (r : Option Nat) : Prop := (∀ k, r = some k → k < n ∧ tk k = false ∧ ∀ j, j < k → tk j = true) ∧ (r = none → ∀ j, j < n → tk j = true)
theorem Fst.unique {n : Nat} {tk : Nat → Bool} {r s : Option Nat} (h : Fst n tk r) (k : Fst n tk s) : r = s := by
  cases r with
  | none =>
    cases s with
    | none => rfl
    | some b => obtain ⟨h1, h2, _⟩ := k.1 b rfl; rw [h.2 rfl b h1] at h2; cases h2
  | some a =>
    obtain ⟨a1, a2, a3⟩ := h.1 a rfl
    cases s with
    | none => rw [k.2 rfl a a1] at a2; cases a2
    | some b =>
      obtain ⟨b1, b2, b3⟩ := k.1 b rfl
      rcases Nat.lt_trichotomy a b with e | e | e
      · rw [b3 a e] at a2; cases a2
      · rw [e]
      · rw [a3 b e] at b2; cases b2
def tkSet (tk : Nat → Bool) (i : Nat) (v : Bool) : Nat → Bool := fun j => if j = i then v else tk j
def takenT (tk : Nat → Bool) : Option Nat → Nat → Bool
  | some k => tkSet tk k true
  | none => tk
def optN : Option Nat → Int
  | some k => k
  | none => 0
theorem Po.setTk {w : World} {pb sb tb n : Nat} {ce li : Nat → Int × Int} {du : Nat → Int} {tk : Nat → Bool} (h : Po w pb sb tb n ce li du tk) (k : Nat) (v : Bool) : Po (w.setCell ⟨tb, k, none⟩ (.bool v)) pb sb tb n ce li du (tkSet tk k v) :=
  { h with pool := h.pool.set_other _ h.ne2, slab := h.slab.set_other _ h.ne3, take := (h.take.set k _).congr fun i _ => (by unfold tkSet; split <;> rfl) }
/-- So many of the first k are taken. -/
def usedN (tk : Nat → Bool) : Nat → Nat
  | 0 => 0
  | k + 1 => usedN tk k + if tk k then 1 else 0
theorem usedN_le (tk : Nat → Bool) : ∀ k, usedN tk k ≤ k
  | 0 => Nat.le_refl _
  | k + 1 => by
    have := usedN_le tk k
    unfold usedN
    split <;> omega
end Go.Proofs.Ytpdckjbknphelaa

/-
  A frame is given.
-/
namespace Go.Proofs.Ytpdckjbknphelaa
open Go.RowKit
set_option linter.unusedSimpArgs false
set_option linter.unusedVariables false

/-- All old blocks but these two are as they were. -/
structure But2 (a b : Nat) (w w' : World) : Prop where
  os : w'.os = w.os
  tape : w'.tape = w.tape
  output : w'.output = w.output
  size : w.heap.size ≤ w'.heap.size
  block : ∀ k, k < w.heap.size → k ≠ a → k ≠ b → w'.heap[k]? = w.heap[k]?
section
variable {a b : Nat} {u w W : World}
theorem But2.refl (a b : Nat) (w : World) : But2 a b w w := ⟨rfl, rfl, rfl, Nat.le_refl _, fun _ _ _ _ => rfl⟩
theorem But2.left (h : But a w W) (b : Nat) : But2 a b w W := ⟨h.os, h.tape, h.output, h.size, fun k hk h1 _ => h.block k hk h1⟩
theorem But2.right (h : But b w W) (a : Nat) : But2 a b w W := ⟨h.os, h.tape, h.output, h.size, fun k hk _ h1 => h.block k hk h1⟩
theorem But2.trans (h : But2 a b u w) (k : But2 a b w W) : But2 a b u W :=
  ⟨k.os.trans h.os, k.tape.trans h.tape, k.output.trans h.output, Nat.le_trans h.size k.size, fun i hi h1 h2 => (k.block i (Nat.lt_of_lt_of_le hi h.size) h1 h2).trans (h.block i hi h1 h2)⟩
theorem But2.of_below (h : Below w.heap.size w W) (a b : Nat) : But2 a b w W := But2.left (But.of_below h) b
theorem But2.below {B : Nat} (h : But2 a b w W) (h1 : B ≤ a) (h2 : B ≤ b) (hs : B ≤ w.heap.size) : Below B w W := ⟨h.os, h.tape, h.output, h.size, fun k hk => h.block k (by omega) (by omega) (by omega)⟩
theorem But2.step {B : Nat} {v : World} (h0 : Below B v w) (h : But2 a b w W) (h1 : B ≤ a) (h2 : B ≤ b) (hs : B ≤ w.heap.size) : Below B v W := h0.trans (h.below h1 h2 hs)
theorem Blk.but2 {c : Nat} {cs : List Value} {T : TypeId} (h : Blk w c cs T) (hb : But2 a b w W) (h1 : c ≠ a) (h2 : c ≠ b) : Blk W c cs T := (hb.block c h.lt h1 h2).trans h
theorem Row1.but2 {c n : Nat} {T : TypeId} {f : Nat → Value} (h : Row1 w c T n f) (hb : But2 a b w W) (h1 : c ≠ a) (h2 : c ≠ b) : Row1 W c T n f := h.elim fun cs h => ⟨cs, h.1.but2 hb h1 h2, h.2⟩
end

def clrP (f : Nat) (g : Nat → Int × Int) : Nat → Int × Int := fun c => if f * 4096 ≤ c ∧ c < f * 4096 + 4096 then (0, 0) else g c
def clrD (f : Nat) (g : Nat → Int) : Nat → Int := fun c => if f * 4096 ≤ c ∧ c < f * 4096 + 4096 then 0 else g c
set_option maxRecDepth 100000 in
theorem slab_clear {ce li : Nat → Int × Int} {du : Nat → Int} (f : Nat) {Z : List Value} (hl : Z.length = 40960) (hz : ∀ i, i < 40960 → Z.getD i undef = .int .u8 0) (j : Nat) : runF (f * 40960) Z (slabF ce li du) j = slabF (clrP f ce) (clrP f li) (clrD f du) j := by
  unfold runF
  by_cases h : f * 40960 ≤ j ∧ j < f * 40960 + Z.length
  · rw [if_pos h, hz _ (by omega)]
    have hc : f * 4096 ≤ j / 10 ∧ j / 10 < f * 4096 + 4096 := by omega
    unfold slabF clrP clrD
    rw [if_pos hc, if_pos hc, if_pos hc, byteN_zero]
    split
    · rfl
    split
    · rfl
    split
    · rfl
    split <;> rfl
  · rw [if_neg h]
    have hc : ¬ (f * 4096 ≤ j / 10 ∧ j / 10 < f * 4096 + 4096) := by omega
    unfold slabF clrP clrD
    rw [if_neg hc, if_neg hc, if_neg hc]
theorem U8.clr {f : Nat} {g : Nat → Int × Int} (h : U8 g) : U8 (clrP f g) := fun c => by
  unfold clrP
  split
  · simp
  · exact h c
theorem zero_u8 : ∀ w : World, (zeroValue 5).run Try.prog w = .ok (.int .u8 0) w := fun w => by kernel_rfl

end Go.Proofs.Ytpdckjbknphelaa
