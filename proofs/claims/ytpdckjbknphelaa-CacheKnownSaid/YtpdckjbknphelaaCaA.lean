/-
  The cache's map: what it tells of a spot.
-/
import Derived.Test.YtpdckjbknphelaaRow1
import Derived.Maps.OwnSet
import Derived.DeepKeys4
namespace Go.Proofs.Ytpdckjbknphelaa
open Go.RowKit
set_option linter.unusedSimpArgs false
set_option linter.unusedVariables false

abbrev Sp := Int × Int × Int
def spOk (s : Sp) : Prop := (Lit.int .i64 s.1).wf = true ∧ (Lit.int .i64 s.2.1).wf = true ∧ (Lit.int .i64 s.2.2).wf = true
def spL (s : Sp) : List Value := [.int .i64 s.1, .int .i64 s.2.1, .int .i64 s.2.2]
def spV (s : Sp) : Value := .agg #[.int .i64 s.1, .int .i64 s.2.1, .int .i64 s.2.2]
theorem spV_inj {s t : Sp} (h : spV s = spV t) : s = t := by
  obtain ⟨a, b, c⟩ := s
  obtain ⟨d, e, f⟩ := t
  unfold spV at h
  simpa using h
theorem laidOut : laidOutB Try.prog = true := by kernel_rfl
theorem spotLaw : WideMaps.KeyLaw Try.prog 23 := deep_law_laid laidOut (m := 3) (by omega) (of_decide_eq_true (by kernel_rfl)) (by kernel_rfl) (by rw [Try.underlying23])
theorem spotKeyed : Maps.Keyed Try.prog 23 := Maps.Keyed.of_law spotLaw
theorem keyLits_int (d : Nat) {n : Int} (h : (Lit.int .i64 n).wf = true) : Try.prog.keyLits (d + 1) 3 [.int .i64 n] = some [.int .i64 n] := by
  unfold Program.keyLits
  rw [Try.underlying3]
  simp [h]
theorem spotSize : Try.prog.types.size = Try.prog.types.size - 1 + 1 := by kernel_rfl
theorem spKey {s : Sp} (h : spOk s) : ∃ l, keyOf Try.prog 23 (spV s) = some l := by
  obtain ⟨a, b, c⟩ := s
  obtain ⟨h1, h2, h3⟩ := h
  simp only at h1 h2 h3
  have hk : Try.prog.keyType 23 = true := by kernel_rfl
  have hc : Try.prog.cellsOf 23 = 3 := by kernel_rfl
  have hi : Try.prog.cellsOf 3 = 1 := by kernel_rfl
  have hf : (Value.agg #[.int .i64 a, .int .i64 b, .int .i64 c]).formed Try.prog 23 = true := by simp [Value.formed, Try.underlying23, hc]
  refine ⟨.string (keyBytes [.int .i64 a, .int .i64 b, .int .i64 c]), ?_⟩
  have hl : Try.prog.keyLits (Try.prog.types.size + 1) 23 [.int .i64 a, .int .i64 b, .int .i64 c] = some [.int .i64 a, .int .i64 b, .int .i64 c] := by
    rw [spotSize]
    unfold Program.keyLits
    rw [Try.underlying23]
    simp [List.mapM_cons, hc, hi, keyLits_int, h1, h2, h3]
  show keyOf Try.prog 23 (.agg #[.int .i64 a, .int .i64 b, .int .i64 c]) = _
  unfold keyOf
  rw [Try.underlying23]
  simp only [hk, hf, Bool.and_self, if_true]
  rw [show (Value.agg #[.int .i64 a, .int .i64 b, .int .i64 c]).cells.toList = [.int .i64 a, .int .i64 b, .int .i64 c] from rfl, hl]
  rfl
def Mp (w : World) (b n : Nat) (g : Sp → Option Nat) : Prop := ∃ D : DataW Unit, w.ownsMap Try.prog 23 (plainElem Try.prog 3) b n D ∧ ∀ s l, keyOf Try.prog 23 (spV s) = some l → match g s with
  | some i => Maps.has D l = true ∧ D.atKey l (.lit (.int .i64 0)) = .lit (.int .i64 i)
  | none => Maps.has D l = false
theorem intElem {n : Int} (h : (Lit.int .i64 n).wf = true) : plainElem (H := Unit) Try.prog 3 (.int .i64 n) = some (.lit (.int .i64 n), []) := plainElem_int Try.underlying3 h
theorem zeroInt : ∀ w : World, (zeroValue 3).run Try.prog w = .ok (.int .i64 0) w := fun w => by kernel_rfl
theorem Mp.start (w : World) : Mp (w.alloc (.map #[] 0)) w.heap.size 0 (fun _ => none) := ⟨_, World.ownsMap_made w Try.prog 23 _, fun s l _ => rfl⟩
theorem Mp.lt {w : World} {b n : Nat} {g : Sp → Option Nat} (h : Mp w b n g) : b < w.heap.size := h.elim fun D h => h.1.lt
/-- The block stands. -/
theorem Mp.block {w w' : World} {b n : Nat} {g : Sp → Option Nat} (h : Mp w b n g) (hb : w'.heap[b]? = w.heap[b]?) : Mp w' b n g := by
  obtain ⟨D, ⟨es, clock, h1, h2⟩, h3⟩ := h
  exact ⟨D, ⟨es, clock, by rw [hb]; exact h1, h2⟩, h3⟩
theorem Mp.keep {w w' : World} {b n : Nat} {g : Sp → Option Nat} (h : Mp w b n g) (hb : Below w.heap.size w w') : Mp w' b n g := h.block (hb.block b h.lt)
theorem Mp.but {w w' : World} {a b n : Nat} {g : Sp → Option Nat} (h : Mp w b n g) (hb : But a w w') (hne : b ≠ a) : Mp w' b n g := h.block (hb.block b h.lt hne)
theorem Mp.mono {w : World} {b n m : Nat} {g : Sp → Option Nat} (h : Mp w b n g) (hm : n ≤ m) : Mp w b m g := h.elim fun D h => ⟨D, h.1.mono hm, h.2⟩
def inI (n : Int) : Prop := (Lit.int .i64 n).wf = true
/-- What is looked up. -/
theorem Mp.look {w : World} {b n : Nat} {g : Sp → Option Nat} (h : Mp w b n g) {s : Sp} (hs : spOk s) : ∃ c : Int, (Instr.lookup 61 (.map (some b)) (spV s) true).run Try.prog w = .ok (.tuple #[.int .i64 c, .bool (g s).isSome]) w ∧ ∀ i, g s = some i → c = (i : Int) := by
  obtain ⟨D, hD, hg⟩ := h
  obtain ⟨l, hl⟩ := spKey hs
  obtain ⟨v, ps, hrun, hv⟩ := hD.look_ok spotKeyed Try.underlying61 (zeroInt w) (intElem (by decide)) hl
  obtain ⟨c, rfl, hc, _⟩ := plainElem_int_inv Try.underlying3 hv
  have hgs := hg s l hl
  cases hgg : g s with
  | none =>
    rw [hgg] at hgs
    rw [hgs] at hrun
    exact ⟨c, hrun, fun i e => by cases e⟩
  | some i =>
    rw [hgg] at hgs
    rw [hgs.1] at hrun
    refine ⟨c, hrun, fun j e => ?_⟩
    cases e
    have h1 := congrArg Prod.fst hc
    simp only at h1
    rw [hgs.2] at h1
    simp only [DataW.lit.injEq, Lit.int.injEq, true_and] at h1
    exact h1.symm
theorem Mp.look1 {w : World} {b n : Nat} {g : Sp → Option Nat} (h : Mp w b n g) {s : Sp} (hs : spOk s) {i : Nat} (hi : g s = some i) : (Instr.lookup 61 (.map (some b)) (spV s) false).run Try.prog w = .ok (.int .i64 i) w := by
  obtain ⟨D, hD, hg⟩ := h
  obtain ⟨l, hl⟩ := spKey hs
  obtain ⟨c, hrun, hc, _⟩ := hD.lookup_int spotKeyed Try.underlying61 Try.underlying3 (zeroInt w) hl
  have hgs := hg s l hl
  rw [hi] at hgs
  rw [hgs.2] at hc
  simp only [DataW.lit.injEq, Lit.int.injEq, true_and] at hc
  rw [hc]
  exact hrun
theorem But.turned {w w' : World} {b : Nat} (h : w.mapTurned w' b) : But b w w' := by
  obtain ⟨es, clock, es', clock', hb, rfl⟩ := h
  exact ⟨rfl, rfl, rfl, by simp [ChangeMaps.setBlock], fun k hk hne => by simp [ChangeMaps.setBlock, Array.getElem?_setIfInBounds, Ne.symm hne]⟩
def setM (g : Sp → Option Nat) (s : Sp) (v : Option Nat) : Sp → Option Nat := fun t => if t = s then v else g t
theorem Mp.drop {w : World} {b n : Nat} {g : Sp → Option Nat} (h : Mp w b n g) {s : Sp} (hs : spOk s) (ty : TypeId) : ∃ w', (Builtin.delete_ #[61, 23] ty #[.map (some b), spV s]).run Try.prog w = .ok (.tuple #[]) w' ∧ Mp w' b n (setM g s none) ∧ But b w w' := by
  obtain ⟨D, hD, hg⟩ := h
  obtain ⟨l, hl⟩ := spKey hs
  obtain ⟨w', hrun, hD', ht⟩ := hD.drop spotKeyed Try.underlying61 hl ty
  refine ⟨w', hrun, ⟨_, hD', fun t l' hl' => ?_⟩, But.turned ht⟩
  unfold setM
  by_cases e : t = s
  · subst e
    rw [hl] at hl'
    obtain rfl := Option.some.inj hl'
    rw [if_pos rfl]
    exact Maps.has_del_same
  · rw [if_neg e]
    have hne : l' ≠ l := fun e2 => e (spV_inj (spotKeyed.inj hl' (by rw [e2]; exact hl)))
    rw [Maps.has_del_other hne, Maps.atKey_del_other hne]
    exact hg t l' hl'
theorem Mp.put {w : World} {b n : Nat} {g : Sp → Option Nat} (h : Mp w b n g) (hn : n < maxLen) {s : Sp} (hs : spOk s) {i : Nat} (hi : (Lit.int .i64 (i : Int)).wf = true) : ∃ w', (Instr.mapUpdate 61 (.map (some b)) (spV s) (.int .i64 i)).run Try.prog w = .ok () w' ∧ Mp w' b (n + 1) (setM g s (some i)) ∧ But b w w' := by
  obtain ⟨D, hD, hg⟩ := h
  obtain ⟨l, hl⟩ := spKey hs
  obtain ⟨w', hrun, hD', ht⟩ := hD.store spotKeyed Try.underlying61 hn hl (intElem hi)
  refine ⟨w', hrun, ⟨_, hD', fun t l' hl' => ?_⟩, But.turned ht⟩
  unfold setM
  by_cases e : t = s
  · subst e
    rw [hl] at hl'
    obtain rfl := Option.some.inj hl'
    rw [if_pos rfl]
    exact ⟨Maps.has_put_same hD.isMap (spotKeyed.key hl) _, Maps.atKey_put_same hD.isMap (spotKeyed.key hl) _ _⟩
  · rw [if_neg e]
    have hne : l' ≠ l := fun e2 => e (spV_inj (spotKeyed.inj hl' (by rw [e2]; exact hl)))
    rw [Maps.has_put_other hne, Maps.atKey_put_other hne]
    exact hg t l' hl'
end Go.Proofs.Ytpdckjbknphelaa
