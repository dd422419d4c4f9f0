/-
  A row of n cells in a block of its own: what lies at each of its places.
-/
import Derived.Test.YtpdckjbknphelaaChunkV
import Derived.Deep.OwnRows
namespace Go.Proofs.Ytpdckjbknphelaa
open Go.RowKit
set_option linter.unusedSimpArgs false
set_option linter.unusedVariables false

/-- Block b holds n cells; cell i is f i. -/
def Row1 (w : World) (b : Nat) (T : TypeId) (n : Nat) (f : Nat → Value) : Prop := ∃ cs, Blk w b cs T ∧ cs.length = n ∧ ∀ i, i < n → cs[i]? = some (f i)
section
variable {w w' : World} {b n : Nat} {T : TypeId} {f g : Nat → Value}
theorem Row1.lt (h : Row1 w b T n f) : b < w.heap.size := h.elim fun _ h => h.1.lt
theorem Row1.cell (h : Row1 w b T n f) {i : Nat} (hi : i < n) : w.cell? ⟨b, i, none⟩ = some (f i) := h.elim fun _ h => h.1.cell i (h.2.2 i hi)
theorem Row1.frozen (h : Row1 w b T n f) (i : Nat) : w.frozen? ⟨b, i, none⟩ = false := h.elim fun _ h => h.1.frozen i
theorem Row1.below {B : Nat} (h : Row1 w b T n f) (hb : Below B w w') (hlt : b < B) : Row1 w' b T n f := h.elim fun cs h => ⟨cs, h.1.below hb hlt, h.2⟩
theorem Row1.keep (h : Row1 w b T n f) (hb : Below w.heap.size w w') : Row1 w' b T n f := h.below hb h.lt
theorem Row1.but {c : Nat} (h : Row1 w b T n f) (hb : But c w w') (hne : b ≠ c) : Row1 w' b T n f := h.elim fun cs h => ⟨cs, h.1.but hb hne, h.2⟩
theorem Row1.alloc (h : Row1 w b T n f) (o : Obj) : Row1 (w.alloc o) b T n f := h.elim fun cs h => ⟨cs, h.1.alloc o, h.2⟩
theorem Row1.drew (h : Row1 w b T n f) : Row1 w.drew b T n f := h
theorem Row1.drewN (h : Row1 w b T n f) (k : Nat) : Row1 (w.drewN k) b T n f := h
theorem Row1.set_other (h : Row1 w b T n f) {a : Addr} (v : Value) (hne : b ≠ a.block) : Row1 (w.setCell a v) b T n f := h.elim fun cs h => ⟨cs, h.1.set_other v hne, h.2⟩
theorem Row1.congr (h : Row1 w b T n f) (hg : ∀ i, i < n → f i = g i) : Row1 w b T n g := h.elim fun cs h => ⟨cs, h.1, h.2.1, fun i hi => by rw [← hg i hi]; exact h.2.2 i hi⟩
theorem Row1.set (h : Row1 w b T n f) (k : Nat) (v : Value) : Row1 (w.setCell ⟨b, k, none⟩ v) b T n (fun i => if i = k then v else f i) := by
  obtain ⟨cs, h1, h2, h3⟩ := h
  refine ⟨cs.set k v, h1.set k v, by rw [List.length_set]; exact h2, fun i hi => ?_⟩
  show (cs.set k v)[i]? = some (if i = k then v else f i)
  rw [List.getElem?_set]
  by_cases e : k = i
  · subst e; rw [if_pos rfl, if_pos (by omega), if_pos rfl]
  · rw [if_neg e, if_neg (fun h' => e h'.symm)]; exact h3 i hi
end
theorem made_row (z : Value) (n : Nat) (w : World) (T : TypeId) : Row1 (w.alloc (.cells (madeCells #[z] n) T)) w.heap.size T n (fun _ => z) := by
  refine ⟨_, Blk.new w _ T, by simp [madeCells], fun i hi => ?_⟩
  simp [madeCells, hi, Nat.mod_one]
end Go.Proofs.Ytpdckjbknphelaa
