/-
  How many of a chunk's cells are movable.
-/
import Derived.Test.YtlaodkolkoefgaaChunkV
import Derived.Test.YtlaodkolkoefgaaKind2
import Derived.Deep.DeepCutAuto
namespace Go.Proofs.Ytlaodkolkoefgaa
open Go.RowKit
set_option linter.unusedSimpArgs false
set_option linter.unusedVariables false

def movN (ce : Nat → Int × Int) : Nat → Int
  | 0 => 0
  | n + 1 => movN ce n + if movK (ce n).1 then 1 else 0
theorem movN_bd (ce : Nat → Int × Int) : ∀ n : Nat, 0 ≤ movN ce n ∧ movN ce n ≤ n
  | 0 => by simp [movN]
  | n + 1 => by have := movN_bd ce n; unfold movN; split <;> omega
/-- Each number fits in a byte. -/
def U8 (f : Nat → Int × Int) : Prop := ∀ i, 0 ≤ (f i).1 ∧ (f i).1 ≤ 255 ∧ 0 ≤ (f i).2 ∧ (f i).2 ≤ 255
theorem U8.zero : U8 zeroP := fun i => by simp [zeroP]
theorem U8.upd {f : Nat → Int × Int} (h : U8 f) (i : Nat) {x y : Int} (hx : 0 ≤ x ∧ x ≤ 255) (hy : 0 ≤ y ∧ y ≤ 255) : U8 (updP f i (x, y)) := fun j => by
  unfold updP
  split
  · exact ⟨hx.1, hx.2, hy.1, hy.2⟩
  · exact h j


end Go.Proofs.Ytlaodkolkoefgaa
