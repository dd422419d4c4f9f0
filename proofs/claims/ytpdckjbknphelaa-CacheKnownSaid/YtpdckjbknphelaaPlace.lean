/-
  The contracts of package place: each function gives what the plain functions here say, and leaves what lay before as it lay.
-/
import Derived.Test.YtpdckjbknphelaaBase
import Derived.Test.YtpdckjbknphelaaMg12
namespace Go.Proofs.Ytpdckjbknphelaa
set_option linter.unusedSimpArgs false
set_option linter.unusedVariables false
open Go.RowKit

def mayB (x y z : Int) : Bool := decide (-1048576 ≤ x ∧ x < 1048576 ∧ -1048576 ≤ z ∧ z < 1048576 ∧ 0 ≤ y ∧ y < 64)
theorem mayB_iff {x y z : Int} : mayB x y z = true ↔ (-1048576 ≤ x ∧ x < 1048576 ∧ -1048576 ≤ z ∧ z < 1048576 ∧ 0 ≤ y ∧ y < 64) := by simp [mayB]

def mayS (x y z : Int) : Bool := decide (-65536 ≤ x ∧ x < 65536 ∧ -65536 ≤ z ∧ z < 65536 ∧ 0 ≤ y ∧ y < 4)
theorem mayS_iff {x y z : Int} : mayS x y z = true ↔ (-65536 ≤ x ∧ x < 65536 ∧ -65536 ≤ z ∧ z < 65536 ∧ 0 ≤ y ∧ y < 4) := by simp [mayS]

set_option maxHeartbeats 400000 in
theorem mayspot_calls (x y z : Int) (w : World) :
    Calls Try.prog 11 #[.agg #[.int .i64 x, .int .i64 y, .int .i64 z]] w fun e w' => e = .returned (.bool (mayS x y z)) ∧ Below w.heap.size w w' := by
  go_enter Try.func11, Try.ntmps11
  go_wp2
  all_goals go_ret
  all_goals exact ⟨ret_bool (by rw [Bool.eq_iff_iff]; simp [mayS]; omega), (Below.refl _ _).alloc (Nat.le_refl _) _⟩

def spotB (x y z : Int) : Value := if mayB x y z then .agg #[.int .i64 (x / 16), .int .i64 (y / 16), .int .i64 (z / 16)] else .agg #[.int .i64 0, .int .i64 0, .int .i64 0]


def indexI (x y z : Int) : Int := if mayB x y z then y % 16 * 256 + z % 16 * 16 + x % 16 else 0


def ofOk (x y z i : Int) : Bool := mayS x y z && decide (0 ≤ i ∧ i < 4096)
def ofV (x y z i : Int) : Value := if ofOk x y z i then .agg #[.int .i64 (x * 16 + i % 16), .int .i64 (y * 16 + i / 256), .int .i64 (z * 16 + i / 16 % 16)] else .agg #[.int .i64 0, .int .i64 0, .int .i64 0]



end Go.Proofs.Ytpdckjbknphelaa
