/-
  The chapter's own place, asked by every statement of layer 2.
-/
import Derived.Test.YtjodiclmibiboaaPlace
namespace Go.Proofs.Ytjodiclmibiboaa
set_option linter.unusedSimpArgs false
set_option linter.unusedVariables false
open Go.RowKit

set_option maxHeartbeats 400000 in
theorem works_calls (w : World) :
    Calls Try.prog 15 #[] w fun e w' => e = .returned (.bool true) ∧ Below w.heap.size w w' := by
  have v1 : spotB (-1) 17 16 = .agg #[.int .i64 (-1), .int .i64 1, .int .i64 1] := by simp [spotB, mayB]
  have v2 : mayB (-1) 17 16 = true := by simp [mayB]
  have v3 : indexI (-1) 17 16 = 271 := by simp [indexI, mayB]
  go_enter Try.func15, Try.ntmps15
  go_wp2_with fail
  refine (spot_calls _ _ _ _).mono ?_
  rintro e w1 ⟨rfl, hb⟩
  rw [v1, v2]
  clear v1
  have hB1 := Lib.hid hb
  clear hb
  go_wp2_with fail
  refine (index_calls _ _ _ _).mono ?_
  rintro e w2 ⟨rfl, hb⟩
  rw [v2, v3]
  clear v2 v3
  have hz1 : w.heap.size ≤ w1.heap.size := hB1.out.size
  have hB := below_step (hB1.out.alloc hz1 _) (by simp; omega) hb
  have b0 := (Blk.new w1 #[.int .i64 (-1), .int .i64 1, .int .i64 1] 29).below hb (by simp)
  clear hb
  have b0_l := b0.lt
  have b0_0 := b0.cell 0 rfl
  have b0_1 := b0.cell 1 rfl
  have b0_2 := b0.cell 2 rfl
  go_wp2_with fail
  go_ret
  exact ⟨rfl, hB⟩
end Go.Proofs.Ytjodiclmibiboaa
