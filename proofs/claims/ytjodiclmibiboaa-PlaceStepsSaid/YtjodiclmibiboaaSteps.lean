/-
  PlaceSteps' walk.
-/
import Derived.Test.YtjodiclmibiboaaWorks02
import Derived.Test.YtjodiclmibiboaaRStep02
namespace Go.Proofs.Ytjodiclmibiboaa
open Go.RowKit
set_option linter.unusedSimpArgs false
set_option linter.unusedVariables false

theorem stepV_form (x y z i : Int) : ∃ a b c : Int, stepV x y z i = .agg #[.int .i64 a, .int .i64 b, .int .i64 c] := by
  unfold stepV; split <;> exact ⟨_, _, _, rfl⟩

set_option maxRecDepth 100000 in
set_option maxHeartbeats 4000000 in
theorem steps_walk (x y z d : Int) (w : World) :
    Calls Try.prog 6 #[.agg #[.int .i64 x, .int .i64 y, .int .i64 z], .int .i64 d] w fun e w' => e = .returned (.bool true) ∧ Below w.heap.size w w' := by
  obtain ⟨u0, u1, u2, hu⟩ := stepV_form x y z d
  replace hu := Lib.hid hu
  go_enter Try.func6, Try.ntmps6
  go_wp2_with fail
  refine (step_calls _ _ _ _ _).mono ?_
  rintro e w1 ⟨rfl, hb⟩
  rw [hu.out]
  have HB := Lib.hid (below_step ((Below.refl w.heap.size w).alloc (by first | exact Nat.le_refl _ | (simp; done) | (simp; omega) | omega) _) (by first | exact Nat.le_refl _ | (simp; done) | (simp; omega) | omega) hb)
  have b0 := (Blk.new_at (w := w) (n := w.heap.size) #[.int .i64 x, .int .i64 y, .int .i64 z] 23 (by simp)).below hb (by first | exact Nat.le_refl _ | (simp; done) | (simp; omega) | omega)
  clear hb
  have b0_l := b0.lt
  have b0_0 := b0.cell 0 rfl
  have b0_1 := b0.cell 1 rfl
  have b0_2 := b0.cell 2 rfl
  go_wp2_with fail
  try clear b0_l b0_0 b0_1 b0_2
  refine (rstep_calls _ _ _ _ _).mono ?_
  rintro e w2 ⟨rfl, hb⟩
  rw [hu.out]
  replace HB := Lib.hid (below_step (HB.out.alloc (by have := HB.out.size; first | omega | (simp; omega)) _) (by have := HB.out.size; first | omega | (simp; omega)) hb)
  replace b0 := (b0.alloc _).below hb (b0.alloc _).lt
  have b1 := (Blk.new _ #[.int .i64 u0, .int .i64 u1, .int .i64 u2] 23).below hb (Blk.new _ #[.int .i64 u0, .int .i64 u1, .int .i64 u2] 23).lt
  clear hb
  have b0_l := b0.lt
  have b0_0 := b0.cell 0 rfl
  have b0_1 := b0.cell 1 rfl
  have b0_2 := b0.cell 2 rfl
  have b1_l := b1.lt
  have b1_0 := b1.cell 0 rfl
  have b1_1 := b1.cell 1 rfl
  have b1_2 := b1.cell 2 rfl
  go_wp2_with fail
  try clear b0_l b0_0 b0_1 b0_2
  try clear b1_l b1_0 b1_1 b1_2
  refine (works_calls _).mono ?_
  rintro e w3 ⟨rfl, hb⟩
  replace HB := Lib.hid (below_step (HB.out.alloc (by have := HB.out.size; first | omega | (simp; omega)) _) (by have := HB.out.size; first | omega | (simp; omega)) hb)
  replace b0 := (b0.alloc _).below hb (b0.alloc _).lt
  replace b1 := (b1.alloc _).below hb (b1.alloc _).lt
  have b2 := (Blk.new _ #[.int .i64 u0, .int .i64 u1, .int .i64 u2] 23).below hb (Blk.new _ #[.int .i64 u0, .int .i64 u1, .int .i64 u2] 23).lt
  clear hb
  have b0_l := b0.lt
  have b0_0 := b0.cell 0 rfl
  have b0_1 := b0.cell 1 rfl
  have b0_2 := b0.cell 2 rfl
  have b1_l := b1.lt
  have b1_0 := b1.cell 0 rfl
  have b1_1 := b1.cell 1 rfl
  have b1_2 := b1.cell 2 rfl
  have b2_l := b2.lt
  have b2_0 := b2.cell 0 rfl
  have b2_1 := b2.cell 1 rfl
  have b2_2 := b2.cell 2 rfl
  go_wp2_with fail
  go_ret
  exact ⟨rfl, HB.out⟩
end Go.Proofs.Ytjodiclmibiboaa
