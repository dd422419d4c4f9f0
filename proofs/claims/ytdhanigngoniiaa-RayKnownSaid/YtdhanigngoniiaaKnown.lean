/-
  The chapter's examples: RayKnown gives true.
-/
import Derived.Test.YtdhanigngoniiaaGoes
import Derived.Test.YtdhanigngoniiaaFlat
import Derived.Test.YtdhanigngoniiaaOpen
namespace Go.Proofs.Ytdhanigngoniiaa
open Go.RowKit
set_option linter.unusedSimpArgs false
set_option linter.unusedVariables false
theorem kE0 : wayE 0 20 0 1 0 0 3 = 0 := by decide +kernel
theorem kP0 : wayP 0 20 0 1 0 0 3 = [(1, 20, 0), (2, 20, 0), (3, 20, 0)] := by decide +kernel
theorem kE1 : wayE 0 20 0 2 0 (-1) 4 = 0 := by decide +kernel
theorem kP1 : wayP 0 20 0 2 0 (-1) 4 = [(1, 20, 0), (1, 20, -1), (2, 20, -1), (3, 20, -1)] := by decide +kernel
theorem kE2 : wayE 0 62 0 0 1 0 9 = 0 := by decide +kernel
theorem kP2 : wayP 0 62 0 0 1 0 9 = [(0, 63, 0)] := by decide +kernel
theorem kE3 : wayE 0 20 0 0 (-5) 0 0 = 0 := by decide +kernel
theorem kP3 : wayP 0 20 0 0 (-5) 0 0 = [] := by decide +kernel
theorem kN0 : (wayE 0 0 0 0 0 0 1 == 2 && (wayP 0 0 0 0 0 0 1).length == 0) = true := by decide +kernel
theorem kN1 : (wayE 0 0 0 1001 0 0 1 == 2 && (wayP 0 0 0 1001 0 0 1).length == 0) = true := by decide +kernel
theorem kN2 : (wayE 0 0 0 1 0 0 257 == 2 && (wayP 0 0 0 1 0 0 257).length == 0) = true := by decide +kernel
theorem kN3 : (wayE 0 0 0 1 0 0 (-1) == 2 && (wayP 0 0 0 1 0 0 (-1)).length == 0) = true := by decide +kernel

set_option maxRecDepth 100000 in
set_option maxHeartbeats 4000000 in
theorem known_walk (w : World) : Calls Try.prog 4 #[] w fun r w' => r = .returned (.bool true) ∧ Below w.heap.size w w' := by
  go_enter Try.func4, Try.ntmps4
  go_wp2_with fail
  refine (awake_calls _).mono ?_
  rintro e w1 ⟨rfl, hb⟩
  have HB := Lib.hid (below_step ((Below.refl w.heap.size w).alloc (by first | exact Nat.le_refl _ | (simp; done) | (simp; omega) | omega) _) (by first | exact Nat.le_refl _ | (simp; done) | (simp; omega) | omega) hb)
  have b0 := (Blk.new_at (w := w) (n := w.heap.size) #[.int .i64 0, .int .i64 20, .int .i64 0] 23 (by simp)).below hb (by first | exact Nat.le_refl _ | (simp; done) | (simp; omega) | omega)
  clear hb
  have b0_l := b0.lt
  have b0_0 := b0.cell 0 rfl
  have b0_1 := b0.cell 1 rfl
  have b0_2 := b0.cell 2 rfl
  go_wp2_with fail
  clear b0_l b0_0 b0_1 b0_2
  refine (goes_some 0 20 0 1 0 0 3 _ _ [(1, 20, 0), (2, 20, 0), (3, 20, 0)] _ kE0 kP0 (by simp) (by decide) (Blk.new _ _ _)).mono ?_
  rintro e w2 ⟨rfl, hb⟩
  replace b0 := (b0.alloc _).below hb (b0.alloc _).lt
  replace HB := Lib.hid (below_step (HB.out.alloc HB.out.size _) (by have := HB.out.size; simp; omega) hb)
  clear hb
  have b0_l := b0.lt
  have b0_0 := b0.cell 0 rfl
  have b0_1 := b0.cell 1 rfl
  have b0_2 := b0.cell 2 rfl
  go_wp2_with fail
  clear b0_l b0_0 b0_1 b0_2
  refine (goes_some 0 20 0 2 0 (-1) 4 _ _ [(1, 20, 0), (1, 20, -1), (2, 20, -1), (3, 20, -1)] _ kE1 kP1 (by simp) (by decide) (Blk.new _ _ _)).mono ?_
  rintro e w3 ⟨rfl, hb⟩
  replace b0 := (b0.alloc _).below hb (b0.alloc _).lt
  replace HB := Lib.hid (below_step (HB.out.alloc HB.out.size _) (by have := HB.out.size; simp; omega) hb)
  clear hb
  have b0_l := b0.lt
  have b0_0 := b0.cell 0 rfl
  have b0_1 := b0.cell 1 rfl
  have b0_2 := b0.cell 2 rfl
  go_wp2_with fail
  clear b0_l b0_0 b0_1 b0_2
  refine (goes_some 0 62 0 0 1 0 9 _ _ [(0, 63, 0)] _ kE2 kP2 (by simp) (by decide) (Blk.new _ _ _)).mono ?_
  rintro e w4 ⟨rfl, hb⟩
  replace b0 := (b0.alloc _).below hb (b0.alloc _).lt
  replace HB := Lib.hid (below_step (HB.out.alloc HB.out.size _) (by have := HB.out.size; simp; omega) hb)
  clear hb
  have b0_l := b0.lt
  have b0_0 := b0.cell 0 rfl
  have b0_1 := b0.cell 1 rfl
  have b0_2 := b0.cell 2 rfl
  go_wp2_with fail
  clear b0_l b0_0 b0_1 b0_2
  refine (goes_nil 0 20 0 0 (-5) 0 0 _ _ _ kE3 kP3).mono ?_
  rintro e w5 ⟨rfl, hb⟩
  replace b0 := b0.below hb b0.lt
  replace HB := Lib.hid (below_step HB.out HB.out.size hb)
  clear hb
  have b0_l := b0.lt
  have b0_0 := b0.cell 0 rfl
  have b0_1 := b0.cell 1 rfl
  have b0_2 := b0.cell 2 rfl
  go_wp2_with fail
  refine (no_calls 0 0 0 0 0 0 1 2 _).mono ?_
  rintro e w6 ⟨rfl, hb⟩
  rw [kN0]
  clear b0_l b0_0 b0_1 b0_2
  replace HB := Lib.hid (below_step HB.out HB.out.size hb)
  clear hb
  go_wp2_with fail
  refine (no_calls 0 0 0 1001 0 0 1 2 _).mono ?_
  rintro e w7 ⟨rfl, hb⟩
  rw [kN1]
  replace HB := Lib.hid (below_step HB.out HB.out.size hb)
  clear hb
  go_wp2_with fail
  refine (no_calls 0 0 0 1 0 0 257 2 _).mono ?_
  rintro e w8 ⟨rfl, hb⟩
  rw [kN2]
  replace HB := Lib.hid (below_step HB.out HB.out.size hb)
  clear hb
  go_wp2_with fail
  refine (no_calls 0 0 0 1 0 0 (-1) 2 _).mono ?_
  rintro e w9 ⟨rfl, hb⟩
  rw [kN3]
  replace HB := Lib.hid (below_step HB.out HB.out.size hb)
  clear hb
  go_wp2_with fail
  go_ret
  exact ⟨rfl, HB.out⟩
end Go.Proofs.Ytdhanigngoniiaa
