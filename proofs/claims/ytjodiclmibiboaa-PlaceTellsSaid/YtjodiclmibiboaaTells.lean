/-
  PlaceTells' walk.
-/
import Derived.Test.YtjodiclmibiboaaWorks02
import Derived.Test.YtjodiclmibiboaaRef02
namespace Go.Proofs.Ytjodiclmibiboaa
open Go.RowKit
set_option linter.unusedSimpArgs false
set_option linter.unusedVariables false

theorem spotB_form (x y z : Int) : ∃ a b c : Int, spotB x y z = .agg #[.int .i64 a, .int .i64 b, .int .i64 c] := by
  unfold spotB; split <;> exact ⟨_, _, _, rfl⟩
theorem ofV_form (x y z i : Int) : ∃ a b c : Int, ofV x y z i = .agg #[.int .i64 a, .int .i64 b, .int .i64 c] := by
  unfold ofV; split <;> exact ⟨_, _, _, rfl⟩

set_option maxRecDepth 100000 in
set_option maxHeartbeats 2000000 in
theorem tells_walk (x y z a b c i : Int) (w : World) :
    Calls Try.prog 4 #[.agg #[.int .i64 x, .int .i64 y, .int .i64 z], .agg #[.int .i64 a, .int .i64 b, .int .i64 c], .int .i64 i] w fun e w' => e = .returned (.bool true) ∧ Below w.heap.size w w' := by
  obtain ⟨u0, u1, u2, hu⟩ := spotB_form x y z
  obtain ⟨v0, v1, v2, hv⟩ := ofV_form a b c i
  replace hu := Lib.hid hu
  replace hv := Lib.hid hv
  go_enter Try.func4, Try.ntmps4
  go_wp2_with fail
  refine (spot_calls _ _ _ _).mono ?_
  rintro e w1 ⟨rfl, hb⟩
  rw [hu.out]
  have HB := Lib.hid (below_step (((Below.refl w.heap.size w).alloc (by first | exact Nat.le_refl _ | (simp; done) | (simp; omega) | omega) _).alloc (by first | exact Nat.le_refl _ | (simp; done) | (simp; omega) | omega) _) (by first | exact Nat.le_refl _ | (simp; done) | (simp; omega) | omega) hb)
  have b0 := ((Blk.new_at (w := w) (n := w.heap.size) #[.int .i64 x, .int .i64 y, .int .i64 z] 23 (by simp)).alloc (.cells #[.int .i64 a, .int .i64 b, .int .i64 c] 29)).below hb (by first | exact Nat.le_refl _ | (simp; done) | (simp; omega) | omega)
  have b1 := (Blk.new_at (w := (w.alloc (.cells #[.int .i64 x, .int .i64 y, .int .i64 z] 23))) (n := w.heap.size + 1) #[.int .i64 a, .int .i64 b, .int .i64 c] 29 (by simp)).below hb (by first | exact Nat.le_refl _ | (simp; done) | (simp; omega) | omega)
  clear hb
  have b0_l := b0.lt
  have b0_0 := b0.cell 0 rfl
  have b0_1 := b0.cell 1 rfl
  have b0_2 := b0.cell 2 rfl
  have b1_l := b1.lt
  have b1_0 := b1.cell 0 rfl
  have b1_1 := b1.cell 1 rfl
  have b1_2 := b1.cell 2 rfl
  go_wp2_with fail
  try clear b0_l b0_0 b0_1 b0_2
  try clear b1_l b1_0 b1_1 b1_2
  refine (rspot_calls _ _ _ _).mono ?_
  rintro e w2 ⟨rfl, hb⟩
  rw [hu.out]
  replace HB := Lib.hid (below_step (HB.out.alloc (by have := HB.out.size; first | omega | (simp; omega)) _) (by have := HB.out.size; first | omega | (simp; omega)) hb)
  replace b0 := (b0.alloc _).below hb (b0.alloc _).lt
  replace b1 := (b1.alloc _).below hb (b1.alloc _).lt
  have b2 := (Blk.new _ #[.int .i64 u0, .int .i64 u1, .int .i64 u2] 29).below hb (Blk.new _ #[.int .i64 u0, .int .i64 u1, .int .i64 u2] 29).lt
  clear hb
  have b0_l := b0.lt
  have b0_0 := b0.cell 0 rfl
  have b0_1 := b0.cell 1 rfl
  have b0_2 := b0.cell 2 rfl
  have b1_l := b1.lt
  have b1_0 := b1.cell 0 rfl
  have b1_1 := b1.cell 1 rfl
  have b1_2 := b1.cell 2 rfl
  have b2_l := b2.lt
  have b2_0 := b2.cell 0 rfl
  have b2_1 := b2.cell 1 rfl
  have b2_2 := b2.cell 2 rfl
  go_wp2_with fail
  try clear b0_l b0_0 b0_1 b0_2
  try clear b1_l b1_0 b1_1 b1_2
  try clear b2_l b2_0 b2_1 b2_2
  refine (index_calls _ _ _ _).mono ?_
  rintro e w3 ⟨rfl, hb⟩
  replace HB := Lib.hid (below_step (HB.out.alloc (by have := HB.out.size; first | omega | (simp; omega)) _) (by have := HB.out.size; first | omega | (simp; omega)) hb)
  replace b0 := (b0.alloc _).below hb (b0.alloc _).lt
  replace b1 := (b1.alloc _).below hb (b1.alloc _).lt
  replace b2 := (b2.alloc _).below hb (b2.alloc _).lt
  have b3 := (Blk.new _ #[.int .i64 u0, .int .i64 u1, .int .i64 u2] 29).below hb (Blk.new _ #[.int .i64 u0, .int .i64 u1, .int .i64 u2] 29).lt
  clear hb
  have b0_l := b0.lt
  have b0_0 := b0.cell 0 rfl
  have b0_1 := b0.cell 1 rfl
  have b0_2 := b0.cell 2 rfl
  have b1_l := b1.lt
  have b1_0 := b1.cell 0 rfl
  have b1_1 := b1.cell 1 rfl
  have b1_2 := b1.cell 2 rfl
  have b2_l := b2.lt
  have b2_0 := b2.cell 0 rfl
  have b2_1 := b2.cell 1 rfl
  have b2_2 := b2.cell 2 rfl
  have b3_l := b3.lt
  have b3_0 := b3.cell 0 rfl
  have b3_1 := b3.cell 1 rfl
  have b3_2 := b3.cell 2 rfl
  go_wp2_with fail
  try clear b0_l b0_0 b0_1 b0_2
  try clear b1_l b1_0 b1_1 b1_2
  try clear b2_l b2_0 b2_1 b2_2
  try clear b3_l b3_0 b3_1 b3_2
  refine (rindex_calls _ _ _ _).mono ?_
  rintro e w4 ⟨rfl, hb⟩
  replace HB := Lib.hid (below_step HB.out (by have := HB.out.size; first | omega | (simp; omega)) hb)
  replace b0 := b0.below hb b0.lt
  replace b1 := b1.below hb b1.lt
  replace b2 := b2.below hb b2.lt
  replace b3 := b3.below hb b3.lt
  clear hb
  have b0_l := b0.lt
  have b0_0 := b0.cell 0 rfl
  have b0_1 := b0.cell 1 rfl
  have b0_2 := b0.cell 2 rfl
  have b1_l := b1.lt
  have b1_0 := b1.cell 0 rfl
  have b1_1 := b1.cell 1 rfl
  have b1_2 := b1.cell 2 rfl
  have b2_l := b2.lt
  have b2_0 := b2.cell 0 rfl
  have b2_1 := b2.cell 1 rfl
  have b2_2 := b2.cell 2 rfl
  have b3_l := b3.lt
  have b3_0 := b3.cell 0 rfl
  have b3_1 := b3.cell 1 rfl
  have b3_2 := b3.cell 2 rfl
  go_wp2_with fail
  try clear b0_l b0_0 b0_1 b0_2
  try clear b1_l b1_0 b1_1 b1_2
  try clear b2_l b2_0 b2_1 b2_2
  try clear b3_l b3_0 b3_1 b3_2
  refine (of_calls _ _ _ _ _).mono ?_
  rintro e w5 ⟨rfl, hb⟩
  rw [hv.out]
  replace HB := Lib.hid (below_step HB.out (by have := HB.out.size; first | omega | (simp; omega)) hb)
  replace b0 := b0.below hb b0.lt
  replace b1 := b1.below hb b1.lt
  replace b2 := b2.below hb b2.lt
  replace b3 := b3.below hb b3.lt
  clear hb
  have b0_l := b0.lt
  have b0_0 := b0.cell 0 rfl
  have b0_1 := b0.cell 1 rfl
  have b0_2 := b0.cell 2 rfl
  have b1_l := b1.lt
  have b1_0 := b1.cell 0 rfl
  have b1_1 := b1.cell 1 rfl
  have b1_2 := b1.cell 2 rfl
  have b2_l := b2.lt
  have b2_0 := b2.cell 0 rfl
  have b2_1 := b2.cell 1 rfl
  have b2_2 := b2.cell 2 rfl
  have b3_l := b3.lt
  have b3_0 := b3.cell 0 rfl
  have b3_1 := b3.cell 1 rfl
  have b3_2 := b3.cell 2 rfl
  go_wp2_with fail
  try clear b0_l b0_0 b0_1 b0_2
  try clear b1_l b1_0 b1_1 b1_2
  try clear b2_l b2_0 b2_1 b2_2
  try clear b3_l b3_0 b3_1 b3_2
  refine (rof_calls _ _ _ _ _).mono ?_
  rintro e w6 ⟨rfl, hb⟩
  rw [hv.out]
  replace HB := Lib.hid (below_step (HB.out.alloc (by have := HB.out.size; first | omega | (simp; omega)) _) (by have := HB.out.size; first | omega | (simp; omega)) hb)
  replace b0 := (b0.alloc _).below hb (b0.alloc _).lt
  replace b1 := (b1.alloc _).below hb (b1.alloc _).lt
  replace b2 := (b2.alloc _).below hb (b2.alloc _).lt
  replace b3 := (b3.alloc _).below hb (b3.alloc _).lt
  have b4 := (Blk.new _ #[.int .i64 v0, .int .i64 v1, .int .i64 v2] 23).below hb (Blk.new _ #[.int .i64 v0, .int .i64 v1, .int .i64 v2] 23).lt
  clear hb
  have b0_l := b0.lt
  have b0_0 := b0.cell 0 rfl
  have b0_1 := b0.cell 1 rfl
  have b0_2 := b0.cell 2 rfl
  have b1_l := b1.lt
  have b1_0 := b1.cell 0 rfl
  have b1_1 := b1.cell 1 rfl
  have b1_2 := b1.cell 2 rfl
  have b2_l := b2.lt
  have b2_0 := b2.cell 0 rfl
  have b2_1 := b2.cell 1 rfl
  have b2_2 := b2.cell 2 rfl
  have b3_l := b3.lt
  have b3_0 := b3.cell 0 rfl
  have b3_1 := b3.cell 1 rfl
  have b3_2 := b3.cell 2 rfl
  have b4_l := b4.lt
  have b4_0 := b4.cell 0 rfl
  have b4_1 := b4.cell 1 rfl
  have b4_2 := b4.cell 2 rfl
  go_wp2_with fail
  try clear b0_l b0_0 b0_1 b0_2
  try clear b1_l b1_0 b1_1 b1_2
  try clear b2_l b2_0 b2_1 b2_2
  try clear b3_l b3_0 b3_1 b3_2
  try clear b4_l b4_0 b4_1 b4_2
  replace HB := Lib.hid (HB.out.alloc (by have := HB.out.size; first | omega | (simp; omega)) (.cells #[.int .i64 v0, .int .i64 v1, .int .i64 v2] 23))
  replace b0 := (b0.alloc (.cells #[.int .i64 v0, .int .i64 v1, .int .i64 v2] 23))
  replace b1 := (b1.alloc (.cells #[.int .i64 v0, .int .i64 v1, .int .i64 v2] 23))
  replace b2 := (b2.alloc (.cells #[.int .i64 v0, .int .i64 v1, .int .i64 v2] 23))
  replace b3 := (b3.alloc (.cells #[.int .i64 v0, .int .i64 v1, .int .i64 v2] 23))
  replace b4 := (b4.alloc (.cells #[.int .i64 v0, .int .i64 v1, .int .i64 v2] 23))
  have b5 := (Blk.new w6 #[.int .i64 v0, .int .i64 v1, .int .i64 v2] 23)
  generalize hW0 : (World.alloc w6 (.cells #[.int .i64 v0, .int .i64 v1, .int .i64 v2] 23)) = W at *
  clear hW0
  have b0_l := b0.lt
  have b0_0 := b0.cell 0 rfl
  have b0_1 := b0.cell 1 rfl
  have b0_2 := b0.cell 2 rfl
  have b1_l := b1.lt
  have b1_0 := b1.cell 0 rfl
  have b1_1 := b1.cell 1 rfl
  have b1_2 := b1.cell 2 rfl
  have b2_l := b2.lt
  have b2_0 := b2.cell 0 rfl
  have b2_1 := b2.cell 1 rfl
  have b2_2 := b2.cell 2 rfl
  have b3_l := b3.lt
  have b3_0 := b3.cell 0 rfl
  have b3_1 := b3.cell 1 rfl
  have b3_2 := b3.cell 2 rfl
  have b4_l := b4.lt
  have b4_0 := b4.cell 0 rfl
  have b4_1 := b4.cell 1 rfl
  have b4_2 := b4.cell 2 rfl
  have b5_l := b5.lt
  have b5_0 := b5.cell 0 rfl
  have b5_1 := b5.cell 1 rfl
  have b5_2 := b5.cell 2 rfl
  try clear b0_l b0_0 b0_1 b0_2
  try clear b1_l b1_0 b1_1 b1_2
  try clear b2_l b2_0 b2_1 b2_2
  try clear b3_l b3_0 b3_1 b3_2
  try clear b4_l b4_0 b4_1 b4_2
  try clear b5_l b5_0 b5_1 b5_2
  have b0_0 := b0.cells_ext 0 rfl
  have b0_1 := b0.cells_ext 1 rfl
  have b0_2 := b0.cells_ext 2 rfl
  have b1_0 := b1.cells_ext 0 rfl
  have b1_1 := b1.cells_ext 1 rfl
  have b1_2 := b1.cells_ext 2 rfl
  have b2_0 := b2.cells_ext 0 rfl
  have b2_1 := b2.cells_ext 1 rfl
  have b2_2 := b2.cells_ext 2 rfl
  have b3_0 := b3.cells_ext 0 rfl
  have b3_1 := b3.cells_ext 1 rfl
  have b3_2 := b3.cells_ext 2 rfl
  have b4_0 := b4.cells_ext 0 rfl
  have b4_1 := b4.cells_ext 1 rfl
  have b4_2 := b4.cells_ext 2 rfl
  have b5_0 := b5.cells_ext 0 rfl
  have b5_1 := b5.cells_ext 1 rfl
  have b5_2 := b5.cells_ext 2 rfl
  refine wp_region_ext (by kernel_rfl) (by kernel_rfl) ?_
  repeat (quiet_step ((first | (go_at_call 14; exact calls_ext_of (may_calls _ _ _ _)) | (go_at_call 22; exact calls_ext_of (rmay_calls _ _ _ _)) | (go_at_call 23; exact calls_ext_of (mayspot_calls _ _ _ _)) | (go_at_call 24; exact calls_ext_of (rmayspot_calls _ _ _ _)) | (go_at_call 15; exact calls_ext_of (works_calls _)))))
  refine wpQuiet_nil ?_
  intro _ hw'
  obtain ⟨pq, hw''⟩ := hw'
  subst hw''
  try clear b0_l b0_0 b0_1 b0_2
  try clear b1_l b1_0 b1_1 b1_2
  try clear b2_l b2_0 b2_1 b2_2
  try clear b3_l b3_0 b3_1 b3_2
  try clear b4_l b4_0 b4_1 b4_2
  try clear b5_l b5_0 b5_1 b5_2
  replace HB := Lib.hid (below_step HB.out (by have := HB.out.size; omega) (below_ext W pq))
  replace b0 := b0.ext pq
  replace b1 := b1.ext pq
  replace b2 := b2.ext pq
  replace b3 := b3.ext pq
  replace b4 := b4.ext pq
  replace b5 := b5.ext pq
  generalize ext W pq = W2 at *
  have b0_l := b0.lt
  have b0_0 := b0.cell 0 rfl
  have b0_1 := b0.cell 1 rfl
  have b0_2 := b0.cell 2 rfl
  have b1_l := b1.lt
  have b1_0 := b1.cell 0 rfl
  have b1_1 := b1.cell 1 rfl
  have b1_2 := b1.cell 2 rfl
  have b2_l := b2.lt
  have b2_0 := b2.cell 0 rfl
  have b2_1 := b2.cell 1 rfl
  have b2_2 := b2.cell 2 rfl
  have b3_l := b3.lt
  have b3_0 := b3.cell 0 rfl
  have b3_1 := b3.cell 1 rfl
  have b3_2 := b3.cell 2 rfl
  have b4_l := b4.lt
  have b4_0 := b4.cell 0 rfl
  have b4_1 := b4.cell 1 rfl
  have b4_2 := b4.cell 2 rfl
  have b5_l := b5.lt
  have b5_0 := b5.cell 0 rfl
  have b5_1 := b5.cell 1 rfl
  have b5_2 := b5.cell 2 rfl
  go_wp2_with fail
  go_ret
  exact ⟨rfl, HB.out⟩
end Go.Proofs.Ytjodiclmibiboaa
