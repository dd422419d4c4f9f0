/-
  PlaceCompares' walk.
-/
import Derived.Test.YtjodiclmibiboaaWorks02
import Derived.Test.YtjodiclmibiboaaRCmp02
namespace Go.Proofs.Ytjodiclmibiboaa
open Go.RowKit
set_option linter.unusedSimpArgs false
set_option linter.unusedVariables false

set_option maxRecDepth 100000 in
set_option maxHeartbeats 4000000 in
theorem compares_walk (x y z a b c p q r s t u : Int) (w : World) :
    Calls Try.prog 10 #[.agg #[.int .i64 x, .int .i64 y, .int .i64 z, .int .i64 a, .int .i64 b, .int .i64 c, .int .i64 p, .int .i64 q, .int .i64 r, .int .i64 s, .int .i64 t, .int .i64 u]] w fun e w' => e = .returned (.bool true) ∧ Below w.heap.size w w' := by
  go_enter Try.func10, Try.ntmps10
  go_wp2_with fail
  refine (far_calls _ _ _ _ _ _ _).mono ?_
  rintro e w1 ⟨rfl, hb⟩
  have HB := Lib.hid (below_step ((Below.refl w.heap.size w).alloc (by first | exact Nat.le_refl _ | (simp; done) | (simp; omega) | omega) _) (by first | exact Nat.le_refl _ | (simp; done) | (simp; omega) | omega) hb)
  have b0 := (Blk.new_at (w := w) (n := w.heap.size) #[.int .i64 x, .int .i64 y, .int .i64 z, .int .i64 a, .int .i64 b, .int .i64 c, .int .i64 p, .int .i64 q, .int .i64 r, .int .i64 s, .int .i64 t, .int .i64 u] 50 (by simp)).below hb (by first | exact Nat.le_refl _ | (simp; done) | (simp; omega) | omega)
  clear hb
  have b0_l := b0.lt
  have b0_0 := b0.cell 0 rfl
  have b0_1 := b0.cell 1 rfl
  have b0_2 := b0.cell 2 rfl
  have b0_3 := b0.cell 3 rfl
  have b0_4 := b0.cell 4 rfl
  have b0_5 := b0.cell 5 rfl
  have b0_6 := b0.cell 6 rfl
  have b0_7 := b0.cell 7 rfl
  have b0_8 := b0.cell 8 rfl
  have b0_9 := b0.cell 9 rfl
  have b0_10 := b0.cell 10 rfl
  have b0_11 := b0.cell 11 rfl
  go_wp2_with fail
  try clear b0_l b0_0 b0_1 b0_2 b0_3 b0_4 b0_5 b0_6 b0_7 b0_8 b0_9 b0_10 b0_11
  refine (rfar_calls _ _ _ _ _ _ _).mono ?_
  rintro e w2 ⟨rfl, hb⟩
  replace HB := Lib.hid (below_step HB.out (by have := HB.out.size; first | omega | (simp; omega)) hb)
  replace b0 := b0.below hb b0.lt
  clear hb
  have b0_l := b0.lt
  have b0_0 := b0.cell 0 rfl
  have b0_1 := b0.cell 1 rfl
  have b0_2 := b0.cell 2 rfl
  have b0_3 := b0.cell 3 rfl
  have b0_4 := b0.cell 4 rfl
  have b0_5 := b0.cell 5 rfl
  have b0_6 := b0.cell 6 rfl
  have b0_7 := b0.cell 7 rfl
  have b0_8 := b0.cell 8 rfl
  have b0_9 := b0.cell 9 rfl
  have b0_10 := b0.cell 10 rfl
  have b0_11 := b0.cell 11 rfl
  go_wp2_with fail
  try clear b0_l b0_0 b0_1 b0_2 b0_3 b0_4 b0_5 b0_6 b0_7 b0_8 b0_9 b0_10 b0_11
  have b0_0 := b0.cells_ext 0 rfl
  have b0_1 := b0.cells_ext 1 rfl
  have b0_2 := b0.cells_ext 2 rfl
  have b0_3 := b0.cells_ext 3 rfl
  have b0_4 := b0.cells_ext 4 rfl
  have b0_5 := b0.cells_ext 5 rfl
  have b0_6 := b0.cells_ext 6 rfl
  have b0_7 := b0.cells_ext 7 rfl
  have b0_8 := b0.cells_ext 8 rfl
  have b0_9 := b0.cells_ext 9 rfl
  have b0_10 := b0.cells_ext 10 rfl
  have b0_11 := b0.cells_ext 11 rfl
  refine wp_region_ext (by kernel_rfl) (by kernel_rfl) ?_
  repeat (quiet_step ((first | (go_at_call 31; exact calls_ext_of (cmp_calls _ _ _ _ _ _ _)) | (go_at_call 33; exact calls_ext_of (rcmp_calls _ _ _ _ _ _ _)) | (go_at_call 34; exact calls_ext_of (cmpspot_calls _ _ _ _ _ _ _)) | (go_at_call 35; exact calls_ext_of (rcmpspot_calls _ _ _ _ _ _ _)) | (go_at_call 15; exact calls_ext_of (works_calls _)))))
  refine wpQuiet_nil ?_
  intro _ hw'
  obtain ⟨pq, hw''⟩ := hw'
  subst hw''
  try clear b0_l b0_0 b0_1 b0_2 b0_3 b0_4 b0_5 b0_6 b0_7 b0_8 b0_9 b0_10 b0_11
  replace HB := Lib.hid (below_step HB.out (by have := HB.out.size; omega) (below_ext w2 pq))
  replace b0 := b0.ext pq
  generalize ext w2 pq = w3 at *
  have b0_l := b0.lt
  have b0_0 := b0.cell 0 rfl
  have b0_1 := b0.cell 1 rfl
  have b0_2 := b0.cell 2 rfl
  have b0_3 := b0.cell 3 rfl
  have b0_4 := b0.cell 4 rfl
  have b0_5 := b0.cell 5 rfl
  have b0_6 := b0.cell 6 rfl
  have b0_7 := b0.cell 7 rfl
  have b0_8 := b0.cell 8 rfl
  have b0_9 := b0.cell 9 rfl
  have b0_10 := b0.cell 10 rfl
  have b0_11 := b0.cell 11 rfl
  go_wp2_with fail
  go_ret
  exact ⟨rfl, HB.out⟩
end Go.Proofs.Ytjodiclmibiboaa
