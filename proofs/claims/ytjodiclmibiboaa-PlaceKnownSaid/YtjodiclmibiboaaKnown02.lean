/-
  The chapter's examples: PlaceKnown gives true. No condition.
-/
import Derived.Test.YtjodiclmibiboaaStep
import Derived.Test.YtjodiclmibiboaaCmp
import Derived.Test.YtjodiclmibiboaaBox
import Derived.Test.YtjodiclmibiboaaWorks02
import Derived.Deep.DeepCutAuto
namespace Go.Proofs.Ytjodiclmibiboaa
open Go.RowKit
set_option linter.unusedSimpArgs false
set_option linter.unusedVariables false

theorem at_calls (x y z : Int) (w : World) :
    Calls Try.prog 36 #[.int .i64 x, .int .i64 y, .int .i64 z] w fun e w' => e = .returned (.agg #[.int .i64 x, .int .i64 y, .int .i64 z]) ∧ Below w.heap.size w w' := by
  go_enter Try.func36, Try.ntmps36
  go_wp2_with fail
  refine bodyPost_ret (by simp [results, Try.results36, go_sem]) rfl ⟨rfl, ?_⟩
  exact (Below.refl _ _).alloc (Nat.le_refl _) _

theorem kk0 : mayB 0 0 0 = true := by decide +kernel
theorem kk1 : mayB (-1048576) 63 1048575 = true := by decide +kernel
theorem kk2 : mayB 0 64 0 = false := by decide +kernel
theorem kk3 : mayB 0 (-1) 0 = false := by decide +kernel
theorem kk4 : mayB 1048576 0 0 = false := by decide +kernel
theorem kk5 : mayS 0 4 0 = false := by decide +kernel
theorem kk6 : mayS 65536 0 0 = false := by decide +kernel
theorem kk7 : mayS (-65536) 3 65535 = true := by decide +kernel
theorem kk8 : ofV (-1) 1 1 271 = .agg #[.int .i64 (-1), .int .i64 17, .int .i64 16] := by kernel_rfl
theorem kk9 : ofOk (-1) 1 1 271 = true := by decide +kernel
theorem kk10 : ofV (-1) 1 1 4096 = .agg #[.int .i64 0, .int .i64 0, .int .i64 0] := by kernel_rfl
theorem kk11 : ofOk (-1) 1 1 4096 = false := by decide +kernel
theorem kk12 : stepV 0 0 0 4 = .agg #[.int .i64 0, .int .i64 1, .int .i64 0] := by kernel_rfl
theorem kk13 : stepOk 0 0 0 4 = true := by decide +kernel
theorem kk14 : stepV 0 0 0 5 = .agg #[.int .i64 0, .int .i64 0, .int .i64 0] := by kernel_rfl
theorem kk15 : stepOk 0 0 0 5 = false := by decide +kernel
theorem kk16 : stepV 0 0 0 6 = .agg #[.int .i64 0, .int .i64 0, .int .i64 0] := by kernel_rfl
theorem kk17 : stepOk 0 0 0 6 = false := by decide +kernel
theorem kk18 : stepV (-1048576) 5 5 1 = .agg #[.int .i64 0, .int .i64 0, .int .i64 0] := by kernel_rfl
theorem kk19 : stepOk (-1048576) 5 5 1 = false := by decide +kernel
theorem kk20 : cmpP 1 0 0 0 9 9 = 1 := by decide +kernel
theorem kk21 : cmpP 0 9 0 0 0 1 = (-1) := by decide +kernel
theorem kk22 : cmpP 0 1 0 0 2 0 = (-1) := by decide +kernel
theorem kk23 : farV 0 0 0 2 3 (-1) = 6 := by decide +kernel
theorem kk24 : farOk 0 0 0 2 3 (-1) = true := by decide +kernel
theorem kk25 : boxLow 3 5 0 1 5 1 = .agg #[.int .i64 1, .int .i64 5, .int .i64 0] := by kernel_rfl
theorem kk26 : boxHigh 3 5 0 1 5 1 = .agg #[.int .i64 3, .int .i64 5, .int .i64 1] := by kernel_rfl
theorem kk27 : boxMany 3 5 0 1 5 1 = 6 := by decide +kernel
theorem kk28 : boxE 3 5 0 1 5 1 = 0 := by decide +kernel
theorem kk29 : boxLow 0 0 0 16 0 0 = .agg #[.int .i64 0, .int .i64 0, .int .i64 0] := by kernel_rfl
theorem kk30 : boxHigh 0 0 0 16 0 0 = .agg #[.int .i64 0, .int .i64 0, .int .i64 0] := by kernel_rfl
theorem kk31 : boxMany 0 0 0 16 0 0 = 0 := by decide +kernel
theorem kk32 : boxE 0 0 0 16 0 0 = 3 := by decide +kernel
theorem kk33 : boxLow 0 0 0 7 8 7 = .agg #[.int .i64 0, .int .i64 0, .int .i64 0] := by kernel_rfl
theorem kk34 : boxHigh 0 0 0 7 8 7 = .agg #[.int .i64 0, .int .i64 0, .int .i64 0] := by kernel_rfl
theorem kk35 : boxMany 0 0 0 7 8 7 = 0 := by decide +kernel
theorem kk36 : boxE 0 0 0 7 8 7 = 3 := by decide +kernel
theorem kk37 : boxLow 0 64 0 0 0 0 = .agg #[.int .i64 0, .int .i64 0, .int .i64 0] := by kernel_rfl
theorem kk38 : boxHigh 0 64 0 0 0 0 = .agg #[.int .i64 0, .int .i64 0, .int .i64 0] := by kernel_rfl
theorem kk39 : boxMany 0 64 0 0 0 0 = 0 := by decide +kernel
theorem kk40 : boxE 0 64 0 0 0 0 = 10 := by decide +kernel
theorem kk41 : boxLow 0 0 0 15 15 1 = .agg #[.int .i64 0, .int .i64 0, .int .i64 0] := by kernel_rfl
theorem kk42 : boxHigh 0 0 0 15 15 1 = .agg #[.int .i64 15, .int .i64 15, .int .i64 1] := by kernel_rfl
theorem kk43 : boxMany 0 0 0 15 15 1 = 512 := by decide +kernel
theorem kk44 : boxE 0 0 0 15 15 1 = 0 := by decide +kernel

set_option maxRecDepth 100000 in
set_option maxHeartbeats 16000000 in
theorem known_walk (w : World) : Calls Try.prog 12 #[] w fun r w' => r = .returned (.bool true) ∧ Below w.heap.size w w' := by
  go_enter Try.func12, Try.ntmps12
  go_wp2_with fail
  refine (at_calls 0 0 0 _).mono ?_
  rintro e w1 ⟨rfl, hb⟩
  have HB := Lib.hid hb
  clear hb
  go_wp2_with fail
  refine (may_calls 0 0 0 _).mono ?_
  rintro e w2 ⟨rfl, hb⟩
  rw [kk0]
  replace HB := Lib.hid (below_step HB.out (by have := HB.out.size; first | omega | (simp; omega)) hb)
  clear hb
  go_wp2_with fail
  refine (at_calls (-1048576) 63 1048575 _).mono ?_
  rintro e w3 ⟨rfl, hb⟩
  replace HB := Lib.hid (below_step HB.out (by have := HB.out.size; first | omega | (simp; omega)) hb)
  clear hb
  go_wp2_with fail
  refine (may_calls (-1048576) 63 1048575 _).mono ?_
  rintro e w4 ⟨rfl, hb⟩
  rw [kk1]
  replace HB := Lib.hid (below_step HB.out (by have := HB.out.size; first | omega | (simp; omega)) hb)
  clear hb
  go_wp2_with fail
  refine (at_calls 0 64 0 _).mono ?_
  rintro e w5 ⟨rfl, hb⟩
  replace HB := Lib.hid (below_step HB.out (by have := HB.out.size; first | omega | (simp; omega)) hb)
  clear hb
  go_wp2_with fail
  refine (may_calls 0 64 0 _).mono ?_
  rintro e w6 ⟨rfl, hb⟩
  rw [kk2]
  replace HB := Lib.hid (below_step HB.out (by have := HB.out.size; first | omega | (simp; omega)) hb)
  clear hb
  go_wp2_with fail
  refine (at_calls 0 (-1) 0 _).mono ?_
  rintro e w7 ⟨rfl, hb⟩
  replace HB := Lib.hid (below_step HB.out (by have := HB.out.size; first | omega | (simp; omega)) hb)
  clear hb
  go_wp2_with fail
  refine (may_calls 0 (-1) 0 _).mono ?_
  rintro e w8 ⟨rfl, hb⟩
  rw [kk3]
  replace HB := Lib.hid (below_step HB.out (by have := HB.out.size; first | omega | (simp; omega)) hb)
  clear hb
  go_wp2_with fail
  refine (at_calls 1048576 0 0 _).mono ?_
  rintro e w9 ⟨rfl, hb⟩
  replace HB := Lib.hid (below_step HB.out (by have := HB.out.size; first | omega | (simp; omega)) hb)
  clear hb
  go_wp2_with fail
  refine (may_calls 1048576 0 0 _).mono ?_
  rintro e w10 ⟨rfl, hb⟩
  rw [kk4]
  replace HB := Lib.hid (below_step HB.out (by have := HB.out.size; first | omega | (simp; omega)) hb)
  clear hb
  go_wp2_with fail
  refine (mayspot_calls 0 4 0 _).mono ?_
  rintro e w11 ⟨rfl, hb⟩
  rw [kk5]
  replace HB := Lib.hid (below_step HB.out (by have := HB.out.size; first | omega | (simp; omega)) hb)
  clear hb
  go_wp2_with fail
  refine (mayspot_calls 65536 0 0 _).mono ?_
  rintro e w12 ⟨rfl, hb⟩
  rw [kk6]
  replace HB := Lib.hid (below_step HB.out (by have := HB.out.size; first | omega | (simp; omega)) hb)
  clear hb
  go_wp2_with fail
  refine (mayspot_calls (-65536) 3 65535 _).mono ?_
  rintro e w13 ⟨rfl, hb⟩
  rw [kk7]
  replace HB := Lib.hid (below_step HB.out (by have := HB.out.size; first | omega | (simp; omega)) hb)
  clear hb
  go_wp2_with fail
  refine (of_calls (-1) 1 1 271 _).mono ?_
  rintro e w14 ⟨rfl, hb⟩
  rw [kk8, kk9]
  replace HB := Lib.hid (below_step HB.out (by have := HB.out.size; first | omega | (simp; omega)) hb)
  clear hb
  go_wp2_with fail
  refine (of_calls (-1) 1 1 4096 _).mono ?_
  rintro e w15 ⟨rfl, hb⟩
  rw [kk10, kk11]
  replace HB := Lib.hid (below_step (HB.out.alloc (by have := HB.out.size; first | omega | (simp; omega)) _) (by have := HB.out.size; first | omega | (simp; omega)) hb)
  have bp := (Blk.new _ #[.int .i64 (-1), .int .i64 17, .int .i64 16] 23).below hb (Blk.new _ #[.int .i64 (-1), .int .i64 17, .int .i64 16] 23).lt
  clear hb
  have bp_l := bp.lt
  have bp_0 := bp.cell 0 rfl
  have bp_1 := bp.cell 1 rfl
  have bp_2 := bp.cell 2 rfl
  go_wp2_with fail
  try clear bp_l bp_0 bp_1 bp_2
  refine (at_calls 0 0 0 _).mono ?_
  rintro e w16 ⟨rfl, hb⟩
  replace HB := Lib.hid (below_step (HB.out.alloc (by have := HB.out.size; first | omega | (simp; omega)) _) (by have := HB.out.size; first | omega | (simp; omega)) hb)
  replace bp := (bp.alloc _).below hb (bp.alloc _).lt
  have bq := (Blk.new _ #[.int .i64 0, .int .i64 0, .int .i64 0] 23).below hb (Blk.new _ #[.int .i64 0, .int .i64 0, .int .i64 0] 23).lt
  clear hb
  have bp_l := bp.lt
  have bp_0 := bp.cell 0 rfl
  have bp_1 := bp.cell 1 rfl
  have bp_2 := bp.cell 2 rfl
  have bq_l := bq.lt
  have bq_0 := bq.cell 0 rfl
  have bq_1 := bq.cell 1 rfl
  have bq_2 := bq.cell 2 rfl
  go_wp2_with fail
  try clear bp_l bp_0 bp_1 bp_2
  try clear bq_l bq_0 bq_1 bq_2
  refine (step_calls 0 0 0 4 _).mono ?_
  rintro e w17 ⟨rfl, hb⟩
  rw [kk12, kk13]
  replace HB := Lib.hid (below_step HB.out (by have := HB.out.size; first | omega | (simp; omega)) hb)
  replace bp := bp.below hb bp.lt
  replace bq := bq.below hb bq.lt
  clear hb
  have bp_l := bp.lt
  have bp_0 := bp.cell 0 rfl
  have bp_1 := bp.cell 1 rfl
  have bp_2 := bp.cell 2 rfl
  have bq_l := bq.lt
  have bq_0 := bq.cell 0 rfl
  have bq_1 := bq.cell 1 rfl
  have bq_2 := bq.cell 2 rfl
  go_wp2_with fail
  try clear bp_l bp_0 bp_1 bp_2
  try clear bq_l bq_0 bq_1 bq_2
  refine (at_calls 0 0 0 _).mono ?_
  rintro e w18 ⟨rfl, hb⟩
  replace HB := Lib.hid (below_step (HB.out.alloc (by have := HB.out.size; first | omega | (simp; omega)) _) (by have := HB.out.size; first | omega | (simp; omega)) hb)
  replace bp := (bp.alloc _).below hb (bp.alloc _).lt
  replace bq := (bq.alloc _).below hb (bq.alloc _).lt
  have bu := (Blk.new _ #[.int .i64 0, .int .i64 1, .int .i64 0] 23).below hb (Blk.new _ #[.int .i64 0, .int .i64 1, .int .i64 0] 23).lt
  clear hb
  have bp_l := bp.lt
  have bp_0 := bp.cell 0 rfl
  have bp_1 := bp.cell 1 rfl
  have bp_2 := bp.cell 2 rfl
  have bq_l := bq.lt
  have bq_0 := bq.cell 0 rfl
  have bq_1 := bq.cell 1 rfl
  have bq_2 := bq.cell 2 rfl
  have bu_l := bu.lt
  have bu_0 := bu.cell 0 rfl
  have bu_1 := bu.cell 1 rfl
  have bu_2 := bu.cell 2 rfl
  go_wp2_with fail
  try clear bp_l bp_0 bp_1 bp_2
  try clear bq_l bq_0 bq_1 bq_2
  try clear bu_l bu_0 bu_1 bu_2
  refine (step_calls 0 0 0 5 _).mono ?_
  rintro e w19 ⟨rfl, hb⟩
  rw [kk14, kk15]
  replace HB := Lib.hid (below_step HB.out (by have := HB.out.size; first | omega | (simp; omega)) hb)
  replace bp := bp.below hb bp.lt
  replace bq := bq.below hb bq.lt
  replace bu := bu.below hb bu.lt
  clear hb
  have bp_l := bp.lt
  have bp_0 := bp.cell 0 rfl
  have bp_1 := bp.cell 1 rfl
  have bp_2 := bp.cell 2 rfl
  have bq_l := bq.lt
  have bq_0 := bq.cell 0 rfl
  have bq_1 := bq.cell 1 rfl
  have bq_2 := bq.cell 2 rfl
  have bu_l := bu.lt
  have bu_0 := bu.cell 0 rfl
  have bu_1 := bu.cell 1 rfl
  have bu_2 := bu.cell 2 rfl
  go_wp2_with fail
  try clear bp_l bp_0 bp_1 bp_2
  try clear bq_l bq_0 bq_1 bq_2
  try clear bu_l bu_0 bu_1 bu_2
  refine (at_calls 0 0 0 _).mono ?_
  rintro e w20 ⟨rfl, hb⟩
  replace HB := Lib.hid (below_step (HB.out.alloc (by have := HB.out.size; first | omega | (simp; omega)) _) (by have := HB.out.size; first | omega | (simp; omega)) hb)
  replace bp := (bp.alloc _).below hb (bp.alloc _).lt
  replace bq := (bq.alloc _).below hb (bq.alloc _).lt
  replace bu := (bu.alloc _).below hb (bu.alloc _).lt
  have bv := (Blk.new _ #[.int .i64 0, .int .i64 0, .int .i64 0] 23).below hb (Blk.new _ #[.int .i64 0, .int .i64 0, .int .i64 0] 23).lt
  clear hb
  have bp_l := bp.lt
  have bp_0 := bp.cell 0 rfl
  have bp_1 := bp.cell 1 rfl
  have bp_2 := bp.cell 2 rfl
  have bq_l := bq.lt
  have bq_0 := bq.cell 0 rfl
  have bq_1 := bq.cell 1 rfl
  have bq_2 := bq.cell 2 rfl
  have bu_l := bu.lt
  have bu_0 := bu.cell 0 rfl
  have bu_1 := bu.cell 1 rfl
  have bu_2 := bu.cell 2 rfl
  have bv_l := bv.lt
  have bv_0 := bv.cell 0 rfl
  have bv_1 := bv.cell 1 rfl
  have bv_2 := bv.cell 2 rfl
  go_wp2_with fail
  try clear bp_l bp_0 bp_1 bp_2
  try clear bq_l bq_0 bq_1 bq_2
  try clear bu_l bu_0 bu_1 bu_2
  try clear bv_l bv_0 bv_1 bv_2
  refine (step_calls 0 0 0 6 _).mono ?_
  rintro e w21 ⟨rfl, hb⟩
  rw [kk16, kk17]
  replace HB := Lib.hid (below_step HB.out (by have := HB.out.size; first | omega | (simp; omega)) hb)
  replace bp := bp.below hb bp.lt
  replace bq := bq.below hb bq.lt
  replace bu := bu.below hb bu.lt
  replace bv := bv.below hb bv.lt
  clear hb
  have bp_l := bp.lt
  have bp_0 := bp.cell 0 rfl
  have bp_1 := bp.cell 1 rfl
  have bp_2 := bp.cell 2 rfl
  have bq_l := bq.lt
  have bq_0 := bq.cell 0 rfl
  have bq_1 := bq.cell 1 rfl
  have bq_2 := bq.cell 2 rfl
  have bu_l := bu.lt
  have bu_0 := bu.cell 0 rfl
  have bu_1 := bu.cell 1 rfl
  have bu_2 := bu.cell 2 rfl
  have bv_l := bv.lt
  have bv_0 := bv.cell 0 rfl
  have bv_1 := bv.cell 1 rfl
  have bv_2 := bv.cell 2 rfl
  go_wp2_with fail
  try clear bp_l bp_0 bp_1 bp_2
  try clear bq_l bq_0 bq_1 bq_2
  try clear bu_l bu_0 bu_1 bu_2
  try clear bv_l bv_0 bv_1 bv_2
  refine (at_calls (-1048576) 5 5 _).mono ?_
  rintro e w22 ⟨rfl, hb⟩
  replace HB := Lib.hid (below_step (HB.out.alloc (by have := HB.out.size; first | omega | (simp; omega)) _) (by have := HB.out.size; first | omega | (simp; omega)) hb)
  replace bp := (bp.alloc _).below hb (bp.alloc _).lt
  replace bq := (bq.alloc _).below hb (bq.alloc _).lt
  replace bu := (bu.alloc _).below hb (bu.alloc _).lt
  replace bv := (bv.alloc _).below hb (bv.alloc _).lt
  have bw := (Blk.new _ #[.int .i64 0, .int .i64 0, .int .i64 0] 23).below hb (Blk.new _ #[.int .i64 0, .int .i64 0, .int .i64 0] 23).lt
  clear hb
  have bp_l := bp.lt
  have bp_0 := bp.cell 0 rfl
  have bp_1 := bp.cell 1 rfl
  have bp_2 := bp.cell 2 rfl
  have bq_l := bq.lt
  have bq_0 := bq.cell 0 rfl
  have bq_1 := bq.cell 1 rfl
  have bq_2 := bq.cell 2 rfl
  have bu_l := bu.lt
  have bu_0 := bu.cell 0 rfl
  have bu_1 := bu.cell 1 rfl
  have bu_2 := bu.cell 2 rfl
  have bv_l := bv.lt
  have bv_0 := bv.cell 0 rfl
  have bv_1 := bv.cell 1 rfl
  have bv_2 := bv.cell 2 rfl
  have bw_l := bw.lt
  have bw_0 := bw.cell 0 rfl
  have bw_1 := bw.cell 1 rfl
  have bw_2 := bw.cell 2 rfl
  go_wp2_with fail
  try clear bp_l bp_0 bp_1 bp_2
  try clear bq_l bq_0 bq_1 bq_2
  try clear bu_l bu_0 bu_1 bu_2
  try clear bv_l bv_0 bv_1 bv_2
  try clear bw_l bw_0 bw_1 bw_2
  refine (step_calls (-1048576) 5 5 1 _).mono ?_
  rintro e w23 ⟨rfl, hb⟩
  rw [kk18, kk19]
  replace HB := Lib.hid (below_step HB.out (by have := HB.out.size; first | omega | (simp; omega)) hb)
  replace bp := bp.below hb bp.lt
  replace bq := bq.below hb bq.lt
  replace bu := bu.below hb bu.lt
  replace bv := bv.below hb bv.lt
  replace bw := bw.below hb bw.lt
  clear hb
  have bp_l := bp.lt
  have bp_0 := bp.cell 0 rfl
  have bp_1 := bp.cell 1 rfl
  have bp_2 := bp.cell 2 rfl
  have bq_l := bq.lt
  have bq_0 := bq.cell 0 rfl
  have bq_1 := bq.cell 1 rfl
  have bq_2 := bq.cell 2 rfl
  have bu_l := bu.lt
  have bu_0 := bu.cell 0 rfl
  have bu_1 := bu.cell 1 rfl
  have bu_2 := bu.cell 2 rfl
  have bv_l := bv.lt
  have bv_0 := bv.cell 0 rfl
  have bv_1 := bv.cell 1 rfl
  have bv_2 := bv.cell 2 rfl
  have bw_l := bw.lt
  have bw_0 := bw.cell 0 rfl
  have bw_1 := bw.cell 1 rfl
  have bw_2 := bw.cell 2 rfl
  go_upto_region 10 with (fail)
  try clear bp_l bp_0 bp_1 bp_2
  try clear bq_l bq_0 bq_1 bq_2
  try clear bu_l bu_0 bu_1 bu_2
  try clear bv_l bv_0 bv_1 bv_2
  try clear bw_l bw_0 bw_1 bw_2
  replace HB := Lib.hid (HB.out.alloc (by have := HB.out.size; first | omega | (simp; omega)) (.cells #[.int .i64 0, .int .i64 0, .int .i64 0] 23))
  replace bp := (bp.alloc (.cells #[.int .i64 0, .int .i64 0, .int .i64 0] 23))
  replace bq := (bq.alloc (.cells #[.int .i64 0, .int .i64 0, .int .i64 0] 23))
  replace bu := (bu.alloc (.cells #[.int .i64 0, .int .i64 0, .int .i64 0] 23))
  replace bv := (bv.alloc (.cells #[.int .i64 0, .int .i64 0, .int .i64 0] 23))
  replace bw := (bw.alloc (.cells #[.int .i64 0, .int .i64 0, .int .i64 0] 23))
  have bx := (Blk.new w23 #[.int .i64 0, .int .i64 0, .int .i64 0] 23)
  generalize hW0 : (World.alloc w23 (.cells #[.int .i64 0, .int .i64 0, .int .i64 0] 23)) = W at *
  clear hW0
  have bp_l := bp.lt
  have bp_0 := bp.cell 0 rfl
  have bp_1 := bp.cell 1 rfl
  have bp_2 := bp.cell 2 rfl
  have bq_l := bq.lt
  have bq_0 := bq.cell 0 rfl
  have bq_1 := bq.cell 1 rfl
  have bq_2 := bq.cell 2 rfl
  have bu_l := bu.lt
  have bu_0 := bu.cell 0 rfl
  have bu_1 := bu.cell 1 rfl
  have bu_2 := bu.cell 2 rfl
  have bv_l := bv.lt
  have bv_0 := bv.cell 0 rfl
  have bv_1 := bv.cell 1 rfl
  have bv_2 := bv.cell 2 rfl
  have bw_l := bw.lt
  have bw_0 := bw.cell 0 rfl
  have bw_1 := bw.cell 1 rfl
  have bw_2 := bw.cell 2 rfl
  have bx_l := bx.lt
  have bx_0 := bx.cell 0 rfl
  have bx_1 := bx.cell 1 rfl
  have bx_2 := bx.cell 2 rfl
  try clear bp_l bp_0 bp_1 bp_2
  try clear bq_l bq_0 bq_1 bq_2
  try clear bu_l bu_0 bu_1 bu_2
  try clear bv_l bv_0 bv_1 bv_2
  try clear bw_l bw_0 bw_1 bw_2
  try clear bx_l bx_0 bx_1 bx_2
  have bp_0 := bp.cells_ext 0 rfl
  have bp_1 := bp.cells_ext 1 rfl
  have bp_2 := bp.cells_ext 2 rfl
  have bq_0 := bq.cells_ext 0 rfl
  have bq_1 := bq.cells_ext 1 rfl
  have bq_2 := bq.cells_ext 2 rfl
  have bu_0 := bu.cells_ext 0 rfl
  have bu_1 := bu.cells_ext 1 rfl
  have bu_2 := bu.cells_ext 2 rfl
  have bv_0 := bv.cells_ext 0 rfl
  have bv_1 := bv.cells_ext 1 rfl
  have bv_2 := bv.cells_ext 2 rfl
  have bw_0 := bw.cells_ext 0 rfl
  have bw_1 := bw.cells_ext 1 rfl
  have bw_2 := bw.cells_ext 2 rfl
  have bx_0 := bx.cells_ext 0 rfl
  have bx_1 := bx.cells_ext 1 rfl
  have bx_2 := bx.cells_ext 2 rfl
  refine wp_region_ext (by kernel_rfl) (by kernel_rfl) ?_
  repeat (quiet_step ((first | (go_at_call 36; exact calls_ext_of (at_calls _ _ _ _)))))
  refine wpQuiet_nil ?_
  intro _ hw'
  obtain ⟨pq, hw''⟩ := hw'
  subst hw''
  try clear bp_l bp_0 bp_1 bp_2
  try clear bq_l bq_0 bq_1 bq_2
  try clear bu_l bu_0 bu_1 bu_2
  try clear bv_l bv_0 bv_1 bv_2
  try clear bw_l bw_0 bw_1 bw_2
  try clear bx_l bx_0 bx_1 bx_2
  replace HB := Lib.hid (below_step HB.out (by have := HB.out.size; omega) (below_ext W pq))
  replace bp := bp.ext pq
  replace bq := bq.ext pq
  replace bu := bu.ext pq
  replace bv := bv.ext pq
  replace bw := bw.ext pq
  replace bx := bx.ext pq
  generalize ext W pq = W2 at *
  have bp_l := bp.lt
  have bp_0 := bp.cell 0 rfl
  have bp_1 := bp.cell 1 rfl
  have bp_2 := bp.cell 2 rfl
  have bq_l := bq.lt
  have bq_0 := bq.cell 0 rfl
  have bq_1 := bq.cell 1 rfl
  have bq_2 := bq.cell 2 rfl
  have bu_l := bu.lt
  have bu_0 := bu.cell 0 rfl
  have bu_1 := bu.cell 1 rfl
  have bu_2 := bu.cell 2 rfl
  have bv_l := bv.lt
  have bv_0 := bv.cell 0 rfl
  have bv_1 := bv.cell 1 rfl
  have bv_2 := bv.cell 2 rfl
  have bw_l := bw.lt
  have bw_0 := bw.cell 0 rfl
  have bw_1 := bw.cell 1 rfl
  have bw_2 := bw.cell 2 rfl
  have bx_l := bx.lt
  have bx_0 := bx.cell 0 rfl
  have bx_1 := bx.cell 1 rfl
  have bx_2 := bx.cell 2 rfl
  clear bp_l bp_0 bp_1 bp_2
  clear bq_l bq_0 bq_1 bq_2
  clear bu_l bu_0 bu_1 bu_2
  clear bv_l bv_0 bv_1 bv_2
  clear bw_l bw_0 bw_1 bw_2
  clear bx_l bx_0 bx_1 bx_2
  clear bp bq bu bv bw bx
  go_wp2_with fail
  refine (at_calls 1 0 0 _).mono ?_
  rintro e w24 ⟨rfl, hb⟩
  replace HB := Lib.hid (below_step HB.out (by have := HB.out.size; first | omega | (simp; omega)) hb)
  clear hb
  go_wp2_with fail
  refine (at_calls 0 9 9 _).mono ?_
  rintro e w25 ⟨rfl, hb⟩
  replace HB := Lib.hid (below_step HB.out (by have := HB.out.size; first | omega | (simp; omega)) hb)
  clear hb
  go_wp2_with fail
  refine (cmp_calls 1 0 0 0 9 9 _).mono ?_
  rintro e w26 ⟨rfl, hb⟩
  rw [kk20]
  replace HB := Lib.hid (below_step HB.out (by have := HB.out.size; first | omega | (simp; omega)) hb)
  clear hb
  go_wp2_with fail
  refine (at_calls 0 9 0 _).mono ?_
  rintro e w27 ⟨rfl, hb⟩
  replace HB := Lib.hid (below_step HB.out (by have := HB.out.size; first | omega | (simp; omega)) hb)
  clear hb
  go_wp2_with fail
  refine (at_calls 0 0 1 _).mono ?_
  rintro e w28 ⟨rfl, hb⟩
  replace HB := Lib.hid (below_step HB.out (by have := HB.out.size; first | omega | (simp; omega)) hb)
  clear hb
  go_wp2_with fail
  refine (cmp_calls 0 9 0 0 0 1 _).mono ?_
  rintro e w29 ⟨rfl, hb⟩
  rw [kk21]
  replace HB := Lib.hid (below_step HB.out (by have := HB.out.size; first | omega | (simp; omega)) hb)
  clear hb
  go_wp2_with fail
  refine (at_calls 0 1 0 _).mono ?_
  rintro e w30 ⟨rfl, hb⟩
  replace HB := Lib.hid (below_step HB.out (by have := HB.out.size; first | omega | (simp; omega)) hb)
  clear hb
  go_wp2_with fail
  refine (at_calls 0 2 0 _).mono ?_
  rintro e w31 ⟨rfl, hb⟩
  replace HB := Lib.hid (below_step HB.out (by have := HB.out.size; first | omega | (simp; omega)) hb)
  clear hb
  go_wp2_with fail
  refine (cmp_calls 0 1 0 0 2 0 _).mono ?_
  rintro e w32 ⟨rfl, hb⟩
  rw [kk22]
  replace HB := Lib.hid (below_step HB.out (by have := HB.out.size; first | omega | (simp; omega)) hb)
  clear hb
  go_wp2_with fail
  refine (at_calls 0 0 0 _).mono ?_
  rintro e w33 ⟨rfl, hb⟩
  replace HB := Lib.hid (below_step HB.out (by have := HB.out.size; first | omega | (simp; omega)) hb)
  clear hb
  go_wp2_with fail
  refine (at_calls 2 3 (-1) _).mono ?_
  rintro e w34 ⟨rfl, hb⟩
  replace HB := Lib.hid (below_step HB.out (by have := HB.out.size; first | omega | (simp; omega)) hb)
  clear hb
  go_wp2_with fail
  refine (far_calls 0 0 0 2 3 (-1) _).mono ?_
  rintro e w35 ⟨rfl, hb⟩
  rw [kk23, kk24]
  replace HB := Lib.hid (below_step HB.out (by have := HB.out.size; first | omega | (simp; omega)) hb)
  clear hb
  go_wp2_with fail
  refine (at_calls 3 5 0 _).mono ?_
  rintro e w36 ⟨rfl, hb⟩
  replace HB := Lib.hid (below_step HB.out (by have := HB.out.size; first | omega | (simp; omega)) hb)
  clear hb
  go_wp2_with fail
  refine (at_calls 1 5 1 _).mono ?_
  rintro e w37 ⟨rfl, hb⟩
  replace HB := Lib.hid (below_step HB.out (by have := HB.out.size; first | omega | (simp; omega)) hb)
  clear hb
  go_wp2_with fail
  refine (box_calls 3 5 0 1 5 1 _).mono ?_
  rintro e w38 ⟨rfl, hb⟩
  rw [kk25, kk26, kk27, kk28]
  replace HB := Lib.hid (below_step HB.out (by have := HB.out.size; first | omega | (simp; omega)) hb)
  clear hb
  go_wp2_with fail
  refine (at_calls 0 0 0 _).mono ?_
  rintro e w39 ⟨rfl, hb⟩
  replace HB := Lib.hid (below_step ((HB.out.alloc (by have := HB.out.size; first | omega | (simp; omega)) _).alloc (by have := HB.out.size; first | omega | (simp; omega)) _) (by have := HB.out.size; first | omega | (simp; omega)) hb)
  have bal := ((Blk.new _ #[.int .i64 1, .int .i64 5, .int .i64 0] 23).alloc _).below hb ((Blk.new _ #[.int .i64 1, .int .i64 5, .int .i64 0] 23).alloc _).lt
  have bah := (Blk.new_at (n := w38.heap.size + 1) #[.int .i64 3, .int .i64 5, .int .i64 1] 23 (by simp)).below hb (Blk.new_at (n := w38.heap.size + 1) #[.int .i64 3, .int .i64 5, .int .i64 1] 23 (by simp)).lt
  clear hb
  have bal_l := bal.lt
  have bal_0 := bal.cell 0 rfl
  have bal_1 := bal.cell 1 rfl
  have bal_2 := bal.cell 2 rfl
  have bah_l := bah.lt
  have bah_0 := bah.cell 0 rfl
  have bah_1 := bah.cell 1 rfl
  have bah_2 := bah.cell 2 rfl
  go_wp2_with fail
  try clear bal_l bal_0 bal_1 bal_2
  try clear bah_l bah_0 bah_1 bah_2
  refine (at_calls 16 0 0 _).mono ?_
  rintro e w40 ⟨rfl, hb⟩
  replace HB := Lib.hid (below_step HB.out (by have := HB.out.size; first | omega | (simp; omega)) hb)
  replace bal := bal.below hb bal.lt
  replace bah := bah.below hb bah.lt
  clear hb
  have bal_l := bal.lt
  have bal_0 := bal.cell 0 rfl
  have bal_1 := bal.cell 1 rfl
  have bal_2 := bal.cell 2 rfl
  have bah_l := bah.lt
  have bah_0 := bah.cell 0 rfl
  have bah_1 := bah.cell 1 rfl
  have bah_2 := bah.cell 2 rfl
  go_wp2_with fail
  try clear bal_l bal_0 bal_1 bal_2
  try clear bah_l bah_0 bah_1 bah_2
  refine (box_calls 0 0 0 16 0 0 _).mono ?_
  rintro e w41 ⟨rfl, hb⟩
  rw [kk29, kk30, kk31, kk32]
  replace HB := Lib.hid (below_step HB.out (by have := HB.out.size; first | omega | (simp; omega)) hb)
  replace bal := bal.below hb bal.lt
  replace bah := bah.below hb bah.lt
  clear hb
  have bal_l := bal.lt
  have bal_0 := bal.cell 0 rfl
  have bal_1 := bal.cell 1 rfl
  have bal_2 := bal.cell 2 rfl
  have bah_l := bah.lt
  have bah_0 := bah.cell 0 rfl
  have bah_1 := bah.cell 1 rfl
  have bah_2 := bah.cell 2 rfl
  go_wp2_with fail
  try clear bal_l bal_0 bal_1 bal_2
  try clear bah_l bah_0 bah_1 bah_2
  refine (at_calls 0 0 0 _).mono ?_
  rintro e w42 ⟨rfl, hb⟩
  replace HB := Lib.hid (below_step ((HB.out.alloc (by have := HB.out.size; first | omega | (simp; omega)) _).alloc (by have := HB.out.size; first | omega | (simp; omega)) _) (by have := HB.out.size; first | omega | (simp; omega)) hb)
  replace bal := ((bal.alloc _).alloc _).below hb ((bal.alloc _).alloc _).lt
  replace bah := ((bah.alloc _).alloc _).below hb ((bah.alloc _).alloc _).lt
  have bbl := ((Blk.new _ #[.int .i64 0, .int .i64 0, .int .i64 0] 23).alloc _).below hb ((Blk.new _ #[.int .i64 0, .int .i64 0, .int .i64 0] 23).alloc _).lt
  have bbh := (Blk.new_at (n := w41.heap.size + 1) #[.int .i64 0, .int .i64 0, .int .i64 0] 23 (by simp)).below hb (Blk.new_at (n := w41.heap.size + 1) #[.int .i64 0, .int .i64 0, .int .i64 0] 23 (by simp)).lt
  clear hb
  have bal_l := bal.lt
  have bal_0 := bal.cell 0 rfl
  have bal_1 := bal.cell 1 rfl
  have bal_2 := bal.cell 2 rfl
  have bah_l := bah.lt
  have bah_0 := bah.cell 0 rfl
  have bah_1 := bah.cell 1 rfl
  have bah_2 := bah.cell 2 rfl
  have bbl_l := bbl.lt
  have bbl_0 := bbl.cell 0 rfl
  have bbl_1 := bbl.cell 1 rfl
  have bbl_2 := bbl.cell 2 rfl
  have bbh_l := bbh.lt
  have bbh_0 := bbh.cell 0 rfl
  have bbh_1 := bbh.cell 1 rfl
  have bbh_2 := bbh.cell 2 rfl
  go_wp2_with fail
  try clear bal_l bal_0 bal_1 bal_2
  try clear bah_l bah_0 bah_1 bah_2
  try clear bbl_l bbl_0 bbl_1 bbl_2
  try clear bbh_l bbh_0 bbh_1 bbh_2
  refine (at_calls 7 8 7 _).mono ?_
  rintro e w43 ⟨rfl, hb⟩
  replace HB := Lib.hid (below_step HB.out (by have := HB.out.size; first | omega | (simp; omega)) hb)
  replace bal := bal.below hb bal.lt
  replace bah := bah.below hb bah.lt
  replace bbl := bbl.below hb bbl.lt
  replace bbh := bbh.below hb bbh.lt
  clear hb
  have bal_l := bal.lt
  have bal_0 := bal.cell 0 rfl
  have bal_1 := bal.cell 1 rfl
  have bal_2 := bal.cell 2 rfl
  have bah_l := bah.lt
  have bah_0 := bah.cell 0 rfl
  have bah_1 := bah.cell 1 rfl
  have bah_2 := bah.cell 2 rfl
  have bbl_l := bbl.lt
  have bbl_0 := bbl.cell 0 rfl
  have bbl_1 := bbl.cell 1 rfl
  have bbl_2 := bbl.cell 2 rfl
  have bbh_l := bbh.lt
  have bbh_0 := bbh.cell 0 rfl
  have bbh_1 := bbh.cell 1 rfl
  have bbh_2 := bbh.cell 2 rfl
  go_wp2_with fail
  try clear bal_l bal_0 bal_1 bal_2
  try clear bah_l bah_0 bah_1 bah_2
  try clear bbl_l bbl_0 bbl_1 bbl_2
  try clear bbh_l bbh_0 bbh_1 bbh_2
  refine (box_calls 0 0 0 7 8 7 _).mono ?_
  rintro e w44 ⟨rfl, hb⟩
  rw [kk33, kk34, kk35, kk36]
  replace HB := Lib.hid (below_step HB.out (by have := HB.out.size; first | omega | (simp; omega)) hb)
  replace bal := bal.below hb bal.lt
  replace bah := bah.below hb bah.lt
  replace bbl := bbl.below hb bbl.lt
  replace bbh := bbh.below hb bbh.lt
  clear hb
  have bal_l := bal.lt
  have bal_0 := bal.cell 0 rfl
  have bal_1 := bal.cell 1 rfl
  have bal_2 := bal.cell 2 rfl
  have bah_l := bah.lt
  have bah_0 := bah.cell 0 rfl
  have bah_1 := bah.cell 1 rfl
  have bah_2 := bah.cell 2 rfl
  have bbl_l := bbl.lt
  have bbl_0 := bbl.cell 0 rfl
  have bbl_1 := bbl.cell 1 rfl
  have bbl_2 := bbl.cell 2 rfl
  have bbh_l := bbh.lt
  have bbh_0 := bbh.cell 0 rfl
  have bbh_1 := bbh.cell 1 rfl
  have bbh_2 := bbh.cell 2 rfl
  go_wp2_with fail
  try clear bal_l bal_0 bal_1 bal_2
  try clear bah_l bah_0 bah_1 bah_2
  try clear bbl_l bbl_0 bbl_1 bbl_2
  try clear bbh_l bbh_0 bbh_1 bbh_2
  refine (at_calls 0 64 0 _).mono ?_
  rintro e w45 ⟨rfl, hb⟩
  replace HB := Lib.hid (below_step ((HB.out.alloc (by have := HB.out.size; first | omega | (simp; omega)) _).alloc (by have := HB.out.size; first | omega | (simp; omega)) _) (by have := HB.out.size; first | omega | (simp; omega)) hb)
  replace bal := ((bal.alloc _).alloc _).below hb ((bal.alloc _).alloc _).lt
  replace bah := ((bah.alloc _).alloc _).below hb ((bah.alloc _).alloc _).lt
  replace bbl := ((bbl.alloc _).alloc _).below hb ((bbl.alloc _).alloc _).lt
  replace bbh := ((bbh.alloc _).alloc _).below hb ((bbh.alloc _).alloc _).lt
  have bcl := ((Blk.new _ #[.int .i64 0, .int .i64 0, .int .i64 0] 23).alloc _).below hb ((Blk.new _ #[.int .i64 0, .int .i64 0, .int .i64 0] 23).alloc _).lt
  have bch := (Blk.new_at (n := w44.heap.size + 1) #[.int .i64 0, .int .i64 0, .int .i64 0] 23 (by simp)).below hb (Blk.new_at (n := w44.heap.size + 1) #[.int .i64 0, .int .i64 0, .int .i64 0] 23 (by simp)).lt
  clear hb
  have bal_l := bal.lt
  have bal_0 := bal.cell 0 rfl
  have bal_1 := bal.cell 1 rfl
  have bal_2 := bal.cell 2 rfl
  have bah_l := bah.lt
  have bah_0 := bah.cell 0 rfl
  have bah_1 := bah.cell 1 rfl
  have bah_2 := bah.cell 2 rfl
  have bbl_l := bbl.lt
  have bbl_0 := bbl.cell 0 rfl
  have bbl_1 := bbl.cell 1 rfl
  have bbl_2 := bbl.cell 2 rfl
  have bbh_l := bbh.lt
  have bbh_0 := bbh.cell 0 rfl
  have bbh_1 := bbh.cell 1 rfl
  have bbh_2 := bbh.cell 2 rfl
  have bcl_l := bcl.lt
  have bcl_0 := bcl.cell 0 rfl
  have bcl_1 := bcl.cell 1 rfl
  have bcl_2 := bcl.cell 2 rfl
  have bch_l := bch.lt
  have bch_0 := bch.cell 0 rfl
  have bch_1 := bch.cell 1 rfl
  have bch_2 := bch.cell 2 rfl
  go_wp2_with fail
  try clear bal_l bal_0 bal_1 bal_2
  try clear bah_l bah_0 bah_1 bah_2
  try clear bbl_l bbl_0 bbl_1 bbl_2
  try clear bbh_l bbh_0 bbh_1 bbh_2
  try clear bcl_l bcl_0 bcl_1 bcl_2
  try clear bch_l bch_0 bch_1 bch_2
  refine (at_calls 0 0 0 _).mono ?_
  rintro e w46 ⟨rfl, hb⟩
  replace HB := Lib.hid (below_step HB.out (by have := HB.out.size; first | omega | (simp; omega)) hb)
  replace bal := bal.below hb bal.lt
  replace bah := bah.below hb bah.lt
  replace bbl := bbl.below hb bbl.lt
  replace bbh := bbh.below hb bbh.lt
  replace bcl := bcl.below hb bcl.lt
  replace bch := bch.below hb bch.lt
  clear hb
  have bal_l := bal.lt
  have bal_0 := bal.cell 0 rfl
  have bal_1 := bal.cell 1 rfl
  have bal_2 := bal.cell 2 rfl
  have bah_l := bah.lt
  have bah_0 := bah.cell 0 rfl
  have bah_1 := bah.cell 1 rfl
  have bah_2 := bah.cell 2 rfl
  have bbl_l := bbl.lt
  have bbl_0 := bbl.cell 0 rfl
  have bbl_1 := bbl.cell 1 rfl
  have bbl_2 := bbl.cell 2 rfl
  have bbh_l := bbh.lt
  have bbh_0 := bbh.cell 0 rfl
  have bbh_1 := bbh.cell 1 rfl
  have bbh_2 := bbh.cell 2 rfl
  have bcl_l := bcl.lt
  have bcl_0 := bcl.cell 0 rfl
  have bcl_1 := bcl.cell 1 rfl
  have bcl_2 := bcl.cell 2 rfl
  have bch_l := bch.lt
  have bch_0 := bch.cell 0 rfl
  have bch_1 := bch.cell 1 rfl
  have bch_2 := bch.cell 2 rfl
  go_wp2_with fail
  try clear bal_l bal_0 bal_1 bal_2
  try clear bah_l bah_0 bah_1 bah_2
  try clear bbl_l bbl_0 bbl_1 bbl_2
  try clear bbh_l bbh_0 bbh_1 bbh_2
  try clear bcl_l bcl_0 bcl_1 bcl_2
  try clear bch_l bch_0 bch_1 bch_2
  refine (box_calls 0 64 0 0 0 0 _).mono ?_
  rintro e w47 ⟨rfl, hb⟩
  rw [kk37, kk38, kk39, kk40]
  replace HB := Lib.hid (below_step HB.out (by have := HB.out.size; first | omega | (simp; omega)) hb)
  replace bal := bal.below hb bal.lt
  replace bah := bah.below hb bah.lt
  replace bbl := bbl.below hb bbl.lt
  replace bbh := bbh.below hb bbh.lt
  replace bcl := bcl.below hb bcl.lt
  replace bch := bch.below hb bch.lt
  clear hb
  have bal_l := bal.lt
  have bal_0 := bal.cell 0 rfl
  have bal_1 := bal.cell 1 rfl
  have bal_2 := bal.cell 2 rfl
  have bah_l := bah.lt
  have bah_0 := bah.cell 0 rfl
  have bah_1 := bah.cell 1 rfl
  have bah_2 := bah.cell 2 rfl
  have bbl_l := bbl.lt
  have bbl_0 := bbl.cell 0 rfl
  have bbl_1 := bbl.cell 1 rfl
  have bbl_2 := bbl.cell 2 rfl
  have bbh_l := bbh.lt
  have bbh_0 := bbh.cell 0 rfl
  have bbh_1 := bbh.cell 1 rfl
  have bbh_2 := bbh.cell 2 rfl
  have bcl_l := bcl.lt
  have bcl_0 := bcl.cell 0 rfl
  have bcl_1 := bcl.cell 1 rfl
  have bcl_2 := bcl.cell 2 rfl
  have bch_l := bch.lt
  have bch_0 := bch.cell 0 rfl
  have bch_1 := bch.cell 1 rfl
  have bch_2 := bch.cell 2 rfl
  go_wp2_with fail
  try clear bal_l bal_0 bal_1 bal_2
  try clear bah_l bah_0 bah_1 bah_2
  try clear bbl_l bbl_0 bbl_1 bbl_2
  try clear bbh_l bbh_0 bbh_1 bbh_2
  try clear bcl_l bcl_0 bcl_1 bcl_2
  try clear bch_l bch_0 bch_1 bch_2
  refine (at_calls 0 0 0 _).mono ?_
  rintro e w48 ⟨rfl, hb⟩
  replace HB := Lib.hid (below_step ((HB.out.alloc (by have := HB.out.size; first | omega | (simp; omega)) _).alloc (by have := HB.out.size; first | omega | (simp; omega)) _) (by have := HB.out.size; first | omega | (simp; omega)) hb)
  replace bal := ((bal.alloc _).alloc _).below hb ((bal.alloc _).alloc _).lt
  replace bah := ((bah.alloc _).alloc _).below hb ((bah.alloc _).alloc _).lt
  replace bbl := ((bbl.alloc _).alloc _).below hb ((bbl.alloc _).alloc _).lt
  replace bbh := ((bbh.alloc _).alloc _).below hb ((bbh.alloc _).alloc _).lt
  replace bcl := ((bcl.alloc _).alloc _).below hb ((bcl.alloc _).alloc _).lt
  replace bch := ((bch.alloc _).alloc _).below hb ((bch.alloc _).alloc _).lt
  have bdl := ((Blk.new _ #[.int .i64 0, .int .i64 0, .int .i64 0] 23).alloc _).below hb ((Blk.new _ #[.int .i64 0, .int .i64 0, .int .i64 0] 23).alloc _).lt
  have bdh := (Blk.new_at (n := w47.heap.size + 1) #[.int .i64 0, .int .i64 0, .int .i64 0] 23 (by simp)).below hb (Blk.new_at (n := w47.heap.size + 1) #[.int .i64 0, .int .i64 0, .int .i64 0] 23 (by simp)).lt
  clear hb
  have bal_l := bal.lt
  have bal_0 := bal.cell 0 rfl
  have bal_1 := bal.cell 1 rfl
  have bal_2 := bal.cell 2 rfl
  have bah_l := bah.lt
  have bah_0 := bah.cell 0 rfl
  have bah_1 := bah.cell 1 rfl
  have bah_2 := bah.cell 2 rfl
  have bbl_l := bbl.lt
  have bbl_0 := bbl.cell 0 rfl
  have bbl_1 := bbl.cell 1 rfl
  have bbl_2 := bbl.cell 2 rfl
  have bbh_l := bbh.lt
  have bbh_0 := bbh.cell 0 rfl
  have bbh_1 := bbh.cell 1 rfl
  have bbh_2 := bbh.cell 2 rfl
  have bcl_l := bcl.lt
  have bcl_0 := bcl.cell 0 rfl
  have bcl_1 := bcl.cell 1 rfl
  have bcl_2 := bcl.cell 2 rfl
  have bch_l := bch.lt
  have bch_0 := bch.cell 0 rfl
  have bch_1 := bch.cell 1 rfl
  have bch_2 := bch.cell 2 rfl
  have bdl_l := bdl.lt
  have bdl_0 := bdl.cell 0 rfl
  have bdl_1 := bdl.cell 1 rfl
  have bdl_2 := bdl.cell 2 rfl
  have bdh_l := bdh.lt
  have bdh_0 := bdh.cell 0 rfl
  have bdh_1 := bdh.cell 1 rfl
  have bdh_2 := bdh.cell 2 rfl
  go_wp2_with fail
  try clear bal_l bal_0 bal_1 bal_2
  try clear bah_l bah_0 bah_1 bah_2
  try clear bbl_l bbl_0 bbl_1 bbl_2
  try clear bbh_l bbh_0 bbh_1 bbh_2
  try clear bcl_l bcl_0 bcl_1 bcl_2
  try clear bch_l bch_0 bch_1 bch_2
  try clear bdl_l bdl_0 bdl_1 bdl_2
  try clear bdh_l bdh_0 bdh_1 bdh_2
  refine (at_calls 15 15 1 _).mono ?_
  rintro e w49 ⟨rfl, hb⟩
  replace HB := Lib.hid (below_step HB.out (by have := HB.out.size; first | omega | (simp; omega)) hb)
  replace bal := bal.below hb bal.lt
  replace bah := bah.below hb bah.lt
  replace bbl := bbl.below hb bbl.lt
  replace bbh := bbh.below hb bbh.lt
  replace bcl := bcl.below hb bcl.lt
  replace bch := bch.below hb bch.lt
  replace bdl := bdl.below hb bdl.lt
  replace bdh := bdh.below hb bdh.lt
  clear hb
  have bal_l := bal.lt
  have bal_0 := bal.cell 0 rfl
  have bal_1 := bal.cell 1 rfl
  have bal_2 := bal.cell 2 rfl
  have bah_l := bah.lt
  have bah_0 := bah.cell 0 rfl
  have bah_1 := bah.cell 1 rfl
  have bah_2 := bah.cell 2 rfl
  have bbl_l := bbl.lt
  have bbl_0 := bbl.cell 0 rfl
  have bbl_1 := bbl.cell 1 rfl
  have bbl_2 := bbl.cell 2 rfl
  have bbh_l := bbh.lt
  have bbh_0 := bbh.cell 0 rfl
  have bbh_1 := bbh.cell 1 rfl
  have bbh_2 := bbh.cell 2 rfl
  have bcl_l := bcl.lt
  have bcl_0 := bcl.cell 0 rfl
  have bcl_1 := bcl.cell 1 rfl
  have bcl_2 := bcl.cell 2 rfl
  have bch_l := bch.lt
  have bch_0 := bch.cell 0 rfl
  have bch_1 := bch.cell 1 rfl
  have bch_2 := bch.cell 2 rfl
  have bdl_l := bdl.lt
  have bdl_0 := bdl.cell 0 rfl
  have bdl_1 := bdl.cell 1 rfl
  have bdl_2 := bdl.cell 2 rfl
  have bdh_l := bdh.lt
  have bdh_0 := bdh.cell 0 rfl
  have bdh_1 := bdh.cell 1 rfl
  have bdh_2 := bdh.cell 2 rfl
  go_wp2_with fail
  try clear bal_l bal_0 bal_1 bal_2
  try clear bah_l bah_0 bah_1 bah_2
  try clear bbl_l bbl_0 bbl_1 bbl_2
  try clear bbh_l bbh_0 bbh_1 bbh_2
  try clear bcl_l bcl_0 bcl_1 bcl_2
  try clear bch_l bch_0 bch_1 bch_2
  try clear bdl_l bdl_0 bdl_1 bdl_2
  try clear bdh_l bdh_0 bdh_1 bdh_2
  refine (box_calls 0 0 0 15 15 1 _).mono ?_
  rintro e w50 ⟨rfl, hb⟩
  rw [kk41, kk42, kk43, kk44]
  replace HB := Lib.hid (below_step HB.out (by have := HB.out.size; first | omega | (simp; omega)) hb)
  replace bal := bal.below hb bal.lt
  replace bah := bah.below hb bah.lt
  replace bbl := bbl.below hb bbl.lt
  replace bbh := bbh.below hb bbh.lt
  replace bcl := bcl.below hb bcl.lt
  replace bch := bch.below hb bch.lt
  replace bdl := bdl.below hb bdl.lt
  replace bdh := bdh.below hb bdh.lt
  clear hb
  have bal_l := bal.lt
  have bal_0 := bal.cell 0 rfl
  have bal_1 := bal.cell 1 rfl
  have bal_2 := bal.cell 2 rfl
  have bah_l := bah.lt
  have bah_0 := bah.cell 0 rfl
  have bah_1 := bah.cell 1 rfl
  have bah_2 := bah.cell 2 rfl
  have bbl_l := bbl.lt
  have bbl_0 := bbl.cell 0 rfl
  have bbl_1 := bbl.cell 1 rfl
  have bbl_2 := bbl.cell 2 rfl
  have bbh_l := bbh.lt
  have bbh_0 := bbh.cell 0 rfl
  have bbh_1 := bbh.cell 1 rfl
  have bbh_2 := bbh.cell 2 rfl
  have bcl_l := bcl.lt
  have bcl_0 := bcl.cell 0 rfl
  have bcl_1 := bcl.cell 1 rfl
  have bcl_2 := bcl.cell 2 rfl
  have bch_l := bch.lt
  have bch_0 := bch.cell 0 rfl
  have bch_1 := bch.cell 1 rfl
  have bch_2 := bch.cell 2 rfl
  have bdl_l := bdl.lt
  have bdl_0 := bdl.cell 0 rfl
  have bdl_1 := bdl.cell 1 rfl
  have bdl_2 := bdl.cell 2 rfl
  have bdh_l := bdh.lt
  have bdh_0 := bdh.cell 0 rfl
  have bdh_1 := bdh.cell 1 rfl
  have bdh_2 := bdh.cell 2 rfl
  go_upto_region 20 with (fail)
  try clear bal_l bal_0 bal_1 bal_2
  try clear bah_l bah_0 bah_1 bah_2
  try clear bbl_l bbl_0 bbl_1 bbl_2
  try clear bbh_l bbh_0 bbh_1 bbh_2
  try clear bcl_l bcl_0 bcl_1 bcl_2
  try clear bch_l bch_0 bch_1 bch_2
  try clear bdl_l bdl_0 bdl_1 bdl_2
  try clear bdh_l bdh_0 bdh_1 bdh_2
  replace HB := Lib.hid ((HB.out.alloc (by have := HB.out.size; first | omega | (simp; omega)) (.cells #[.int .i64 0, .int .i64 0, .int .i64 0] 23)).alloc (by have := HB.out.size; first | omega | (simp; omega)) (.cells #[.int .i64 15, .int .i64 15, .int .i64 1] 23))
  replace bal := ((bal.alloc (.cells #[.int .i64 0, .int .i64 0, .int .i64 0] 23)).alloc (.cells #[.int .i64 15, .int .i64 15, .int .i64 1] 23))
  replace bah := ((bah.alloc (.cells #[.int .i64 0, .int .i64 0, .int .i64 0] 23)).alloc (.cells #[.int .i64 15, .int .i64 15, .int .i64 1] 23))
  replace bbl := ((bbl.alloc (.cells #[.int .i64 0, .int .i64 0, .int .i64 0] 23)).alloc (.cells #[.int .i64 15, .int .i64 15, .int .i64 1] 23))
  replace bbh := ((bbh.alloc (.cells #[.int .i64 0, .int .i64 0, .int .i64 0] 23)).alloc (.cells #[.int .i64 15, .int .i64 15, .int .i64 1] 23))
  replace bcl := ((bcl.alloc (.cells #[.int .i64 0, .int .i64 0, .int .i64 0] 23)).alloc (.cells #[.int .i64 15, .int .i64 15, .int .i64 1] 23))
  replace bch := ((bch.alloc (.cells #[.int .i64 0, .int .i64 0, .int .i64 0] 23)).alloc (.cells #[.int .i64 15, .int .i64 15, .int .i64 1] 23))
  replace bdl := ((bdl.alloc (.cells #[.int .i64 0, .int .i64 0, .int .i64 0] 23)).alloc (.cells #[.int .i64 15, .int .i64 15, .int .i64 1] 23))
  replace bdh := ((bdh.alloc (.cells #[.int .i64 0, .int .i64 0, .int .i64 0] 23)).alloc (.cells #[.int .i64 15, .int .i64 15, .int .i64 1] 23))
  have bel := ((Blk.new w50 #[.int .i64 0, .int .i64 0, .int .i64 0] 23).alloc (.cells #[.int .i64 15, .int .i64 15, .int .i64 1] 23))
  have beh := (Blk.new_at (w := (World.alloc w50 (.cells #[.int .i64 0, .int .i64 0, .int .i64 0] 23))) (n := w50.heap.size + 1) #[.int .i64 15, .int .i64 15, .int .i64 1] 23 (by simp))
  generalize hW0 : (World.alloc (World.alloc w50 (.cells #[.int .i64 0, .int .i64 0, .int .i64 0] 23)) (.cells #[.int .i64 15, .int .i64 15, .int .i64 1] 23)) = W at *
  clear hW0
  have bal_l := bal.lt
  have bal_0 := bal.cell 0 rfl
  have bal_1 := bal.cell 1 rfl
  have bal_2 := bal.cell 2 rfl
  have bah_l := bah.lt
  have bah_0 := bah.cell 0 rfl
  have bah_1 := bah.cell 1 rfl
  have bah_2 := bah.cell 2 rfl
  have bbl_l := bbl.lt
  have bbl_0 := bbl.cell 0 rfl
  have bbl_1 := bbl.cell 1 rfl
  have bbl_2 := bbl.cell 2 rfl
  have bbh_l := bbh.lt
  have bbh_0 := bbh.cell 0 rfl
  have bbh_1 := bbh.cell 1 rfl
  have bbh_2 := bbh.cell 2 rfl
  have bcl_l := bcl.lt
  have bcl_0 := bcl.cell 0 rfl
  have bcl_1 := bcl.cell 1 rfl
  have bcl_2 := bcl.cell 2 rfl
  have bch_l := bch.lt
  have bch_0 := bch.cell 0 rfl
  have bch_1 := bch.cell 1 rfl
  have bch_2 := bch.cell 2 rfl
  have bdl_l := bdl.lt
  have bdl_0 := bdl.cell 0 rfl
  have bdl_1 := bdl.cell 1 rfl
  have bdl_2 := bdl.cell 2 rfl
  have bdh_l := bdh.lt
  have bdh_0 := bdh.cell 0 rfl
  have bdh_1 := bdh.cell 1 rfl
  have bdh_2 := bdh.cell 2 rfl
  have bel_l := bel.lt
  have bel_0 := bel.cell 0 rfl
  have bel_1 := bel.cell 1 rfl
  have bel_2 := bel.cell 2 rfl
  have beh_l := beh.lt
  have beh_0 := beh.cell 0 rfl
  have beh_1 := beh.cell 1 rfl
  have beh_2 := beh.cell 2 rfl
  try clear bal_l bal_0 bal_1 bal_2
  try clear bah_l bah_0 bah_1 bah_2
  try clear bbl_l bbl_0 bbl_1 bbl_2
  try clear bbh_l bbh_0 bbh_1 bbh_2
  try clear bcl_l bcl_0 bcl_1 bcl_2
  try clear bch_l bch_0 bch_1 bch_2
  try clear bdl_l bdl_0 bdl_1 bdl_2
  try clear bdh_l bdh_0 bdh_1 bdh_2
  try clear bel_l bel_0 bel_1 bel_2
  try clear beh_l beh_0 beh_1 beh_2
  have bal_0 := bal.cells_ext 0 rfl
  have bal_1 := bal.cells_ext 1 rfl
  have bal_2 := bal.cells_ext 2 rfl
  have bah_0 := bah.cells_ext 0 rfl
  have bah_1 := bah.cells_ext 1 rfl
  have bah_2 := bah.cells_ext 2 rfl
  have bbl_0 := bbl.cells_ext 0 rfl
  have bbl_1 := bbl.cells_ext 1 rfl
  have bbl_2 := bbl.cells_ext 2 rfl
  have bbh_0 := bbh.cells_ext 0 rfl
  have bbh_1 := bbh.cells_ext 1 rfl
  have bbh_2 := bbh.cells_ext 2 rfl
  have bcl_0 := bcl.cells_ext 0 rfl
  have bcl_1 := bcl.cells_ext 1 rfl
  have bcl_2 := bcl.cells_ext 2 rfl
  have bch_0 := bch.cells_ext 0 rfl
  have bch_1 := bch.cells_ext 1 rfl
  have bch_2 := bch.cells_ext 2 rfl
  have bdl_0 := bdl.cells_ext 0 rfl
  have bdl_1 := bdl.cells_ext 1 rfl
  have bdl_2 := bdl.cells_ext 2 rfl
  have bdh_0 := bdh.cells_ext 0 rfl
  have bdh_1 := bdh.cells_ext 1 rfl
  have bdh_2 := bdh.cells_ext 2 rfl
  have bel_0 := bel.cells_ext 0 rfl
  have bel_1 := bel.cells_ext 1 rfl
  have bel_2 := bel.cells_ext 2 rfl
  have beh_0 := beh.cells_ext 0 rfl
  have beh_1 := beh.cells_ext 1 rfl
  have beh_2 := beh.cells_ext 2 rfl
  refine wp_region_ext (by kernel_rfl) (by kernel_rfl) ?_
  repeat (quiet_step ((first | (go_at_call 36; exact calls_ext_of (at_calls _ _ _ _)) | (go_at_call 15; exact calls_ext_of (works_calls _)))))
  refine wpQuiet_nil ?_
  intro _ hw'
  obtain ⟨pq, hw''⟩ := hw'
  subst hw''
  try clear bal_l bal_0 bal_1 bal_2
  try clear bah_l bah_0 bah_1 bah_2
  try clear bbl_l bbl_0 bbl_1 bbl_2
  try clear bbh_l bbh_0 bbh_1 bbh_2
  try clear bcl_l bcl_0 bcl_1 bcl_2
  try clear bch_l bch_0 bch_1 bch_2
  try clear bdl_l bdl_0 bdl_1 bdl_2
  try clear bdh_l bdh_0 bdh_1 bdh_2
  try clear bel_l bel_0 bel_1 bel_2
  try clear beh_l beh_0 beh_1 beh_2
  replace HB := Lib.hid (below_step HB.out (by have := HB.out.size; omega) (below_ext W pq))
  replace bal := bal.ext pq
  replace bah := bah.ext pq
  replace bbl := bbl.ext pq
  replace bbh := bbh.ext pq
  replace bcl := bcl.ext pq
  replace bch := bch.ext pq
  replace bdl := bdl.ext pq
  replace bdh := bdh.ext pq
  replace bel := bel.ext pq
  replace beh := beh.ext pq
  generalize ext W pq = W3 at *
  have bal_l := bal.lt
  have bal_0 := bal.cell 0 rfl
  have bal_1 := bal.cell 1 rfl
  have bal_2 := bal.cell 2 rfl
  have bah_l := bah.lt
  have bah_0 := bah.cell 0 rfl
  have bah_1 := bah.cell 1 rfl
  have bah_2 := bah.cell 2 rfl
  have bbl_l := bbl.lt
  have bbl_0 := bbl.cell 0 rfl
  have bbl_1 := bbl.cell 1 rfl
  have bbl_2 := bbl.cell 2 rfl
  have bbh_l := bbh.lt
  have bbh_0 := bbh.cell 0 rfl
  have bbh_1 := bbh.cell 1 rfl
  have bbh_2 := bbh.cell 2 rfl
  have bcl_l := bcl.lt
  have bcl_0 := bcl.cell 0 rfl
  have bcl_1 := bcl.cell 1 rfl
  have bcl_2 := bcl.cell 2 rfl
  have bch_l := bch.lt
  have bch_0 := bch.cell 0 rfl
  have bch_1 := bch.cell 1 rfl
  have bch_2 := bch.cell 2 rfl
  have bdl_l := bdl.lt
  have bdl_0 := bdl.cell 0 rfl
  have bdl_1 := bdl.cell 1 rfl
  have bdl_2 := bdl.cell 2 rfl
  have bdh_l := bdh.lt
  have bdh_0 := bdh.cell 0 rfl
  have bdh_1 := bdh.cell 1 rfl
  have bdh_2 := bdh.cell 2 rfl
  have bel_l := bel.lt
  have bel_0 := bel.cell 0 rfl
  have bel_1 := bel.cell 1 rfl
  have bel_2 := bel.cell 2 rfl
  have beh_l := beh.lt
  have beh_0 := beh.cell 0 rfl
  have beh_1 := beh.cell 1 rfl
  have beh_2 := beh.cell 2 rfl
  go_wp2_with fail
  go_ret
  exact ⟨rfl, HB.out⟩
end Go.Proofs.Ytjodiclmibiboaa
