/-
  PlaceThere's walk.
-/
import Derived.Test.YtjodiclmibiboaaWorks02
import Derived.Test.YtjodiclmibiboaaCmp
import Derived.Test.YtjodiclmibiboaaStep
namespace Go.Proofs.Ytjodiclmibiboaa
open Go.RowKit
set_option linter.unusedSimpArgs false
set_option linter.unusedVariables false

set_option maxRecDepth 100000 in
set_option maxHeartbeats 4000000 in
theorem there_no (x y z d : Int) (w : World) (h : stepOk x y z d = false) :
    Calls Try.prog 11 #[.agg #[.int .i64 x, .int .i64 y, .int .i64 z], .int .i64 d] w fun e w' => e = .returned (.bool true) ∧ Below w.heap.size w w' := by
  have hv : stepV x y z d = .agg #[.int .i64 0, .int .i64 0, .int .i64 0] := by unfold stepV; rw [h]; rfl
  replace hv := Lib.hid hv
  go_enter Try.func11, Try.ntmps11
  go_wp2_with fail
  refine (step_calls _ _ _ _ _).mono ?_
  rintro e w1 ⟨rfl, hb⟩
  rw [hv.out, h]
  have HB := Lib.hid (below_step ((Below.refl w.heap.size w).alloc (by first | exact Nat.le_refl _ | (simp; done) | (simp; omega) | omega) _) (by first | exact Nat.le_refl _ | (simp; done) | (simp; omega) | omega) hb)
  have b0 := (Blk.new_at (w := w) (n := w.heap.size) #[.int .i64 x, .int .i64 y, .int .i64 z] 23 (by simp)).below hb (by first | exact Nat.le_refl _ | (simp; done) | (simp; omega) | omega)
  clear hb
  have b0_l := b0.lt
  have b0_0 := b0.cell 0 rfl
  have b0_1 := b0.cell 1 rfl
  have b0_2 := b0.cell 2 rfl
  go_wp2_with fail
  try clear b0_l b0_0 b0_1 b0_2
  refine (works_calls _).mono ?_
  rintro e w3 ⟨rfl, hb⟩
  replace HB := Lib.hid (below_step (HB.out.alloc (by have := HB.out.size; first | omega | (simp; omega)) _) (by have := HB.out.size; first | omega | (simp; omega)) hb)
  replace b0 := (b0.alloc _).below hb (b0.alloc _).lt
  have b2 := (Blk.new _ #[.int .i64 0, .int .i64 0, .int .i64 0] 23).below hb (Blk.new _ #[.int .i64 0, .int .i64 0, .int .i64 0] 23).lt
  clear hb
  have b0_l := b0.lt
  have b0_0 := b0.cell 0 rfl
  have b0_1 := b0.cell 1 rfl
  have b0_2 := b0.cell 2 rfl
  have b2_l := b2.lt
  have b2_0 := b2.cell 0 rfl
  have b2_1 := b2.cell 1 rfl
  have b2_2 := b2.cell 2 rfl
  go_wp2_with fail
  go_ret
  exact ⟨rfl, HB.out⟩

set_option maxRecDepth 100000 in
set_option maxHeartbeats 4000000 in
theorem there_yes0 (x y z : Int) (w : World) (h : stepOk x y z 0 = true) :
    Calls Try.prog 11 #[.agg #[.int .i64 x, .int .i64 y, .int .i64 z], .int .i64 0] w fun e w' => e = .returned (.bool true) ∧ Below w.heap.size w w' := by
  have hv : stepV x y z 0 = .agg #[.int .i64 (x + 1), .int .i64 (y), .int .i64 (z)] := by unfold stepV; rw [h]; rfl
  have hm := h
  simp only [stepOk, Bool.and_eq_true] at hm
  obtain ⟨m1, _, m2⟩ := hm
  have m2' : mayB (x + 1) (y) (z) = true := m2
  clear m2
  have i1 := mayB_iff.1 m1
  have i2 := mayB_iff.1 m2'
  have ex : stepX (x + 1) 1 = x := by unfold stepX; simp <;> omega
  have ey : stepY (y) 1 = y := by unfold stepY; simp <;> omega
  have ez : stepZ (z) 1 = z := by unfold stepZ; simp <;> omega
  have ho : stepOk (x + 1) (y) (z) 1 = true := by unfold stepOk; rw [m2', ex, ey, ez, m1]; rfl
  have hv2 : stepV (x + 1) (y) (z) 1 = .agg #[.int .i64 x, .int .i64 y, .int .i64 z] := by unfold stepV; rw [ho, ex, ey, ez]; rfl
  have hf : farOk x y z (x + 1) (y) (z) = true := by unfold farOk; rw [m1, m2']; rfl
  have hf1 : farV x y z (x + 1) (y) (z) = 1 := by unfold farV; rw [hf]; simp only [if_true]; unfold gapI; (repeat' split) <;> omega
  have hc : cmpP x y z (x + 1) (y) (z) ≠ 0 := by unfold cmpP orI cmpI; (repeat' split) <;> omega
  obtain ⟨cc, hcc⟩ : ∃ cc, cmpP x y z (x + 1) (y) (z) = cc := ⟨_, rfl⟩
  rw [hcc] at hc
  have hcb : (cc != 0) = true := by rw [bne_iff_ne]; exact hc
  clear ex ey ez i1 i2 hc
  replace hv := Lib.hid hv
  replace hv2 := Lib.hid hv2
  replace hf1 := Lib.hid hf1
  replace hcc := Lib.hid hcc
  go_enter Try.func11, Try.ntmps11
  go_wp2_with fail
  refine (step_calls _ _ _ _ _).mono ?_
  rintro e w1 ⟨rfl, hb⟩
  rw [hv.out, h]
  have HB := Lib.hid (below_step ((Below.refl w.heap.size w).alloc (by first | exact Nat.le_refl _ | (simp; done) | (simp; omega) | omega) _) (by first | exact Nat.le_refl _ | (simp; done) | (simp; omega) | omega) hb)
  have b0 := (Blk.new_at (w := w) (n := w.heap.size) #[.int .i64 x, .int .i64 y, .int .i64 z] 23 (by simp)).below hb (by first | exact Nat.le_refl _ | (simp; done) | (simp; omega) | omega)
  clear hb
  have b0_l := b0.lt
  have b0_0 := b0.cell 0 rfl
  have b0_1 := b0.cell 1 rfl
  have b0_2 := b0.cell 2 rfl
  go_wp2_with fail
  try clear b0_l b0_0 b0_1 b0_2
  refine (step_calls _ _ _ _ _).mono ?_
  rintro e w2 ⟨rfl, hb⟩
  rw [hv2.out, ho]
  replace HB := Lib.hid (below_step (HB.out.alloc (by have := HB.out.size; first | omega | (simp; omega)) _) (by have := HB.out.size; first | omega | (simp; omega)) hb)
  replace b0 := (b0.alloc _).below hb (b0.alloc _).lt
  have b1 := (Blk.new _ #[.int .i64 (x + 1), .int .i64 (y), .int .i64 (z)] 23).below hb (Blk.new _ #[.int .i64 (x + 1), .int .i64 (y), .int .i64 (z)] 23).lt
  clear hb
  have b0_l := b0.lt
  have b0_0 := b0.cell 0 rfl
  have b0_1 := b0.cell 1 rfl
  have b0_2 := b0.cell 2 rfl
  have b1_l := b1.lt
  have b1_0 := b1.cell 0 rfl
  have b1_1 := b1.cell 1 rfl
  have b1_2 := b1.cell 2 rfl
  go_wp2_with fail
  try clear b0_l b0_0 b0_1 b0_2
  try clear b1_l b1_0 b1_1 b1_2
  refine (far_calls _ _ _ _ _ _ _).mono ?_
  rintro e w3 ⟨rfl, hb⟩
  rw [hf1.out, hf]
  replace HB := Lib.hid (below_step (HB.out.alloc (by have := HB.out.size; first | omega | (simp; omega)) _) (by have := HB.out.size; first | omega | (simp; omega)) hb)
  replace b0 := (b0.alloc _).below hb (b0.alloc _).lt
  replace b1 := (b1.alloc _).below hb (b1.alloc _).lt
  have b2 := (Blk.new _ #[.int .i64 x, .int .i64 y, .int .i64 z] 23).below hb (Blk.new _ #[.int .i64 x, .int .i64 y, .int .i64 z] 23).lt
  clear hb
  have b0_l := b0.lt
  have b0_0 := b0.cell 0 rfl
  have b0_1 := b0.cell 1 rfl
  have b0_2 := b0.cell 2 rfl
  have b1_l := b1.lt
  have b1_0 := b1.cell 0 rfl
  have b1_1 := b1.cell 1 rfl
  have b1_2 := b1.cell 2 rfl
  have b2_l := b2.lt
  have b2_0 := b2.cell 0 rfl
  have b2_1 := b2.cell 1 rfl
  have b2_2 := b2.cell 2 rfl
  go_wp2_with fail
  try clear b0_l b0_0 b0_1 b0_2
  try clear b1_l b1_0 b1_1 b1_2
  try clear b2_l b2_0 b2_1 b2_2
  refine (may_calls _ _ _ _).mono ?_
  rintro e w4 ⟨rfl, hb⟩
  rw [m1]
  replace HB := Lib.hid (below_step HB.out (by have := HB.out.size; first | omega | (simp; omega)) hb)
  replace b0 := b0.below hb b0.lt
  replace b1 := b1.below hb b1.lt
  replace b2 := b2.below hb b2.lt
  clear hb
  have b0_l := b0.lt
  have b0_0 := b0.cell 0 rfl
  have b0_1 := b0.cell 1 rfl
  have b0_2 := b0.cell 2 rfl
  have b1_l := b1.lt
  have b1_0 := b1.cell 0 rfl
  have b1_1 := b1.cell 1 rfl
  have b1_2 := b1.cell 2 rfl
  have b2_l := b2.lt
  have b2_0 := b2.cell 0 rfl
  have b2_1 := b2.cell 1 rfl
  have b2_2 := b2.cell 2 rfl
  go_wp2_with fail
  try clear b0_l b0_0 b0_1 b0_2
  try clear b1_l b1_0 b1_1 b1_2
  try clear b2_l b2_0 b2_1 b2_2
  refine (may_calls _ _ _ _).mono ?_
  rintro e w5 ⟨rfl, hb⟩
  rw [m2']
  replace HB := Lib.hid (below_step HB.out (by have := HB.out.size; first | omega | (simp; omega)) hb)
  replace b0 := b0.below hb b0.lt
  replace b1 := b1.below hb b1.lt
  replace b2 := b2.below hb b2.lt
  clear hb
  have b0_l := b0.lt
  have b0_0 := b0.cell 0 rfl
  have b0_1 := b0.cell 1 rfl
  have b0_2 := b0.cell 2 rfl
  have b1_l := b1.lt
  have b1_0 := b1.cell 0 rfl
  have b1_1 := b1.cell 1 rfl
  have b1_2 := b1.cell 2 rfl
  have b2_l := b2.lt
  have b2_0 := b2.cell 0 rfl
  have b2_1 := b2.cell 1 rfl
  have b2_2 := b2.cell 2 rfl
  go_wp2_with fail
  try clear b0_l b0_0 b0_1 b0_2
  try clear b1_l b1_0 b1_1 b1_2
  try clear b2_l b2_0 b2_1 b2_2
  refine (cmp_calls _ _ _ _ _ _ _).mono ?_
  rintro e w6 ⟨rfl, hb⟩
  rw [hcc.out]
  replace HB := Lib.hid (below_step HB.out (by have := HB.out.size; first | omega | (simp; omega)) hb)
  replace b0 := b0.below hb b0.lt
  replace b1 := b1.below hb b1.lt
  replace b2 := b2.below hb b2.lt
  clear hb
  have b0_l := b0.lt
  have b0_0 := b0.cell 0 rfl
  have b0_1 := b0.cell 1 rfl
  have b0_2 := b0.cell 2 rfl
  have b1_l := b1.lt
  have b1_0 := b1.cell 0 rfl
  have b1_1 := b1.cell 1 rfl
  have b1_2 := b1.cell 2 rfl
  have b2_l := b2.lt
  have b2_0 := b2.cell 0 rfl
  have b2_1 := b2.cell 1 rfl
  have b2_2 := b2.cell 2 rfl
  go_wp2_with fail
  try clear b0_l b0_0 b0_1 b0_2
  try clear b1_l b1_0 b1_1 b1_2
  try clear b2_l b2_0 b2_1 b2_2
  refine (works_calls _).mono ?_
  rintro e w7 ⟨rfl, hb⟩
  replace HB := Lib.hid (below_step HB.out (by have := HB.out.size; first | omega | (simp; omega)) hb)
  replace b0 := b0.below hb b0.lt
  replace b1 := b1.below hb b1.lt
  replace b2 := b2.below hb b2.lt
  clear hb
  have b0_l := b0.lt
  have b0_0 := b0.cell 0 rfl
  have b0_1 := b0.cell 1 rfl
  have b0_2 := b0.cell 2 rfl
  have b1_l := b1.lt
  have b1_0 := b1.cell 0 rfl
  have b1_1 := b1.cell 1 rfl
  have b1_2 := b1.cell 2 rfl
  have b2_l := b2.lt
  have b2_0 := b2.cell 0 rfl
  have b2_1 := b2.cell 1 rfl
  have b2_2 := b2.cell 2 rfl
  go_wp2_with fail
  go_ret
  exact ⟨rfl, HB.out⟩

set_option maxRecDepth 100000 in
set_option maxHeartbeats 4000000 in
theorem there_yes1 (x y z : Int) (w : World) (h : stepOk x y z 1 = true) :
    Calls Try.prog 11 #[.agg #[.int .i64 x, .int .i64 y, .int .i64 z], .int .i64 1] w fun e w' => e = .returned (.bool true) ∧ Below w.heap.size w w' := by
  have hv : stepV x y z 1 = .agg #[.int .i64 (x - 1), .int .i64 (y), .int .i64 (z)] := by unfold stepV; rw [h]; rfl
  have hm := h
  simp only [stepOk, Bool.and_eq_true] at hm
  obtain ⟨m1, _, m2⟩ := hm
  have m2' : mayB (x - 1) (y) (z) = true := m2
  clear m2
  have i1 := mayB_iff.1 m1
  have i2 := mayB_iff.1 m2'
  have ex : stepX (x - 1) 0 = x := by unfold stepX; simp <;> omega
  have ey : stepY (y) 0 = y := by unfold stepY; simp <;> omega
  have ez : stepZ (z) 0 = z := by unfold stepZ; simp <;> omega
  have ho : stepOk (x - 1) (y) (z) 0 = true := by unfold stepOk; rw [m2', ex, ey, ez, m1]; rfl
  have hv2 : stepV (x - 1) (y) (z) 0 = .agg #[.int .i64 x, .int .i64 y, .int .i64 z] := by unfold stepV; rw [ho, ex, ey, ez]; rfl
  have hf : farOk x y z (x - 1) (y) (z) = true := by unfold farOk; rw [m1, m2']; rfl
  have hf1 : farV x y z (x - 1) (y) (z) = 1 := by unfold farV; rw [hf]; simp only [if_true]; unfold gapI; (repeat' split) <;> omega
  have hc : cmpP x y z (x - 1) (y) (z) ≠ 0 := by unfold cmpP orI cmpI; (repeat' split) <;> omega
  obtain ⟨cc, hcc⟩ : ∃ cc, cmpP x y z (x - 1) (y) (z) = cc := ⟨_, rfl⟩
  rw [hcc] at hc
  have hcb : (cc != 0) = true := by rw [bne_iff_ne]; exact hc
  clear ex ey ez i1 i2 hc
  replace hv := Lib.hid hv
  replace hv2 := Lib.hid hv2
  replace hf1 := Lib.hid hf1
  replace hcc := Lib.hid hcc
  go_enter Try.func11, Try.ntmps11
  go_wp2_with fail
  refine (step_calls _ _ _ _ _).mono ?_
  rintro e w1 ⟨rfl, hb⟩
  rw [hv.out, h]
  have HB := Lib.hid (below_step ((Below.refl w.heap.size w).alloc (by first | exact Nat.le_refl _ | (simp; done) | (simp; omega) | omega) _) (by first | exact Nat.le_refl _ | (simp; done) | (simp; omega) | omega) hb)
  have b0 := (Blk.new_at (w := w) (n := w.heap.size) #[.int .i64 x, .int .i64 y, .int .i64 z] 23 (by simp)).below hb (by first | exact Nat.le_refl _ | (simp; done) | (simp; omega) | omega)
  clear hb
  have b0_l := b0.lt
  have b0_0 := b0.cell 0 rfl
  have b0_1 := b0.cell 1 rfl
  have b0_2 := b0.cell 2 rfl
  go_wp2_with fail
  try clear b0_l b0_0 b0_1 b0_2
  refine (step_calls _ _ _ _ _).mono ?_
  rintro e w2 ⟨rfl, hb⟩
  rw [hv2.out, ho]
  replace HB := Lib.hid (below_step (HB.out.alloc (by have := HB.out.size; first | omega | (simp; omega)) _) (by have := HB.out.size; first | omega | (simp; omega)) hb)
  replace b0 := (b0.alloc _).below hb (b0.alloc _).lt
  have b1 := (Blk.new _ #[.int .i64 (x - 1), .int .i64 (y), .int .i64 (z)] 23).below hb (Blk.new _ #[.int .i64 (x - 1), .int .i64 (y), .int .i64 (z)] 23).lt
  clear hb
  have b0_l := b0.lt
  have b0_0 := b0.cell 0 rfl
  have b0_1 := b0.cell 1 rfl
  have b0_2 := b0.cell 2 rfl
  have b1_l := b1.lt
  have b1_0 := b1.cell 0 rfl
  have b1_1 := b1.cell 1 rfl
  have b1_2 := b1.cell 2 rfl
  go_wp2_with fail
  try clear b0_l b0_0 b0_1 b0_2
  try clear b1_l b1_0 b1_1 b1_2
  refine (far_calls _ _ _ _ _ _ _).mono ?_
  rintro e w3 ⟨rfl, hb⟩
  rw [hf1.out, hf]
  replace HB := Lib.hid (below_step (HB.out.alloc (by have := HB.out.size; first | omega | (simp; omega)) _) (by have := HB.out.size; first | omega | (simp; omega)) hb)
  replace b0 := (b0.alloc _).below hb (b0.alloc _).lt
  replace b1 := (b1.alloc _).below hb (b1.alloc _).lt
  have b2 := (Blk.new _ #[.int .i64 x, .int .i64 y, .int .i64 z] 23).below hb (Blk.new _ #[.int .i64 x, .int .i64 y, .int .i64 z] 23).lt
  clear hb
  have b0_l := b0.lt
  have b0_0 := b0.cell 0 rfl
  have b0_1 := b0.cell 1 rfl
  have b0_2 := b0.cell 2 rfl
  have b1_l := b1.lt
  have b1_0 := b1.cell 0 rfl
  have b1_1 := b1.cell 1 rfl
  have b1_2 := b1.cell 2 rfl
  have b2_l := b2.lt
  have b2_0 := b2.cell 0 rfl
  have b2_1 := b2.cell 1 rfl
  have b2_2 := b2.cell 2 rfl
  go_wp2_with fail
  try clear b0_l b0_0 b0_1 b0_2
  try clear b1_l b1_0 b1_1 b1_2
  try clear b2_l b2_0 b2_1 b2_2
  refine (may_calls _ _ _ _).mono ?_
  rintro e w4 ⟨rfl, hb⟩
  rw [m1]
  replace HB := Lib.hid (below_step HB.out (by have := HB.out.size; first | omega | (simp; omega)) hb)
  replace b0 := b0.below hb b0.lt
  replace b1 := b1.below hb b1.lt
  replace b2 := b2.below hb b2.lt
  clear hb
  have b0_l := b0.lt
  have b0_0 := b0.cell 0 rfl
  have b0_1 := b0.cell 1 rfl
  have b0_2 := b0.cell 2 rfl
  have b1_l := b1.lt
  have b1_0 := b1.cell 0 rfl
  have b1_1 := b1.cell 1 rfl
  have b1_2 := b1.cell 2 rfl
  have b2_l := b2.lt
  have b2_0 := b2.cell 0 rfl
  have b2_1 := b2.cell 1 rfl
  have b2_2 := b2.cell 2 rfl
  go_wp2_with fail
  try clear b0_l b0_0 b0_1 b0_2
  try clear b1_l b1_0 b1_1 b1_2
  try clear b2_l b2_0 b2_1 b2_2
  refine (may_calls _ _ _ _).mono ?_
  rintro e w5 ⟨rfl, hb⟩
  rw [m2']
  replace HB := Lib.hid (below_step HB.out (by have := HB.out.size; first | omega | (simp; omega)) hb)
  replace b0 := b0.below hb b0.lt
  replace b1 := b1.below hb b1.lt
  replace b2 := b2.below hb b2.lt
  clear hb
  have b0_l := b0.lt
  have b0_0 := b0.cell 0 rfl
  have b0_1 := b0.cell 1 rfl
  have b0_2 := b0.cell 2 rfl
  have b1_l := b1.lt
  have b1_0 := b1.cell 0 rfl
  have b1_1 := b1.cell 1 rfl
  have b1_2 := b1.cell 2 rfl
  have b2_l := b2.lt
  have b2_0 := b2.cell 0 rfl
  have b2_1 := b2.cell 1 rfl
  have b2_2 := b2.cell 2 rfl
  go_wp2_with fail
  try clear b0_l b0_0 b0_1 b0_2
  try clear b1_l b1_0 b1_1 b1_2
  try clear b2_l b2_0 b2_1 b2_2
  refine (cmp_calls _ _ _ _ _ _ _).mono ?_
  rintro e w6 ⟨rfl, hb⟩
  rw [hcc.out]
  replace HB := Lib.hid (below_step HB.out (by have := HB.out.size; first | omega | (simp; omega)) hb)
  replace b0 := b0.below hb b0.lt
  replace b1 := b1.below hb b1.lt
  replace b2 := b2.below hb b2.lt
  clear hb
  have b0_l := b0.lt
  have b0_0 := b0.cell 0 rfl
  have b0_1 := b0.cell 1 rfl
  have b0_2 := b0.cell 2 rfl
  have b1_l := b1.lt
  have b1_0 := b1.cell 0 rfl
  have b1_1 := b1.cell 1 rfl
  have b1_2 := b1.cell 2 rfl
  have b2_l := b2.lt
  have b2_0 := b2.cell 0 rfl
  have b2_1 := b2.cell 1 rfl
  have b2_2 := b2.cell 2 rfl
  go_wp2_with fail
  try clear b0_l b0_0 b0_1 b0_2
  try clear b1_l b1_0 b1_1 b1_2
  try clear b2_l b2_0 b2_1 b2_2
  refine (works_calls _).mono ?_
  rintro e w7 ⟨rfl, hb⟩
  replace HB := Lib.hid (below_step HB.out (by have := HB.out.size; first | omega | (simp; omega)) hb)
  replace b0 := b0.below hb b0.lt
  replace b1 := b1.below hb b1.lt
  replace b2 := b2.below hb b2.lt
  clear hb
  have b0_l := b0.lt
  have b0_0 := b0.cell 0 rfl
  have b0_1 := b0.cell 1 rfl
  have b0_2 := b0.cell 2 rfl
  have b1_l := b1.lt
  have b1_0 := b1.cell 0 rfl
  have b1_1 := b1.cell 1 rfl
  have b1_2 := b1.cell 2 rfl
  have b2_l := b2.lt
  have b2_0 := b2.cell 0 rfl
  have b2_1 := b2.cell 1 rfl
  have b2_2 := b2.cell 2 rfl
  go_wp2_with fail
  go_ret
  exact ⟨rfl, HB.out⟩

set_option maxRecDepth 100000 in
set_option maxHeartbeats 4000000 in
theorem there_yes2 (x y z : Int) (w : World) (h : stepOk x y z 2 = true) :
    Calls Try.prog 11 #[.agg #[.int .i64 x, .int .i64 y, .int .i64 z], .int .i64 2] w fun e w' => e = .returned (.bool true) ∧ Below w.heap.size w w' := by
  have hv : stepV x y z 2 = .agg #[.int .i64 (x), .int .i64 (y), .int .i64 (z + 1)] := by unfold stepV; rw [h]; rfl
  have hm := h
  simp only [stepOk, Bool.and_eq_true] at hm
  obtain ⟨m1, _, m2⟩ := hm
  have m2' : mayB (x) (y) (z + 1) = true := m2
  clear m2
  have i1 := mayB_iff.1 m1
  have i2 := mayB_iff.1 m2'
  have ex : stepX (x) 3 = x := by unfold stepX; simp <;> omega
  have ey : stepY (y) 3 = y := by unfold stepY; simp <;> omega
  have ez : stepZ (z + 1) 3 = z := by unfold stepZ; simp <;> omega
  have ho : stepOk (x) (y) (z + 1) 3 = true := by unfold stepOk; rw [m2', ex, ey, ez, m1]; rfl
  have hv2 : stepV (x) (y) (z + 1) 3 = .agg #[.int .i64 x, .int .i64 y, .int .i64 z] := by unfold stepV; rw [ho, ex, ey, ez]; rfl
  have hf : farOk x y z (x) (y) (z + 1) = true := by unfold farOk; rw [m1, m2']; rfl
  have hf1 : farV x y z (x) (y) (z + 1) = 1 := by unfold farV; rw [hf]; simp only [if_true]; unfold gapI; (repeat' split) <;> omega
  have hc : cmpP x y z (x) (y) (z + 1) ≠ 0 := by unfold cmpP orI cmpI; (repeat' split) <;> omega
  obtain ⟨cc, hcc⟩ : ∃ cc, cmpP x y z (x) (y) (z + 1) = cc := ⟨_, rfl⟩
  rw [hcc] at hc
  have hcb : (cc != 0) = true := by rw [bne_iff_ne]; exact hc
  clear ex ey ez i1 i2 hc
  replace hv := Lib.hid hv
  replace hv2 := Lib.hid hv2
  replace hf1 := Lib.hid hf1
  replace hcc := Lib.hid hcc
  go_enter Try.func11, Try.ntmps11
  go_wp2_with fail
  refine (step_calls _ _ _ _ _).mono ?_
  rintro e w1 ⟨rfl, hb⟩
  rw [hv.out, h]
  have HB := Lib.hid (below_step ((Below.refl w.heap.size w).alloc (by first | exact Nat.le_refl _ | (simp; done) | (simp; omega) | omega) _) (by first | exact Nat.le_refl _ | (simp; done) | (simp; omega) | omega) hb)
  have b0 := (Blk.new_at (w := w) (n := w.heap.size) #[.int .i64 x, .int .i64 y, .int .i64 z] 23 (by simp)).below hb (by first | exact Nat.le_refl _ | (simp; done) | (simp; omega) | omega)
  clear hb
  have b0_l := b0.lt
  have b0_0 := b0.cell 0 rfl
  have b0_1 := b0.cell 1 rfl
  have b0_2 := b0.cell 2 rfl
  go_wp2_with fail
  try clear b0_l b0_0 b0_1 b0_2
  refine (step_calls _ _ _ _ _).mono ?_
  rintro e w2 ⟨rfl, hb⟩
  rw [hv2.out, ho]
  replace HB := Lib.hid (below_step (HB.out.alloc (by have := HB.out.size; first | omega | (simp; omega)) _) (by have := HB.out.size; first | omega | (simp; omega)) hb)
  replace b0 := (b0.alloc _).below hb (b0.alloc _).lt
  have b1 := (Blk.new _ #[.int .i64 (x), .int .i64 (y), .int .i64 (z + 1)] 23).below hb (Blk.new _ #[.int .i64 (x), .int .i64 (y), .int .i64 (z + 1)] 23).lt
  clear hb
  have b0_l := b0.lt
  have b0_0 := b0.cell 0 rfl
  have b0_1 := b0.cell 1 rfl
  have b0_2 := b0.cell 2 rfl
  have b1_l := b1.lt
  have b1_0 := b1.cell 0 rfl
  have b1_1 := b1.cell 1 rfl
  have b1_2 := b1.cell 2 rfl
  go_wp2_with fail
  try clear b0_l b0_0 b0_1 b0_2
  try clear b1_l b1_0 b1_1 b1_2
  refine (far_calls _ _ _ _ _ _ _).mono ?_
  rintro e w3 ⟨rfl, hb⟩
  rw [hf1.out, hf]
  replace HB := Lib.hid (below_step (HB.out.alloc (by have := HB.out.size; first | omega | (simp; omega)) _) (by have := HB.out.size; first | omega | (simp; omega)) hb)
  replace b0 := (b0.alloc _).below hb (b0.alloc _).lt
  replace b1 := (b1.alloc _).below hb (b1.alloc _).lt
  have b2 := (Blk.new _ #[.int .i64 x, .int .i64 y, .int .i64 z] 23).below hb (Blk.new _ #[.int .i64 x, .int .i64 y, .int .i64 z] 23).lt
  clear hb
  have b0_l := b0.lt
  have b0_0 := b0.cell 0 rfl
  have b0_1 := b0.cell 1 rfl
  have b0_2 := b0.cell 2 rfl
  have b1_l := b1.lt
  have b1_0 := b1.cell 0 rfl
  have b1_1 := b1.cell 1 rfl
  have b1_2 := b1.cell 2 rfl
  have b2_l := b2.lt
  have b2_0 := b2.cell 0 rfl
  have b2_1 := b2.cell 1 rfl
  have b2_2 := b2.cell 2 rfl
  go_wp2_with fail
  try clear b0_l b0_0 b0_1 b0_2
  try clear b1_l b1_0 b1_1 b1_2
  try clear b2_l b2_0 b2_1 b2_2
  refine (may_calls _ _ _ _).mono ?_
  rintro e w4 ⟨rfl, hb⟩
  rw [m1]
  replace HB := Lib.hid (below_step HB.out (by have := HB.out.size; first | omega | (simp; omega)) hb)
  replace b0 := b0.below hb b0.lt
  replace b1 := b1.below hb b1.lt
  replace b2 := b2.below hb b2.lt
  clear hb
  have b0_l := b0.lt
  have b0_0 := b0.cell 0 rfl
  have b0_1 := b0.cell 1 rfl
  have b0_2 := b0.cell 2 rfl
  have b1_l := b1.lt
  have b1_0 := b1.cell 0 rfl
  have b1_1 := b1.cell 1 rfl
  have b1_2 := b1.cell 2 rfl
  have b2_l := b2.lt
  have b2_0 := b2.cell 0 rfl
  have b2_1 := b2.cell 1 rfl
  have b2_2 := b2.cell 2 rfl
  go_wp2_with fail
  try clear b0_l b0_0 b0_1 b0_2
  try clear b1_l b1_0 b1_1 b1_2
  try clear b2_l b2_0 b2_1 b2_2
  refine (may_calls _ _ _ _).mono ?_
  rintro e w5 ⟨rfl, hb⟩
  rw [m2']
  replace HB := Lib.hid (below_step HB.out (by have := HB.out.size; first | omega | (simp; omega)) hb)
  replace b0 := b0.below hb b0.lt
  replace b1 := b1.below hb b1.lt
  replace b2 := b2.below hb b2.lt
  clear hb
  have b0_l := b0.lt
  have b0_0 := b0.cell 0 rfl
  have b0_1 := b0.cell 1 rfl
  have b0_2 := b0.cell 2 rfl
  have b1_l := b1.lt
  have b1_0 := b1.cell 0 rfl
  have b1_1 := b1.cell 1 rfl
  have b1_2 := b1.cell 2 rfl
  have b2_l := b2.lt
  have b2_0 := b2.cell 0 rfl
  have b2_1 := b2.cell 1 rfl
  have b2_2 := b2.cell 2 rfl
  go_wp2_with fail
  try clear b0_l b0_0 b0_1 b0_2
  try clear b1_l b1_0 b1_1 b1_2
  try clear b2_l b2_0 b2_1 b2_2
  refine (cmp_calls _ _ _ _ _ _ _).mono ?_
  rintro e w6 ⟨rfl, hb⟩
  rw [hcc.out]
  replace HB := Lib.hid (below_step HB.out (by have := HB.out.size; first | omega | (simp; omega)) hb)
  replace b0 := b0.below hb b0.lt
  replace b1 := b1.below hb b1.lt
  replace b2 := b2.below hb b2.lt
  clear hb
  have b0_l := b0.lt
  have b0_0 := b0.cell 0 rfl
  have b0_1 := b0.cell 1 rfl
  have b0_2 := b0.cell 2 rfl
  have b1_l := b1.lt
  have b1_0 := b1.cell 0 rfl
  have b1_1 := b1.cell 1 rfl
  have b1_2 := b1.cell 2 rfl
  have b2_l := b2.lt
  have b2_0 := b2.cell 0 rfl
  have b2_1 := b2.cell 1 rfl
  have b2_2 := b2.cell 2 rfl
  go_wp2_with fail
  try clear b0_l b0_0 b0_1 b0_2
  try clear b1_l b1_0 b1_1 b1_2
  try clear b2_l b2_0 b2_1 b2_2
  refine (works_calls _).mono ?_
  rintro e w7 ⟨rfl, hb⟩
  replace HB := Lib.hid (below_step HB.out (by have := HB.out.size; first | omega | (simp; omega)) hb)
  replace b0 := b0.below hb b0.lt
  replace b1 := b1.below hb b1.lt
  replace b2 := b2.below hb b2.lt
  clear hb
  have b0_l := b0.lt
  have b0_0 := b0.cell 0 rfl
  have b0_1 := b0.cell 1 rfl
  have b0_2 := b0.cell 2 rfl
  have b1_l := b1.lt
  have b1_0 := b1.cell 0 rfl
  have b1_1 := b1.cell 1 rfl
  have b1_2 := b1.cell 2 rfl
  have b2_l := b2.lt
  have b2_0 := b2.cell 0 rfl
  have b2_1 := b2.cell 1 rfl
  have b2_2 := b2.cell 2 rfl
  go_wp2_with fail
  go_ret
  exact ⟨rfl, HB.out⟩

set_option maxRecDepth 100000 in
set_option maxHeartbeats 4000000 in
theorem there_yes3 (x y z : Int) (w : World) (h : stepOk x y z 3 = true) :
    Calls Try.prog 11 #[.agg #[.int .i64 x, .int .i64 y, .int .i64 z], .int .i64 3] w fun e w' => e = .returned (.bool true) ∧ Below w.heap.size w w' := by
  have hv : stepV x y z 3 = .agg #[.int .i64 (x), .int .i64 (y), .int .i64 (z - 1)] := by unfold stepV; rw [h]; rfl
  have hm := h
  simp only [stepOk, Bool.and_eq_true] at hm
  obtain ⟨m1, _, m2⟩ := hm
  have m2' : mayB (x) (y) (z - 1) = true := m2
  clear m2
  have i1 := mayB_iff.1 m1
  have i2 := mayB_iff.1 m2'
  have ex : stepX (x) 2 = x := by unfold stepX; simp <;> omega
  have ey : stepY (y) 2 = y := by unfold stepY; simp <;> omega
  have ez : stepZ (z - 1) 2 = z := by unfold stepZ; simp <;> omega
  have ho : stepOk (x) (y) (z - 1) 2 = true := by unfold stepOk; rw [m2', ex, ey, ez, m1]; rfl
  have hv2 : stepV (x) (y) (z - 1) 2 = .agg #[.int .i64 x, .int .i64 y, .int .i64 z] := by unfold stepV; rw [ho, ex, ey, ez]; rfl
  have hf : farOk x y z (x) (y) (z - 1) = true := by unfold farOk; rw [m1, m2']; rfl
  have hf1 : farV x y z (x) (y) (z - 1) = 1 := by unfold farV; rw [hf]; simp only [if_true]; unfold gapI; (repeat' split) <;> omega
  have hc : cmpP x y z (x) (y) (z - 1) ≠ 0 := by unfold cmpP orI cmpI; (repeat' split) <;> omega
  obtain ⟨cc, hcc⟩ : ∃ cc, cmpP x y z (x) (y) (z - 1) = cc := ⟨_, rfl⟩
  rw [hcc] at hc
  have hcb : (cc != 0) = true := by rw [bne_iff_ne]; exact hc
  clear ex ey ez i1 i2 hc
  replace hv := Lib.hid hv
  replace hv2 := Lib.hid hv2
  replace hf1 := Lib.hid hf1
  replace hcc := Lib.hid hcc
  go_enter Try.func11, Try.ntmps11
  go_wp2_with fail
  refine (step_calls _ _ _ _ _).mono ?_
  rintro e w1 ⟨rfl, hb⟩
  rw [hv.out, h]
  have HB := Lib.hid (below_step ((Below.refl w.heap.size w).alloc (by first | exact Nat.le_refl _ | (simp; done) | (simp; omega) | omega) _) (by first | exact Nat.le_refl _ | (simp; done) | (simp; omega) | omega) hb)
  have b0 := (Blk.new_at (w := w) (n := w.heap.size) #[.int .i64 x, .int .i64 y, .int .i64 z] 23 (by simp)).below hb (by first | exact Nat.le_refl _ | (simp; done) | (simp; omega) | omega)
  clear hb
  have b0_l := b0.lt
  have b0_0 := b0.cell 0 rfl
  have b0_1 := b0.cell 1 rfl
  have b0_2 := b0.cell 2 rfl
  go_wp2_with fail
  try clear b0_l b0_0 b0_1 b0_2
  refine (step_calls _ _ _ _ _).mono ?_
  rintro e w2 ⟨rfl, hb⟩
  rw [hv2.out, ho]
  replace HB := Lib.hid (below_step (HB.out.alloc (by have := HB.out.size; first | omega | (simp; omega)) _) (by have := HB.out.size; first | omega | (simp; omega)) hb)
  replace b0 := (b0.alloc _).below hb (b0.alloc _).lt
  have b1 := (Blk.new _ #[.int .i64 (x), .int .i64 (y), .int .i64 (z - 1)] 23).below hb (Blk.new _ #[.int .i64 (x), .int .i64 (y), .int .i64 (z - 1)] 23).lt
  clear hb
  have b0_l := b0.lt
  have b0_0 := b0.cell 0 rfl
  have b0_1 := b0.cell 1 rfl
  have b0_2 := b0.cell 2 rfl
  have b1_l := b1.lt
  have b1_0 := b1.cell 0 rfl
  have b1_1 := b1.cell 1 rfl
  have b1_2 := b1.cell 2 rfl
  go_wp2_with fail
  try clear b0_l b0_0 b0_1 b0_2
  try clear b1_l b1_0 b1_1 b1_2
  refine (far_calls _ _ _ _ _ _ _).mono ?_
  rintro e w3 ⟨rfl, hb⟩
  rw [hf1.out, hf]
  replace HB := Lib.hid (below_step (HB.out.alloc (by have := HB.out.size; first | omega | (simp; omega)) _) (by have := HB.out.size; first | omega | (simp; omega)) hb)
  replace b0 := (b0.alloc _).below hb (b0.alloc _).lt
  replace b1 := (b1.alloc _).below hb (b1.alloc _).lt
  have b2 := (Blk.new _ #[.int .i64 x, .int .i64 y, .int .i64 z] 23).below hb (Blk.new _ #[.int .i64 x, .int .i64 y, .int .i64 z] 23).lt
  clear hb
  have b0_l := b0.lt
  have b0_0 := b0.cell 0 rfl
  have b0_1 := b0.cell 1 rfl
  have b0_2 := b0.cell 2 rfl
  have b1_l := b1.lt
  have b1_0 := b1.cell 0 rfl
  have b1_1 := b1.cell 1 rfl
  have b1_2 := b1.cell 2 rfl
  have b2_l := b2.lt
  have b2_0 := b2.cell 0 rfl
  have b2_1 := b2.cell 1 rfl
  have b2_2 := b2.cell 2 rfl
  go_wp2_with fail
  try clear b0_l b0_0 b0_1 b0_2
  try clear b1_l b1_0 b1_1 b1_2
  try clear b2_l b2_0 b2_1 b2_2
  refine (may_calls _ _ _ _).mono ?_
  rintro e w4 ⟨rfl, hb⟩
  rw [m1]
  replace HB := Lib.hid (below_step HB.out (by have := HB.out.size; first | omega | (simp; omega)) hb)
  replace b0 := b0.below hb b0.lt
  replace b1 := b1.below hb b1.lt
  replace b2 := b2.below hb b2.lt
  clear hb
  have b0_l := b0.lt
  have b0_0 := b0.cell 0 rfl
  have b0_1 := b0.cell 1 rfl
  have b0_2 := b0.cell 2 rfl
  have b1_l := b1.lt
  have b1_0 := b1.cell 0 rfl
  have b1_1 := b1.cell 1 rfl
  have b1_2 := b1.cell 2 rfl
  have b2_l := b2.lt
  have b2_0 := b2.cell 0 rfl
  have b2_1 := b2.cell 1 rfl
  have b2_2 := b2.cell 2 rfl
  go_wp2_with fail
  try clear b0_l b0_0 b0_1 b0_2
  try clear b1_l b1_0 b1_1 b1_2
  try clear b2_l b2_0 b2_1 b2_2
  refine (may_calls _ _ _ _).mono ?_
  rintro e w5 ⟨rfl, hb⟩
  rw [m2']
  replace HB := Lib.hid (below_step HB.out (by have := HB.out.size; first | omega | (simp; omega)) hb)
  replace b0 := b0.below hb b0.lt
  replace b1 := b1.below hb b1.lt
  replace b2 := b2.below hb b2.lt
  clear hb
  have b0_l := b0.lt
  have b0_0 := b0.cell 0 rfl
  have b0_1 := b0.cell 1 rfl
  have b0_2 := b0.cell 2 rfl
  have b1_l := b1.lt
  have b1_0 := b1.cell 0 rfl
  have b1_1 := b1.cell 1 rfl
  have b1_2 := b1.cell 2 rfl
  have b2_l := b2.lt
  have b2_0 := b2.cell 0 rfl
  have b2_1 := b2.cell 1 rfl
  have b2_2 := b2.cell 2 rfl
  go_wp2_with fail
  try clear b0_l b0_0 b0_1 b0_2
  try clear b1_l b1_0 b1_1 b1_2
  try clear b2_l b2_0 b2_1 b2_2
  refine (cmp_calls _ _ _ _ _ _ _).mono ?_
  rintro e w6 ⟨rfl, hb⟩
  rw [hcc.out]
  replace HB := Lib.hid (below_step HB.out (by have := HB.out.size; first | omega | (simp; omega)) hb)
  replace b0 := b0.below hb b0.lt
  replace b1 := b1.below hb b1.lt
  replace b2 := b2.below hb b2.lt
  clear hb
  have b0_l := b0.lt
  have b0_0 := b0.cell 0 rfl
  have b0_1 := b0.cell 1 rfl
  have b0_2 := b0.cell 2 rfl
  have b1_l := b1.lt
  have b1_0 := b1.cell 0 rfl
  have b1_1 := b1.cell 1 rfl
  have b1_2 := b1.cell 2 rfl
  have b2_l := b2.lt
  have b2_0 := b2.cell 0 rfl
  have b2_1 := b2.cell 1 rfl
  have b2_2 := b2.cell 2 rfl
  go_wp2_with fail
  try clear b0_l b0_0 b0_1 b0_2
  try clear b1_l b1_0 b1_1 b1_2
  try clear b2_l b2_0 b2_1 b2_2
  refine (works_calls _).mono ?_
  rintro e w7 ⟨rfl, hb⟩
  replace HB := Lib.hid (below_step HB.out (by have := HB.out.size; first | omega | (simp; omega)) hb)
  replace b0 := b0.below hb b0.lt
  replace b1 := b1.below hb b1.lt
  replace b2 := b2.below hb b2.lt
  clear hb
  have b0_l := b0.lt
  have b0_0 := b0.cell 0 rfl
  have b0_1 := b0.cell 1 rfl
  have b0_2 := b0.cell 2 rfl
  have b1_l := b1.lt
  have b1_0 := b1.cell 0 rfl
  have b1_1 := b1.cell 1 rfl
  have b1_2 := b1.cell 2 rfl
  have b2_l := b2.lt
  have b2_0 := b2.cell 0 rfl
  have b2_1 := b2.cell 1 rfl
  have b2_2 := b2.cell 2 rfl
  go_wp2_with fail
  go_ret
  exact ⟨rfl, HB.out⟩

set_option maxRecDepth 100000 in
set_option maxHeartbeats 4000000 in
theorem there_yes4 (x y z : Int) (w : World) (h : stepOk x y z 4 = true) :
    Calls Try.prog 11 #[.agg #[.int .i64 x, .int .i64 y, .int .i64 z], .int .i64 4] w fun e w' => e = .returned (.bool true) ∧ Below w.heap.size w w' := by
  have hv : stepV x y z 4 = .agg #[.int .i64 (x), .int .i64 (y + 1), .int .i64 (z)] := by unfold stepV; rw [h]; rfl
  have hm := h
  simp only [stepOk, Bool.and_eq_true] at hm
  obtain ⟨m1, _, m2⟩ := hm
  have m2' : mayB (x) (y + 1) (z) = true := m2
  clear m2
  have i1 := mayB_iff.1 m1
  have i2 := mayB_iff.1 m2'
  have ex : stepX (x) 5 = x := by unfold stepX; simp <;> omega
  have ey : stepY (y + 1) 5 = y := by unfold stepY; simp <;> omega
  have ez : stepZ (z) 5 = z := by unfold stepZ; simp <;> omega
  have ho : stepOk (x) (y + 1) (z) 5 = true := by unfold stepOk; rw [m2', ex, ey, ez, m1]; rfl
  have hv2 : stepV (x) (y + 1) (z) 5 = .agg #[.int .i64 x, .int .i64 y, .int .i64 z] := by unfold stepV; rw [ho, ex, ey, ez]; rfl
  have hf : farOk x y z (x) (y + 1) (z) = true := by unfold farOk; rw [m1, m2']; rfl
  have hf1 : farV x y z (x) (y + 1) (z) = 1 := by unfold farV; rw [hf]; simp only [if_true]; unfold gapI; (repeat' split) <;> omega
  have hc : cmpP x y z (x) (y + 1) (z) ≠ 0 := by unfold cmpP orI cmpI; (repeat' split) <;> omega
  obtain ⟨cc, hcc⟩ : ∃ cc, cmpP x y z (x) (y + 1) (z) = cc := ⟨_, rfl⟩
  rw [hcc] at hc
  have hcb : (cc != 0) = true := by rw [bne_iff_ne]; exact hc
  clear ex ey ez i1 i2 hc
  replace hv := Lib.hid hv
  replace hv2 := Lib.hid hv2
  replace hf1 := Lib.hid hf1
  replace hcc := Lib.hid hcc
  go_enter Try.func11, Try.ntmps11
  go_wp2_with fail
  refine (step_calls _ _ _ _ _).mono ?_
  rintro e w1 ⟨rfl, hb⟩
  rw [hv.out, h]
  have HB := Lib.hid (below_step ((Below.refl w.heap.size w).alloc (by first | exact Nat.le_refl _ | (simp; done) | (simp; omega) | omega) _) (by first | exact Nat.le_refl _ | (simp; done) | (simp; omega) | omega) hb)
  have b0 := (Blk.new_at (w := w) (n := w.heap.size) #[.int .i64 x, .int .i64 y, .int .i64 z] 23 (by simp)).below hb (by first | exact Nat.le_refl _ | (simp; done) | (simp; omega) | omega)
  clear hb
  have b0_l := b0.lt
  have b0_0 := b0.cell 0 rfl
  have b0_1 := b0.cell 1 rfl
  have b0_2 := b0.cell 2 rfl
  go_wp2_with fail
  try clear b0_l b0_0 b0_1 b0_2
  refine (step_calls _ _ _ _ _).mono ?_
  rintro e w2 ⟨rfl, hb⟩
  rw [hv2.out, ho]
  replace HB := Lib.hid (below_step (HB.out.alloc (by have := HB.out.size; first | omega | (simp; omega)) _) (by have := HB.out.size; first | omega | (simp; omega)) hb)
  replace b0 := (b0.alloc _).below hb (b0.alloc _).lt
  have b1 := (Blk.new _ #[.int .i64 (x), .int .i64 (y + 1), .int .i64 (z)] 23).below hb (Blk.new _ #[.int .i64 (x), .int .i64 (y + 1), .int .i64 (z)] 23).lt
  clear hb
  have b0_l := b0.lt
  have b0_0 := b0.cell 0 rfl
  have b0_1 := b0.cell 1 rfl
  have b0_2 := b0.cell 2 rfl
  have b1_l := b1.lt
  have b1_0 := b1.cell 0 rfl
  have b1_1 := b1.cell 1 rfl
  have b1_2 := b1.cell 2 rfl
  go_wp2_with fail
  try clear b0_l b0_0 b0_1 b0_2
  try clear b1_l b1_0 b1_1 b1_2
  refine (far_calls _ _ _ _ _ _ _).mono ?_
  rintro e w3 ⟨rfl, hb⟩
  rw [hf1.out, hf]
  replace HB := Lib.hid (below_step (HB.out.alloc (by have := HB.out.size; first | omega | (simp; omega)) _) (by have := HB.out.size; first | omega | (simp; omega)) hb)
  replace b0 := (b0.alloc _).below hb (b0.alloc _).lt
  replace b1 := (b1.alloc _).below hb (b1.alloc _).lt
  have b2 := (Blk.new _ #[.int .i64 x, .int .i64 y, .int .i64 z] 23).below hb (Blk.new _ #[.int .i64 x, .int .i64 y, .int .i64 z] 23).lt
  clear hb
  have b0_l := b0.lt
  have b0_0 := b0.cell 0 rfl
  have b0_1 := b0.cell 1 rfl
  have b0_2 := b0.cell 2 rfl
  have b1_l := b1.lt
  have b1_0 := b1.cell 0 rfl
  have b1_1 := b1.cell 1 rfl
  have b1_2 := b1.cell 2 rfl
  have b2_l := b2.lt
  have b2_0 := b2.cell 0 rfl
  have b2_1 := b2.cell 1 rfl
  have b2_2 := b2.cell 2 rfl
  go_wp2_with fail
  try clear b0_l b0_0 b0_1 b0_2
  try clear b1_l b1_0 b1_1 b1_2
  try clear b2_l b2_0 b2_1 b2_2
  refine (may_calls _ _ _ _).mono ?_
  rintro e w4 ⟨rfl, hb⟩
  rw [m1]
  replace HB := Lib.hid (below_step HB.out (by have := HB.out.size; first | omega | (simp; omega)) hb)
  replace b0 := b0.below hb b0.lt
  replace b1 := b1.below hb b1.lt
  replace b2 := b2.below hb b2.lt
  clear hb
  have b0_l := b0.lt
  have b0_0 := b0.cell 0 rfl
  have b0_1 := b0.cell 1 rfl
  have b0_2 := b0.cell 2 rfl
  have b1_l := b1.lt
  have b1_0 := b1.cell 0 rfl
  have b1_1 := b1.cell 1 rfl
  have b1_2 := b1.cell 2 rfl
  have b2_l := b2.lt
  have b2_0 := b2.cell 0 rfl
  have b2_1 := b2.cell 1 rfl
  have b2_2 := b2.cell 2 rfl
  go_wp2_with fail
  try clear b0_l b0_0 b0_1 b0_2
  try clear b1_l b1_0 b1_1 b1_2
  try clear b2_l b2_0 b2_1 b2_2
  refine (may_calls _ _ _ _).mono ?_
  rintro e w5 ⟨rfl, hb⟩
  rw [m2']
  replace HB := Lib.hid (below_step HB.out (by have := HB.out.size; first | omega | (simp; omega)) hb)
  replace b0 := b0.below hb b0.lt
  replace b1 := b1.below hb b1.lt
  replace b2 := b2.below hb b2.lt
  clear hb
  have b0_l := b0.lt
  have b0_0 := b0.cell 0 rfl
  have b0_1 := b0.cell 1 rfl
  have b0_2 := b0.cell 2 rfl
  have b1_l := b1.lt
  have b1_0 := b1.cell 0 rfl
  have b1_1 := b1.cell 1 rfl
  have b1_2 := b1.cell 2 rfl
  have b2_l := b2.lt
  have b2_0 := b2.cell 0 rfl
  have b2_1 := b2.cell 1 rfl
  have b2_2 := b2.cell 2 rfl
  go_wp2_with fail
  try clear b0_l b0_0 b0_1 b0_2
  try clear b1_l b1_0 b1_1 b1_2
  try clear b2_l b2_0 b2_1 b2_2
  refine (cmp_calls _ _ _ _ _ _ _).mono ?_
  rintro e w6 ⟨rfl, hb⟩
  rw [hcc.out]
  replace HB := Lib.hid (below_step HB.out (by have := HB.out.size; first | omega | (simp; omega)) hb)
  replace b0 := b0.below hb b0.lt
  replace b1 := b1.below hb b1.lt
  replace b2 := b2.below hb b2.lt
  clear hb
  have b0_l := b0.lt
  have b0_0 := b0.cell 0 rfl
  have b0_1 := b0.cell 1 rfl
  have b0_2 := b0.cell 2 rfl
  have b1_l := b1.lt
  have b1_0 := b1.cell 0 rfl
  have b1_1 := b1.cell 1 rfl
  have b1_2 := b1.cell 2 rfl
  have b2_l := b2.lt
  have b2_0 := b2.cell 0 rfl
  have b2_1 := b2.cell 1 rfl
  have b2_2 := b2.cell 2 rfl
  go_wp2_with fail
  try clear b0_l b0_0 b0_1 b0_2
  try clear b1_l b1_0 b1_1 b1_2
  try clear b2_l b2_0 b2_1 b2_2
  refine (works_calls _).mono ?_
  rintro e w7 ⟨rfl, hb⟩
  replace HB := Lib.hid (below_step HB.out (by have := HB.out.size; first | omega | (simp; omega)) hb)
  replace b0 := b0.below hb b0.lt
  replace b1 := b1.below hb b1.lt
  replace b2 := b2.below hb b2.lt
  clear hb
  have b0_l := b0.lt
  have b0_0 := b0.cell 0 rfl
  have b0_1 := b0.cell 1 rfl
  have b0_2 := b0.cell 2 rfl
  have b1_l := b1.lt
  have b1_0 := b1.cell 0 rfl
  have b1_1 := b1.cell 1 rfl
  have b1_2 := b1.cell 2 rfl
  have b2_l := b2.lt
  have b2_0 := b2.cell 0 rfl
  have b2_1 := b2.cell 1 rfl
  have b2_2 := b2.cell 2 rfl
  go_wp2_with fail
  go_ret
  exact ⟨rfl, HB.out⟩

set_option maxRecDepth 100000 in
set_option maxHeartbeats 4000000 in
theorem there_yes5 (x y z : Int) (w : World) (h : stepOk x y z 5 = true) :
    Calls Try.prog 11 #[.agg #[.int .i64 x, .int .i64 y, .int .i64 z], .int .i64 5] w fun e w' => e = .returned (.bool true) ∧ Below w.heap.size w w' := by
  have hv : stepV x y z 5 = .agg #[.int .i64 (x), .int .i64 (y - 1), .int .i64 (z)] := by unfold stepV; rw [h]; rfl
  have hm := h
  simp only [stepOk, Bool.and_eq_true] at hm
  obtain ⟨m1, _, m2⟩ := hm
  have m2' : mayB (x) (y - 1) (z) = true := m2
  clear m2
  have i1 := mayB_iff.1 m1
  have i2 := mayB_iff.1 m2'
  have ex : stepX (x) 4 = x := by unfold stepX; simp <;> omega
  have ey : stepY (y - 1) 4 = y := by unfold stepY; simp <;> omega
  have ez : stepZ (z) 4 = z := by unfold stepZ; simp <;> omega
  have ho : stepOk (x) (y - 1) (z) 4 = true := by unfold stepOk; rw [m2', ex, ey, ez, m1]; rfl
  have hv2 : stepV (x) (y - 1) (z) 4 = .agg #[.int .i64 x, .int .i64 y, .int .i64 z] := by unfold stepV; rw [ho, ex, ey, ez]; rfl
  have hf : farOk x y z (x) (y - 1) (z) = true := by unfold farOk; rw [m1, m2']; rfl
  have hf1 : farV x y z (x) (y - 1) (z) = 1 := by unfold farV; rw [hf]; simp only [if_true]; unfold gapI; (repeat' split) <;> omega
  have hc : cmpP x y z (x) (y - 1) (z) ≠ 0 := by unfold cmpP orI cmpI; (repeat' split) <;> omega
  obtain ⟨cc, hcc⟩ : ∃ cc, cmpP x y z (x) (y - 1) (z) = cc := ⟨_, rfl⟩
  rw [hcc] at hc
  have hcb : (cc != 0) = true := by rw [bne_iff_ne]; exact hc
  clear ex ey ez i1 i2 hc
  replace hv := Lib.hid hv
  replace hv2 := Lib.hid hv2
  replace hf1 := Lib.hid hf1
  replace hcc := Lib.hid hcc
  go_enter Try.func11, Try.ntmps11
  go_wp2_with fail
  refine (step_calls _ _ _ _ _).mono ?_
  rintro e w1 ⟨rfl, hb⟩
  rw [hv.out, h]
  have HB := Lib.hid (below_step ((Below.refl w.heap.size w).alloc (by first | exact Nat.le_refl _ | (simp; done) | (simp; omega) | omega) _) (by first | exact Nat.le_refl _ | (simp; done) | (simp; omega) | omega) hb)
  have b0 := (Blk.new_at (w := w) (n := w.heap.size) #[.int .i64 x, .int .i64 y, .int .i64 z] 23 (by simp)).below hb (by first | exact Nat.le_refl _ | (simp; done) | (simp; omega) | omega)
  clear hb
  have b0_l := b0.lt
  have b0_0 := b0.cell 0 rfl
  have b0_1 := b0.cell 1 rfl
  have b0_2 := b0.cell 2 rfl
  go_wp2_with fail
  try clear b0_l b0_0 b0_1 b0_2
  refine (step_calls _ _ _ _ _).mono ?_
  rintro e w2 ⟨rfl, hb⟩
  rw [hv2.out, ho]
  replace HB := Lib.hid (below_step (HB.out.alloc (by have := HB.out.size; first | omega | (simp; omega)) _) (by have := HB.out.size; first | omega | (simp; omega)) hb)
  replace b0 := (b0.alloc _).below hb (b0.alloc _).lt
  have b1 := (Blk.new _ #[.int .i64 (x), .int .i64 (y - 1), .int .i64 (z)] 23).below hb (Blk.new _ #[.int .i64 (x), .int .i64 (y - 1), .int .i64 (z)] 23).lt
  clear hb
  have b0_l := b0.lt
  have b0_0 := b0.cell 0 rfl
  have b0_1 := b0.cell 1 rfl
  have b0_2 := b0.cell 2 rfl
  have b1_l := b1.lt
  have b1_0 := b1.cell 0 rfl
  have b1_1 := b1.cell 1 rfl
  have b1_2 := b1.cell 2 rfl
  go_wp2_with fail
  try clear b0_l b0_0 b0_1 b0_2
  try clear b1_l b1_0 b1_1 b1_2
  refine (far_calls _ _ _ _ _ _ _).mono ?_
  rintro e w3 ⟨rfl, hb⟩
  rw [hf1.out, hf]
  replace HB := Lib.hid (below_step (HB.out.alloc (by have := HB.out.size; first | omega | (simp; omega)) _) (by have := HB.out.size; first | omega | (simp; omega)) hb)
  replace b0 := (b0.alloc _).below hb (b0.alloc _).lt
  replace b1 := (b1.alloc _).below hb (b1.alloc _).lt
  have b2 := (Blk.new _ #[.int .i64 x, .int .i64 y, .int .i64 z] 23).below hb (Blk.new _ #[.int .i64 x, .int .i64 y, .int .i64 z] 23).lt
  clear hb
  have b0_l := b0.lt
  have b0_0 := b0.cell 0 rfl
  have b0_1 := b0.cell 1 rfl
  have b0_2 := b0.cell 2 rfl
  have b1_l := b1.lt
  have b1_0 := b1.cell 0 rfl
  have b1_1 := b1.cell 1 rfl
  have b1_2 := b1.cell 2 rfl
  have b2_l := b2.lt
  have b2_0 := b2.cell 0 rfl
  have b2_1 := b2.cell 1 rfl
  have b2_2 := b2.cell 2 rfl
  go_wp2_with fail
  try clear b0_l b0_0 b0_1 b0_2
  try clear b1_l b1_0 b1_1 b1_2
  try clear b2_l b2_0 b2_1 b2_2
  refine (may_calls _ _ _ _).mono ?_
  rintro e w4 ⟨rfl, hb⟩
  rw [m1]
  replace HB := Lib.hid (below_step HB.out (by have := HB.out.size; first | omega | (simp; omega)) hb)
  replace b0 := b0.below hb b0.lt
  replace b1 := b1.below hb b1.lt
  replace b2 := b2.below hb b2.lt
  clear hb
  have b0_l := b0.lt
  have b0_0 := b0.cell 0 rfl
  have b0_1 := b0.cell 1 rfl
  have b0_2 := b0.cell 2 rfl
  have b1_l := b1.lt
  have b1_0 := b1.cell 0 rfl
  have b1_1 := b1.cell 1 rfl
  have b1_2 := b1.cell 2 rfl
  have b2_l := b2.lt
  have b2_0 := b2.cell 0 rfl
  have b2_1 := b2.cell 1 rfl
  have b2_2 := b2.cell 2 rfl
  go_wp2_with fail
  try clear b0_l b0_0 b0_1 b0_2
  try clear b1_l b1_0 b1_1 b1_2
  try clear b2_l b2_0 b2_1 b2_2
  refine (may_calls _ _ _ _).mono ?_
  rintro e w5 ⟨rfl, hb⟩
  rw [m2']
  replace HB := Lib.hid (below_step HB.out (by have := HB.out.size; first | omega | (simp; omega)) hb)
  replace b0 := b0.below hb b0.lt
  replace b1 := b1.below hb b1.lt
  replace b2 := b2.below hb b2.lt
  clear hb
  have b0_l := b0.lt
  have b0_0 := b0.cell 0 rfl
  have b0_1 := b0.cell 1 rfl
  have b0_2 := b0.cell 2 rfl
  have b1_l := b1.lt
  have b1_0 := b1.cell 0 rfl
  have b1_1 := b1.cell 1 rfl
  have b1_2 := b1.cell 2 rfl
  have b2_l := b2.lt
  have b2_0 := b2.cell 0 rfl
  have b2_1 := b2.cell 1 rfl
  have b2_2 := b2.cell 2 rfl
  go_wp2_with fail
  try clear b0_l b0_0 b0_1 b0_2
  try clear b1_l b1_0 b1_1 b1_2
  try clear b2_l b2_0 b2_1 b2_2
  refine (cmp_calls _ _ _ _ _ _ _).mono ?_
  rintro e w6 ⟨rfl, hb⟩
  rw [hcc.out]
  replace HB := Lib.hid (below_step HB.out (by have := HB.out.size; first | omega | (simp; omega)) hb)
  replace b0 := b0.below hb b0.lt
  replace b1 := b1.below hb b1.lt
  replace b2 := b2.below hb b2.lt
  clear hb
  have b0_l := b0.lt
  have b0_0 := b0.cell 0 rfl
  have b0_1 := b0.cell 1 rfl
  have b0_2 := b0.cell 2 rfl
  have b1_l := b1.lt
  have b1_0 := b1.cell 0 rfl
  have b1_1 := b1.cell 1 rfl
  have b1_2 := b1.cell 2 rfl
  have b2_l := b2.lt
  have b2_0 := b2.cell 0 rfl
  have b2_1 := b2.cell 1 rfl
  have b2_2 := b2.cell 2 rfl
  go_wp2_with fail
  try clear b0_l b0_0 b0_1 b0_2
  try clear b1_l b1_0 b1_1 b1_2
  try clear b2_l b2_0 b2_1 b2_2
  refine (works_calls _).mono ?_
  rintro e w7 ⟨rfl, hb⟩
  replace HB := Lib.hid (below_step HB.out (by have := HB.out.size; first | omega | (simp; omega)) hb)
  replace b0 := b0.below hb b0.lt
  replace b1 := b1.below hb b1.lt
  replace b2 := b2.below hb b2.lt
  clear hb
  have b0_l := b0.lt
  have b0_0 := b0.cell 0 rfl
  have b0_1 := b0.cell 1 rfl
  have b0_2 := b0.cell 2 rfl
  have b1_l := b1.lt
  have b1_0 := b1.cell 0 rfl
  have b1_1 := b1.cell 1 rfl
  have b1_2 := b1.cell 2 rfl
  have b2_l := b2.lt
  have b2_0 := b2.cell 0 rfl
  have b2_1 := b2.cell 1 rfl
  have b2_2 := b2.cell 2 rfl
  go_wp2_with fail
  go_ret
  exact ⟨rfl, HB.out⟩

theorem there_walk (x y z d : Int) (w : World) :
    Calls Try.prog 11 #[.agg #[.int .i64 x, .int .i64 y, .int .i64 z], .int .i64 d] w fun e w' => e = .returned (.bool true) ∧ Below w.heap.size w w' := by
  cases h : stepOk x y z d
  · exact there_no x y z d w h
  · have hd : 0 ≤ d ∧ d < 6 := by simp only [stepOk, Bool.and_eq_true, decide_eq_true_eq] at h; exact h.2.1
    obtain rfl | rfl | rfl | rfl | rfl | rfl : d = 0 ∨ d = 1 ∨ d = 2 ∨ d = 3 ∨ d = 4 ∨ d = 5 := by omega
    · exact there_yes0 x y z w h
    · exact there_yes1 x y z w h
    · exact there_yes2 x y z w h
    · exact there_yes3 x y z w h
    · exact there_yes4 x y z w h
    · exact there_yes5 x y z w h
end Go.Proofs.Ytjodiclmibiboaa
