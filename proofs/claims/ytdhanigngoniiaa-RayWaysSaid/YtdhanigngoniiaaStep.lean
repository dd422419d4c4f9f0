/-
  The contract of place.Step.
-/
import Derived.Test.YtdhanigngoniiaaPlace
namespace Go.Proofs.Ytdhanigngoniiaa
open Go.RowKit
set_option linter.unusedSimpArgs false
set_option linter.unusedVariables false

def stepX (x d : Int) : Int := if d = 0 then x + 1 else if d = 1 then x - 1 else x
def stepY (y d : Int) : Int := if d = 4 then y + 1 else if d = 5 then y - 1 else y
def stepZ (z d : Int) : Int := if d = 2 then z + 1 else if d = 3 then z - 1 else z
def stepOk (x y z d : Int) : Bool := mayB x y z && (decide (0 ≤ d ∧ d < 6) && mayB (stepX x d) (stepY y d) (stepZ z d))
def stepV (x y z d : Int) : Value := if stepOk x y z d then .agg #[.int .i64 (stepX x d), .int .i64 (stepY y d), .int .i64 (stepZ z d)] else .agg #[.int .i64 0, .int .i64 0, .int .i64 0]

set_option maxHeartbeats 4000000 in
theorem step_calls (x y z d : Int) (w : World) :
    Calls Try.prog 17 #[.agg #[.int .i64 x, .int .i64 y, .int .i64 z], .int .i64 d] w fun e w' => e = .returned (.tuple #[stepV x y z d, .bool (stepOk x y z d)]) ∧ Below w.heap.size w w' := by
  cases h : mayB x y z
  · simp only [stepV, stepOk, h, Bool.false_and, Bool.false_eq_true, if_true, if_false]
    go_enter Try.func17, Try.ntmps17
    go_wp2_with fail
    refine (may_calls _ _ _ _).mono ?_
    rintro e w1 ⟨rfl, hb⟩
    rw [h]
    have HB := Lib.hid (below_step (((Below.refl w.heap.size w).alloc (by first | exact Nat.le_refl _ | (simp; done) | (simp; omega) | omega) _).alloc (by first | exact Nat.le_refl _ | (simp; done) | (simp; omega) | omega) _) (by first | exact Nat.le_refl _ | (simp; done) | (simp; omega) | omega) hb)
    have b0 := ((Blk.new_at (w := w) (n := w.heap.size) #[.int .i64 x, .int .i64 y, .int .i64 z] 23 (by simp)).alloc (.cells #[.int .i64 0, .int .i64 0, .int .i64 0] 23)).below hb (by first | exact Nat.le_refl _ | (simp; done) | (simp; omega) | omega)
    have b1 := (Blk.new_at (w := (w.alloc (.cells #[.int .i64 x, .int .i64 y, .int .i64 z] 23))) (n := w.heap.size + 1) #[.int .i64 0, .int .i64 0, .int .i64 0] 23 (by simp)).below hb (by first | exact Nat.le_refl _ | (simp; done) | (simp; omega) | omega)
    clear hb
    have b0_l := b0.lt
    have b0_0 := b0.cell 0 rfl
    have b0_1 := b0.cell 1 rfl
    have b0_2 := b0.cell 2 rfl
    have b0_f0 := b0.frozen 0
    have b0_f1 := b0.frozen 1
    have b0_f2 := b0.frozen 2
    have b1_l := b1.lt
    have b1_0 := b1.cell 0 rfl
    have b1_1 := b1.cell 1 rfl
    have b1_2 := b1.cell 2 rfl
    have b1_f0 := b1.frozen 0
    have b1_f1 := b1.frozen 1
    have b1_f2 := b1.frozen 2
    have hB := HB.out
    go_wp2_with fail
    refine bodyPost_ret (by simp [results, Try.results17, go_sem, b1_0, b1_1, b1_2]) rfl ⟨rfl, ?_⟩
    exact ((hB.setCell (by simp) _).setCell (by simp) _).setCell (by simp) _
  have hs := Lib.hid (mayB_iff.1 h)
  by_cases hd0 : d = 0
  · subst hd0
    have e1 : stepX x 0 = x + 1 := rfl
    have e2 : stepY y 0 = y := rfl
    have e3 : stepZ z 0 = z := rfl
    have e4 : decide (0 ≤ (0 : Int) ∧ (0 : Int) < 6) = true := rfl
    cases h2 : mayB (x + 1) (y) (z)
    all_goals
      simp only [stepV, stepOk, h, e1, e2, e3, e4, h2, Bool.true_and, Bool.false_eq_true, if_true, if_false]
      clear e1 e2 e3 e4
      go_enter Try.func17, Try.ntmps17
      go_wp2_with fail
      refine (may_calls _ _ _ _).mono ?_
      rintro e w1 ⟨rfl, hb⟩
      rw [h]
      have HB := Lib.hid (below_step (((Below.refl w.heap.size w).alloc (by first | exact Nat.le_refl _ | (simp; done) | (simp; omega) | omega) _).alloc (by first | exact Nat.le_refl _ | (simp; done) | (simp; omega) | omega) _) (by first | exact Nat.le_refl _ | (simp; done) | (simp; omega) | omega) hb)
      have b0 := ((Blk.new_at (w := w) (n := w.heap.size) #[.int .i64 x, .int .i64 y, .int .i64 z] 23 (by simp)).alloc (.cells #[.int .i64 0, .int .i64 0, .int .i64 0] 23)).below hb (by first | exact Nat.le_refl _ | (simp; done) | (simp; omega) | omega)
      have b1 := (Blk.new_at (w := (w.alloc (.cells #[.int .i64 x, .int .i64 y, .int .i64 z] 23))) (n := w.heap.size + 1) #[.int .i64 0, .int .i64 0, .int .i64 0] 23 (by simp)).below hb (by first | exact Nat.le_refl _ | (simp; done) | (simp; omega) | omega)
      clear hb
      have b0_l := b0.lt
      have b0_0 := b0.cell 0 rfl
      have b0_1 := b0.cell 1 rfl
      have b0_2 := b0.cell 2 rfl
      have b0_f0 := b0.frozen 0
      have b0_f1 := b0.frozen 1
      have b0_f2 := b0.frozen 2
      have b1_l := b1.lt
      have b1_0 := b1.cell 0 rfl
      have b1_1 := b1.cell 1 rfl
      have b1_2 := b1.cell 2 rfl
      have b1_f0 := b1.frozen 0
      have b1_f1 := b1.frozen 1
      have b1_f2 := b1.frozen 2
      obtain ⟨s1, s2, s3, s4, s5, s6⟩ := hs.out
      go_wp2_with fail
      refine (may_calls _ _ _ _).mono ?_
      rintro e w2 ⟨rfl, hb⟩
      rw [h2]
      replace HB := Lib.hid (below_step (HB.out.setCell (p := ⟨w.heap.size, 0, none⟩) (by simp) (.int .i64 (x + 1))) (by have := HB.out.size; simp; omega) hb)
      have c0 := (b0.set 0 (.int .i64 (x + 1))).below hb (b0.set 0 (.int .i64 (x + 1))).lt
      have c1 := (b1.set_other (a := ⟨w.heap.size, 0, none⟩) (.int .i64 (x + 1)) (by simp)).below hb (b1.set_other (a := ⟨w.heap.size, 0, none⟩) (.int .i64 (x + 1)) (by simp)).lt
      clear hb
      clear b0_l b0_0 b0_1 b0_2
      clear b0_f0 b0_f1 b0_f2
      clear b1_l b1_0 b1_1 b1_2
      clear b1_f0 b1_f1 b1_f2
      have c0_l := c0.lt
      have c0_0 := c0.cell 0 rfl
      have c0_1 := c0.cell 1 rfl
      have c0_2 := c0.cell 2 rfl
      have c0_f0 := c0.frozen 0
      have c0_f1 := c0.frozen 1
      have c0_f2 := c0.frozen 2
      have c1_l := c1.lt
      have c1_0 := c1.cell 0 rfl
      have c1_1 := c1.cell 1 rfl
      have c1_2 := c1.cell 2 rfl
      have c1_f0 := c1.frozen 0
      have c1_f1 := c1.frozen 1
      have c1_f2 := c1.frozen 2
      have hB := HB.out
      go_wp2_with fail
      refine bodyPost_ret (by simp [results, Try.results17, go_sem, c1_0, c1_1, c1_2]) rfl ⟨rfl, ?_⟩
      exact ((hB.setCell (by simp) _).setCell (by simp) _).setCell (by simp) _
  by_cases hd1 : d = 1
  · subst hd1
    have e1 : stepX x 1 = x - 1 := rfl
    have e2 : stepY y 1 = y := rfl
    have e3 : stepZ z 1 = z := rfl
    have e4 : decide (0 ≤ (1 : Int) ∧ (1 : Int) < 6) = true := rfl
    cases h2 : mayB (x - 1) (y) (z)
    all_goals
      simp only [stepV, stepOk, h, e1, e2, e3, e4, h2, Bool.true_and, Bool.false_eq_true, if_true, if_false]
      clear e1 e2 e3 e4
      go_enter Try.func17, Try.ntmps17
      go_wp2_with fail
      refine (may_calls _ _ _ _).mono ?_
      rintro e w1 ⟨rfl, hb⟩
      rw [h]
      have HB := Lib.hid (below_step (((Below.refl w.heap.size w).alloc (by first | exact Nat.le_refl _ | (simp; done) | (simp; omega) | omega) _).alloc (by first | exact Nat.le_refl _ | (simp; done) | (simp; omega) | omega) _) (by first | exact Nat.le_refl _ | (simp; done) | (simp; omega) | omega) hb)
      have b0 := ((Blk.new_at (w := w) (n := w.heap.size) #[.int .i64 x, .int .i64 y, .int .i64 z] 23 (by simp)).alloc (.cells #[.int .i64 0, .int .i64 0, .int .i64 0] 23)).below hb (by first | exact Nat.le_refl _ | (simp; done) | (simp; omega) | omega)
      have b1 := (Blk.new_at (w := (w.alloc (.cells #[.int .i64 x, .int .i64 y, .int .i64 z] 23))) (n := w.heap.size + 1) #[.int .i64 0, .int .i64 0, .int .i64 0] 23 (by simp)).below hb (by first | exact Nat.le_refl _ | (simp; done) | (simp; omega) | omega)
      clear hb
      have b0_l := b0.lt
      have b0_0 := b0.cell 0 rfl
      have b0_1 := b0.cell 1 rfl
      have b0_2 := b0.cell 2 rfl
      have b0_f0 := b0.frozen 0
      have b0_f1 := b0.frozen 1
      have b0_f2 := b0.frozen 2
      have b1_l := b1.lt
      have b1_0 := b1.cell 0 rfl
      have b1_1 := b1.cell 1 rfl
      have b1_2 := b1.cell 2 rfl
      have b1_f0 := b1.frozen 0
      have b1_f1 := b1.frozen 1
      have b1_f2 := b1.frozen 2
      obtain ⟨s1, s2, s3, s4, s5, s6⟩ := hs.out
      go_wp2_with fail
      refine (may_calls _ _ _ _).mono ?_
      rintro e w2 ⟨rfl, hb⟩
      rw [h2]
      replace HB := Lib.hid (below_step (HB.out.setCell (p := ⟨w.heap.size, 0, none⟩) (by simp) (.int .i64 (x - 1))) (by have := HB.out.size; simp; omega) hb)
      have c0 := (b0.set 0 (.int .i64 (x - 1))).below hb (b0.set 0 (.int .i64 (x - 1))).lt
      have c1 := (b1.set_other (a := ⟨w.heap.size, 0, none⟩) (.int .i64 (x - 1)) (by simp)).below hb (b1.set_other (a := ⟨w.heap.size, 0, none⟩) (.int .i64 (x - 1)) (by simp)).lt
      clear hb
      clear b0_l b0_0 b0_1 b0_2
      clear b0_f0 b0_f1 b0_f2
      clear b1_l b1_0 b1_1 b1_2
      clear b1_f0 b1_f1 b1_f2
      have c0_l := c0.lt
      have c0_0 := c0.cell 0 rfl
      have c0_1 := c0.cell 1 rfl
      have c0_2 := c0.cell 2 rfl
      have c0_f0 := c0.frozen 0
      have c0_f1 := c0.frozen 1
      have c0_f2 := c0.frozen 2
      have c1_l := c1.lt
      have c1_0 := c1.cell 0 rfl
      have c1_1 := c1.cell 1 rfl
      have c1_2 := c1.cell 2 rfl
      have c1_f0 := c1.frozen 0
      have c1_f1 := c1.frozen 1
      have c1_f2 := c1.frozen 2
      have hB := HB.out
      go_wp2_with fail
      refine bodyPost_ret (by simp [results, Try.results17, go_sem, c1_0, c1_1, c1_2]) rfl ⟨rfl, ?_⟩
      exact ((hB.setCell (by simp) _).setCell (by simp) _).setCell (by simp) _
  by_cases hd2 : d = 2
  · subst hd2
    have e1 : stepX x 2 = x := rfl
    have e2 : stepY y 2 = y := rfl
    have e3 : stepZ z 2 = z + 1 := rfl
    have e4 : decide (0 ≤ (2 : Int) ∧ (2 : Int) < 6) = true := rfl
    cases h2 : mayB (x) (y) (z + 1)
    all_goals
      simp only [stepV, stepOk, h, e1, e2, e3, e4, h2, Bool.true_and, Bool.false_eq_true, if_true, if_false]
      clear e1 e2 e3 e4
      go_enter Try.func17, Try.ntmps17
      go_wp2_with fail
      refine (may_calls _ _ _ _).mono ?_
      rintro e w1 ⟨rfl, hb⟩
      rw [h]
      have HB := Lib.hid (below_step (((Below.refl w.heap.size w).alloc (by first | exact Nat.le_refl _ | (simp; done) | (simp; omega) | omega) _).alloc (by first | exact Nat.le_refl _ | (simp; done) | (simp; omega) | omega) _) (by first | exact Nat.le_refl _ | (simp; done) | (simp; omega) | omega) hb)
      have b0 := ((Blk.new_at (w := w) (n := w.heap.size) #[.int .i64 x, .int .i64 y, .int .i64 z] 23 (by simp)).alloc (.cells #[.int .i64 0, .int .i64 0, .int .i64 0] 23)).below hb (by first | exact Nat.le_refl _ | (simp; done) | (simp; omega) | omega)
      have b1 := (Blk.new_at (w := (w.alloc (.cells #[.int .i64 x, .int .i64 y, .int .i64 z] 23))) (n := w.heap.size + 1) #[.int .i64 0, .int .i64 0, .int .i64 0] 23 (by simp)).below hb (by first | exact Nat.le_refl _ | (simp; done) | (simp; omega) | omega)
      clear hb
      have b0_l := b0.lt
      have b0_0 := b0.cell 0 rfl
      have b0_1 := b0.cell 1 rfl
      have b0_2 := b0.cell 2 rfl
      have b0_f0 := b0.frozen 0
      have b0_f1 := b0.frozen 1
      have b0_f2 := b0.frozen 2
      have b1_l := b1.lt
      have b1_0 := b1.cell 0 rfl
      have b1_1 := b1.cell 1 rfl
      have b1_2 := b1.cell 2 rfl
      have b1_f0 := b1.frozen 0
      have b1_f1 := b1.frozen 1
      have b1_f2 := b1.frozen 2
      obtain ⟨s1, s2, s3, s4, s5, s6⟩ := hs.out
      go_wp2_with fail
      refine (may_calls _ _ _ _).mono ?_
      rintro e w2 ⟨rfl, hb⟩
      rw [h2]
      replace HB := Lib.hid (below_step (HB.out.setCell (p := ⟨w.heap.size, 2, none⟩) (by simp) (.int .i64 (z + 1))) (by have := HB.out.size; simp; omega) hb)
      have c0 := (b0.set 2 (.int .i64 (z + 1))).below hb (b0.set 2 (.int .i64 (z + 1))).lt
      have c1 := (b1.set_other (a := ⟨w.heap.size, 2, none⟩) (.int .i64 (z + 1)) (by simp)).below hb (b1.set_other (a := ⟨w.heap.size, 2, none⟩) (.int .i64 (z + 1)) (by simp)).lt
      clear hb
      clear b0_l b0_0 b0_1 b0_2
      clear b0_f0 b0_f1 b0_f2
      clear b1_l b1_0 b1_1 b1_2
      clear b1_f0 b1_f1 b1_f2
      have c0_l := c0.lt
      have c0_0 := c0.cell 0 rfl
      have c0_1 := c0.cell 1 rfl
      have c0_2 := c0.cell 2 rfl
      have c0_f0 := c0.frozen 0
      have c0_f1 := c0.frozen 1
      have c0_f2 := c0.frozen 2
      have c1_l := c1.lt
      have c1_0 := c1.cell 0 rfl
      have c1_1 := c1.cell 1 rfl
      have c1_2 := c1.cell 2 rfl
      have c1_f0 := c1.frozen 0
      have c1_f1 := c1.frozen 1
      have c1_f2 := c1.frozen 2
      have hB := HB.out
      go_wp2_with fail
      refine bodyPost_ret (by simp [results, Try.results17, go_sem, c1_0, c1_1, c1_2]) rfl ⟨rfl, ?_⟩
      exact ((hB.setCell (by simp) _).setCell (by simp) _).setCell (by simp) _
  by_cases hd3 : d = 3
  · subst hd3
    have e1 : stepX x 3 = x := rfl
    have e2 : stepY y 3 = y := rfl
    have e3 : stepZ z 3 = z - 1 := rfl
    have e4 : decide (0 ≤ (3 : Int) ∧ (3 : Int) < 6) = true := rfl
    cases h2 : mayB (x) (y) (z - 1)
    all_goals
      simp only [stepV, stepOk, h, e1, e2, e3, e4, h2, Bool.true_and, Bool.false_eq_true, if_true, if_false]
      clear e1 e2 e3 e4
      go_enter Try.func17, Try.ntmps17
      go_wp2_with fail
      refine (may_calls _ _ _ _).mono ?_
      rintro e w1 ⟨rfl, hb⟩
      rw [h]
      have HB := Lib.hid (below_step (((Below.refl w.heap.size w).alloc (by first | exact Nat.le_refl _ | (simp; done) | (simp; omega) | omega) _).alloc (by first | exact Nat.le_refl _ | (simp; done) | (simp; omega) | omega) _) (by first | exact Nat.le_refl _ | (simp; done) | (simp; omega) | omega) hb)
      have b0 := ((Blk.new_at (w := w) (n := w.heap.size) #[.int .i64 x, .int .i64 y, .int .i64 z] 23 (by simp)).alloc (.cells #[.int .i64 0, .int .i64 0, .int .i64 0] 23)).below hb (by first | exact Nat.le_refl _ | (simp; done) | (simp; omega) | omega)
      have b1 := (Blk.new_at (w := (w.alloc (.cells #[.int .i64 x, .int .i64 y, .int .i64 z] 23))) (n := w.heap.size + 1) #[.int .i64 0, .int .i64 0, .int .i64 0] 23 (by simp)).below hb (by first | exact Nat.le_refl _ | (simp; done) | (simp; omega) | omega)
      clear hb
      have b0_l := b0.lt
      have b0_0 := b0.cell 0 rfl
      have b0_1 := b0.cell 1 rfl
      have b0_2 := b0.cell 2 rfl
      have b0_f0 := b0.frozen 0
      have b0_f1 := b0.frozen 1
      have b0_f2 := b0.frozen 2
      have b1_l := b1.lt
      have b1_0 := b1.cell 0 rfl
      have b1_1 := b1.cell 1 rfl
      have b1_2 := b1.cell 2 rfl
      have b1_f0 := b1.frozen 0
      have b1_f1 := b1.frozen 1
      have b1_f2 := b1.frozen 2
      obtain ⟨s1, s2, s3, s4, s5, s6⟩ := hs.out
      go_wp2_with fail
      refine (may_calls _ _ _ _).mono ?_
      rintro e w2 ⟨rfl, hb⟩
      rw [h2]
      replace HB := Lib.hid (below_step (HB.out.setCell (p := ⟨w.heap.size, 2, none⟩) (by simp) (.int .i64 (z - 1))) (by have := HB.out.size; simp; omega) hb)
      have c0 := (b0.set 2 (.int .i64 (z - 1))).below hb (b0.set 2 (.int .i64 (z - 1))).lt
      have c1 := (b1.set_other (a := ⟨w.heap.size, 2, none⟩) (.int .i64 (z - 1)) (by simp)).below hb (b1.set_other (a := ⟨w.heap.size, 2, none⟩) (.int .i64 (z - 1)) (by simp)).lt
      clear hb
      clear b0_l b0_0 b0_1 b0_2
      clear b0_f0 b0_f1 b0_f2
      clear b1_l b1_0 b1_1 b1_2
      clear b1_f0 b1_f1 b1_f2
      have c0_l := c0.lt
      have c0_0 := c0.cell 0 rfl
      have c0_1 := c0.cell 1 rfl
      have c0_2 := c0.cell 2 rfl
      have c0_f0 := c0.frozen 0
      have c0_f1 := c0.frozen 1
      have c0_f2 := c0.frozen 2
      have c1_l := c1.lt
      have c1_0 := c1.cell 0 rfl
      have c1_1 := c1.cell 1 rfl
      have c1_2 := c1.cell 2 rfl
      have c1_f0 := c1.frozen 0
      have c1_f1 := c1.frozen 1
      have c1_f2 := c1.frozen 2
      have hB := HB.out
      go_wp2_with fail
      refine bodyPost_ret (by simp [results, Try.results17, go_sem, c1_0, c1_1, c1_2]) rfl ⟨rfl, ?_⟩
      exact ((hB.setCell (by simp) _).setCell (by simp) _).setCell (by simp) _
  by_cases hd4 : d = 4
  · subst hd4
    have e1 : stepX x 4 = x := rfl
    have e2 : stepY y 4 = y + 1 := rfl
    have e3 : stepZ z 4 = z := rfl
    have e4 : decide (0 ≤ (4 : Int) ∧ (4 : Int) < 6) = true := rfl
    cases h2 : mayB (x) (y + 1) (z)
    all_goals
      simp only [stepV, stepOk, h, e1, e2, e3, e4, h2, Bool.true_and, Bool.false_eq_true, if_true, if_false]
      clear e1 e2 e3 e4
      go_enter Try.func17, Try.ntmps17
      go_wp2_with fail
      refine (may_calls _ _ _ _).mono ?_
      rintro e w1 ⟨rfl, hb⟩
      rw [h]
      have HB := Lib.hid (below_step (((Below.refl w.heap.size w).alloc (by first | exact Nat.le_refl _ | (simp; done) | (simp; omega) | omega) _).alloc (by first | exact Nat.le_refl _ | (simp; done) | (simp; omega) | omega) _) (by first | exact Nat.le_refl _ | (simp; done) | (simp; omega) | omega) hb)
      have b0 := ((Blk.new_at (w := w) (n := w.heap.size) #[.int .i64 x, .int .i64 y, .int .i64 z] 23 (by simp)).alloc (.cells #[.int .i64 0, .int .i64 0, .int .i64 0] 23)).below hb (by first | exact Nat.le_refl _ | (simp; done) | (simp; omega) | omega)
      have b1 := (Blk.new_at (w := (w.alloc (.cells #[.int .i64 x, .int .i64 y, .int .i64 z] 23))) (n := w.heap.size + 1) #[.int .i64 0, .int .i64 0, .int .i64 0] 23 (by simp)).below hb (by first | exact Nat.le_refl _ | (simp; done) | (simp; omega) | omega)
      clear hb
      have b0_l := b0.lt
      have b0_0 := b0.cell 0 rfl
      have b0_1 := b0.cell 1 rfl
      have b0_2 := b0.cell 2 rfl
      have b0_f0 := b0.frozen 0
      have b0_f1 := b0.frozen 1
      have b0_f2 := b0.frozen 2
      have b1_l := b1.lt
      have b1_0 := b1.cell 0 rfl
      have b1_1 := b1.cell 1 rfl
      have b1_2 := b1.cell 2 rfl
      have b1_f0 := b1.frozen 0
      have b1_f1 := b1.frozen 1
      have b1_f2 := b1.frozen 2
      obtain ⟨s1, s2, s3, s4, s5, s6⟩ := hs.out
      go_wp2_with fail
      refine (may_calls _ _ _ _).mono ?_
      rintro e w2 ⟨rfl, hb⟩
      rw [h2]
      replace HB := Lib.hid (below_step (HB.out.setCell (p := ⟨w.heap.size, 1, none⟩) (by simp) (.int .i64 (y + 1))) (by have := HB.out.size; simp; omega) hb)
      have c0 := (b0.set 1 (.int .i64 (y + 1))).below hb (b0.set 1 (.int .i64 (y + 1))).lt
      have c1 := (b1.set_other (a := ⟨w.heap.size, 1, none⟩) (.int .i64 (y + 1)) (by simp)).below hb (b1.set_other (a := ⟨w.heap.size, 1, none⟩) (.int .i64 (y + 1)) (by simp)).lt
      clear hb
      clear b0_l b0_0 b0_1 b0_2
      clear b0_f0 b0_f1 b0_f2
      clear b1_l b1_0 b1_1 b1_2
      clear b1_f0 b1_f1 b1_f2
      have c0_l := c0.lt
      have c0_0 := c0.cell 0 rfl
      have c0_1 := c0.cell 1 rfl
      have c0_2 := c0.cell 2 rfl
      have c0_f0 := c0.frozen 0
      have c0_f1 := c0.frozen 1
      have c0_f2 := c0.frozen 2
      have c1_l := c1.lt
      have c1_0 := c1.cell 0 rfl
      have c1_1 := c1.cell 1 rfl
      have c1_2 := c1.cell 2 rfl
      have c1_f0 := c1.frozen 0
      have c1_f1 := c1.frozen 1
      have c1_f2 := c1.frozen 2
      have hB := HB.out
      go_wp2_with fail
      refine bodyPost_ret (by simp [results, Try.results17, go_sem, c1_0, c1_1, c1_2]) rfl ⟨rfl, ?_⟩
      exact ((hB.setCell (by simp) _).setCell (by simp) _).setCell (by simp) _
  by_cases hd5 : d = 5
  · subst hd5
    have e1 : stepX x 5 = x := rfl
    have e2 : stepY y 5 = y - 1 := rfl
    have e3 : stepZ z 5 = z := rfl
    have e4 : decide (0 ≤ (5 : Int) ∧ (5 : Int) < 6) = true := rfl
    cases h2 : mayB (x) (y - 1) (z)
    all_goals
      simp only [stepV, stepOk, h, e1, e2, e3, e4, h2, Bool.true_and, Bool.false_eq_true, if_true, if_false]
      clear e1 e2 e3 e4
      go_enter Try.func17, Try.ntmps17
      go_wp2_with fail
      refine (may_calls _ _ _ _).mono ?_
      rintro e w1 ⟨rfl, hb⟩
      rw [h]
      have HB := Lib.hid (below_step (((Below.refl w.heap.size w).alloc (by first | exact Nat.le_refl _ | (simp; done) | (simp; omega) | omega) _).alloc (by first | exact Nat.le_refl _ | (simp; done) | (simp; omega) | omega) _) (by first | exact Nat.le_refl _ | (simp; done) | (simp; omega) | omega) hb)
      have b0 := ((Blk.new_at (w := w) (n := w.heap.size) #[.int .i64 x, .int .i64 y, .int .i64 z] 23 (by simp)).alloc (.cells #[.int .i64 0, .int .i64 0, .int .i64 0] 23)).below hb (by first | exact Nat.le_refl _ | (simp; done) | (simp; omega) | omega)
      have b1 := (Blk.new_at (w := (w.alloc (.cells #[.int .i64 x, .int .i64 y, .int .i64 z] 23))) (n := w.heap.size + 1) #[.int .i64 0, .int .i64 0, .int .i64 0] 23 (by simp)).below hb (by first | exact Nat.le_refl _ | (simp; done) | (simp; omega) | omega)
      clear hb
      have b0_l := b0.lt
      have b0_0 := b0.cell 0 rfl
      have b0_1 := b0.cell 1 rfl
      have b0_2 := b0.cell 2 rfl
      have b0_f0 := b0.frozen 0
      have b0_f1 := b0.frozen 1
      have b0_f2 := b0.frozen 2
      have b1_l := b1.lt
      have b1_0 := b1.cell 0 rfl
      have b1_1 := b1.cell 1 rfl
      have b1_2 := b1.cell 2 rfl
      have b1_f0 := b1.frozen 0
      have b1_f1 := b1.frozen 1
      have b1_f2 := b1.frozen 2
      obtain ⟨s1, s2, s3, s4, s5, s6⟩ := hs.out
      go_wp2_with fail
      refine (may_calls _ _ _ _).mono ?_
      rintro e w2 ⟨rfl, hb⟩
      rw [h2]
      replace HB := Lib.hid (below_step (HB.out.setCell (p := ⟨w.heap.size, 1, none⟩) (by simp) (.int .i64 (y - 1))) (by have := HB.out.size; simp; omega) hb)
      have c0 := (b0.set 1 (.int .i64 (y - 1))).below hb (b0.set 1 (.int .i64 (y - 1))).lt
      have c1 := (b1.set_other (a := ⟨w.heap.size, 1, none⟩) (.int .i64 (y - 1)) (by simp)).below hb (b1.set_other (a := ⟨w.heap.size, 1, none⟩) (.int .i64 (y - 1)) (by simp)).lt
      clear hb
      clear b0_l b0_0 b0_1 b0_2
      clear b0_f0 b0_f1 b0_f2
      clear b1_l b1_0 b1_1 b1_2
      clear b1_f0 b1_f1 b1_f2
      have c0_l := c0.lt
      have c0_0 := c0.cell 0 rfl
      have c0_1 := c0.cell 1 rfl
      have c0_2 := c0.cell 2 rfl
      have c0_f0 := c0.frozen 0
      have c0_f1 := c0.frozen 1
      have c0_f2 := c0.frozen 2
      have c1_l := c1.lt
      have c1_0 := c1.cell 0 rfl
      have c1_1 := c1.cell 1 rfl
      have c1_2 := c1.cell 2 rfl
      have c1_f0 := c1.frozen 0
      have c1_f1 := c1.frozen 1
      have c1_f2 := c1.frozen 2
      have hB := HB.out
      go_wp2_with fail
      refine bodyPost_ret (by simp [results, Try.results17, go_sem, c1_0, c1_1, c1_2]) rfl ⟨rfl, ?_⟩
      exact ((hB.setCell (by simp) _).setCell (by simp) _).setCell (by simp) _
  have e4 : decide (0 ≤ d ∧ d < 6) = false := decide_eq_false (by omega)
  simp only [stepV, stepOk, h, e4, Bool.false_and, Bool.and_false, Bool.false_eq_true, if_true, if_false]
  clear e4
  go_enter Try.func17, Try.ntmps17
  go_wp2_with fail
  refine (may_calls _ _ _ _).mono ?_
  rintro e w1 ⟨rfl, hb⟩
  rw [h]
  have HB := Lib.hid (below_step (((Below.refl w.heap.size w).alloc (by first | exact Nat.le_refl _ | (simp; done) | (simp; omega) | omega) _).alloc (by first | exact Nat.le_refl _ | (simp; done) | (simp; omega) | omega) _) (by first | exact Nat.le_refl _ | (simp; done) | (simp; omega) | omega) hb)
  have b0 := ((Blk.new_at (w := w) (n := w.heap.size) #[.int .i64 x, .int .i64 y, .int .i64 z] 23 (by simp)).alloc (.cells #[.int .i64 0, .int .i64 0, .int .i64 0] 23)).below hb (by first | exact Nat.le_refl _ | (simp; done) | (simp; omega) | omega)
  have b1 := (Blk.new_at (w := (w.alloc (.cells #[.int .i64 x, .int .i64 y, .int .i64 z] 23))) (n := w.heap.size + 1) #[.int .i64 0, .int .i64 0, .int .i64 0] 23 (by simp)).below hb (by first | exact Nat.le_refl _ | (simp; done) | (simp; omega) | omega)
  clear hb
  have b0_l := b0.lt
  have b0_0 := b0.cell 0 rfl
  have b0_1 := b0.cell 1 rfl
  have b0_2 := b0.cell 2 rfl
  have b0_f0 := b0.frozen 0
  have b0_f1 := b0.frozen 1
  have b0_f2 := b0.frozen 2
  have b1_l := b1.lt
  have b1_0 := b1.cell 0 rfl
  have b1_1 := b1.cell 1 rfl
  have b1_2 := b1.cell 2 rfl
  have b1_f0 := b1.frozen 0
  have b1_f1 := b1.frozen 1
  have b1_f2 := b1.frozen 2
  have hB := HB.out
  go_wp2_with fail
  refine bodyPost_ret (by simp [results, Try.results17, go_sem, b1_0, b1_1, b1_2]) rfl ⟨rfl, ?_⟩
  exact ((hB.setCell (by simp) _).setCell (by simp) _).setCell (by simp) _
end Go.Proofs.Ytdhanigngoniiaa
