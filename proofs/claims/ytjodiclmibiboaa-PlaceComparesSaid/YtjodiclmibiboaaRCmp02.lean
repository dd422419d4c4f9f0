/-
  The contracts of the reference's order and distance.
-/
import Derived.Test.YtjodiclmibiboaaRef02
import Derived.Test.YtjodiclmibiboaaCmp
namespace Go.Proofs.Ytjodiclmibiboaa
open Go.RowKit
set_option linter.unusedSimpArgs false
set_option linter.unusedVariables false

theorem ret_cmp {a b : Int} (h : a = b) : Ending.returned (.int .i64 a) = .returned (.int .i64 b) := by rw [h]

set_option maxHeartbeats 1000000 in
theorem rcmp_calls (x y z a b c : Int) (w : World) :
    Calls Try.prog 33 #[.agg #[.int .i64 x, .int .i64 y, .int .i64 z], .agg #[.int .i64 a, .int .i64 b, .int .i64 c]] w fun e w' => e = .returned (.int .i64 (cmpP x y z a b c)) ∧ Below w.heap.size w w' := by
  go_enter Try.func33, Try.ntmps33
  go_wp2
  all_goals go_ret
  all_goals exact ⟨ret_int (by (try simp only [bne_iff_ne, bne_eq_false_iff_eq, ne_eq] at *); unfold cmpP orI cmpI; (repeat' split) <;> omega), ((Below.refl _ _).alloc (Nat.le_refl _) _).alloc (by simp) _⟩

set_option maxHeartbeats 1000000 in
theorem rcmpspot_calls (x y z a b c : Int) (w : World) :
    Calls Try.prog 35 #[.agg #[.int .i64 x, .int .i64 y, .int .i64 z], .agg #[.int .i64 a, .int .i64 b, .int .i64 c]] w fun e w' => e = .returned (.int .i64 (cmpP x y z a b c)) ∧ Below w.heap.size w w' := by
  go_enter Try.func35, Try.ntmps35
  go_wp2_with fail
  refine (rcmp_calls _ _ _ _ _ _ _).mono ?_
  rintro e w1 ⟨rfl, hb⟩
  have HB := Lib.hid (below_step (((Below.refl w.heap.size w).alloc (by first | exact Nat.le_refl _ | (simp; done) | (simp; omega) | omega) _).alloc (by first | exact Nat.le_refl _ | (simp; done) | (simp; omega) | omega) _) (by first | exact Nat.le_refl _ | (simp; done) | (simp; omega) | omega) hb)
  have b0 := ((Blk.new_at (w := w) (n := w.heap.size) #[.int .i64 x, .int .i64 y, .int .i64 z] 29 (by simp)).alloc (.cells #[.int .i64 a, .int .i64 b, .int .i64 c] 29)).below hb (by first | exact Nat.le_refl _ | (simp; done) | (simp; omega) | omega)
  have b1 := (Blk.new_at (w := (w.alloc (.cells #[.int .i64 x, .int .i64 y, .int .i64 z] 29))) (n := w.heap.size + 1) #[.int .i64 a, .int .i64 b, .int .i64 c] 29 (by simp)).below hb (by first | exact Nat.le_refl _ | (simp; done) | (simp; omega) | omega)
  clear hb
  go_wp2_with fail
  go_ret
  exact ⟨rfl, HB.out⟩

set_option maxHeartbeats 400000 in
theorem rgap_calls (m n : Int) (w : World) (hm : -1048576 ≤ m) (hm' : m < 1048576) (hn : -1048576 ≤ n) (hn' : n < 1048576) :
    Calls Try.prog 44 #[.int .i64 m, .int .i64 n] w fun e w' => e = .returned (.int .i64 (gapI m n)) ∧ w' = w := by
  go_enter Try.func44, Try.ntmps44
  go_wp2
  all_goals go_ret
  all_goals exact ⟨ret_int (by unfold gapI; split <;> omega), rfl⟩

set_option maxHeartbeats 1000000 in
theorem rfar_calls (x y z a b c : Int) (w : World) :
    Calls Try.prog 32 #[.agg #[.int .i64 x, .int .i64 y, .int .i64 z], .agg #[.int .i64 a, .int .i64 b, .int .i64 c]] w fun e w' =>
      e = .returned (.tuple #[.int .i64 (farV x y z a b c), .bool (farOk x y z a b c)]) ∧ Below w.heap.size w w' := by
  cases h1 : mayB x y z
  · simp only [farV, farOk, h1, Bool.false_and, Bool.false_eq_true, if_true, if_false]
    go_enter Try.func32, Try.ntmps32
    go_wp2_with fail
    refine (rmay_calls _ _ _ _).mono ?_
    rintro e w1 ⟨rfl, hb⟩
    rw [h1]
    have hB := below_step ((Below.refl w.heap.size w).alloc (Nat.le_refl _) _ |>.alloc (by simp) _) (by simp; omega) hb
    go_wp2_with fail
    go_ret2
    exact ⟨rfl, hB⟩
  cases h2 : mayB a b c
  all_goals
    simp only [farV, farOk, h1, h2, Bool.true_and, Bool.false_eq_true, if_true, if_false]
    go_enter Try.func32, Try.ntmps32
    go_wp2_with fail
    refine (rmay_calls _ _ _ _).mono ?_
    rintro e w1 ⟨rfl, hb⟩
    rw [h1]
    have HB := Lib.hid (below_step (((Below.refl w.heap.size w).alloc (by first | exact Nat.le_refl _ | (simp; done) | (simp; omega) | omega) _).alloc (by first | exact Nat.le_refl _ | (simp; done) | (simp; omega) | omega) _) (by first | exact Nat.le_refl _ | (simp; done) | (simp; omega) | omega) hb)
    have b0 := ((Blk.new_at (w := w) (n := w.heap.size) #[.int .i64 x, .int .i64 y, .int .i64 z] 23 (by simp)).alloc (.cells #[.int .i64 a, .int .i64 b, .int .i64 c] 23)).below hb (by first | exact Nat.le_refl _ | (simp; done) | (simp; omega) | omega)
    have b1 := (Blk.new_at (w := (w.alloc (.cells #[.int .i64 x, .int .i64 y, .int .i64 z] 23))) (n := w.heap.size + 1) #[.int .i64 a, .int .i64 b, .int .i64 c] 23 (by simp)).below hb (by first | exact Nat.le_refl _ | (simp; done) | (simp; omega) | omega)
    clear hb
    have b0_l := b0.lt
    have b0_0 := b0.cell 0 rfl
    have b0_1 := b0.cell 1 rfl
    have b0_2 := b0.cell 2 rfl
    have b1_l := b1.lt
    have b1_0 := b1.cell 0 rfl
    have b1_1 := b1.cell 1 rfl
    have b1_2 := b1.cell 2 rfl
    go_wp2_with fail
    try clear b0_l b0_0 b0_1 b0_2
    try clear b1_l b1_0 b1_1 b1_2
    refine (rmay_calls _ _ _ _).mono ?_
    rintro e w2 ⟨rfl, hb⟩
    rw [h2]
    replace HB := Lib.hid (below_step HB.out (by have := HB.out.size; first | omega | (simp; omega)) hb)
    replace b0 := b0.below hb b0.lt
    replace b1 := b1.below hb b1.lt
    clear hb
    have b0_l := b0.lt
    have b0_0 := b0.cell 0 rfl
    have b0_1 := b0.cell 1 rfl
    have b0_2 := b0.cell 2 rfl
    have b1_l := b1.lt
    have b1_0 := b1.cell 0 rfl
    have b1_1 := b1.cell 1 rfl
    have b1_2 := b1.cell 2 rfl
    go_wp2_with fail
  · go_ret2
    exact ⟨rfl, HB.out⟩
  · have H1 := mayB_iff.1 h1
    have H2 := mayB_iff.1 h2
    have g1 := gapI_bd (m := x) (n := a) (by omega) (by omega) (by omega) (by omega)
    have g2 := gapI_bd (m := y) (n := b) (by omega) (by omega) (by omega) (by omega)
    have g3 := gapI_bd (m := z) (n := c) (by omega) (by omega) (by omega) (by omega)
    have e1 : IntKind.i64.wrap (gapI x a + gapI y b) = gapI x a + gapI y b := IntWalk.i64_in _ (by omega)
    have e2 : IntKind.i64.wrap (gapI x a + gapI y b + gapI z c) = gapI x a + gapI y b + gapI z c := IntWalk.i64_in _ (by omega)
    go_quiet ((go_at_call 44; exact Calls.quiet_of_same (rgap_calls _ _ _ (by omega) (by omega) (by omega) (by omega))))
    go_wp2_with fail
    go_ret2
    exact ⟨rfl, below_drewN HB.out _⟩
end Go.Proofs.Ytjodiclmibiboaa
