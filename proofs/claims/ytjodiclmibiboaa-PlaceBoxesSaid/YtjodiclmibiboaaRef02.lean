/-
  The contracts of the reference of layer 2.
-/
import Derived.Test.YtjodiclmibiboaaPlace
namespace Go.Proofs.Ytjodiclmibiboaa
set_option linter.unusedVariables false
open Go.RowKit
set_option linter.unusedSimpArgs false

set_option maxHeartbeats 400000 in
theorem within_calls (n f t : Int) (w : World) :
    Calls Try.prog 39 #[.int .i64 n, .int .i64 f, .int .i64 t] w fun e w' => e = .returned (.bool (decide (f ≤ n ∧ n < t))) ∧ w' = w := by
  go_enter Try.func39, Try.ntmps39
  go_wp2
  all_goals go_ret
  all_goals exact ⟨ret_bool (by rw [Bool.eq_iff_iff]; simp; omega), rfl⟩

set_option maxHeartbeats 400000 in
theorem rmay_calls (x y z : Int) (w : World) :
    Calls Try.prog 22 #[.agg #[.int .i64 x, .int .i64 y, .int .i64 z]] w fun e w' => e = .returned (.bool (mayB x y z)) ∧ Below w.heap.size w w' := by
  go_enter Try.func22, Try.ntmps22
  go_wp2
  all_goals go_ret
  all_goals exact ⟨ret_bool (by rw [Bool.eq_iff_iff]; simp [mayB]; omega), (Below.refl _ _).alloc (Nat.le_refl _) _⟩

set_option maxHeartbeats 400000 in
theorem rmayspot_calls (x y z : Int) (w : World) :
    Calls Try.prog 24 #[.agg #[.int .i64 x, .int .i64 y, .int .i64 z]] w fun e w' => e = .returned (.bool (mayS x y z)) ∧ Below w.heap.size w w' := by
  go_enter Try.func24, Try.ntmps24
  go_wp2
  all_goals go_ret
  all_goals exact ⟨ret_bool (by rw [Bool.eq_iff_iff]; simp [mayS]; omega), (Below.refl _ _).alloc (Nat.le_refl _) _⟩

theorem tdiv16 (n : Int) : n.tdiv 16 = if 0 ≤ n then n / 16 else -(-n / 16) := by
  split
  · exact Int.tdiv_eq_ediv_of_nonneg (by assumption)
  · have := Int.tdiv_eq_ediv_of_nonneg (a := -n) (b := 16) (by omega)
    rw [Int.neg_tdiv] at this; omega
theorem tmod16 (n : Int) : n.tmod 16 = if 0 ≤ n then n % 16 else -(-n % 16) := by
  split
  · exact Int.tmod_eq_emod_of_nonneg (by assumption)
  · have := Int.tmod_eq_emod_of_nonneg (a := -n) (b := 16) (by omega)
    rw [Int.neg_tmod] at this; omega
theorem ret_ii {a b c d : Int} (h : a = c) (h' : b = d) : Ending.returned (.tuple #[.int .i64 a, .int .i64 b]) = .returned (.tuple #[.int .i64 c, .int .i64 d]) := by rw [h, h']

set_option maxHeartbeats 400000 in
theorem down_calls (n : Int) (w : World) (h0 : -1048576 ≤ n) (h1 : n < 1048576) :
    Calls Try.prog 38 #[.int .i64 n] w fun e w' => e = .returned (.tuple #[.int .i64 (n / 16), .int .i64 (n % 16)]) ∧ w' = w := by
  go_enter Try.func38, Try.ntmps38
  go_wp2
  · have h : n.tmod 16 < 0 := by assumption
    go_ret2
    exact ⟨ret_ii (by rw [tmod16] at h; rw [tdiv16, IntWalk.wrap64_in _ ⟨by split <;> omega, by split <;> omega⟩]; split at h <;> split <;> omega) (by rw [tmod16] at *; rw [IntWalk.wrap64_in _ ⟨by split <;> omega, by split <;> omega⟩]; split at h <;> split <;> omega), rfl⟩
  · have h : 0 ≤ n.tmod 16 := by assumption
    go_ret2
    exact ⟨ret_ii (by rw [tmod16] at h; rw [tdiv16]; split at h <;> split <;> omega) (by rw [tmod16] at *; split at h <;> split <;> omega), rfl⟩

set_option maxHeartbeats 400000 in
theorem rspot_calls (x y z : Int) (w : World) :
    Calls Try.prog 17 #[.agg #[.int .i64 x, .int .i64 y, .int .i64 z]] w fun e w' => e = .returned (.tuple #[spotB x y z, .bool (mayB x y z)]) ∧ Below w.heap.size w w' := by
  cases h : mayB x y z
  · simp only [spotB, h, Bool.false_eq_true, if_true, if_false]
    go_enter Try.func17, Try.ntmps17
    go_wp2_with fail
    refine (rmay_calls _ _ _ _).mono ?_
    rintro e w1 ⟨rfl, hb⟩
    rw [h]
    have HB := Lib.hid (below_step (((Below.refl w.heap.size w).alloc (by first | exact Nat.le_refl _ | (simp; done) | (simp; omega) | omega) _).alloc (by first | exact Nat.le_refl _ | (simp; done) | (simp; omega) | omega) _) (by first | exact Nat.le_refl _ | (simp; done) | (simp; omega) | omega) hb)
    have b0 := ((Blk.new_at (w := w) (n := w.heap.size) #[.int .i64 x, .int .i64 y, .int .i64 z] 23 (by simp)).alloc (.cells #[.int .i64 0, .int .i64 0, .int .i64 0] 29)).below hb (by first | exact Nat.le_refl _ | (simp; done) | (simp; omega) | omega)
    have b1 := (Blk.new_at (w := (w.alloc (.cells #[.int .i64 x, .int .i64 y, .int .i64 z] 23))) (n := w.heap.size + 1) #[.int .i64 0, .int .i64 0, .int .i64 0] 29 (by simp)).below hb (by first | exact Nat.le_refl _ | (simp; done) | (simp; omega) | omega)
    clear hb
    have b0_l := b0.lt
    have b0_0 := b0.cell 0 rfl
    have b0_1 := b0.cell 1 rfl
    have b0_2 := b0.cell 2 rfl
    have b1_l := b1.lt
    have b1_0 := b1.cell 0 rfl
    have b1_1 := b1.cell 1 rfl
    have b1_2 := b1.cell 2 rfl
    have b1_f0 := b1.frozen 0
    have b1_f1 := b1.frozen 1
    have b1_f2 := b1.frozen 2
    have hB := HB.out
    go_wp2_with fail
    refine bodyPost_ret (by simp [results, Try.results17, go_sem, b1_0, b1_1, b1_2]) rfl ⟨rfl, ?_⟩
    exact ((hB.setCell (by simp) _).setCell (by simp) _).setCell (by simp) _
  · have hs := Lib.hid (mayB_iff.1 h)
    simp only [spotB, h, Bool.false_eq_true, if_true, if_false]
    go_enter Try.func17, Try.ntmps17
    go_wp2_with fail
    refine (rmay_calls _ _ _ _).mono ?_
    rintro e w1 ⟨rfl, hb⟩
    rw [h]
    have HB := Lib.hid (below_step (((Below.refl w.heap.size w).alloc (by first | exact Nat.le_refl _ | (simp; done) | (simp; omega) | omega) _).alloc (by first | exact Nat.le_refl _ | (simp; done) | (simp; omega) | omega) _) (by first | exact Nat.le_refl _ | (simp; done) | (simp; omega) | omega) hb)
    have b0 := ((Blk.new_at (w := w) (n := w.heap.size) #[.int .i64 x, .int .i64 y, .int .i64 z] 23 (by simp)).alloc (.cells #[.int .i64 0, .int .i64 0, .int .i64 0] 29)).below hb (by first | exact Nat.le_refl _ | (simp; done) | (simp; omega) | omega)
    have b1 := (Blk.new_at (w := (w.alloc (.cells #[.int .i64 x, .int .i64 y, .int .i64 z] 23))) (n := w.heap.size + 1) #[.int .i64 0, .int .i64 0, .int .i64 0] 29 (by simp)).below hb (by first | exact Nat.le_refl _ | (simp; done) | (simp; omega) | omega)
    clear hb
    have b0_l := b0.lt
    have b0_0 := b0.cell 0 rfl
    have b0_1 := b0.cell 1 rfl
    have b0_2 := b0.cell 2 rfl
    have b1_l := b1.lt
    have b1_0 := b1.cell 0 rfl
    have b1_1 := b1.cell 1 rfl
    have b1_2 := b1.cell 2 rfl
    have b1_f0 := b1.frozen 0
    have b1_f1 := b1.frozen 1
    have b1_f2 := b1.frozen 2
    have hB := HB.out
    obtain ⟨s1, s2, s3, s4, s5, s6⟩ := hs.out
    go_wp2_with (go_at_call 38; refine (down_calls _ _ (by omega) (by omega)).mono ?_; rintro e w' ⟨rfl, rfl⟩)
    refine bodyPost_ret (by simp [results, Try.results17, go_sem, b1_0, b1_1, b1_2]) rfl ⟨rfl, ?_⟩
    exact ((hB.setCell (by simp) _).setCell (by simp) _).setCell (by simp) _

set_option maxHeartbeats 400000 in
theorem rindex_calls (x y z : Int) (w : World) :
    Calls Try.prog 19 #[.agg #[.int .i64 x, .int .i64 y, .int .i64 z]] w fun e w' => e = .returned (.tuple #[.int .i64 (indexI x y z), .bool (mayB x y z)]) ∧ Below w.heap.size w w' := by
  cases h : mayB x y z
  · simp only [indexI, h, Bool.false_eq_true, if_true, if_false]
    go_enter Try.func19, Try.ntmps19
    go_wp2_with fail
    refine (rmay_calls _ _ _ _).mono ?_
    rintro e w1 ⟨rfl, hb⟩
    rw [h]
    have HB := Lib.hid (below_step ((Below.refl w.heap.size w).alloc (by first | exact Nat.le_refl _ | (simp; done) | (simp; omega) | omega) _) (by first | exact Nat.le_refl _ | (simp; done) | (simp; omega) | omega) hb)
    have b0 := (Blk.new_at (w := w) (n := w.heap.size) #[.int .i64 x, .int .i64 y, .int .i64 z] 23 (by simp)).below hb (by first | exact Nat.le_refl _ | (simp; done) | (simp; omega) | omega)
    clear hb
    have b0_l := b0.lt
    have b0_0 := b0.cell 0 rfl
    have b0_1 := b0.cell 1 rfl
    have b0_2 := b0.cell 2 rfl
    go_wp2_with fail
    go_ret2
    exact ⟨rfl, HB.out⟩
  · have hs := Lib.hid (mayB_iff.1 h)
    simp only [indexI, h, Bool.false_eq_true, if_true, if_false]
    go_enter Try.func19, Try.ntmps19
    go_wp2_with fail
    refine (rmay_calls _ _ _ _).mono ?_
    rintro e w1 ⟨rfl, hb⟩
    rw [h]
    have HB := Lib.hid (below_step ((Below.refl w.heap.size w).alloc (by first | exact Nat.le_refl _ | (simp; done) | (simp; omega) | omega) _) (by first | exact Nat.le_refl _ | (simp; done) | (simp; omega) | omega) hb)
    have b0 := (Blk.new_at (w := w) (n := w.heap.size) #[.int .i64 x, .int .i64 y, .int .i64 z] 23 (by simp)).below hb (by first | exact Nat.le_refl _ | (simp; done) | (simp; omega) | omega)
    clear hb
    have b0_l := b0.lt
    have b0_0 := b0.cell 0 rfl
    have b0_1 := b0.cell 1 rfl
    have b0_2 := b0.cell 2 rfl
    obtain ⟨s1, s2, s3, s4, s5, s6⟩ := hs.out
    go_wp2_with (go_at_call 38; refine (down_calls _ _ (by omega) (by omega)).mono ?_; rintro e w' ⟨rfl, rfl⟩)
    go_ret2
    exact ⟨rfl, HB.out⟩

set_option maxHeartbeats 400000 in
theorem rof_calls (x y z i : Int) (w : World) :
    Calls Try.prog 21 #[.agg #[.int .i64 x, .int .i64 y, .int .i64 z], .int .i64 i] w fun e w' => e = .returned (.tuple #[ofV x y z i, .bool (ofOk x y z i)]) ∧ Below w.heap.size w w' := by
  cases h : mayS x y z
  · simp only [ofV, ofOk, h, Bool.false_and, Bool.false_eq_true, if_true, if_false]
    go_enter Try.func21, Try.ntmps21
    go_wp2_with fail
    refine (rmayspot_calls _ _ _ _).mono ?_
    rintro e w1 ⟨rfl, hb⟩
    rw [h]
    have HB := Lib.hid (below_step (((Below.refl w.heap.size w).alloc (by first | exact Nat.le_refl _ | (simp; done) | (simp; omega) | omega) _).alloc (by first | exact Nat.le_refl _ | (simp; done) | (simp; omega) | omega) _) (by first | exact Nat.le_refl _ | (simp; done) | (simp; omega) | omega) hb)
    have b0 := ((Blk.new_at (w := w) (n := w.heap.size) #[.int .i64 x, .int .i64 y, .int .i64 z] 29 (by simp)).alloc (.cells #[.int .i64 0, .int .i64 0, .int .i64 0] 23)).below hb (by first | exact Nat.le_refl _ | (simp; done) | (simp; omega) | omega)
    have b1 := (Blk.new_at (w := (w.alloc (.cells #[.int .i64 x, .int .i64 y, .int .i64 z] 29))) (n := w.heap.size + 1) #[.int .i64 0, .int .i64 0, .int .i64 0] 23 (by simp)).below hb (by first | exact Nat.le_refl _ | (simp; done) | (simp; omega) | omega)
    clear hb
    have b0_l := b0.lt
    have b0_0 := b0.cell 0 rfl
    have b0_1 := b0.cell 1 rfl
    have b0_2 := b0.cell 2 rfl
    have b1_l := b1.lt
    have b1_0 := b1.cell 0 rfl
    have b1_1 := b1.cell 1 rfl
    have b1_2 := b1.cell 2 rfl
    have b1_f0 := b1.frozen 0
    have b1_f1 := b1.frozen 1
    have b1_f2 := b1.frozen 2
    have hB := HB.out
    go_wp2_with fail
    refine bodyPost_ret (by simp [results, Try.results21, go_sem, b1_0, b1_1, b1_2]) rfl ⟨rfl, ?_⟩
    exact ((hB.setCell (by simp) _).setCell (by simp) _).setCell (by simp) _
  · have hs := Lib.hid (mayS_iff.1 h)
    by_cases hi : 0 ≤ i ∧ i < 4096
    all_goals
      simp only [ofV, ofOk, h, hi, Bool.true_and, decide_true, decide_false, Bool.false_eq_true, if_true, if_false, and_self]
      go_enter Try.func21, Try.ntmps21
      go_wp2_with fail
      refine (rmayspot_calls _ _ _ _).mono ?_
      rintro e w1 ⟨rfl, hb⟩
      rw [h]
      have HB := Lib.hid (below_step (((Below.refl w.heap.size w).alloc (by first | exact Nat.le_refl _ | (simp; done) | (simp; omega) | omega) _).alloc (by first | exact Nat.le_refl _ | (simp; done) | (simp; omega) | omega) _) (by first | exact Nat.le_refl _ | (simp; done) | (simp; omega) | omega) hb)
      have b0 := ((Blk.new_at (w := w) (n := w.heap.size) #[.int .i64 x, .int .i64 y, .int .i64 z] 29 (by simp)).alloc (.cells #[.int .i64 0, .int .i64 0, .int .i64 0] 23)).below hb (by first | exact Nat.le_refl _ | (simp; done) | (simp; omega) | omega)
      have b1 := (Blk.new_at (w := (w.alloc (.cells #[.int .i64 x, .int .i64 y, .int .i64 z] 29))) (n := w.heap.size + 1) #[.int .i64 0, .int .i64 0, .int .i64 0] 23 (by simp)).below hb (by first | exact Nat.le_refl _ | (simp; done) | (simp; omega) | omega)
      clear hb
      have b0_l := b0.lt
      have b0_0 := b0.cell 0 rfl
      have b0_1 := b0.cell 1 rfl
      have b0_2 := b0.cell 2 rfl
      have b1_l := b1.lt
      have b1_0 := b1.cell 0 rfl
      have b1_1 := b1.cell 1 rfl
      have b1_2 := b1.cell 2 rfl
      have b1_f0 := b1.frozen 0
      have b1_f1 := b1.frozen 1
      have b1_f2 := b1.frozen 2
      have hB := HB.out
      obtain ⟨s1, s2, s3, s4, s5, s6⟩ := hs.out
      go_wp2_with fail
      refine (within_calls _ _ _ _).mono ?_
      rintro e w' ⟨rfl, rfl⟩
    · obtain ⟨i0, i1⟩ := hi
      rw [decide_eq_true (⟨i0, i1⟩ : 0 ≤ i ∧ i < 4096)]
      go_wp2_with fail
      refine bodyPost_ret (by simp [results, Try.results21, go_sem, b1_0, b1_1, b1_2, Int.mul_comm]) rfl ⟨rfl, ?_⟩
      exact ((hB.setCell (by simp) _).setCell (by simp) _).setCell (by simp) _
    · rw [decide_eq_false hi]
      go_wp2_with fail
      refine bodyPost_ret (by simp [results, Try.results21, go_sem, b1_0, b1_1, b1_2]) rfl ⟨rfl, ?_⟩
      exact ((hB.setCell (by simp) _).setCell (by simp) _).setCell (by simp) _
end Go.Proofs.Ytjodiclmibiboaa
