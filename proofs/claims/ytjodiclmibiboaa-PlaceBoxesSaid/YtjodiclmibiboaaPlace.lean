/-
  The contracts of package place: each function gives what the plain functions here say, and leaves what lay before as it lay.
-/
import Derived.Test.YtjodiclmibiboaaBase
import Derived.Test.YtjodiclmibiboaaBits
namespace Go.Proofs.Ytjodiclmibiboaa
set_option linter.unusedSimpArgs false
set_option linter.unusedVariables false
open Go.RowKit

def mayB (x y z : Int) : Bool := decide (-1048576 ≤ x ∧ x < 1048576 ∧ -1048576 ≤ z ∧ z < 1048576 ∧ 0 ≤ y ∧ y < 64)
theorem mayB_iff {x y z : Int} : mayB x y z = true ↔ (-1048576 ≤ x ∧ x < 1048576 ∧ -1048576 ≤ z ∧ z < 1048576 ∧ 0 ≤ y ∧ y < 64) := by simp [mayB]

set_option maxHeartbeats 400000 in
theorem may_calls (x y z : Int) (w : World) :
    Calls Try.prog 14 #[.agg #[.int .i64 x, .int .i64 y, .int .i64 z]] w fun e w' => e = .returned (.bool (mayB x y z)) ∧ Below w.heap.size w w' := by
  go_enter Try.func14, Try.ntmps14
  go_wp2
  all_goals go_ret
  all_goals exact ⟨ret_bool (by rw [Bool.eq_iff_iff]; simp [mayB]; omega), (Below.refl _ _).alloc (Nat.le_refl _) _⟩

def gapI (m n : Int) : Int := if m ≤ n then n - m else m - n
theorem gapI_bd {m n : Int} (hm : -1048576 ≤ m) (hm' : m < 1048576) (hn : -1048576 ≤ n) (hn' : n < 1048576) : 0 ≤ gapI m n ∧ gapI m n ≤ 2097151 := by unfold gapI; split <;> omega

set_option maxHeartbeats 400000 in
theorem gap_calls (m n : Int) (w : World) (hm : -1048576 ≤ m) (hm' : m < 1048576) (hn : -1048576 ≤ n) (hn' : n < 1048576) :
    Calls Try.prog 37 #[.int .i64 m, .int .i64 n] w fun e w' => e = .returned (.int .i64 (gapI m n)) ∧ w' = w := by
  go_enter Try.func37, Try.ntmps37
  go_wp2
  all_goals go_ret
  all_goals exact ⟨ret_int (by unfold gapI; split <;> omega), rfl⟩

def farI (x y z a b c : Int) : Int := gapI x a + gapI y b + gapI z c

def mayS (x y z : Int) : Bool := decide (-65536 ≤ x ∧ x < 65536 ∧ -65536 ≤ z ∧ z < 65536 ∧ 0 ≤ y ∧ y < 4)
theorem mayS_iff {x y z : Int} : mayS x y z = true ↔ (-65536 ≤ x ∧ x < 65536 ∧ -65536 ≤ z ∧ z < 65536 ∧ 0 ≤ y ∧ y < 4) := by simp [mayS]

set_option maxHeartbeats 400000 in
theorem mayspot_calls (x y z : Int) (w : World) :
    Calls Try.prog 23 #[.agg #[.int .i64 x, .int .i64 y, .int .i64 z]] w fun e w' => e = .returned (.bool (mayS x y z)) ∧ Below w.heap.size w w' := by
  go_enter Try.func23, Try.ntmps23
  go_wp2
  all_goals go_ret
  all_goals exact ⟨ret_bool (by rw [Bool.eq_iff_iff]; simp [mayS]; omega), (Below.refl _ _).alloc (Nat.le_refl _) _⟩

def spotB (x y z : Int) : Value := if mayB x y z then .agg #[.int .i64 (x / 16), .int .i64 (y / 16), .int .i64 (z / 16)] else .agg #[.int .i64 0, .int .i64 0, .int .i64 0]

set_option maxHeartbeats 400000 in
theorem spot_calls (x y z : Int) (w : World) :
    Calls Try.prog 16 #[.agg #[.int .i64 x, .int .i64 y, .int .i64 z]] w fun e w' => e = .returned (.tuple #[spotB x y z, .bool (mayB x y z)]) ∧ Below w.heap.size w w' := by
  cases h : mayB x y z
  all_goals
    simp only [spotB, h, Bool.false_eq_true, if_true, if_false]
    go_enter Try.func16, Try.ntmps16
    go_wp2_with fail
    refine (may_calls _ _ _ _).mono ?_
    rintro e w1 ⟨rfl, hb⟩
    rw [h]
    have hB := below_step ((Below.refl w.heap.size w).alloc (Nat.le_refl _) _ |>.alloc (by simp) _) (by simp; omega) hb
    have b0 := ((Blk.new w #[.int .i64 x, .int .i64 y, .int .i64 z] 23).alloc (.cells #[.int .i64 0, .int .i64 0, .int .i64 0] 29)).below hb (by simp; omega)
    have b1 := (Blk.new_at (w := w.alloc (.cells #[.int .i64 x, .int .i64 y, .int .i64 z] 23)) (n := w.heap.size + 1) #[.int .i64 0, .int .i64 0, .int .i64 0] 29 (by simp)).below hb (by simp)
    have b0_l := b0.lt
    have b0_0 := b0.cell 0 rfl
    have b0_1 := b0.cell 1 rfl
    have b0_2 := b0.cell 2 rfl
    have b1_l := b1.lt
    have b1_0 := b1.cell 0 rfl
    have b1_1 := b1.cell 1 rfl
    have b1_2 := b1.cell 2 rfl
    have b1_f0 := b1.frozen 0
    have b1_f1 := b1.frozen 1
    have b1_f2 := b1.frozen 2
    go_wp2_with fail
    refine bodyPost_ret (by simp [results, Try.results16, go_sem, b1_0, b1_1, b1_2]) rfl ⟨rfl, ?_⟩
    exact ((hB.setCell (by simp) _).setCell (by simp) _).setCell (by simp) _

def indexI (x y z : Int) : Int := if mayB x y z then y % 16 * 256 + z % 16 * 16 + x % 16 else 0

set_option maxHeartbeats 400000 in
theorem index_calls (x y z : Int) (w : World) :
    Calls Try.prog 18 #[.agg #[.int .i64 x, .int .i64 y, .int .i64 z]] w fun e w' => e = .returned (.tuple #[.int .i64 (indexI x y z), .bool (mayB x y z)]) ∧ Below w.heap.size w w' := by
  cases h : mayB x y z
  all_goals
    simp only [indexI, h, Bool.false_eq_true, if_true, if_false]
    have q1 := i64_and15 x
    have q2 := i64_and15 y
    have q3 := i64_and15 z
    have q4 : bits .or .i64 (y % 16 * 256) (z % 16 * 16) = y % 16 * 256 + z % 16 * 16 := i64_or 8 _ _ (by omega) (by omega) (by omega) (by omega) (by omega) (by omega)
    have q5 : bits .or .i64 (y % 16 * 256 + z % 16 * 16) (x % 16) = y % 16 * 256 + z % 16 * 16 + x % 16 := i64_or 4 _ _ (by omega) (by omega) (by omega) (by omega) (by omega) (by omega)
    go_enter Try.func18, Try.ntmps18
    go_wp2_with fail
    refine (may_calls _ _ _ _).mono ?_
    rintro e w1 ⟨rfl, hb⟩
    rw [h]
    have hB := below_step ((Below.refl w.heap.size w).alloc (Nat.le_refl _) _) (by simp) hb
    have b0 := (Blk.new w #[.int .i64 x, .int .i64 y, .int .i64 z] 23).below hb (by simp)
    have b0_l := b0.lt
    have b0_0 := b0.cell 0 rfl
    have b0_1 := b0.cell 1 rfl
    have b0_2 := b0.cell 2 rfl
    go_wp2_with fail
    go_ret2
    exact ⟨rfl, hB⟩

def ofOk (x y z i : Int) : Bool := mayS x y z && decide (0 ≤ i ∧ i < 4096)
def ofV (x y z i : Int) : Value := if ofOk x y z i then .agg #[.int .i64 (x * 16 + i % 16), .int .i64 (y * 16 + i / 256), .int .i64 (z * 16 + i / 16 % 16)] else .agg #[.int .i64 0, .int .i64 0, .int .i64 0]

set_option maxHeartbeats 400000 in
theorem of_calls (x y z i : Int) (w : World) :
    Calls Try.prog 20 #[.agg #[.int .i64 x, .int .i64 y, .int .i64 z], .int .i64 i] w fun e w' => e = .returned (.tuple #[ofV x y z i, .bool (ofOk x y z i)]) ∧ Below w.heap.size w w' := by
  cases h : mayS x y z
  · simp only [ofV, ofOk, h, Bool.false_and, Bool.false_eq_true, if_true, if_false]
    go_enter Try.func20, Try.ntmps20
    go_wp2_with fail
    refine (mayspot_calls _ _ _ _).mono ?_
    rintro e w1 ⟨rfl, hb⟩
    rw [h]
    have hB := below_step ((Below.refl w.heap.size w).alloc (Nat.le_refl _) _ |>.alloc (by simp) _) (by simp; omega) hb
    have b0 := ((Blk.new w #[.int .i64 x, .int .i64 y, .int .i64 z] 29).alloc (.cells #[.int .i64 0, .int .i64 0, .int .i64 0] 23)).below hb (by simp; omega)
    have b1 := (Blk.new_at (w := w.alloc (.cells #[.int .i64 x, .int .i64 y, .int .i64 z] 29)) (n := w.heap.size + 1) #[.int .i64 0, .int .i64 0, .int .i64 0] 23 (by simp)).below hb (by simp)
    have b0_l := b0.lt
    have b0_0 := b0.cell 0 rfl
    have b0_1 := b0.cell 1 rfl
    have b0_2 := b0.cell 2 rfl
    have b1_l := b1.lt
    have b1_0 := b1.cell 0 rfl
    have b1_1 := b1.cell 1 rfl
    have b1_2 := b1.cell 2 rfl
    have b1_f0 := b1.frozen 0
    have b1_f1 := b1.frozen 1
    have b1_f2 := b1.frozen 2
    go_wp2_with fail
    refine bodyPost_ret (by simp [results, Try.results20, go_sem, b1_0, b1_1, b1_2]) rfl ⟨rfl, ?_⟩
    exact ((hB.setCell (by simp) _).setCell (by simp) _).setCell (by simp) _
  · have hs := Lib.hid (mayS_iff.1 h)
    by_cases hi : 0 ≤ i ∧ i < 4096
    all_goals
      simp only [ofV, ofOk, h, hi, Bool.true_and, decide_true, decide_false, Bool.false_eq_true, if_true, if_false, and_self]
      go_enter Try.func20, Try.ntmps20
      go_wp2_with fail
      refine (mayspot_calls _ _ _ _).mono ?_
      rintro e w1 ⟨rfl, hb⟩
      rw [h]
      have hB := below_step ((Below.refl w.heap.size w).alloc (Nat.le_refl _) _ |>.alloc (by simp) _) (by simp; omega) hb
      have b0 := ((Blk.new w #[.int .i64 x, .int .i64 y, .int .i64 z] 29).alloc (.cells #[.int .i64 0, .int .i64 0, .int .i64 0] 23)).below hb (by simp; omega)
      have b1 := (Blk.new_at (w := w.alloc (.cells #[.int .i64 x, .int .i64 y, .int .i64 z] 29)) (n := w.heap.size + 1) #[.int .i64 0, .int .i64 0, .int .i64 0] 23 (by simp)).below hb (by simp)
      obtain ⟨s1, s2, s3, s4, s5, s6⟩ := hs.out
      have b0_l := b0.lt
      have b0_0 := b0.cell 0 rfl
      have b0_1 := b0.cell 1 rfl
      have b0_2 := b0.cell 2 rfl
      have b1_l := b1.lt
      have b1_0 := b1.cell 0 rfl
      have b1_1 := b1.cell 1 rfl
      have b1_2 := b1.cell 2 rfl
      have b1_f0 := b1.frozen 0
      have b1_f1 := b1.frozen 1
      have b1_f2 := b1.frozen 2
      have q1 := i64_and15 i
      have q2 := i64_and15 (i / 16)
      go_wp2_with fail
      all_goals
        refine bodyPost_ret (by simp [results, Try.results20, go_sem, b1_0, b1_1, b1_2]) rfl ⟨rfl, ?_⟩
        exact ((hB.setCell (by simp) _).setCell (by simp) _).setCell (by simp) _

def farOk (x y z a b c : Int) : Bool := mayB x y z && mayB a b c
def farV (x y z a b c : Int) : Int := if farOk x y z a b c then gapI x a + gapI y b + gapI z c else 0

set_option maxHeartbeats 1000000 in
theorem far_calls (x y z a b c : Int) (w : World) :
    Calls Try.prog 13 #[.agg #[.int .i64 x, .int .i64 y, .int .i64 z], .agg #[.int .i64 a, .int .i64 b, .int .i64 c]] w fun e w' =>
      e = .returned (.tuple #[.int .i64 (farV x y z a b c), .bool (farOk x y z a b c)]) ∧ Below w.heap.size w w' := by
  cases h1 : mayB x y z
  · simp only [farV, farOk, h1, Bool.false_and, Bool.false_eq_true, if_true, if_false]
    go_enter Try.func13, Try.ntmps13
    go_wp2_with fail
    refine (may_calls _ _ _ _).mono ?_
    rintro e w1 ⟨rfl, hb⟩
    rw [h1]
    have hB := below_step ((Below.refl w.heap.size w).alloc (Nat.le_refl _) _ |>.alloc (by simp) _) (by simp; omega) hb
    go_wp2_with fail
    go_ret2
    exact ⟨rfl, hB⟩
  cases h2 : mayB a b c
  all_goals
    simp only [farV, farOk, h1, h2, Bool.true_and, Bool.false_eq_true, if_true, if_false]
    go_enter Try.func13, Try.ntmps13
    go_wp2_with fail
    refine (may_calls _ _ _ _).mono ?_
    rintro e w1 ⟨rfl, hb⟩
    rw [h1]
    have hB1 := Lib.hid (below_step ((Below.refl w.heap.size w).alloc (Nat.le_refl _) _ |>.alloc (by simp) _) (by simp; omega) hb)
    have b0 := ((Blk.new w #[.int .i64 x, .int .i64 y, .int .i64 z] 23).alloc (.cells #[.int .i64 a, .int .i64 b, .int .i64 c] 23)).below hb (by simp; omega)
    have b1 := (Blk.new_at (w := w.alloc (.cells #[.int .i64 x, .int .i64 y, .int .i64 z] 23)) (n := w.heap.size + 1) #[.int .i64 a, .int .i64 b, .int .i64 c] 23 (by simp)).below hb (by simp)
    clear hb
    have b1_l := b1.lt
    have b1_0 := b1.cell 0 rfl
    have b1_1 := b1.cell 1 rfl
    have b1_2 := b1.cell 2 rfl
    go_wp2_with fail
    refine (may_calls _ _ _ _).mono ?_
    rintro e w2 ⟨rfl, hb⟩
    rw [h2]
    have hB := below_step hB1.out (by have := hB1.out.size; omega) hb
    have b2 := b0.below hb b0.lt
    have b3 := b1.below hb b1.lt
    clear hb
    clear b1_l b1_0 b1_1 b1_2
    have b2_l := b2.lt
    have b2_0 := b2.cell 0 rfl
    have b2_1 := b2.cell 1 rfl
    have b2_2 := b2.cell 2 rfl
    have b3_l := b3.lt
    have b3_0 := b3.cell 0 rfl
    have b3_1 := b3.cell 1 rfl
    have b3_2 := b3.cell 2 rfl
    go_wp2_with fail
  · go_ret2
    exact ⟨rfl, hB⟩
  · have H1 := mayB_iff.1 h1
    have H2 := mayB_iff.1 h2
    have g1 := gapI_bd (m := x) (n := a) (by omega) (by omega) (by omega) (by omega)
    have g2 := gapI_bd (m := y) (n := b) (by omega) (by omega) (by omega) (by omega)
    have g3 := gapI_bd (m := z) (n := c) (by omega) (by omega) (by omega) (by omega)
    have e1 : IntKind.i64.wrap (gapI x a + gapI y b) = gapI x a + gapI y b := IntWalk.i64_in _ (by omega)
    have e2 : IntKind.i64.wrap (gapI x a + gapI y b + gapI z c) = gapI x a + gapI y b + gapI z c := IntWalk.i64_in _ (by omega)
    go_quiet ((go_at_call 37; exact Calls.quiet_of_same (gap_calls _ _ _ (by omega) (by omega) (by omega) (by omega))))
    go_wp2_with fail
    go_ret2
    exact ⟨rfl, below_drewN hB _⟩

end Go.Proofs.Ytjodiclmibiboaa
