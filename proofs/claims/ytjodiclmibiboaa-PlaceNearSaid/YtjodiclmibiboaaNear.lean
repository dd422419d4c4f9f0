/-
  PlaceNear's walk.
-/
import Derived.Test.YtjodiclmibiboaaWorks02
namespace Go.Proofs.Ytjodiclmibiboaa
set_option linter.unusedSimpArgs false
set_option linter.unusedVariables false
open Go.RowKit

theorem farOk_comm (x y z a b c : Int) : farOk a b c x y z = farOk x y z a b c := Bool.and_comm _ _
theorem gapI_comm (m n : Int) : gapI n m = gapI m n := by unfold gapI; split <;> split <;> omega
theorem farV_comm (x y z a b c : Int) : farV a b c x y z = farV x y z a b c := by
  unfold farV; rw [farOk_comm, gapI_comm x a, gapI_comm y b, gapI_comm z c]

theorem gapI_zero {m n : Int} : gapI m n = 0 ↔ m = n := by unfold gapI; split <;> omega
theorem gapI_nonneg (m n : Int) : 0 ≤ gapI m n := by unfold gapI; split <;> omega
theorem gapI_tri (m n k : Int) : gapI m n ≤ gapI m k + gapI k n := by unfold gapI; split <;> split <;> split <;> omega
theorem farV_bd (x y z a b c : Int) : 0 ≤ farV x y z a b c ∧ farV x y z a b c ≤ 6291453 := by
  unfold farV
  cases h : farOk x y z a b c
  · simp
  · rw [if_pos rfl]
    simp only [farOk, Bool.and_eq_true, mayB_iff] at h
    have g1 := gapI_bd (m := x) (n := a) (by omega) (by omega) (by omega) (by omega)
    have g2 := gapI_bd (m := y) (n := b) (by omega) (by omega) (by omega) (by omega)
    have g3 := gapI_bd (m := z) (n := c) (by omega) (by omega) (by omega) (by omega)
    omega
theorem farV_zero {x y z a b c : Int} (h : farOk x y z a b c = true) : farV x y z a b c = 0 ↔ x = a ∧ y = b ∧ z = c := by
  unfold farV; rw [if_pos h]
  have h1 := gapI_nonneg x a; have h2 := gapI_nonneg y b; have h3 := gapI_nonneg z c
  have e1 := gapI_zero (m := x) (n := a); have e2 := gapI_zero (m := y) (n := b); have e3 := gapI_zero (m := z) (n := c)
  omega
theorem farV_tri {x y z a b c p q r : Int} (h : farOk x y z a b c = true) (h1 : farOk x y z p q r = true) (h2 : farOk p q r a b c = true) : farV x y z a b c ≤ farV x y z p q r + farV p q r a b c := by
  unfold farV; rw [if_pos h, if_pos h1, if_pos h2]
  have g1 := gapI_tri x a p; have g2 := gapI_tri y b q; have g3 := gapI_tri z c r
  omega
theorem farV_no {x y z a b c : Int} (h : farOk x y z a b c = false) : farV x y z a b c = 0 := by unfold farV; rw [h]; rfl

set_option maxHeartbeats 2000000 in
theorem near_walk (x y z a b c p q r : Int) (w : World) :
    Calls Try.prog 3 #[.agg #[.int .i64 x, .int .i64 y, .int .i64 z], .agg #[.int .i64 a, .int .i64 b, .int .i64 c], .agg #[.int .i64 p, .int .i64 q, .int .i64 r]] w fun e w' => e = .returned (.bool true) ∧ Below w.heap.size w w' := by
  go_enter Try.func3, Try.ntmps3
  go_wp2_with fail
  refine (far_calls _ _ _ _ _ _ _).mono ?_
  rintro e w1 ⟨rfl, hb⟩
  have HB := Lib.hid (below_step ((((Below.refl w.heap.size w).alloc (by first | exact Nat.le_refl _ | (simp; done) | (simp; omega) | omega) _).alloc (by first | exact Nat.le_refl _ | (simp; done) | (simp; omega) | omega) _).alloc (by first | exact Nat.le_refl _ | (simp; done) | (simp; omega) | omega) _) (by first | exact Nat.le_refl _ | (simp; done) | (simp; omega) | omega) hb)
  have b0 := (((Blk.new_at (w := w) (n := w.heap.size) #[.int .i64 x, .int .i64 y, .int .i64 z] 23 (by simp)).alloc (.cells #[.int .i64 a, .int .i64 b, .int .i64 c] 23)).alloc (.cells #[.int .i64 p, .int .i64 q, .int .i64 r] 23)).below hb (by first | exact Nat.le_refl _ | (simp; done) | (simp; omega) | omega)
  have b1 := ((Blk.new_at (w := (w.alloc (.cells #[.int .i64 x, .int .i64 y, .int .i64 z] 23))) (n := w.heap.size + 1) #[.int .i64 a, .int .i64 b, .int .i64 c] 23 (by simp)).alloc (.cells #[.int .i64 p, .int .i64 q, .int .i64 r] 23)).below hb (by first | exact Nat.le_refl _ | (simp; done) | (simp; omega) | omega)
  have b2 := (Blk.new_at (w := ((w.alloc (.cells #[.int .i64 x, .int .i64 y, .int .i64 z] 23)).alloc (.cells #[.int .i64 a, .int .i64 b, .int .i64 c] 23))) (n := w.heap.size + 2) #[.int .i64 p, .int .i64 q, .int .i64 r] 23 (by simp)).below hb (by first | exact Nat.le_refl _ | (simp; done) | (simp; omega) | omega)
  clear hb
  have b0_l := b0.lt
  have b0_0 := b0.cell 0 rfl
  have b0_1 := b0.cell 1 rfl
  have b0_2 := b0.cell 2 rfl
  have b1_l := b1.lt
  have b1_0 := b1.cell 0 rfl
  have b1_1 := b1.cell 1 rfl
  have b1_2 := b1.cell 2 rfl
  have b2_l := b2.lt
  have b2_0 := b2.cell 0 rfl
  have b2_1 := b2.cell 1 rfl
  have b2_2 := b2.cell 2 rfl
  go_wp2_with fail
  try clear b0_l b0_0 b0_1 b0_2
  try clear b1_l b1_0 b1_1 b1_2
  try clear b2_l b2_0 b2_1 b2_2
  refine (far_calls _ _ _ _ _ _ _).mono ?_
  rintro e w2 ⟨rfl, hb⟩
  rw [farOk_comm, farV_comm]
  replace HB := Lib.hid (below_step HB.out (by have := HB.out.size; first | omega | (simp; omega)) hb)
  replace b0 := b0.below hb b0.lt
  replace b1 := b1.below hb b1.lt
  replace b2 := b2.below hb b2.lt
  clear hb
  have b0_l := b0.lt
  have b0_0 := b0.cell 0 rfl
  have b0_1 := b0.cell 1 rfl
  have b0_2 := b0.cell 2 rfl
  have b1_l := b1.lt
  have b1_0 := b1.cell 0 rfl
  have b1_1 := b1.cell 1 rfl
  have b1_2 := b1.cell 2 rfl
  have b2_l := b2.lt
  have b2_0 := b2.cell 0 rfl
  have b2_1 := b2.cell 1 rfl
  have b2_2 := b2.cell 2 rfl
  go_wp2_with fail
  try clear b0_l b0_0 b0_1 b0_2
  try clear b1_l b1_0 b1_1 b1_2
  try clear b2_l b2_0 b2_1 b2_2
  refine (far_calls _ _ _ _ _ _ _).mono ?_
  rintro e w3 ⟨rfl, hb⟩
  replace HB := Lib.hid (below_step HB.out (by have := HB.out.size; first | omega | (simp; omega)) hb)
  replace b0 := b0.below hb b0.lt
  replace b1 := b1.below hb b1.lt
  replace b2 := b2.below hb b2.lt
  clear hb
  have b0_l := b0.lt
  have b0_0 := b0.cell 0 rfl
  have b0_1 := b0.cell 1 rfl
  have b0_2 := b0.cell 2 rfl
  have b1_l := b1.lt
  have b1_0 := b1.cell 0 rfl
  have b1_1 := b1.cell 1 rfl
  have b1_2 := b1.cell 2 rfl
  have b2_l := b2.lt
  have b2_0 := b2.cell 0 rfl
  have b2_1 := b2.cell 1 rfl
  have b2_2 := b2.cell 2 rfl
  go_wp2_with fail
  try clear b0_l b0_0 b0_1 b0_2
  try clear b1_l b1_0 b1_1 b1_2
  try clear b2_l b2_0 b2_1 b2_2
  refine (far_calls _ _ _ _ _ _ _).mono ?_
  rintro e w4 ⟨rfl, hb⟩
  replace HB := Lib.hid (below_step HB.out (by have := HB.out.size; first | omega | (simp; omega)) hb)
  replace b0 := b0.below hb b0.lt
  replace b1 := b1.below hb b1.lt
  replace b2 := b2.below hb b2.lt
  clear hb
  have b0_l := b0.lt
  have b0_0 := b0.cell 0 rfl
  have b0_1 := b0.cell 1 rfl
  have b0_2 := b0.cell 2 rfl
  have b1_l := b1.lt
  have b1_0 := b1.cell 0 rfl
  have b1_1 := b1.cell 1 rfl
  have b1_2 := b1.cell 2 rfl
  have b2_l := b2.lt
  have b2_0 := b2.cell 0 rfl
  have b2_1 := b2.cell 1 rfl
  have b2_2 := b2.cell 2 rfl
  have n1 := farV_bd x y z a b c
  have n2 := farV_bd x y z p q r
  have n3 := farV_bd p q r a b c
  cases hA : mayB x y z
  · have ho : farOk x y z a b c = false := by simp [farOk, hA]
    have ho2 : farOk x y z p q r = false := by simp [farOk, hA]
    rw [ho, ho2, farV_no ho, farV_no ho2]
    go_wp2_with fail
    try clear b0_l b0_0 b0_1 b0_2
    try clear b1_l b1_0 b1_1 b1_2
    try clear b2_l b2_0 b2_1 b2_2
    refine (may_calls _ _ _ _).mono ?_
    rintro e w5 ⟨rfl, hb⟩
    rw [hA]
    replace HB := Lib.hid (below_step HB.out (by have := HB.out.size; first | omega | (simp; omega)) hb)
    replace b0 := b0.below hb b0.lt
    replace b1 := b1.below hb b1.lt
    replace b2 := b2.below hb b2.lt
    clear hb
    have b0_l := b0.lt
    have b0_0 := b0.cell 0 rfl
    have b0_1 := b0.cell 1 rfl
    have b0_2 := b0.cell 2 rfl
    have b1_l := b1.lt
    have b1_0 := b1.cell 0 rfl
    have b1_1 := b1.cell 1 rfl
    have b1_2 := b1.cell 2 rfl
    have b2_l := b2.lt
    have b2_0 := b2.cell 0 rfl
    have b2_1 := b2.cell 1 rfl
    have b2_2 := b2.cell 2 rfl
    go_wp2_with fail
    refine (works_calls _).mono ?_
    rintro e w6 ⟨rfl, hb⟩
    replace HB := Lib.hid (below_step HB.out (by have := HB.out.size; first | omega | (simp; omega)) hb)
    clear hb
    go_wp2_with fail
    go_ret
    exact ⟨rfl, HB.out⟩
  cases hC : mayB a b c
  · have ho : farOk x y z a b c = false := by simp [farOk, hA, hC]
    rw [ho, farV_no ho]
    go_wp2_with fail
    try clear b0_l b0_0 b0_1 b0_2
    try clear b1_l b1_0 b1_1 b1_2
    try clear b2_l b2_0 b2_1 b2_2
    refine (may_calls _ _ _ _).mono ?_
    rintro e w5 ⟨rfl, hb⟩
    rw [hA]
    replace HB := Lib.hid (below_step HB.out (by have := HB.out.size; first | omega | (simp; omega)) hb)
    replace b0 := b0.below hb b0.lt
    replace b1 := b1.below hb b1.lt
    replace b2 := b2.below hb b2.lt
    clear hb
    have b0_l := b0.lt
    have b0_0 := b0.cell 0 rfl
    have b0_1 := b0.cell 1 rfl
    have b0_2 := b0.cell 2 rfl
    have b1_l := b1.lt
    have b1_0 := b1.cell 0 rfl
    have b1_1 := b1.cell 1 rfl
    have b1_2 := b1.cell 2 rfl
    have b2_l := b2.lt
    have b2_0 := b2.cell 0 rfl
    have b2_1 := b2.cell 1 rfl
    have b2_2 := b2.cell 2 rfl
    go_wp2_with fail
    try clear b0_l b0_0 b0_1 b0_2
    try clear b1_l b1_0 b1_1 b1_2
    try clear b2_l b2_0 b2_1 b2_2
    refine (may_calls _ _ _ _).mono ?_
    rintro e w6 ⟨rfl, hb⟩
    rw [hC]
    replace HB := Lib.hid (below_step HB.out (by have := HB.out.size; first | omega | (simp; omega)) hb)
    replace b0 := b0.below hb b0.lt
    replace b1 := b1.below hb b1.lt
    replace b2 := b2.below hb b2.lt
    clear hb
    have b0_l := b0.lt
    have b0_0 := b0.cell 0 rfl
    have b0_1 := b0.cell 1 rfl
    have b0_2 := b0.cell 2 rfl
    have b1_l := b1.lt
    have b1_0 := b1.cell 0 rfl
    have b1_1 := b1.cell 1 rfl
    have b1_2 := b1.cell 2 rfl
    have b2_l := b2.lt
    have b2_0 := b2.cell 0 rfl
    have b2_1 := b2.cell 1 rfl
    have b2_2 := b2.cell 2 rfl
    go_wp2_with fail
    refine (works_calls _).mono ?_
    rintro e w7 ⟨rfl, hb⟩
    replace HB := Lib.hid (below_step HB.out (by have := HB.out.size; first | omega | (simp; omega)) hb)
    clear hb
    go_wp2_with fail
    go_ret
    exact ⟨rfl, HB.out⟩
  have ho : farOk x y z a b c = true := by simp [farOk, hA, hC]
  have hz := farV_zero ho
  rw [ho]
  by_cases he : x = a ∧ y = b ∧ z = c
  · obtain ⟨rfl, rfl, rfl⟩ := he
    have hz0 := hz.2 ⟨rfl, rfl, rfl⟩
    rw [hz0]
    clear hz
    rw [hz0] at n1
    clear hz0
    cases hD : farOk x y z p q r
    · go_wp2_with fail
      try clear b0_l b0_0 b0_1 b0_2
      try clear b1_l b1_0 b1_1 b1_2
      try clear b2_l b2_0 b2_1 b2_2
      refine (may_calls _ _ _ _).mono ?_
      rintro e w5 ⟨rfl, hb⟩
      rw [hA]
      replace HB := Lib.hid (below_step HB.out (by have := HB.out.size; first | omega | (simp; omega)) hb)
      replace b0 := b0.below hb b0.lt
      replace b1 := b1.below hb b1.lt
      replace b2 := b2.below hb b2.lt
      clear hb
      have b0_l := b0.lt
      have b0_0 := b0.cell 0 rfl
      have b0_1 := b0.cell 1 rfl
      have b0_2 := b0.cell 2 rfl
      have b1_l := b1.lt
      have b1_0 := b1.cell 0 rfl
      have b1_1 := b1.cell 1 rfl
      have b1_2 := b1.cell 2 rfl
      have b2_l := b2.lt
      have b2_0 := b2.cell 0 rfl
      have b2_1 := b2.cell 1 rfl
      have b2_2 := b2.cell 2 rfl
      go_wp2_with fail
      try clear b0_l b0_0 b0_1 b0_2
      try clear b1_l b1_0 b1_1 b1_2
      try clear b2_l b2_0 b2_1 b2_2
      refine (may_calls _ _ _ _).mono ?_
      rintro e w6 ⟨rfl, hb⟩
      rw [hA]
      replace HB := Lib.hid (below_step HB.out (by have := HB.out.size; first | omega | (simp; omega)) hb)
      replace b0 := b0.below hb b0.lt
      replace b1 := b1.below hb b1.lt
      replace b2 := b2.below hb b2.lt
      clear hb
      have b0_l := b0.lt
      have b0_0 := b0.cell 0 rfl
      have b0_1 := b0.cell 1 rfl
      have b0_2 := b0.cell 2 rfl
      have b1_l := b1.lt
      have b1_0 := b1.cell 0 rfl
      have b1_1 := b1.cell 1 rfl
      have b1_2 := b1.cell 2 rfl
      have b2_l := b2.lt
      have b2_0 := b2.cell 0 rfl
      have b2_1 := b2.cell 1 rfl
      have b2_2 := b2.cell 2 rfl
      go_wp2_with fail
      refine (works_calls _).mono ?_
      rintro e w7 ⟨rfl, hb⟩
      replace HB := Lib.hid (below_step HB.out (by have := HB.out.size; first | omega | (simp; omega)) hb)
      clear hb
      go_wp2_with fail
      go_ret
      exact ⟨rfl, HB.out⟩
    cases hE : farOk p q r x y z
    · go_wp2_with fail
      try clear b0_l b0_0 b0_1 b0_2
      try clear b1_l b1_0 b1_1 b1_2
      try clear b2_l b2_0 b2_1 b2_2
      refine (may_calls _ _ _ _).mono ?_
      rintro e w5 ⟨rfl, hb⟩
      rw [hA]
      replace HB := Lib.hid (below_step HB.out (by have := HB.out.size; first | omega | (simp; omega)) hb)
      replace b0 := b0.below hb b0.lt
      replace b1 := b1.below hb b1.lt
      replace b2 := b2.below hb b2.lt
      clear hb
      have b0_l := b0.lt
      have b0_0 := b0.cell 0 rfl
      have b0_1 := b0.cell 1 rfl
      have b0_2 := b0.cell 2 rfl
      have b1_l := b1.lt
      have b1_0 := b1.cell 0 rfl
      have b1_1 := b1.cell 1 rfl
      have b1_2 := b1.cell 2 rfl
      have b2_l := b2.lt
      have b2_0 := b2.cell 0 rfl
      have b2_1 := b2.cell 1 rfl
      have b2_2 := b2.cell 2 rfl
      go_wp2_with fail
      try clear b0_l b0_0 b0_1 b0_2
      try clear b1_l b1_0 b1_1 b1_2
      try clear b2_l b2_0 b2_1 b2_2
      refine (may_calls _ _ _ _).mono ?_
      rintro e w6 ⟨rfl, hb⟩
      rw [hA]
      replace HB := Lib.hid (below_step HB.out (by have := HB.out.size; first | omega | (simp; omega)) hb)
      replace b0 := b0.below hb b0.lt
      replace b1 := b1.below hb b1.lt
      replace b2 := b2.below hb b2.lt
      clear hb
      have b0_l := b0.lt
      have b0_0 := b0.cell 0 rfl
      have b0_1 := b0.cell 1 rfl
      have b0_2 := b0.cell 2 rfl
      have b1_l := b1.lt
      have b1_0 := b1.cell 0 rfl
      have b1_1 := b1.cell 1 rfl
      have b1_2 := b1.cell 2 rfl
      have b2_l := b2.lt
      have b2_0 := b2.cell 0 rfl
      have b2_1 := b2.cell 1 rfl
      have b2_2 := b2.cell 2 rfl
      go_wp2_with fail
      refine (works_calls _).mono ?_
      rintro e w7 ⟨rfl, hb⟩
      replace HB := Lib.hid (below_step HB.out (by have := HB.out.size; first | omega | (simp; omega)) hb)
      clear hb
      go_wp2_with fail
      go_ret
      exact ⟨rfl, HB.out⟩
    · go_wp2_with fail
      try clear b0_l b0_0 b0_1 b0_2
      try clear b1_l b1_0 b1_1 b1_2
      try clear b2_l b2_0 b2_1 b2_2
      refine (may_calls _ _ _ _).mono ?_
      rintro e w5 ⟨rfl, hb⟩
      rw [hA]
      replace HB := Lib.hid (below_step HB.out (by have := HB.out.size; first | omega | (simp; omega)) hb)
      replace b0 := b0.below hb b0.lt
      replace b1 := b1.below hb b1.lt
      replace b2 := b2.below hb b2.lt
      clear hb
      have b0_l := b0.lt
      have b0_0 := b0.cell 0 rfl
      have b0_1 := b0.cell 1 rfl
      have b0_2 := b0.cell 2 rfl
      have b1_l := b1.lt
      have b1_0 := b1.cell 0 rfl
      have b1_1 := b1.cell 1 rfl
      have b1_2 := b1.cell 2 rfl
      have b2_l := b2.lt
      have b2_0 := b2.cell 0 rfl
      have b2_1 := b2.cell 1 rfl
      have b2_2 := b2.cell 2 rfl
      go_wp2_with fail
      try clear b0_l b0_0 b0_1 b0_2
      try clear b1_l b1_0 b1_1 b1_2
      try clear b2_l b2_0 b2_1 b2_2
      refine (may_calls _ _ _ _).mono ?_
      rintro e w6 ⟨rfl, hb⟩
      rw [hA]
      replace HB := Lib.hid (below_step HB.out (by have := HB.out.size; first | omega | (simp; omega)) hb)
      replace b0 := b0.below hb b0.lt
      replace b1 := b1.below hb b1.lt
      replace b2 := b2.below hb b2.lt
      clear hb
      have b0_l := b0.lt
      have b0_0 := b0.cell 0 rfl
      have b0_1 := b0.cell 1 rfl
      have b0_2 := b0.cell 2 rfl
      have b1_l := b1.lt
      have b1_0 := b1.cell 0 rfl
      have b1_1 := b1.cell 1 rfl
      have b1_2 := b1.cell 2 rfl
      have b2_l := b2.lt
      have b2_0 := b2.cell 0 rfl
      have b2_1 := b2.cell 1 rfl
      have b2_2 := b2.cell 2 rfl
      go_wp2_with fail
      refine (works_calls _).mono ?_
      rintro e w7 ⟨rfl, hb⟩
      replace HB := Lib.hid (below_step HB.out (by have := HB.out.size; first | omega | (simp; omega)) hb)
      clear hb
      go_wp2_with fail
      go_ret
      exact ⟨rfl, HB.out⟩
  · have hne : (farV x y z a b c == 0) = false := by rw [beq_eq_false_iff_ne]; exact fun h => he (hz.1 h)
    have heq : (decide (x = a ∧ y = b ∧ z = c)) = false := decide_eq_false he
    clear hz
    cases hD : farOk x y z p q r
    · skip
      go_wp2_with fail
      try clear b0_l b0_0 b0_1 b0_2
      try clear b1_l b1_0 b1_1 b1_2
      try clear b2_l b2_0 b2_1 b2_2
      refine (may_calls _ _ _ _).mono ?_
      rintro e w5 ⟨rfl, hb⟩
      rw [hA]
      replace HB := Lib.hid (below_step HB.out (by have := HB.out.size; first | omega | (simp; omega)) hb)
      replace b0 := b0.below hb b0.lt
      replace b1 := b1.below hb b1.lt
      replace b2 := b2.below hb b2.lt
      clear hb
      have b0_l := b0.lt
      have b0_0 := b0.cell 0 rfl
      have b0_1 := b0.cell 1 rfl
      have b0_2 := b0.cell 2 rfl
      have b1_l := b1.lt
      have b1_0 := b1.cell 0 rfl
      have b1_1 := b1.cell 1 rfl
      have b1_2 := b1.cell 2 rfl
      have b2_l := b2.lt
      have b2_0 := b2.cell 0 rfl
      have b2_1 := b2.cell 1 rfl
      have b2_2 := b2.cell 2 rfl
      go_wp2_with fail
      try clear b0_l b0_0 b0_1 b0_2
      try clear b1_l b1_0 b1_1 b1_2
      try clear b2_l b2_0 b2_1 b2_2
      refine (may_calls _ _ _ _).mono ?_
      rintro e w6 ⟨rfl, hb⟩
      rw [hC]
      replace HB := Lib.hid (below_step HB.out (by have := HB.out.size; first | omega | (simp; omega)) hb)
      replace b0 := b0.below hb b0.lt
      replace b1 := b1.below hb b1.lt
      replace b2 := b2.below hb b2.lt
      clear hb
      have b0_l := b0.lt
      have b0_0 := b0.cell 0 rfl
      have b0_1 := b0.cell 1 rfl
      have b0_2 := b0.cell 2 rfl
      have b1_l := b1.lt
      have b1_0 := b1.cell 0 rfl
      have b1_1 := b1.cell 1 rfl
      have b1_2 := b1.cell 2 rfl
      have b2_l := b2.lt
      have b2_0 := b2.cell 0 rfl
      have b2_1 := b2.cell 1 rfl
      have b2_2 := b2.cell 2 rfl
      go_wp2_with fail
      all_goals
        refine (works_calls _).mono ?_
        rintro e w7 ⟨rfl, hb⟩
        replace HB := Lib.hid (below_step HB.out (by have := HB.out.size; omega) hb)
        clear hb
        go_wp2_with fail
        go_ret
        exact ⟨rfl, HB.out⟩
    cases hE : farOk p q r a b c
    · skip
      go_wp2_with fail
      try clear b0_l b0_0 b0_1 b0_2
      try clear b1_l b1_0 b1_1 b1_2
      try clear b2_l b2_0 b2_1 b2_2
      refine (may_calls _ _ _ _).mono ?_
      rintro e w5 ⟨rfl, hb⟩
      rw [hA]
      replace HB := Lib.hid (below_step HB.out (by have := HB.out.size; first | omega | (simp; omega)) hb)
      replace b0 := b0.below hb b0.lt
      replace b1 := b1.below hb b1.lt
      replace b2 := b2.below hb b2.lt
      clear hb
      have b0_l := b0.lt
      have b0_0 := b0.cell 0 rfl
      have b0_1 := b0.cell 1 rfl
      have b0_2 := b0.cell 2 rfl
      have b1_l := b1.lt
      have b1_0 := b1.cell 0 rfl
      have b1_1 := b1.cell 1 rfl
      have b1_2 := b1.cell 2 rfl
      have b2_l := b2.lt
      have b2_0 := b2.cell 0 rfl
      have b2_1 := b2.cell 1 rfl
      have b2_2 := b2.cell 2 rfl
      go_wp2_with fail
      try clear b0_l b0_0 b0_1 b0_2
      try clear b1_l b1_0 b1_1 b1_2
      try clear b2_l b2_0 b2_1 b2_2
      refine (may_calls _ _ _ _).mono ?_
      rintro e w6 ⟨rfl, hb⟩
      rw [hC]
      replace HB := Lib.hid (below_step HB.out (by have := HB.out.size; first | omega | (simp; omega)) hb)
      replace b0 := b0.below hb b0.lt
      replace b1 := b1.below hb b1.lt
      replace b2 := b2.below hb b2.lt
      clear hb
      have b0_l := b0.lt
      have b0_0 := b0.cell 0 rfl
      have b0_1 := b0.cell 1 rfl
      have b0_2 := b0.cell 2 rfl
      have b1_l := b1.lt
      have b1_0 := b1.cell 0 rfl
      have b1_1 := b1.cell 1 rfl
      have b1_2 := b1.cell 2 rfl
      have b2_l := b2.lt
      have b2_0 := b2.cell 0 rfl
      have b2_1 := b2.cell 1 rfl
      have b2_2 := b2.cell 2 rfl
      go_wp2_with fail
      all_goals
        refine (works_calls _).mono ?_
        rintro e w7 ⟨rfl, hb⟩
        replace HB := Lib.hid (below_step HB.out (by have := HB.out.size; omega) hb)
        clear hb
        go_wp2_with fail
        go_ret
        exact ⟨rfl, HB.out⟩
    · have ht := farV_tri ho hD hE
      generalize farV x y z a b c = F1 at *
      generalize farV x y z p q r = F2 at *
      generalize farV p q r a b c = F3 at *
      go_wp2_with fail
      try clear b0_l b0_0 b0_1 b0_2
      try clear b1_l b1_0 b1_1 b1_2
      try clear b2_l b2_0 b2_1 b2_2
      refine (may_calls _ _ _ _).mono ?_
      rintro e w5 ⟨rfl, hb⟩
      rw [hA]
      replace HB := Lib.hid (below_step HB.out (by have := HB.out.size; first | omega | (simp; omega)) hb)
      replace b0 := b0.below hb b0.lt
      replace b1 := b1.below hb b1.lt
      replace b2 := b2.below hb b2.lt
      clear hb
      have b0_l := b0.lt
      have b0_0 := b0.cell 0 rfl
      have b0_1 := b0.cell 1 rfl
      have b0_2 := b0.cell 2 rfl
      have b1_l := b1.lt
      have b1_0 := b1.cell 0 rfl
      have b1_1 := b1.cell 1 rfl
      have b1_2 := b1.cell 2 rfl
      have b2_l := b2.lt
      have b2_0 := b2.cell 0 rfl
      have b2_1 := b2.cell 1 rfl
      have b2_2 := b2.cell 2 rfl
      go_wp2_with fail
      try clear b0_l b0_0 b0_1 b0_2
      try clear b1_l b1_0 b1_1 b1_2
      try clear b2_l b2_0 b2_1 b2_2
      refine (may_calls _ _ _ _).mono ?_
      rintro e w6 ⟨rfl, hb⟩
      rw [hC]
      replace HB := Lib.hid (below_step HB.out (by have := HB.out.size; first | omega | (simp; omega)) hb)
      replace b0 := b0.below hb b0.lt
      replace b1 := b1.below hb b1.lt
      replace b2 := b2.below hb b2.lt
      clear hb
      have b0_l := b0.lt
      have b0_0 := b0.cell 0 rfl
      have b0_1 := b0.cell 1 rfl
      have b0_2 := b0.cell 2 rfl
      have b1_l := b1.lt
      have b1_0 := b1.cell 0 rfl
      have b1_1 := b1.cell 1 rfl
      have b1_2 := b1.cell 2 rfl
      have b2_l := b2.lt
      have b2_0 := b2.cell 0 rfl
      have b2_1 := b2.cell 1 rfl
      have b2_2 := b2.cell 2 rfl
      go_wp2_with fail
      all_goals
        refine (works_calls _).mono ?_
        rintro e w7 ⟨rfl, hb⟩
        replace HB := Lib.hid (below_step HB.out (by have := HB.out.size; omega) hb)
        clear hb
        go_wp2_with fail
        go_ret
        exact ⟨rfl, HB.out⟩
end Go.Proofs.Ytjodiclmibiboaa
