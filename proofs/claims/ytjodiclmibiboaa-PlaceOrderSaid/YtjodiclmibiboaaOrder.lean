/-
  PlaceOrder's walk.
-/
import Derived.Test.YtjodiclmibiboaaWorks02
import Derived.Test.YtjodiclmibiboaaCmp
namespace Go.Proofs.Ytjodiclmibiboaa
open Go.RowKit
set_option linter.unusedSimpArgs false
set_option linter.unusedVariables false

theorem cmpP_neg (x y z a b c : Int) : cmpP a b c x y z = -cmpP x y z a b c := by
  unfold cmpP orI cmpI; (repeat' split) <;> omega
theorem cmpP_bd (x y z a b c : Int) : -1 ≤ cmpP x y z a b c ∧ cmpP x y z a b c ≤ 1 := by
  unfold cmpP orI cmpI; (repeat' split) <;> omega
theorem cmpP_zero {x y z a b c : Int} : cmpP x y z a b c = 0 ↔ x = a ∧ y = b ∧ z = c := by
  unfold cmpP orI cmpI; (repeat' split) <;> omega
theorem cmpP_lt {x y z a b c : Int} : cmpP x y z a b c < 0 ↔ (x < a ∨ x = a ∧ (z < c ∨ z = c ∧ y < b)) := by
  unfold cmpP orI cmpI; (repeat' split) <;> omega
theorem cmpP_trans {x y z a b c p q r : Int} (h : cmpP x y z a b c < 0) (h' : cmpP a b c p q r < 0) : cmpP x y z p q r < 0 := by
  rw [cmpP_lt] at *; omega

set_option maxRecDepth 100000 in
set_option maxHeartbeats 4000000 in
theorem order_walk (x y z a b c p q r : Int) (w : World) :
    Calls Try.prog 9 #[.agg #[.int .i64 x, .int .i64 y, .int .i64 z], .agg #[.int .i64 a, .int .i64 b, .int .i64 c], .agg #[.int .i64 p, .int .i64 q, .int .i64 r]] w fun e w' => e = .returned (.bool true) ∧ Below w.heap.size w w' := by
  have hz := cmpP_zero (x := x) (y := y) (z := z) (a := a) (b := b) (c := c)
  have hn := cmpP_neg x y z a b c
  have hb1 := cmpP_bd x y z a b c
  have hb2 := cmpP_bd a b c p q r
  have hb3 := cmpP_bd x y z p q r
  have ht : cmpP x y z a b c < 0 → cmpP a b c p q r < 0 → cmpP x y z p q r < 0 := cmpP_trans
  have he : cmpP x y z a b c = 0 → cmpP a b c p q r = cmpP x y z p q r := fun h => by obtain ⟨rfl, rfl, rfl⟩ := hz.1 h; rfl
  obtain ⟨c1, hc1⟩ : ∃ c1, cmpP x y z a b c = c1 := ⟨_, rfl⟩
  obtain ⟨c2, hc2⟩ : ∃ c2, cmpP a b c p q r = c2 := ⟨_, rfl⟩
  obtain ⟨c3, hc3⟩ : ∃ c3, cmpP x y z p q r = c3 := ⟨_, rfl⟩
  rw [hc1] at hz hn hb1 ht he
  rw [hc2] at hb2 ht he
  rw [hc3] at hb3 ht he
  replace hc1 := Lib.hid hc1
  replace hc2 := Lib.hid hc2
  replace hc3 := Lib.hid hc3
  replace hn := Lib.hid hn
  replace hz := Lib.hid hz
  replace ht := Lib.hid ht
  replace he := Lib.hid he
  have hw1 : IntKind.i64.wrap (-c1) = -c1 := IntWalk.i64_in _ (by omega)
  go_enter Try.func9, Try.ntmps9
  go_wp2_with fail
  have HB := Lib.hid ((((Below.refl w.heap.size w).alloc (Nat.le_refl _) (.cells #[.int .i64 x, .int .i64 y, .int .i64 z] 23)).alloc (by simp) (.cells #[.int .i64 a, .int .i64 b, .int .i64 c] 23)).alloc (by simp; omega) (.cells #[.int .i64 p, .int .i64 q, .int .i64 r] 23))
  have b0 := ((Blk.new w #[.int .i64 x, .int .i64 y, .int .i64 z] 23).alloc (.cells #[.int .i64 a, .int .i64 b, .int .i64 c] 23)).alloc (.cells #[.int .i64 p, .int .i64 q, .int .i64 r] 23)
  have b1 := (Blk.new_at (w := w.alloc (.cells #[.int .i64 x, .int .i64 y, .int .i64 z] 23)) (n := w.heap.size + 1) #[.int .i64 a, .int .i64 b, .int .i64 c] 23 (by simp)).alloc (.cells #[.int .i64 p, .int .i64 q, .int .i64 r] 23)
  have b2 := Blk.new_at (w := (w.alloc (.cells #[.int .i64 x, .int .i64 y, .int .i64 z] 23)).alloc (.cells #[.int .i64 a, .int .i64 b, .int .i64 c] 23)) (n := w.heap.size + 2) #[.int .i64 p, .int .i64 q, .int .i64 r] 23 (by simp)
  generalize World.alloc ((w.alloc _).alloc _) _ = W at *
  try clear b0_l b0_0 b0_1 b0_2
  try clear b1_l b1_0 b1_1 b1_2
  try clear b2_l b2_0 b2_1 b2_2
  have b0_0 := b0.cells_ext 0 rfl
  have b0_1 := b0.cells_ext 1 rfl
  have b0_2 := b0.cells_ext 2 rfl
  have b1_0 := b1.cells_ext 0 rfl
  have b1_1 := b1.cells_ext 1 rfl
  have b1_2 := b1.cells_ext 2 rfl
  have b2_0 := b2.cells_ext 0 rfl
  have b2_1 := b2.cells_ext 1 rfl
  have b2_2 := b2.cells_ext 2 rfl
  refine wp_region_ext (by kernel_rfl) (by kernel_rfl) ?_
  repeat (quiet_step ((first | (go_at_call 31; exact calls_ext_of (cmp_calls _ _ _ _ _ _ _)))))
  refine wpQuiet_nil ?_
  intro _ hw'
  obtain ⟨pq, hw''⟩ := hw'
  subst hw''
  try clear b0_l b0_0 b0_1 b0_2
  try clear b1_l b1_0 b1_1 b1_2
  try clear b2_l b2_0 b2_1 b2_2
  replace HB := Lib.hid (below_step HB.out (by have := HB.out.size; omega) (below_ext W pq))
  replace b0 := b0.ext pq
  replace b1 := b1.ext pq
  replace b2 := b2.ext pq
  generalize ext W pq = W2 at *
  have b0_l := b0.lt
  have b0_0 := b0.cell 0 rfl
  have b0_1 := b0.cell 1 rfl
  have b0_2 := b0.cell 2 rfl
  have b1_l := b1.lt
  have b1_0 := b1.cell 0 rfl
  have b1_1 := b1.cell 1 rfl
  have b1_2 := b1.cell 2 rfl
  have b2_l := b2.lt
  have b2_0 := b2.cell 0 rfl
  have b2_1 := b2.cell 1 rfl
  have b2_2 := b2.cell 2 rfl
  rw [hc1.out, hc2.out, hc3.out]
  go_wp2_with fail
  try clear b0_l b0_0 b0_1 b0_2
  try clear b1_l b1_0 b1_1 b1_2
  try clear b2_l b2_0 b2_1 b2_2
  refine (cmp_calls _ _ _ _ _ _ _).mono ?_
  rintro e w3 ⟨rfl, hb⟩
  rw [hn.out]
  replace HB := Lib.hid (below_step HB.out (by have := HB.out.size; first | omega | (simp; omega)) hb)
  replace b0 := b0.below hb b0.lt
  replace b1 := b1.below hb b1.lt
  replace b2 := b2.below hb b2.lt
  clear hb
  have b0_l := b0.lt
  have b0_0 := b0.cell 0 rfl
  have b0_1 := b0.cell 1 rfl
  have b0_2 := b0.cell 2 rfl
  have b1_l := b1.lt
  have b1_0 := b1.cell 0 rfl
  have b1_1 := b1.cell 1 rfl
  have b1_2 := b1.cell 2 rfl
  have b2_l := b2.lt
  have b2_0 := b2.cell 0 rfl
  have b2_1 := b2.cell 1 rfl
  have b2_2 := b2.cell 2 rfl
  clear hw1
  by_cases k0 : c1 = 0
  · obtain ⟨rfl, rfl, rfl⟩ := hz.out.1 k0
    have k2 := he.out k0
    subst k0
    subst k2
    clear hz ht he
    · skip
      go_wp2_with fail
      all_goals
        refine (works_calls _).mono ?_
        rintro e w7 ⟨rfl, hb⟩
        replace HB := Lib.hid (below_step HB.out (by have := HB.out.size; omega) hb)
        clear hb
        go_wp2_with fail
        go_ret
        exact ⟨rfl, HB.out⟩
  have hne : ¬ (x = a ∧ y = b ∧ z = c) := fun h => k0 (hz.out.2 h)
  by_cases k1 : c1 < 0
  · obtain rfl : c1 = -1 := by omega
    clear k0 hb1
    by_cases k2 : c2 < 0
    · have k3 := ht.out (by omega) k2
      clear hz ht he
      go_wp2_with fail
      all_goals
        refine (works_calls _).mono ?_
        rintro e w7 ⟨rfl, hb⟩
        replace HB := Lib.hid (below_step HB.out (by have := HB.out.size; omega) hb)
        clear hb
        go_wp2_with fail
        go_ret
        exact ⟨rfl, HB.out⟩
    · have k2' : 0 ≤ c2 := by omega
      clear hz ht he k2
      go_wp2_with fail
      all_goals
        refine (works_calls _).mono ?_
        rintro e w7 ⟨rfl, hb⟩
        replace HB := Lib.hid (below_step HB.out (by have := HB.out.size; omega) hb)
        clear hb
        go_wp2_with fail
        go_ret
        exact ⟨rfl, HB.out⟩
  · obtain rfl : c1 = 1 := by omega
    clear k0 k1 hb1 hz ht he
    · skip
      go_wp2_with fail
      all_goals
        refine (works_calls _).mono ?_
        rintro e w7 ⟨rfl, hb⟩
        replace HB := Lib.hid (below_step HB.out (by have := HB.out.size; omega) hb)
        clear hb
        go_wp2_with fail
        go_ret
        exact ⟨rfl, HB.out⟩
end Go.Proofs.Ytjodiclmibiboaa
