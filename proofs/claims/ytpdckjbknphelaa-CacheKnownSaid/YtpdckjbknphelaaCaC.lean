/-
  The order of spots: cmp.Compare, cmp.Or at three ints, place.Cmp, place.CmpSpot: they draw and lay blocks, and nothing else.
-/
import Derived.Test.YtpdckjbknphelaaInv
import Derived.StillTailTactics
import Derived.Shelf.SlSortCmp.NoneTotal
namespace Go.Proofs.Ytpdckjbknphelaa
open Go.RowKit
set_option linter.unusedSimpArgs false
set_option linter.unusedVariables false

/-- Some draws, some new blocks. -/
def GrowB (w w' : World) : Prop := ∃ (q : Nat) (os : Array Obj), w' = Go.Sort.grow (w.drewN q) os
theorem GrowB.refl (w : World) : GrowB w w := ⟨0, #[], by simp [World.drewN]⟩
theorem GrowB.alloc {w W : World} (h : GrowB w W) (o : Obj) : GrowB w (W.alloc o) := by
  obtain ⟨q, os, rfl⟩ := h
  exact ⟨q, os ++ #[o], by rw [Go.Sort.alloc_eq_grow, Go.Sort.grow_grow]⟩
theorem GrowB.drew {w W : World} (h : GrowB w W) : GrowB w W.drew := by
  obtain ⟨q, os, rfl⟩ := h
  exact ⟨q + 1, os, by simp [World.drewN, World.drew, Go.Sort.grow, Nat.add_assoc]⟩
theorem GrowB.trans {u v w : World} (h : GrowB u v) (k : GrowB v w) : GrowB u w := by
  obtain ⟨q, os, rfl⟩ := h
  obtain ⟨q', os', rfl⟩ := k
  exact ⟨q + q', os ++ os', by simp [World.drewN, Go.Sort.grow, Nat.add_assoc]⟩
theorem GrowB.below {w w' : World} (h : GrowB w w') : Below w.heap.size w w' := by
  obtain ⟨q, os, rfl⟩ := h
  exact ⟨rfl, rfl, rfl, by simp [Go.Sort.grow, World.drewN], fun k hk => by simp [Go.Sort.grow, World.drewN, Array.getElem?_append_left hk]⟩
def cmpI (a b : Int) : Int := if a < b then -1 else if b < a then 1 else 0

set_option maxHeartbeats 400000 in
theorem compare_calls (a b : Int) (w : World) :
    Calls Try.prog 81 #[.int .i64 a, .int .i64 b] w fun e w' => e = .returned (.int .i64 (cmpI a b)) ∧ w' = w := by
  go_enter Try.func81, Try.ntmps81
  go_wp2
  all_goals go_ret
  all_goals exact ⟨ret_int (by unfold cmpI; split <;> (try split) <;> omega), rfl⟩

def orI (a b c : Int) : Int := if a = 0 then (if b = 0 then c else b) else a

set_option maxRecDepth 100000 in
set_option maxHeartbeats 1000000 in
theorem or_calls (v0 v1 v2 : Int) (b cap : Nat) (w : World) (h0 : w.cell? ⟨b, 0, none⟩ = some (.int .i64 v0)) (h1 : w.cell? ⟨b, 1, none⟩ = some (.int .i64 v1)) (h2 : w.cell? ⟨b, 2, none⟩ = some (.int .i64 v2)) :
    Calls Try.prog 80 #[.slice (some ⟨b, 0, none⟩) 3 cap] w fun e w' => e = .returned (.int .i64 (orI v0 v1 v2)) ∧ w' = w := by
  go_enter Try.func80, Try.ntmps80
  go_wp2
  go_loop [5, 8] (fun _ i => ∃ k : Nat, k ≤ 3 ∧ i = .int .i64 k ∧ (0 < k → v0 = 0) ∧ (1 < k → v1 = 0) ∧ (2 < k → v2 = 0)) (fun _ i => 3 - (intOf i).toNat)
  case atStart => exact ⟨0, by omega, rfl, by omega, by omega, by omega⟩
  case round =>
    obtain ⟨k, hk, rfl, z0, z1, z2⟩ := hrel
    obtain rfl | rfl | rfl | rfl : k = 0 ∨ k = 1 ∨ k = 2 ∨ k = 3 := by omega
    · go_wp2
      · have h : (v0 != 0) = true := by assumption
        go_ret
        exact ⟨ret_int (by rw [bne_iff_ne] at h; unfold orI; rw [if_neg h]), rfl⟩
      · have h : (v0 != 0) = false := by assumption
        have h' : v0 = 0 := by simpa using h
        exact ⟨⟨1, by omega, rfl, fun _ => h', by omega, by omega⟩, by simp [intOf]⟩
    · have z0' : v0 = 0 := z0 (by omega)
      subst z0'
      go_wp2
      · have h : (v1 != 0) = true := by assumption
        go_ret
        exact ⟨ret_int (by rw [bne_iff_ne] at h; unfold orI; rw [if_pos rfl, if_neg h]), rfl⟩
      · have h : (v1 != 0) = false := by assumption
        have h' : v1 = 0 := by simpa using h
        exact ⟨⟨2, by omega, rfl, by simp, fun _ => h', by omega⟩, by simp [intOf]⟩
    · have z0' : v0 = 0 := z0 (by omega)
      have z1' : v1 = 0 := z1 (by omega)
      subst z0' z1'
      go_wp2
      · have h : (v2 != 0) = true := by assumption
        go_ret
        exact ⟨ret_int (by unfold orI; rw [if_pos rfl, if_pos rfl]), rfl⟩
      · have h : (v2 != 0) = false := by assumption
        have h' : v2 = 0 := by simpa using h
        exact ⟨⟨3, by omega, rfl, by simp, by simp, fun _ => h'⟩, by simp [intOf]⟩
    · have z0' : v0 = 0 := z0 (by omega)
      have z1' : v1 = 0 := z1 (by omega)
      have z2' : v2 = 0 := z2 (by omega)
      subst z0' z1' z2'
      go_wp2
      go_ret
      exact ⟨ret_int (by unfold orI; rw [if_pos rfl, if_pos rfl]), rfl⟩

def cmpP (x y z a b c : Int) : Int := orI (cmpI x a) (cmpI z c) (cmpI y b)

set_option maxRecDepth 100000 in
set_option maxHeartbeats 1000000 in
theorem cmp_calls (x y z a b c : Int) (w : World) :
    Calls Try.prog 66 #[.agg #[.int .i64 x, .int .i64 y, .int .i64 z], .agg #[.int .i64 a, .int .i64 b, .int .i64 c]] w fun e w' => e = .returned (.int .i64 (cmpP x y z a b c)) ∧ GrowB w w' := by
  go_enter Try.func66, Try.ntmps66
  go_wp2_with fail
  have HB := Lib.hid (((GrowB.refl w).alloc (.cells #[.int .i64 x, .int .i64 y, .int .i64 z] 123)).alloc (.cells #[.int .i64 a, .int .i64 b, .int .i64 c] 123))
  have b0 := (Blk.new w #[.int .i64 x, .int .i64 y, .int .i64 z] 123).alloc (.cells #[.int .i64 a, .int .i64 b, .int .i64 c] 123)
  have b1 := Blk.new_at (w := w.alloc (.cells #[.int .i64 x, .int .i64 y, .int .i64 z] 123)) (n := w.heap.size + 1) #[.int .i64 a, .int .i64 b, .int .i64 c] 123 (by simp)
  generalize World.alloc (w.alloc _) _ = W at *
  have b0_l := b0.lt
  have b0_0 := b0.cell 0 rfl
  have b0_1 := b0.cell 1 rfl
  have b0_2 := b0.cell 2 rfl
  have b1_l := b1.lt
  have b1_0 := b1.cell 0 rfl
  have b1_1 := b1.cell 1 rfl
  have b1_2 := b1.cell 2 rfl
  refine wp_region_still_tail 15 (by kernel_rfl) (by kernel_rfl) ?_
  simp only [List.take_succ_cons, List.take_zero, List.drop_succ_cons, List.drop_zero]
  change wpStill _ _ W.drew _ _ _
  repeat (first | still_step | still_call (compare_calls _ _ _))
  refine wpStill_nil ?_
  change wpList _ _ _ _ _ W.drew
  replace HB := Lib.hid HB.out.drew
  clear b0_l b0_0 b0_1 b0_2
  clear b1_l b1_0 b1_1 b1_2
  clear b0 b1
  generalize W.drew = W2 at *
  go_wp2_with fail
  have b2 := Blk.new W2 #[.int .i64 (cmpI x a), .int .i64 (cmpI z c), .int .i64 (cmpI y b)] 3
  refine (or_calls _ _ _ _ _ _ (b2.cell 0 rfl) (b2.cell 1 rfl) (b2.cell 2 rfl)).mono ?_
  rintro e w' ⟨rfl, rfl⟩
  go_wp2_with fail
  go_ret
  exact ⟨rfl, HB.out.alloc _⟩

set_option maxRecDepth 100000 in
set_option maxHeartbeats 1000000 in
theorem cmpspot_calls (x y z a b c : Int) (w : World) :
    Calls Try.prog 55 #[.agg #[.int .i64 x, .int .i64 y, .int .i64 z], .agg #[.int .i64 a, .int .i64 b, .int .i64 c]] w fun e w' => e = .returned (.int .i64 (cmpP x y z a b c)) ∧ GrowB w w' := by
  go_enter Try.func55, Try.ntmps55
  go_wp2_with fail
  refine (cmp_calls _ _ _ _ _ _ _).mono ?_
  rintro e w1 ⟨rfl, hb⟩
  have HB := Lib.hid ((((GrowB.refl w).alloc (.cells #[.int .i64 x, .int .i64 y, .int .i64 z] 23)).alloc (.cells #[.int .i64 a, .int .i64 b, .int .i64 c] 23)).trans hb)
  clear hb
  go_wp2_with fail
  go_ret
  exact ⟨rfl, HB.out⟩
end Go.Proofs.Ytpdckjbknphelaa
