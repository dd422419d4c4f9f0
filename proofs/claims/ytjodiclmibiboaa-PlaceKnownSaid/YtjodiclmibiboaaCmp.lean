/-
  The contracts of cmp.Compare, cmp.Or at three ints, and of the order of places.
-/
import Derived.Test.YtjodiclmibiboaaPlace
import Derived.StillTailTactics
namespace Go.Proofs.Ytjodiclmibiboaa
open Go.RowKit
set_option linter.unusedSimpArgs false
set_option linter.unusedVariables false

def cmpI (a b : Int) : Int := if a < b then -1 else if b < a then 1 else 0

set_option maxHeartbeats 400000 in
theorem compare_calls (a b : Int) (w : World) :
    Calls Try.prog 43 #[.int .i64 a, .int .i64 b] w fun e w' => e = .returned (.int .i64 (cmpI a b)) ∧ w' = w := by
  go_enter Try.func43, Try.ntmps43
  go_wp2
  all_goals go_ret
  all_goals exact ⟨ret_int (by unfold cmpI; split <;> (try split) <;> omega), rfl⟩

def orI (a b c : Int) : Int := if a = 0 then (if b = 0 then c else b) else a

set_option maxHeartbeats 1000000 in
theorem or_calls (v0 v1 v2 : Int) (b cap : Nat) (w : World) (h0 : w.cell? ⟨b, 0, none⟩ = some (.int .i64 v0)) (h1 : w.cell? ⟨b, 1, none⟩ = some (.int .i64 v1)) (h2 : w.cell? ⟨b, 2, none⟩ = some (.int .i64 v2)) :
    Calls Try.prog 42 #[.slice (some ⟨b, 0, none⟩) 3 cap] w fun e w' => e = .returned (.int .i64 (orI v0 v1 v2)) ∧ w' = w := by
  go_enter Try.func42, Try.ntmps42
  go_wp2
  go_loop [5, 8] (fun _ i => ∃ k : Nat, k ≤ 3 ∧ i = .int .i64 k ∧ (0 < k → v0 = 0) ∧ (1 < k → v1 = 0) ∧ (2 < k → v2 = 0)) (fun _ i => 3 - (intOf i).toNat)
  case atStart => exact ⟨0, by omega, rfl, by omega, by omega, by omega⟩
  case round =>
    obtain ⟨k, hk, rfl, z0, z1, z2⟩ := hrel
    obtain rfl | rfl | rfl | rfl : k = 0 ∨ k = 1 ∨ k = 2 ∨ k = 3 := by omega
    · go_wp2
      · have h : (v0 != 0) = true := by assumption
        go_ret
        exact ⟨ret_int (by rw [bne_iff_ne] at h; unfold orI; rw [if_neg h]), rfl⟩
      · have h : (v0 != 0) = false := by assumption
        have h' : v0 = 0 := by simpa using h
        exact ⟨⟨1, by omega, rfl, fun _ => h', by omega, by omega⟩, by simp [intOf]⟩
    · have z0' : v0 = 0 := z0 (by omega)
      subst z0'
      go_wp2
      · have h : (v1 != 0) = true := by assumption
        go_ret
        exact ⟨ret_int (by rw [bne_iff_ne] at h; unfold orI; rw [if_pos rfl, if_neg h]), rfl⟩
      · have h : (v1 != 0) = false := by assumption
        have h' : v1 = 0 := by simpa using h
        exact ⟨⟨2, by omega, rfl, by simp, fun _ => h', by omega⟩, by simp [intOf]⟩
    · have z0' : v0 = 0 := z0 (by omega)
      have z1' : v1 = 0 := z1 (by omega)
      subst z0' z1'
      go_wp2
      · have h : (v2 != 0) = true := by assumption
        go_ret
        exact ⟨ret_int (by unfold orI; rw [if_pos rfl, if_pos rfl]), rfl⟩
      · have h : (v2 != 0) = false := by assumption
        have h' : v2 = 0 := by simpa using h
        exact ⟨⟨3, by omega, rfl, by simp, by simp, fun _ => h'⟩, by simp [intOf]⟩
    · have z0' : v0 = 0 := z0 (by omega)
      have z1' : v1 = 0 := z1 (by omega)
      have z2' : v2 = 0 := z2 (by omega)
      subst z0' z1' z2'
      go_wp2
      go_ret
      exact ⟨ret_int (by unfold orI; rw [if_pos rfl, if_pos rfl]), rfl⟩

def cmpP (x y z a b c : Int) : Int := orI (cmpI x a) (cmpI z c) (cmpI y b)

set_option maxHeartbeats 1000000 in
theorem cmp_calls (x y z a b c : Int) (w : World) :
    Calls Try.prog 31 #[.agg #[.int .i64 x, .int .i64 y, .int .i64 z], .agg #[.int .i64 a, .int .i64 b, .int .i64 c]] w fun e w' => e = .returned (.int .i64 (cmpP x y z a b c)) ∧ Below w.heap.size w w' := by
  go_enter Try.func31, Try.ntmps31
  go_wp2_with fail
  have HB := Lib.hid (((Below.refl w.heap.size w).alloc (Nat.le_refl _) (.cells #[.int .i64 x, .int .i64 y, .int .i64 z] 23)).alloc (by simp) (.cells #[.int .i64 a, .int .i64 b, .int .i64 c] 23))
  have b0 := (Blk.new w #[.int .i64 x, .int .i64 y, .int .i64 z] 23).alloc (.cells #[.int .i64 a, .int .i64 b, .int .i64 c] 23)
  have b1 := Blk.new_at (w := w.alloc (.cells #[.int .i64 x, .int .i64 y, .int .i64 z] 23)) (n := w.heap.size + 1) #[.int .i64 a, .int .i64 b, .int .i64 c] 23 (by simp)
  generalize World.alloc (w.alloc _) _ = W at *
  have b0_l := b0.lt
  have b0_0 := b0.cell 0 rfl
  have b0_1 := b0.cell 1 rfl
  have b0_2 := b0.cell 2 rfl
  have b1_l := b1.lt
  have b1_0 := b1.cell 0 rfl
  have b1_1 := b1.cell 1 rfl
  have b1_2 := b1.cell 2 rfl
  refine wp_region_still_tail 15 (by kernel_rfl) (by kernel_rfl) ?_
  simp only [List.take_succ_cons, List.take_zero, List.drop_succ_cons, List.drop_zero]
  change wpStill _ _ W.drew _ _ _
  repeat (first | still_step | still_call (compare_calls _ _ _))
  refine wpStill_nil ?_
  change wpList _ _ _ _ _ W.drew
  replace HB := Lib.hid HB.out.drew
  clear b0_l b0_0 b0_1 b0_2
  clear b1_l b1_0 b1_1 b1_2
  clear b0 b1
  generalize W.drew = W2 at *
  have hz := HB.out.size
  go_wp2_with fail
  have b2 := Blk.new W2 #[.int .i64 (cmpI x a), .int .i64 (cmpI z c), .int .i64 (cmpI y b)] 3
  refine (or_calls _ _ _ _ _ _ (b2.cell 0 rfl) (b2.cell 1 rfl) (b2.cell 2 rfl)).mono ?_
  rintro e w' ⟨rfl, rfl⟩
  go_wp2_with fail
  go_ret
  exact ⟨rfl, HB.out.alloc hz _⟩

set_option maxHeartbeats 1000000 in
theorem cmpspot_calls (x y z a b c : Int) (w : World) :
    Calls Try.prog 34 #[.agg #[.int .i64 x, .int .i64 y, .int .i64 z], .agg #[.int .i64 a, .int .i64 b, .int .i64 c]] w fun e w' => e = .returned (.int .i64 (cmpP x y z a b c)) ∧ Below w.heap.size w w' := by
  go_enter Try.func34, Try.ntmps34
  go_wp2_with fail
  refine (cmp_calls _ _ _ _ _ _ _).mono ?_
  rintro e w1 ⟨rfl, hb⟩
  have HB := Lib.hid (below_step (((Below.refl w.heap.size w).alloc (by first | exact Nat.le_refl _ | (simp; done) | (simp; omega) | omega) _).alloc (by first | exact Nat.le_refl _ | (simp; done) | (simp; omega) | omega) _) (by first | exact Nat.le_refl _ | (simp; done) | (simp; omega) | omega) hb)
  have b0 := ((Blk.new_at (w := w) (n := w.heap.size) #[.int .i64 x, .int .i64 y, .int .i64 z] 29 (by simp)).alloc (.cells #[.int .i64 a, .int .i64 b, .int .i64 c] 29)).below hb (by first | exact Nat.le_refl _ | (simp; done) | (simp; omega) | omega)
  have b1 := (Blk.new_at (w := (w.alloc (.cells #[.int .i64 x, .int .i64 y, .int .i64 z] 29))) (n := w.heap.size + 1) #[.int .i64 a, .int .i64 b, .int .i64 c] 29 (by simp)).below hb (by first | exact Nat.le_refl _ | (simp; done) | (simp; omega) | omega)
  clear hb
  go_wp2_with fail
  go_ret
  exact ⟨rfl, HB.out⟩
end Go.Proofs.Ytjodiclmibiboaa
