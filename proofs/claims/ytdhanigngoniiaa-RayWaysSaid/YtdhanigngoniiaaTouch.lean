/-
  The contracts of numbers and touches.
-/
import Derived.Test.YtdhanigngoniiaaRayS
import Derived.Test.YtdhanigngoniiaaInv
import Derived.Deep.DeepCutAuto
import Derived.Deep.LoopGhost
namespace Go.Proofs.Ytdhanigngoniiaa
open Go.RowKit
set_option linter.unusedSimpArgs false
set_option linter.unusedVariables false

theorem numbers_calls (x y z : Int) (w : World) :
    Calls Try.prog 13 #[.agg #[.int .i64 x, .int .i64 y, .int .i64 z]] w fun e w' => e = .returned (.agg #[.int .i64 x, .int .i64 y, .int .i64 z]) ∧ Below w.heap.size w w' := by
  go_enter Try.func13, Try.ntmps13
  go_wp2_with fail
  refine bodyPost_ret (by simp [results, Try.results13, go_sem]) rfl ⟨rfl, ?_⟩
  exact ((Below.refl _ _).alloc (Nat.le_refl _) _).alloc (by simp) _

def N3 (a b c : Int) : List Value := [.int .i64 a, .int .i64 b, .int .i64 c]
def sel (a b c : Int) (k : Nat) : Int := if k = 0 then a else if k = 1 then b else c
theorem N3_at (a b c : Int) {k : Nat} (hk : k < 3) : (N3 a b c)[k]? = some (.int .i64 (sel a b c k)) := by
  obtain rfl | rfl | rfl : k = 0 ∨ k = 1 ∨ k = 2 := by omega
  all_goals rfl

theorem pr_bound {a b : Int} (h1 : -1 ≤ a) (h2 : a ≤ 513) (h3 : 0 ≤ b) (h4 : b ≤ 1000) : -1000 ≤ a * b ∧ a * b ≤ 513000 := by
  have e1 := Int.mul_nonneg (show 0 ≤ a + 1 by omega) h3
  have e2 := Int.mul_nonneg (show 0 ≤ 513 - a by omega) h3
  rw [Int.add_mul] at e1
  rw [Int.sub_mul] at e2
  omega

/-- A local pair of arrays, two blocks that are not one. -/
theorem blk_two {w W : World} {g : Nat} {cs : List Value} {T : TypeId} (h : Blk W g cs T) {j : Nat} {k : Nat} (hne : g ≠ k) (u : Value) : Blk (W.setCell ⟨k, j, none⟩ u) g cs T := h.set_other u hne

set_option maxRecDepth 100000 in
set_option maxHeartbeats 8000000 in
theorem touches_calls (fx fy fz px py pz d0 d1 d2 : Int) (w : World) (M : Nat → Int) (S : Nat → Int)
    (hM : ∀ k, k < 3 → 0 ≤ M k ∧ M k ≤ 256) (hS : ∀ k, k < 3 → 0 ≤ S k ∧ S k ≤ 1000) (h0 : ∀ k, k < 3 → S k = 0 → M k = 0)
    (hd : ∀ k, k < 3 → (sel d0 d1 d2 k < 0 ∧ S k = - sel d0 d1 d2 k ∧ M k = - (sel px py pz k - sel fx fy fz k)) ∨ (0 ≤ sel d0 d1 d2 k ∧ S k = sel d0 d1 d2 k ∧ M k = sel px py pz k - sel fx fy fz k))
    (hp : ∀ i k, i < 3 → k < 3 → (2 * M i - 1) * S k ≤ (2 * M k + 1) * S i) :
    Calls Try.prog 14 #[.agg #[.int .i64 fx, .int .i64 fy, .int .i64 fz], .agg #[.int .i64 px, .int .i64 py, .int .i64 pz], .agg #[.int .i64 d0, .int .i64 d1, .int .i64 d2]] w fun e w' => e = .returned (.bool true) ∧ Below w.heap.size w w' := by
  go_enter Try.func14, Try.ntmps14
  go_upto_region 1 with (fail)
  refine wp_world (fun W => Blk W w.heap.size (N3 fx fy fz) 23 ∧ Blk W (w.heap.size + 1) (N3 px py pz) 23 ∧ Blk W (w.heap.size + 1 + 1) (N3 d0 d1 d2) 24 ∧ Below w.heap.size w W ∧ w.heap.size + 1 + 1 < W.heap.size) ⟨?_, ?_, ?_, ?_, ?_⟩ ?_
  · exact ((Blk.new w _ _).alloc _).alloc _
  · exact (Blk.new_at _ _ (by simp)).alloc _
  · exact Blk.new_at _ _ (by simp)
  · exact (((Below.refl _ _).alloc (Nat.le_refl _) _).alloc (by simp) _).alloc (by simp; omega) _
  · simp
  rintro W0 ⟨b3, b4, b5, HB, hz⟩
  obtain ⟨B, hBe⟩ : ∃ B, w.heap.size = B := ⟨_, rfl⟩
  have hB4 : w.heap.size + 1 = B + 1 := by rw [hBe]
  have hB5 : w.heap.size + 1 + 1 = B + 1 + 1 := by rw [hBe]
  generalize hp5 : w.heap.size + 1 + 1 = p5 at *
  generalize hp4 : w.heap.size + 1 = p4 at *
  generalize hp3 : w.heap.size = p3 at *
  have ho : p3 < p4 ∧ p4 < p5 := by omega
  clear hB4 hB5 hp5 hp4 hBe
  refine wp_region_frame (by kernel_rfl) (by kernel_rfl) (by kernel_rfl) [15, 16, 17, 18, 7, 8] (by kernel_rfl)
    (fun L f W => Below p3 w W ∧ p5 < W.heap.size ∧ Blk W p3 (N3 fx fy fz) 23 ∧ Blk W p4 (N3 px py pz) 23 ∧ Blk W p5 (N3 d0 d1 d2) 24 ∧
      f 3 = .pointer (some ⟨p3, 0, none⟩) ∧ f 4 = .pointer (some ⟨p4, 0, none⟩) ∧
      (L 0 = true → f 15 = .agg #[.int .i64 fx, .int .i64 fy, .int .i64 fz]) ∧ (L 1 = true → f 16 = .agg #[.int .i64 fx, .int .i64 fy, .int .i64 fz]) ∧
      (L 2 = true → f 17 = .agg #[.int .i64 px, .int .i64 py, .int .i64 pz]) ∧ (L 3 = true → f 18 = .agg #[.int .i64 px, .int .i64 py, .int .i64 pz]) ∧
      (L 4 = true → ∃ g, f 7 = .pointer (some ⟨g, 0, none⟩) ∧ p5 < g ∧ Blk W g (if L 6 = true then N3 fx fy fz else N3 0 0 0) 24) ∧
      (L 5 = true → ∃ g, f 8 = .pointer (some ⟨g, 0, none⟩) ∧ p5 < g ∧ Blk W g (if L 7 = true then N3 px py pz else N3 0 0 0) 24) ∧
      (L 4 = true → L 5 = true → f 7 ≠ f 8) ∧
      (L 6 = true → L 4 = true) ∧ (L 7 = true → L 5 = true)) ?_ ?_ ?_
  · exact ⟨HB.drew, hz, b3, b4, b5, rfl, rfl, by simp, by simp, by simp, by simp, by simp, by simp, by simp, by simp, by simp⟩
  · clear b3 b4 b5 HB hz
    rintro L f W ⟨HB, hz, b3, b4, b5, e3, e4, l0, l1, l2, l3, l4, l5, l45, l64, l75⟩ i o hoo hL hdep
    have hi : i < 8 := by
      have := (List.getElem?_eq_some_iff.1 hoo).1
      simpa using this
    have q3 : ev f (.tmp 3) = .pointer (some ⟨p3, 0, none⟩) := e3
    have q4 : ev f (.tmp 4) = .pointer (some ⟨p4, 0, none⟩) := e4
    have hps : p3 ≤ W.heap.size := by omega
    obtain rfl | rfl | rfl | rfl | rfl | rfl | rfl | rfl : i = 0 ∨ i = 1 ∨ i = 2 ∨ i = 3 ∨ i = 4 ∨ i = 5 ∨ i = 6 ∨ i = 7 := by omega
    all_goals obtain rfl := Option.some.inj hoo
    all_goals
      clear hoo hi
      simp [Region.binds] at hdep
    · have c0 := b3.cell 0 rfl
      have c1 := b3.cell 1 rfl
      have c2 := b3.cell 2 rfl
      refine fwp_value (v := .agg #[.int .i64 fx, .int .i64 fy, .int .i64 fz]) (w' := W) ?_ ?_
      · simp only [execOp, q3]
        go_simp
      · simp only [updF, upd, Nat.reduceEqDiff, if_true, if_false, true_implies, reduceIte]
        repeat' first | assumption | exact trivial | exact rfl | exact fun _ => rfl | exact fun _ => by assumption | apply And.intro
    · have q15 : ev f (.tmp 15) = .agg #[.int .i64 fx, .int .i64 fy, .int .i64 fz] := l0 (by simp only [hdep])
      refine fwp_call (g := 13) (args := #[.agg #[.int .i64 fx, .int .i64 fy, .int .i64 fz]]) (w' := W) ?_ ?_
      · simp only [execOp, q15]
        go_simp
        simp only [ev_func]
        go_simp
      · refine (numbers_calls _ _ _ _).mono ?_
        rintro e W' ⟨rfl, hb⟩
        refine ⟨_, rfl, ?_⟩
        replace HB := below_step HB hps hb
        replace hz := Nat.lt_of_lt_of_le hz hb.size
        replace b3 := b3.below hb b3.lt
        replace b4 := b4.below hb b4.lt
        replace b5 := b5.below hb b5.lt
        replace l4 : L 4 = true → ∃ g, f 7 = .pointer (some ⟨g, 0, none⟩) ∧ p5 < g ∧ Blk W' g (if L 6 = true then N3 fx fy fz else N3 0 0 0) 24 := fun h => by
          obtain ⟨g, g1, g2, g4⟩ := l4 h
          exact ⟨g, g1, g2, g4.below hb g4.lt⟩
        replace l5 : L 5 = true → ∃ g, f 8 = .pointer (some ⟨g, 0, none⟩) ∧ p5 < g ∧ Blk W' g (if L 7 = true then N3 px py pz else N3 0 0 0) 24 := fun h => by
          obtain ⟨g, g1, g2, g4⟩ := l5 h
          exact ⟨g, g1, g2, g4.below hb g4.lt⟩
        simp only [updF, upd, Nat.reduceEqDiff, if_true, if_false, true_implies, reduceIte]
        repeat' first | assumption | exact trivial | exact rfl | exact fun _ => rfl | exact fun _ => by assumption | apply And.intro
    · have c0 := b4.cell 0 rfl
      have c1 := b4.cell 1 rfl
      have c2 := b4.cell 2 rfl
      refine fwp_value (v := .agg #[.int .i64 px, .int .i64 py, .int .i64 pz]) (w' := W) ?_ ?_
      · simp only [execOp, q4]
        go_simp
      · simp only [updF, upd, Nat.reduceEqDiff, if_true, if_false, true_implies, reduceIte]
        repeat' first | assumption | exact trivial | exact rfl | exact fun _ => rfl | exact fun _ => by assumption | apply And.intro
    · have q17 : ev f (.tmp 17) = .agg #[.int .i64 px, .int .i64 py, .int .i64 pz] := l2 (by simp only [hdep])
      refine fwp_call (g := 13) (args := #[.agg #[.int .i64 px, .int .i64 py, .int .i64 pz]]) (w' := W) ?_ ?_
      · simp only [execOp, q17]
        go_simp
        simp only [ev_func]
        go_simp
      · refine (numbers_calls _ _ _ _).mono ?_
        rintro e W' ⟨rfl, hb⟩
        refine ⟨_, rfl, ?_⟩
        replace HB := below_step HB hps hb
        replace hz := Nat.lt_of_lt_of_le hz hb.size
        replace b3 := b3.below hb b3.lt
        replace b4 := b4.below hb b4.lt
        replace b5 := b5.below hb b5.lt
        replace l4 : L 4 = true → ∃ g, f 7 = .pointer (some ⟨g, 0, none⟩) ∧ p5 < g ∧ Blk W' g (if L 6 = true then N3 fx fy fz else N3 0 0 0) 24 := fun h => by
          obtain ⟨g, g1, g2, g4⟩ := l4 h
          exact ⟨g, g1, g2, g4.below hb g4.lt⟩
        replace l5 : L 5 = true → ∃ g, f 8 = .pointer (some ⟨g, 0, none⟩) ∧ p5 < g ∧ Blk W' g (if L 7 = true then N3 px py pz else N3 0 0 0) 24 := fun h => by
          obtain ⟨g, g1, g2, g4⟩ := l5 h
          exact ⟨g, g1, g2, g4.below hb g4.lt⟩
        simp only [updF, upd, Nat.reduceEqDiff, if_true, if_false, true_implies, reduceIte]
        repeat' first | assumption | exact trivial | exact rfl | exact fun _ => rfl | exact fun _ => by assumption | apply And.intro
    · have hL6 : L 6 = false := by cases h : L 6 with
        | false => rfl
        | true => rw [l64 h] at hL; cases hL
      refine fwp_value (v := .pointer (some ⟨W.heap.size, 0, none⟩)) (w' := W.alloc (.cells #[.int .i64 0, .int .i64 0, .int .i64 0] 24)) ?_ ?_
      · simp only [execOp]
        go_simp
      · have hne : L 5 = true → Value.pointer (some ⟨W.heap.size, 0, none⟩) ≠ f 8 := fun h e => by
          obtain ⟨g, g1, g2, g4⟩ := l5 h
          rw [g1] at e
          have := g4.lt
          injection e with e; injection e with e; injection e with e
          omega
        replace l4 : ∃ g, Value.pointer (some ⟨W.heap.size, 0, none⟩) = .pointer (some ⟨g, 0, none⟩) ∧ p5 < g ∧ Blk (W.alloc (.cells #[.int .i64 0, .int .i64 0, .int .i64 0] 24)) g (if L 6 = true then N3 fx fy fz else N3 0 0 0) 24 := by
          refine ⟨_, rfl, hz, ?_⟩
          rw [hL6]
          exact Blk.new W _ _
        replace l5 : L 5 = true → ∃ g, f 8 = .pointer (some ⟨g, 0, none⟩) ∧ p5 < g ∧ Blk (W.alloc (.cells #[.int .i64 0, .int .i64 0, .int .i64 0] 24)) g (if L 7 = true then N3 px py pz else N3 0 0 0) 24 := fun h => by
          obtain ⟨g, g1, g2, g4⟩ := l5 h
          exact ⟨g, g1, g2, g4.alloc _⟩
        replace HB := HB.alloc hps (.cells #[.int .i64 0, .int .i64 0, .int .i64 0] 24)
        replace hz : p5 < (W.alloc (.cells #[.int .i64 0, .int .i64 0, .int .i64 0] 24)).heap.size := by simp; omega
        replace b3 := b3.alloc (.cells #[.int .i64 0, .int .i64 0, .int .i64 0] 24)
        replace b4 := b4.alloc (.cells #[.int .i64 0, .int .i64 0, .int .i64 0] 24)
        replace b5 := b5.alloc (.cells #[.int .i64 0, .int .i64 0, .int .i64 0] 24)
        simp only [updF, upd, Nat.reduceEqDiff, if_true, if_false, true_implies, reduceIte]
        repeat' first | assumption | exact trivial | exact rfl | exact fun _ => rfl | exact fun _ => by assumption | apply And.intro
    · have hL7 : L 7 = false := by cases h : L 7 with
        | false => rfl
        | true => rw [l75 h] at hL; cases hL
      refine fwp_value (v := .pointer (some ⟨W.heap.size, 0, none⟩)) (w' := W.alloc (.cells #[.int .i64 0, .int .i64 0, .int .i64 0] 24)) ?_ ?_
      · simp only [execOp]
        go_simp
      · have hne : L 4 = true → f 7 ≠ Value.pointer (some ⟨W.heap.size, 0, none⟩) := fun h e => by
          obtain ⟨g, g1, g2, g4⟩ := l4 h
          rw [g1] at e
          have := g4.lt
          injection e with e; injection e with e; injection e with e
          omega
        replace l5 : ∃ g, Value.pointer (some ⟨W.heap.size, 0, none⟩) = .pointer (some ⟨g, 0, none⟩) ∧ p5 < g ∧ Blk (W.alloc (.cells #[.int .i64 0, .int .i64 0, .int .i64 0] 24)) g (if L 7 = true then N3 px py pz else N3 0 0 0) 24 := by
          refine ⟨_, rfl, hz, ?_⟩
          rw [hL7]
          exact Blk.new W _ _
        replace l4 : L 4 = true → ∃ g, f 7 = .pointer (some ⟨g, 0, none⟩) ∧ p5 < g ∧ Blk (W.alloc (.cells #[.int .i64 0, .int .i64 0, .int .i64 0] 24)) g (if L 6 = true then N3 fx fy fz else N3 0 0 0) 24 := fun h => by
          obtain ⟨g, g1, g2, g4⟩ := l4 h
          exact ⟨g, g1, g2, g4.alloc _⟩
        replace HB := HB.alloc hps (.cells #[.int .i64 0, .int .i64 0, .int .i64 0] 24)
        replace hz : p5 < (W.alloc (.cells #[.int .i64 0, .int .i64 0, .int .i64 0] 24)).heap.size := by simp; omega
        replace b3 := b3.alloc (.cells #[.int .i64 0, .int .i64 0, .int .i64 0] 24)
        replace b4 := b4.alloc (.cells #[.int .i64 0, .int .i64 0, .int .i64 0] 24)
        replace b5 := b5.alloc (.cells #[.int .i64 0, .int .i64 0, .int .i64 0] 24)
        simp only [updF, upd, Nat.reduceEqDiff, if_true, if_false, true_implies, reduceIte]
        repeat' first | assumption | exact trivial | exact rfl | exact fun _ => rfl | exact fun _ => by assumption | apply And.intro
    · have q16 : ev f (.tmp 16) = .agg #[.int .i64 fx, .int .i64 fy, .int .i64 fz] := l1 (by simp only [hdep])
      have h4 : L 4 = true := by simp only [hdep]
      obtain ⟨g, g1, g2, g4⟩ := l4 h4
      have q7 : ev f (.tmp 7) = .pointer (some ⟨g, 0, none⟩) := g1
      rw [hL] at g4
      have y0 := g4.cell 0 rfl
      have y1 := g4.cell 1 rfl
      have y2 := g4.cell 2 rfl
      have z0 := g4.frozen 0
      have z1 := g4.frozen 1
      have z2 := g4.frozen 2
      refine fwp_skip (w' := ((W.setCell ⟨g, 0, none⟩ (.int .i64 fx)).setCell ⟨g, 1, none⟩ (.int .i64 fy)).setCell ⟨g, 2, none⟩ (.int .i64 fz)) ?_ ?_
      · simp only [execOp, q7, q16]
        go_simp
      · have l4 : ∃ g', f 7 = .pointer (some ⟨g', 0, none⟩) ∧ p5 < g' ∧ Blk (((W.setCell ⟨g, 0, none⟩ (.int .i64 fx)).setCell ⟨g, 1, none⟩ (.int .i64 fy)).setCell ⟨g, 2, none⟩ (.int .i64 fz)) g' (N3 fx fy fz) 24 :=
          ⟨g, g1, g2, ((g4.set 0 (.int .i64 fx)).set 1 (.int .i64 fy)).set 2 (.int .i64 fz)⟩
        replace l5 : L 5 = true → ∃ g', f 8 = .pointer (some ⟨g', 0, none⟩) ∧ p5 < g' ∧ Blk (((W.setCell ⟨g, 0, none⟩ (.int .i64 fx)).setCell ⟨g, 1, none⟩ (.int .i64 fy)).setCell ⟨g, 2, none⟩ (.int .i64 fz)) g' (if L 7 = true then N3 px py pz else N3 0 0 0) 24 := fun h => by
          obtain ⟨g', k1, k2, k4⟩ := l5 h
          have hne : g' ≠ g := fun e => by subst e; exact l45 h4 h (g1.trans k1.symm)
          exact ⟨g', k1, k2, ((k4.set_other _ hne).set_other _ hne).set_other _ hne⟩
        have st : ∀ b cs T, Blk W b cs T → b ≠ g → Blk (((W.setCell ⟨g, 0, none⟩ (.int .i64 fx)).setCell ⟨g, 1, none⟩ (.int .i64 fy)).setCell ⟨g, 2, none⟩ (.int .i64 fz)) b cs T := fun b cs T h hne => ((h.set_other _ hne).set_other _ hne).set_other _ hne
        replace b3 := st _ _ _ b3 (by omega)
        replace b4 := st _ _ _ b4 (by omega)
        replace b5 := st _ _ _ b5 (by omega)
        replace HB := ((HB.setCell (p := ⟨g, 0, none⟩) (show p3 ≤ g by omega) (.int .i64 fx)).setCell (p := ⟨g, 1, none⟩) (show p3 ≤ g by omega) (.int .i64 fy)).setCell (p := ⟨g, 2, none⟩) (show p3 ≤ g by omega) (.int .i64 fz)
        replace hz : p5 < (((W.setCell ⟨g, 0, none⟩ (.int .i64 fx)).setCell ⟨g, 1, none⟩ (.int .i64 fy)).setCell ⟨g, 2, none⟩ (.int .i64 fz)).heap.size := b5.lt
        clear st
        simp only [updF, upd, Nat.reduceEqDiff, if_true, if_false, true_implies, reduceIte]
        repeat' first | assumption | exact trivial | exact rfl | exact fun _ => rfl | exact fun _ => by assumption | apply And.intro
    · have q18 : ev f (.tmp 18) = .agg #[.int .i64 px, .int .i64 py, .int .i64 pz] := l3 (by simp only [hdep])
      have h5 : L 5 = true := by simp only [hdep]
      obtain ⟨g, g1, g2, g4⟩ := l5 h5
      have q8 : ev f (.tmp 8) = .pointer (some ⟨g, 0, none⟩) := g1
      rw [hL] at g4
      have y0 := g4.cell 0 rfl
      have y1 := g4.cell 1 rfl
      have y2 := g4.cell 2 rfl
      have z0 := g4.frozen 0
      have z1 := g4.frozen 1
      have z2 := g4.frozen 2
      refine fwp_skip (w' := ((W.setCell ⟨g, 0, none⟩ (.int .i64 px)).setCell ⟨g, 1, none⟩ (.int .i64 py)).setCell ⟨g, 2, none⟩ (.int .i64 pz)) ?_ ?_
      · simp only [execOp, q8, q18]
        go_simp
      · have l5 : ∃ g', f 8 = .pointer (some ⟨g', 0, none⟩) ∧ p5 < g' ∧ Blk (((W.setCell ⟨g, 0, none⟩ (.int .i64 px)).setCell ⟨g, 1, none⟩ (.int .i64 py)).setCell ⟨g, 2, none⟩ (.int .i64 pz)) g' (N3 px py pz) 24 :=
          ⟨g, g1, g2, ((g4.set 0 (.int .i64 px)).set 1 (.int .i64 py)).set 2 (.int .i64 pz)⟩
        replace l4 : L 4 = true → ∃ g', f 7 = .pointer (some ⟨g', 0, none⟩) ∧ p5 < g' ∧ Blk (((W.setCell ⟨g, 0, none⟩ (.int .i64 px)).setCell ⟨g, 1, none⟩ (.int .i64 py)).setCell ⟨g, 2, none⟩ (.int .i64 pz)) g' (if L 6 = true then N3 fx fy fz else N3 0 0 0) 24 := fun h => by
          obtain ⟨g', k1, k2, k4⟩ := l4 h
          have hne : g' ≠ g := fun e => by subst e; exact l45 h h5 (k1.trans g1.symm)
          exact ⟨g', k1, k2, ((k4.set_other _ hne).set_other _ hne).set_other _ hne⟩
        have st : ∀ b cs T, Blk W b cs T → b ≠ g → Blk (((W.setCell ⟨g, 0, none⟩ (.int .i64 px)).setCell ⟨g, 1, none⟩ (.int .i64 py)).setCell ⟨g, 2, none⟩ (.int .i64 pz)) b cs T := fun b cs T h hne => ((h.set_other _ hne).set_other _ hne).set_other _ hne
        replace b3 := st _ _ _ b3 (by omega)
        replace b4 := st _ _ _ b4 (by omega)
        replace b5 := st _ _ _ b5 (by omega)
        replace HB := ((HB.setCell (p := ⟨g, 0, none⟩) (show p3 ≤ g by omega) (.int .i64 px)).setCell (p := ⟨g, 1, none⟩) (show p3 ≤ g by omega) (.int .i64 py)).setCell (p := ⟨g, 2, none⟩) (show p3 ≤ g by omega) (.int .i64 pz)
        replace hz : p5 < (((W.setCell ⟨g, 0, none⟩ (.int .i64 px)).setCell ⟨g, 1, none⟩ (.int .i64 py)).setCell ⟨g, 2, none⟩ (.int .i64 pz)).heap.size := b5.lt
        clear st
        simp only [updF, upd, Nat.reduceEqDiff, if_true, if_false, true_implies, reduceIte]
        repeat' first | assumption | exact trivial | exact rfl | exact fun _ => rfl | exact fun _ => by assumption | apply And.intro
  · clear b3 b4 b5 HB hz
    rintro L f W ⟨HB, hz, b3, b4, b5, e3, e4, l0, l1, l2, l3, l4, l5, l45, l64, l75⟩ hall
    obtain ⟨g, g1, g2, g4⟩ := l4 (hall 4 (by show 4 < 8; omega))
    obtain ⟨g', k1, k2, k4⟩ := l5 (hall 5 (by show 5 < 8; omega))
    rw [if_pos (hall 6 (by show 6 < 8; omega))] at g4
    rw [if_pos (hall 7 (by show 7 < 8; omega))] at k4
    simp only [putAll, g1, k1]
    go_simp
    clear hall l0 l1 l2 l3 l4 l5 l45 l64 l75 e3 e4 ho hz b3 b4
    replace g4 := Lib.hid g4
    replace k4 := Lib.hid k4
    replace b5 := Lib.hid b5
    replace HB := Lib.hid HB
    replace hd := Lib.hid hd
    replace hp := Lib.hid hp
    replace hM := Lib.hid hM
    replace hS := Lib.hid hS
    replace h0 := Lib.hid h0
    go_wp2_with fail
    go_loopw [9] (fun i W' => ∃ k : Nat, k ≤ 3 ∧ i = .int .i64 k ∧ ∃ q, W' = W.drewN q) (fun i _ => 3 - (intOf i).toNat)
    case atStart => exact ⟨0, by omega, rfl, 0, rfl⟩
    case round =>
      obtain ⟨k, hk, rfl, q, rfl⟩ := hrel
      by_cases hkn : k = 3
      · subst hkn
        rw [show ((3 : Nat) : Int) = 3 from rfl]
        go_wp2_with fail
        try rw [Exit.noGoto_ret]
        go_ret
        exact ⟨rfl, hp3 ▸ below_drewN HB.out q⟩
      · have hk' : k < 3 := by omega
        clear hkn
        obtain ⟨F, hF⟩ : ∃ F, sel fx fy fz k = F := ⟨_, rfl⟩
        obtain ⟨P, hP⟩ : ∃ P, sel px py pz k = P := ⟨_, rfl⟩
        obtain ⟨D, hD⟩ : ∃ D, sel d0 d1 d2 k = D := ⟨_, rfl⟩
        obtain ⟨m, hm⟩ : ∃ m, M k = m := ⟨_, rfl⟩
        obtain ⟨x, hx⟩ : ∃ x, S k = x := ⟨_, rfl⟩
        have y7 : W.cell? ⟨g, k, none⟩ = some (.int .i64 F) := hF ▸ g4.out.cell k (N3_at _ _ _ hk')
        have y8 : W.cell? ⟨g', k, none⟩ = some (.int .i64 P) := hP ▸ k4.out.cell k (N3_at _ _ _ hk')
        have y5 : W.cell? ⟨p5, k, none⟩ = some (.int .i64 D) := hD ▸ b5.out.cell k (N3_at _ _ _ hk')
        have hm' := hM.out k hk'
        have hx' := hS.out k hk'
        have h0' := h0.out k hk'
        have hd' := hd.out k hk'
        rw [hm] at hm' h0' hd'
        rw [hx] at hx' h0' hd'
        rw [hF, hP, hD] at hd'
        have ka : (k : Int) < 3 := by omega
        replace hF := Lib.hid hF
        replace hP := Lib.hid hP
        replace hD := Lib.hid hD
        replace hm := Lib.hid hm
        replace hx := Lib.hid hx
        have hcond : (0 < x ∧ ¬ x = 0) ∨ (x = 0 ∧ m = 0) := by omega
        clear h0'
        obtain ⟨E, hE⟩ : ∃ E, P - F = E := ⟨_, rfl⟩
        rw [hE] at hd'
        have v0 : IntKind.i64.wrap (P - F) = E := hE ▸ IntWalk.i64_in _ (by omega)
        replace hE := Lib.hid hE
        have w1 : IntKind.i64.wrap (2 * m) = 2 * m := IntWalk.i64_in _ (by omega)
        have w2 : IntKind.i64.wrap (2 * m - 1) = 2 * m - 1 := IntWalk.i64_in _ (by omega)
        have c6 : 0 ≤ m := hm'.1
        have c9 : ¬ m < 0 := by omega
        rcases hd' with ⟨c1, c2, c3⟩ | ⟨c1, c2, c3⟩
        rotate_left
        · subst c2
          subst c3
          have c8 : ¬ x < 0 := by omega
          rcases hcond with ⟨c4, c5⟩ | ⟨c4, c5⟩
          · skip
            go_wp2_with fail
            go_quiet (fail)
            go_wp2_with fail
            clear y7 y8 y5
            go_loopw [12] (fun i W' => ∃ j : Nat, j ≤ 3 ∧ i = .int .i64 j ∧ ∃ q, W' = W.drewN q) (fun i _ => 3 - (intOf i).toNat)
            case atStart => exact ⟨0, by omega, rfl, _, rfl⟩
            case round =>
              obtain ⟨j, hj, rfl, r, rfl⟩ := hrel
              by_cases hjn : j = 3
              · subst hjn
                rw [show ((3 : Nat) : Int) = 3 from rfl]
                go_wp2_with fail
                exact ⟨⟨k + 1, by omega, rfl, r, rfl⟩, by simp [intOf]; omega⟩
              have j' : j < 3 := by omega
              clear hjn
              obtain ⟨F', hF'⟩ : ∃ F, sel fx fy fz j = F := ⟨_, rfl⟩
              obtain ⟨P', hP'⟩ : ∃ P, sel px py pz j = P := ⟨_, rfl⟩
              obtain ⟨D', hD'⟩ : ∃ D, sel d0 d1 d2 j = D := ⟨_, rfl⟩
              obtain ⟨n, hn⟩ : ∃ m, M j = m := ⟨_, rfl⟩
              obtain ⟨y, hy⟩ : ∃ x, S j = x := ⟨_, rfl⟩
              have y7 : W.cell? ⟨g, j, none⟩ = some (.int .i64 F') := hF' ▸ g4.out.cell j (N3_at _ _ _ j')
              have y8 : W.cell? ⟨g', j, none⟩ = some (.int .i64 P') := hP' ▸ k4.out.cell j (N3_at _ _ _ j')
              have y5 : W.cell? ⟨p5, j, none⟩ = some (.int .i64 D') := hD' ▸ b5.out.cell j (N3_at _ _ _ j')
              have hn' := hM.out j j'
              have hy' := hS.out j j'
              have hd2 := hd.out j j'
              have hle := hp.out k j hk' j'
              rw [hn] at hn' hd2 hle
              rw [hy] at hy' hd2 hle
              rw [hm.out, hx.out] at hle
              rw [hF', hP', hD'] at hd2
              have kb : (j : Int) < 3 := by omega
              replace hF' := Lib.hid hF'
              replace hP' := Lib.hid hP'
              replace hD' := Lib.hid hD'
              replace hn := Lib.hid hn
              replace hy := Lib.hid hy
              obtain ⟨E', hE'⟩ : ∃ E, P' - F' = E := ⟨_, rfl⟩
              rw [hE'] at hd2
              have z0 : IntKind.i64.wrap (P' - F') = E' := hE' ▸ IntWalk.i64_in _ (by omega)
              replace hE' := Lib.hid hE'
              have z1 : IntKind.i64.wrap (2 * n) = 2 * n := IntWalk.i64_in _ (by omega)
              have z2 : IntKind.i64.wrap (2 * n + 1) = 2 * n + 1 := IntWalk.i64_in _ (by omega)
              have bU := pr_bound (a := 2 * m - 1) (b := y) (by omega) (by omega) hy'.1 hy'.2
              have bV := pr_bound (a := 2 * n + 1) (b := x) (by omega) (by omega) hx'.1 hx'.2
              obtain ⟨U, hU⟩ : ∃ U, (2 * m - 1) * y = U := ⟨_, rfl⟩
              obtain ⟨V, hV⟩ : ∃ V, (2 * n + 1) * x = V := ⟨_, rfl⟩
              rw [hU] at bU hle
              rw [hV] at bV hle
              have z3 : IntKind.i64.wrap ((2 * m - 1) * y) = U := hU ▸ IntWalk.i64_in _ (by rw [hU]; omega)
              have z4 : IntKind.i64.wrap ((2 * n + 1) * x) = V := hV ▸ IntWalk.i64_in _ (by rw [hV]; omega)
              replace hU := Lib.hid hU
              replace hV := Lib.hid hV
              have hnV : ¬ V < U := by omega
              clear hle bU bV
              rcases hd2 with ⟨e1, e2, e3⟩ | ⟨e1, e2, e3⟩
              · have z5 : IntKind.i64.wrap (-E') = n := e3 ▸ IntWalk.i64_in _ (by omega)
                have z6 : IntKind.i64.wrap (-D') = y := e2 ▸ IntWalk.i64_in _ (by omega)
                have e4 : 0 < y := by omega
                replace e2 := Lib.hid e2
                replace e3 := Lib.hid e3
                go_wp2_with fail
                go_quiet (fail)
                go_wp2_with fail
                exact ⟨⟨j + 1, by omega, rfl, r + nq, rfl⟩, by simp [intOf]; omega⟩
              · subst e2
                subst e3
                by_cases e4 : 0 < y
                · have e5 : ¬ y < 0 := by omega
                  go_wp2_with fail
                  go_quiet (fail)
                  go_wp2_with fail
                  exact ⟨⟨j + 1, by omega, rfl, r + nq, rfl⟩, by simp [intOf]; omega⟩
                · obtain rfl : y = 0 := by omega
                  go_wp2_with fail
                  go_quiet (fail)
                  go_wp2_with fail
                  exact ⟨⟨j + 1, by omega, rfl, r + nq, rfl⟩, by simp [intOf]; omega⟩
          · subst c4
            subst c5
            go_wp2_with fail
            go_quiet (fail)
            go_wp2_with fail
            clear y7 y8 y5
            go_loopw [12] (fun i W' => ∃ j : Nat, j ≤ 3 ∧ i = .int .i64 j ∧ ∃ q, W' = W.drewN q) (fun i _ => 3 - (intOf i).toNat)
            case atStart => exact ⟨0, by omega, rfl, _, rfl⟩
            case round =>
              obtain ⟨j, hj, rfl, r, rfl⟩ := hrel
              by_cases hjn : j = 3
              · subst hjn
                rw [show ((3 : Nat) : Int) = 3 from rfl]
                go_wp2_with fail
                exact ⟨⟨k + 1, by omega, rfl, r, rfl⟩, by simp [intOf]; omega⟩
              have j' : j < 3 := by omega
              clear hjn
              obtain ⟨F', hF'⟩ : ∃ F, sel fx fy fz j = F := ⟨_, rfl⟩
              obtain ⟨P', hP'⟩ : ∃ P, sel px py pz j = P := ⟨_, rfl⟩
              obtain ⟨D', hD'⟩ : ∃ D, sel d0 d1 d2 j = D := ⟨_, rfl⟩
              have y7 : W.cell? ⟨g, j, none⟩ = some (.int .i64 F') := hF' ▸ g4.out.cell j (N3_at _ _ _ j')
              have y8 : W.cell? ⟨g', j, none⟩ = some (.int .i64 P') := hP' ▸ k4.out.cell j (N3_at _ _ _ j')
              have y5 : W.cell? ⟨p5, j, none⟩ = some (.int .i64 D') := hD' ▸ b5.out.cell j (N3_at _ _ _ j')
              have kb : (j : Int) < 3 := by omega
              replace hF' := Lib.hid hF'
              replace hP' := Lib.hid hP'
              replace hD' := Lib.hid hD'
              by_cases e1 : D' < 0
              all_goals
                go_wp2_with fail
                go_quiet (fail)
                go_wp2_with fail
                exact ⟨⟨j + 1, by omega, rfl, r + nq, rfl⟩, by simp [intOf]; omega⟩
        · have v2 : IntKind.i64.wrap (-E) = m := c3 ▸ IntWalk.i64_in _ (by omega)
          have v3 : IntKind.i64.wrap (-D) = x := c2 ▸ IntWalk.i64_in _ (by omega)
          have c4 : 0 < x := by omega
          have c5 : ¬ x = 0 := by omega
          clear hcond
          replace c2 := Lib.hid c2
          replace c3 := Lib.hid c3
          go_wp2_with fail
          go_quiet (fail)
          go_wp2_with fail
          clear y7 y8 y5
          go_loopw [12] (fun i W' => ∃ j : Nat, j ≤ 3 ∧ i = .int .i64 j ∧ ∃ q, W' = W.drewN q) (fun i _ => 3 - (intOf i).toNat)
          case atStart => exact ⟨0, by omega, rfl, _, rfl⟩
          case round =>
            obtain ⟨j, hj, rfl, r, rfl⟩ := hrel
            by_cases hjn : j = 3
            · subst hjn
              rw [show ((3 : Nat) : Int) = 3 from rfl]
              go_wp2_with fail
              exact ⟨⟨k + 1, by omega, rfl, r, rfl⟩, by simp [intOf]; omega⟩
            have j' : j < 3 := by omega
            clear hjn
            obtain ⟨F', hF'⟩ : ∃ F, sel fx fy fz j = F := ⟨_, rfl⟩
            obtain ⟨P', hP'⟩ : ∃ P, sel px py pz j = P := ⟨_, rfl⟩
            obtain ⟨D', hD'⟩ : ∃ D, sel d0 d1 d2 j = D := ⟨_, rfl⟩
            obtain ⟨n, hn⟩ : ∃ m, M j = m := ⟨_, rfl⟩
            obtain ⟨y, hy⟩ : ∃ x, S j = x := ⟨_, rfl⟩
            have y7 : W.cell? ⟨g, j, none⟩ = some (.int .i64 F') := hF' ▸ g4.out.cell j (N3_at _ _ _ j')
            have y8 : W.cell? ⟨g', j, none⟩ = some (.int .i64 P') := hP' ▸ k4.out.cell j (N3_at _ _ _ j')
            have y5 : W.cell? ⟨p5, j, none⟩ = some (.int .i64 D') := hD' ▸ b5.out.cell j (N3_at _ _ _ j')
            have hn' := hM.out j j'
            have hy' := hS.out j j'
            have hd2 := hd.out j j'
            have hle := hp.out k j hk' j'
            rw [hn] at hn' hd2 hle
            rw [hy] at hy' hd2 hle
            rw [hm.out, hx.out] at hle
            rw [hF', hP', hD'] at hd2
            have kb : (j : Int) < 3 := by omega
            replace hF' := Lib.hid hF'
            replace hP' := Lib.hid hP'
            replace hD' := Lib.hid hD'
            replace hn := Lib.hid hn
            replace hy := Lib.hid hy
            obtain ⟨E', hE'⟩ : ∃ E, P' - F' = E := ⟨_, rfl⟩
            rw [hE'] at hd2
            have z0 : IntKind.i64.wrap (P' - F') = E' := hE' ▸ IntWalk.i64_in _ (by omega)
            replace hE' := Lib.hid hE'
            have z1 : IntKind.i64.wrap (2 * n) = 2 * n := IntWalk.i64_in _ (by omega)
            have z2 : IntKind.i64.wrap (2 * n + 1) = 2 * n + 1 := IntWalk.i64_in _ (by omega)
            have bU := pr_bound (a := 2 * m - 1) (b := y) (by omega) (by omega) hy'.1 hy'.2
            have bV := pr_bound (a := 2 * n + 1) (b := x) (by omega) (by omega) hx'.1 hx'.2
            obtain ⟨U, hU⟩ : ∃ U, (2 * m - 1) * y = U := ⟨_, rfl⟩
            obtain ⟨V, hV⟩ : ∃ V, (2 * n + 1) * x = V := ⟨_, rfl⟩
            rw [hU] at bU hle
            rw [hV] at bV hle
            have z3 : IntKind.i64.wrap ((2 * m - 1) * y) = U := hU ▸ IntWalk.i64_in _ (by rw [hU]; omega)
            have z4 : IntKind.i64.wrap ((2 * n + 1) * x) = V := hV ▸ IntWalk.i64_in _ (by rw [hV]; omega)
            replace hU := Lib.hid hU
            replace hV := Lib.hid hV
            have hnV : ¬ V < U := by omega
            clear hle bU bV
            rcases hd2 with ⟨e1, e2, e3⟩ | ⟨e1, e2, e3⟩
            · have z5 : IntKind.i64.wrap (-E') = n := e3 ▸ IntWalk.i64_in _ (by omega)
              have z6 : IntKind.i64.wrap (-D') = y := e2 ▸ IntWalk.i64_in _ (by omega)
              have e4 : 0 < y := by omega
              replace e2 := Lib.hid e2
              replace e3 := Lib.hid e3
              go_wp2_with fail
              go_quiet (fail)
              go_wp2_with fail
              exact ⟨⟨j + 1, by omega, rfl, r + nq, rfl⟩, by simp [intOf]; omega⟩
            · subst e2
              subst e3
              by_cases e4 : 0 < y
              · have e5 : ¬ y < 0 := by omega
                go_wp2_with fail
                go_quiet (fail)
                go_wp2_with fail
                exact ⟨⟨j + 1, by omega, rfl, r + nq, rfl⟩, by simp [intOf]; omega⟩
              · obtain rfl : y = 0 := by omega
                go_wp2_with fail
                go_quiet (fail)
                go_wp2_with fail
                exact ⟨⟨j + 1, by omega, rfl, r + nq, rfl⟩, by simp [intOf]; omega⟩
end Go.Proofs.Ytdhanigngoniiaa
