/-
  Each place of a way is a side of the one ahead, never backwards, and the straight way touches it: RayStraight gives true.
-/
import Derived.Test.YtdhanigngoniiaaStrL
namespace Go.Proofs.Ytdhanigngoniiaa
open Go.RowKit
set_option linter.unusedSimpArgs false
set_option linter.unusedVariables false

set_option maxRecDepth 100000 in
set_option maxHeartbeats 16000000 in
theorem straight_walk (x y z d0 d1 d2 n : Int) (w : World) :
    Calls Try.prog 5 #[.agg #[.int .i64 x, .int .i64 y, .int .i64 z], .agg #[.int .i64 d0, .int .i64 d1, .int .i64 d2], .int .i64 n] w fun e w' => e = .returned (.bool true) ∧ Below w.heap.size w w' := by
  go_enter Try.func5, Try.ntmps5
  go_wp2_with fail
  refine (way_calls x y z d0 d1 d2 n _).mono ?_
  rintro e w1 ⟨v1, rfl, ho1, hb⟩
  obtain ⟨a1, c1, rfl⟩ := owns_form ho1
  have HB := Lib.hid (below_step (((Below.refl w.heap.size w).alloc (by first | exact Nat.le_refl _ | (simp; done) | (simp; omega) | omega) _).alloc (by first | exact Nat.le_refl _ | (simp; done) | (simp; omega) | omega) _) (by first | exact Nat.le_refl _ | (simp; done) | (simp; omega) | omega) hb)
  have b3 := ((Blk.new_at (w := w) (n := w.heap.size) #[.int .i64 x, .int .i64 y, .int .i64 z] 23 (by simp)).alloc (.cells #[.int .i64 d0, .int .i64 d1, .int .i64 d2] 24)).below hb (by first | exact Nat.le_refl _ | (simp; done) | (simp; omega) | omega)
  have b4 := (Blk.new_at (w := (w.alloc (.cells #[.int .i64 x, .int .i64 y, .int .i64 z] 23))) (n := w.heap.size + 1) #[.int .i64 d0, .int .i64 d1, .int .i64 d2] 24 (by simp)).below hb (by first | exact Nat.le_refl _ | (simp; done) | (simp; omega) | omega)
  clear hb
  have b3_l := b3.lt
  have b3_0 := b3.cell 0 rfl
  have b3_1 := b3.cell 1 rfl
  have b3_2 := b3.cell 2 rfl
  have b4_l := b4.lt
  have b4_0 := b4.cell 0 rfl
  have b4_1 := b4.cell 1 rfl
  have b4_2 := b4.cell 2 rfl
  obtain ⟨l1, hl1⟩ : ∃ l, (wayP x y z d0 d1 d2 n).length = l := ⟨_, rfl⟩
  obtain ⟨r1, hr1⟩ : ∃ r, wayE x y z d0 d1 d2 n = r := ⟨_, rfl⟩
  rw [hr1]
  by_cases hE : r1 = 0
  rotate_left
  · have hl0 : wayP x y z d0 d1 d2 n = [] := by unfold wayP; rw [hr1, if_neg hE]
    rw [hl0]
    clear ho1 hl1
    replace hr1 := Lib.hid hr1
    replace hl0 := Lib.hid hl0
    rw [show ([] : List (Int × Int × Int)).length = 0 from rfl]
    go_wp2_with fail
    refine (awake_calls _).mono ?_
    rintro e w2 ⟨rfl, hb⟩
    replace HB := Lib.hid (below_step HB.out HB.out.size hb)
    go_wp2_with fail
    try rw [Exit.noGoto_ret]
    go_ret
    exact ⟨rfl, HB.out⟩
  subst hE
  obtain ⟨k1, k2, k3, k4, k5, k6, k7⟩ := wayE_zero hr1
  rw [wayP_zero hr1] at hl1 ho1
  rw [wayP_zero hr1, hl1]
  obtain ⟨N, rfl⟩ : ∃ N : Nat, n = N := ⟨n.toNat, by omega⟩
  simp only [Int.toNat_natCast] at hl1 ho1
  have hle : l1 ≤ N := hl1 ▸ wayL_le _ _ _ _ _
  have hrow : ∃ g cs, Blk w1 g cs 23 ∧ ∀ k p, (wayL d0 d1 d2 N (start x y z))[k]? = some p → a1 = some ⟨g, 0, none⟩ ∧ cs[k * 3]? = some (.int .i64 p.1) ∧ cs[k * 3 + 1]? = some (.int .i64 p.2.1) ∧ cs[k * 3 + 2]? = some (.int .i64 p.2.2) := by
    obtain ⟨_, h⟩ | ⟨g, cap, cs, hv, hg, hgb, hc⟩ := own_cases ho1
    · exact ⟨_, _, b3, fun k p hp => by rw [h] at hp; cases hp⟩
    · refine ⟨g, cs, hgb, fun k p hp => ?_⟩
      have hlt := (List.getElem?_eq_some_iff.1 hp).1
      obtain ⟨c0, c1, c2⟩ := cellsP_at hp
      exact ⟨by injection hv, (hc _ (by omega)).trans c0, (hc _ (by omega)).trans c1, (hc _ (by omega)).trans c2⟩
  obtain ⟨g, cs, bg, hrow⟩ := hrow
  clear ho1
  have hN : N ≤ 256 := by omega
  replace hr1 := Lib.hid hr1
  replace hl1 := Lib.hid hl1
  replace hrow := Lib.hid hrow
  replace k6 := Lib.hid k6
  replace k5 := Lib.hid k5
  replace k4 := Lib.hid k4
  replace k3 := Lib.hid k3
  clear k1 k2 k7
  have hle' : (l1 : Int) ≤ (N : Int) := by omega
  have hdN : decide (N < l1) = false := decide_eq_false (by omega)
  go_upto_region 7 with (fail)
  refine wp_world (fun W => Below w.heap.size w W ∧ w1.heap.size < W.heap.size ∧ Blk W w.heap.size (N3 x y z) 23 ∧ Blk W (w.heap.size + 1) (N3 d0 d1 d2) 24 ∧ Blk W w1.heap.size (N3 x y z) 23 ∧ Blk W g cs 23) ⟨HB.out.alloc HB.out.size _, by simp, b3.alloc _, b4.alloc _, Blk.new w1 _ _, bg.alloc _⟩ ?_
  have o1 := b4.lt
  have o2 := bg.lt
  clear b3_l b3_0 b3_1 b3_2
  clear b4_l b4_0 b4_1 b4_2
  clear b3 b4 bg HB
  rintro W0 ⟨HB, hz, b3, b4, b9, bg⟩
  generalize w1.heap.size = p9 at *
  generalize hp4 : w.heap.size + 1 = p4 at *
  generalize hp3 : w.heap.size = p3 at *
  have o3 : p3 < p4 := by omega
  clear hp4
  go_wp2_with fail
  go_loopw [10] (fun i W => ∃ (k : Nat) (q : Int × Int × Int), k ≤ l1 ∧ i = .int .i64 k ∧ (k = 0 → q = (x, y, z)) ∧ (∀ i', k = i' + 1 → (wayL d0 d1 d2 N (start x y z))[i']? = some q) ∧ Below p3 w W ∧ p9 < W.heap.size ∧ Blk W p3 (N3 x y z) 23 ∧ Blk W p4 (N3 d0 d1 d2) 24 ∧ Blk W p9 (N3 q.1 q.2.1 q.2.2) 23 ∧ Blk W g cs 23) (fun i _ => l1 - (intOf i).toNat)
  case atStart => exact ⟨0, (x, y, z), by omega, rfl, fun _ => rfl, fun i' h => by omega, HB, hz, b3, b4, b9, bg⟩
  case round =>
    clear HB hz b3 b4 b9 bg
    obtain ⟨k, ⟨qx, qy, qz⟩, hk, rfl, hq0, hq1, HB, hz, b3, b4, b9, bg⟩ := hrel
    simp only at b9
    by_cases hkn : k = l1
    · rw [hkn]
      clear hkn hk hq0 hq1
      have hzz : p3 ≤ wr.heap.size := by omega
      replace HB := Lib.hid HB
      go_wp2_with fail
      refine (awake_calls _).mono ?_
      rintro e w4 ⟨rfl, hb⟩
      have HB4 := below_step HB.out hzz hb
      go_wp2_with fail
      try rw [Exit.noGoto_ret]
      go_ret
      exact ⟨rfl, hp3 ▸ HB4⟩
    · have hk' : k < l1 := by omega
      clear hkn
      obtain ⟨⟨px, py, pz⟩, hp⟩ : ∃ p, (wayL d0 d1 d2 N (start x y z))[k]? = some p := ⟨_, List.getElem?_eq_getElem (by rw [hl1.out]; exact hk')⟩
      obtain ⟨rfl, hc0, hc1, hc2⟩ := hrow.out k _ hp
      simp only at hc0 hc1 hc2
      obtain ⟨⟨C, hC⟩, M, S, hT⟩ := straight_at hN k3.out k4.out k5.out k6.out hp _ hq0 hq1
      simp only at hC hT
      clear hq0 hq1
      replace hp := Lib.hid hp
      replace hC := Lib.hid hC
      replace hT := Lib.hid hT
      go_upto_region 10 with (fail)
      refine wp_region_frame (by kernel_rfl) (by kernel_rfl) (by kernel_rfl) [42, 43, 44, 45, 46, 47, 48, 11, 12] (by kernel_rfl)
        (fun L f W => Below p3 w W ∧ p9 < W.heap.size ∧ Blk W p3 (N3 x y z) 23 ∧ Blk W p4 (N3 d0 d1 d2) 24 ∧ Blk W p9 (N3 qx qy qz) 23 ∧ Blk W g cs 23 ∧
      f 9 = .pointer (some ⟨p9, 0, none⟩) ∧ f 7 = .slice (some ⟨g, 0, none⟩) l1 c1 ∧ f 10 = .int .i64 k ∧
      (L 0 = true → f 42 = .agg #[.int .i64 qx, .int .i64 qy, .int .i64 qz]) ∧ (L 1 = true → f 43 = .agg #[.int .i64 qx, .int .i64 qy, .int .i64 qz]) ∧ (L 2 = true → f 44 = .slice (some ⟨g, 0, none⟩) l1 c1) ∧ (L 3 = true → f 45 = .int .i64 k) ∧ (L 4 = true → f 46 = .pointer (some ⟨g, k * 3, none⟩)) ∧ (L 5 = true → f 47 = .agg #[.int .i64 px, .int .i64 py, .int .i64 pz]) ∧ (L 6 = true → f 48 = .agg #[.int .i64 px, .int .i64 py, .int .i64 pz]) ∧
      (L 7 = true → ∃ h, f 11 = .pointer (some ⟨h, 0, none⟩) ∧ p9 < h ∧ Blk W h (if L 9 = true then N3 qx qy qz else N3 0 0 0) 24) ∧
      (L 8 = true → ∃ h, f 12 = .pointer (some ⟨h, 0, none⟩) ∧ p9 < h ∧ Blk W h (if L 10 = true then N3 px py pz else N3 0 0 0) 24) ∧
      (L 7 = true → L 8 = true → f 11 ≠ f 12) ∧ (L 9 = true → L 7 = true) ∧ (L 10 = true → L 8 = true)) ?_ ?_ ?_
      · exact ⟨HB.drew, hz, b3, b4, b9, bg, rfl, rfl, rfl, by simp, by simp, by simp, by simp, by simp, by simp, by simp, by simp, by simp, by simp, by simp, by simp⟩
      · clear b3 b4 b9 bg HB hz
        rintro L f W ⟨HB, hz, b3, b4, b9, bg, e9, e7, e10, l0, l1', l2, l3, l4, l5, l6, l7, l8, l78, l97, l108⟩ i o hoo hL hdep
        have hi : i < 11 := by
          have := (List.getElem?_eq_some_iff.1 hoo).1
          simpa using this
        have q9 : ev f (.tmp 9) = .pointer (some ⟨p9, 0, none⟩) := e9
        have q7 : ev f (.tmp 7) = .slice (some ⟨g, 0, none⟩) l1 c1 := e7
        have q10 : ev f (.tmp 10) = .int .i64 k := e10
        have hps : p3 ≤ W.heap.size := by omega
        obtain rfl | rfl | rfl | rfl | rfl | rfl | rfl | rfl | rfl | rfl | rfl : i = 0 ∨ i = 1 ∨ i = 2 ∨ i = 3 ∨ i = 4 ∨ i = 5 ∨ i = 6 ∨ i = 7 ∨ i = 8 ∨ i = 9 ∨ i = 10 := by omega
        all_goals obtain rfl := Option.some.inj hoo
        all_goals
          clear hoo hi
          simp [Region.binds] at hdep
        · have c0 := b9.cell 0 rfl
          have c1 := b9.cell 1 rfl
          have c2 := b9.cell 2 rfl
          refine fwp_value (v := .agg #[.int .i64 qx, .int .i64 qy, .int .i64 qz]) (w' := W) ?_ ?_
          · simp only [execOp, q9]
            go_simp
          · simp only [updF, upd, Nat.reduceEqDiff, if_true, if_false, true_implies, reduceIte]
            repeat' first | assumption | exact trivial | exact rfl | exact fun _ => rfl | exact fun _ => by assumption | apply And.intro
        · have q42 : ev f (.tmp 42) = .agg #[.int .i64 qx, .int .i64 qy, .int .i64 qz] := l0 (by simp only [hdep])
          refine fwp_call (g := 13) (args := #[.agg #[.int .i64 qx, .int .i64 qy, .int .i64 qz]]) (w' := W) ?_ ?_
          · simp only [execOp, q42]
            go_simp
            simp only [ev_func]
            go_simp
          · refine (numbers_calls _ _ _ _).mono ?_
            rintro e W' ⟨rfl, hb⟩
            refine ⟨_, rfl, ?_⟩
            replace HB := below_step HB hps hb
            replace hz := Nat.lt_of_lt_of_le hz hb.size
            replace b3 := b3.below hb b3.lt
            replace b4 := b4.below hb b4.lt
            replace b9 := b9.below hb b9.lt
            replace bg := bg.below hb bg.lt
            replace l7 : L 7 = true → ∃ h, f 11 = .pointer (some ⟨h, 0, none⟩) ∧ p9 < h ∧ Blk W' h (if L 9 = true then N3 qx qy qz else N3 0 0 0) 24 := fun hh => by
              obtain ⟨h, g1, g2, g4⟩ := l7 hh
              exact ⟨h, g1, g2, g4.below hb g4.lt⟩
            replace l8 : L 8 = true → ∃ h, f 12 = .pointer (some ⟨h, 0, none⟩) ∧ p9 < h ∧ Blk W' h (if L 10 = true then N3 px py pz else N3 0 0 0) 24 := fun hh => by
              obtain ⟨h, g1, g2, g4⟩ := l8 hh
              exact ⟨h, g1, g2, g4.below hb g4.lt⟩
            simp only [updF, upd, Nat.reduceEqDiff, if_true, if_false, true_implies, reduceIte]
            repeat' first | assumption | exact trivial | exact rfl | exact fun _ => rfl | exact fun _ => by assumption | apply And.intro
        · refine fwp_value (v := .slice (some ⟨g, 0, none⟩) l1 c1) (w' := W) ?_ ?_
          · simp only [execOp, q7]
            go_simp
          · simp only [updF, upd, Nat.reduceEqDiff, if_true, if_false, true_implies, reduceIte]
            repeat' first | assumption | exact trivial | exact rfl | exact fun _ => rfl | exact fun _ => by assumption | apply And.intro
        · refine fwp_value (v := .int .i64 k) (w' := W) ?_ ?_
          · simp only [execOp, q10]
            go_simp
          · simp only [updF, upd, Nat.reduceEqDiff, if_true, if_false, true_implies, reduceIte]
            repeat' first | assumption | exact trivial | exact rfl | exact fun _ => rfl | exact fun _ => by assumption | apply And.intro
        · have q44 : ev f (.tmp 44) = .slice (some ⟨g, 0, none⟩) l1 c1 := l2 (by simp only [hdep])
          have q45 : ev f (.tmp 45) = .int .i64 k := l3 (by simp only [hdep])
          refine fwp_value (v := .pointer (some ⟨g, k * 3, none⟩)) (w' := W) ?_ ?_
          · simp only [execOp, q44, q45]
            go_simp
          · simp only [updF, upd, Nat.reduceEqDiff, if_true, if_false, true_implies, reduceIte]
            repeat' first | assumption | exact trivial | exact rfl | exact fun _ => rfl | exact fun _ => by assumption | apply And.intro
        · have q46 : ev f (.tmp 46) = .pointer (some ⟨g, k * 3, none⟩) := l4 (by simp only [hdep])
          have c0 := bg.cell _ hc0
          have c1 := bg.cell _ hc1
          have c2 := bg.cell _ hc2
          refine fwp_value (v := .agg #[.int .i64 px, .int .i64 py, .int .i64 pz]) (w' := W) ?_ ?_
          · simp only [execOp, q46]
            go_simp
          · simp only [updF, upd, Nat.reduceEqDiff, if_true, if_false, true_implies, reduceIte]
            repeat' first | assumption | exact trivial | exact rfl | exact fun _ => rfl | exact fun _ => by assumption | apply And.intro
        · have q47 : ev f (.tmp 47) = .agg #[.int .i64 px, .int .i64 py, .int .i64 pz] := l5 (by simp only [hdep])
          refine fwp_call (g := 13) (args := #[.agg #[.int .i64 px, .int .i64 py, .int .i64 pz]]) (w' := W) ?_ ?_
          · simp only [execOp, q47]
            go_simp
            simp only [ev_func]
            go_simp
          · refine (numbers_calls _ _ _ _).mono ?_
            rintro e W' ⟨rfl, hb⟩
            refine ⟨_, rfl, ?_⟩
            replace HB := below_step HB hps hb
            replace hz := Nat.lt_of_lt_of_le hz hb.size
            replace b3 := b3.below hb b3.lt
            replace b4 := b4.below hb b4.lt
            replace b9 := b9.below hb b9.lt
            replace bg := bg.below hb bg.lt
            replace l7 : L 7 = true → ∃ h, f 11 = .pointer (some ⟨h, 0, none⟩) ∧ p9 < h ∧ Blk W' h (if L 9 = true then N3 qx qy qz else N3 0 0 0) 24 := fun hh => by
              obtain ⟨h, g1, g2, g4⟩ := l7 hh
              exact ⟨h, g1, g2, g4.below hb g4.lt⟩
            replace l8 : L 8 = true → ∃ h, f 12 = .pointer (some ⟨h, 0, none⟩) ∧ p9 < h ∧ Blk W' h (if L 10 = true then N3 px py pz else N3 0 0 0) 24 := fun hh => by
              obtain ⟨h, g1, g2, g4⟩ := l8 hh
              exact ⟨h, g1, g2, g4.below hb g4.lt⟩
            simp only [updF, upd, Nat.reduceEqDiff, if_true, if_false, true_implies, reduceIte]
            repeat' first | assumption | exact trivial | exact rfl | exact fun _ => rfl | exact fun _ => by assumption | apply And.intro
        · have hLj : L 9 = false := by cases h : L 9 with
            | false => rfl
            | true => rw [l97 h] at hL; cases hL
          refine fwp_value (v := .pointer (some ⟨W.heap.size, 0, none⟩)) (w' := W.alloc (.cells #[.int .i64 0, .int .i64 0, .int .i64 0] 24)) ?_ ?_
          · simp only [execOp]
            go_simp
          · have hne : L 8 = true → Value.pointer (some ⟨W.heap.size, 0, none⟩) ≠ f 12 := fun h e => by
              obtain ⟨h, g1, g2, g4⟩ := l8 h
              rw [g1] at e
              have := g4.lt
              injection e with e; injection e with e; injection e with e
              omega
            replace l7 : ∃ h, Value.pointer (some ⟨W.heap.size, 0, none⟩) = .pointer (some ⟨h, 0, none⟩) ∧ p9 < h ∧ Blk (W.alloc (.cells #[.int .i64 0, .int .i64 0, .int .i64 0] 24)) h (if L 9 = true then N3 qx qy qz else N3 0 0 0) 24 := by
              refine ⟨_, rfl, hz, ?_⟩
              rw [hLj]
              exact Blk.new W _ _
            replace l8 : L 8 = true → ∃ h, f 12 = .pointer (some ⟨h, 0, none⟩) ∧ p9 < h ∧ Blk (W.alloc (.cells #[.int .i64 0, .int .i64 0, .int .i64 0] 24)) h (if L 10 = true then N3 px py pz else N3 0 0 0) 24 := fun hh => by
              obtain ⟨h, g1, g2, g4⟩ := l8 hh
              exact ⟨h, g1, g2, g4.alloc _⟩
            replace HB := HB.alloc hps (.cells #[.int .i64 0, .int .i64 0, .int .i64 0] 24)
            replace hz : p9 < (W.alloc (.cells #[.int .i64 0, .int .i64 0, .int .i64 0] 24)).heap.size := by simp; omega
            replace b3 := b3.alloc (.cells #[.int .i64 0, .int .i64 0, .int .i64 0] 24)
            replace b4 := b4.alloc (.cells #[.int .i64 0, .int .i64 0, .int .i64 0] 24)
            replace b9 := b9.alloc (.cells #[.int .i64 0, .int .i64 0, .int .i64 0] 24)
            replace bg := bg.alloc (.cells #[.int .i64 0, .int .i64 0, .int .i64 0] 24)
            simp only [updF, upd, Nat.reduceEqDiff, if_true, if_false, true_implies, reduceIte]
            repeat' first | assumption | exact trivial | exact rfl | exact fun _ => rfl | exact fun _ => by assumption | apply And.intro
        · have hLj : L 10 = false := by cases h : L 10 with
            | false => rfl
            | true => rw [l108 h] at hL; cases hL
          refine fwp_value (v := .pointer (some ⟨W.heap.size, 0, none⟩)) (w' := W.alloc (.cells #[.int .i64 0, .int .i64 0, .int .i64 0] 24)) ?_ ?_
          · simp only [execOp]
            go_simp
          · have hne : L 7 = true → f 11 ≠ Value.pointer (some ⟨W.heap.size, 0, none⟩) := fun h e => by
              obtain ⟨h, g1, g2, g4⟩ := l7 h
              rw [g1] at e
              have := g4.lt
              injection e with e; injection e with e; injection e with e
              omega
            replace l8 : ∃ h, Value.pointer (some ⟨W.heap.size, 0, none⟩) = .pointer (some ⟨h, 0, none⟩) ∧ p9 < h ∧ Blk (W.alloc (.cells #[.int .i64 0, .int .i64 0, .int .i64 0] 24)) h (if L 10 = true then N3 px py pz else N3 0 0 0) 24 := by
              refine ⟨_, rfl, hz, ?_⟩
              rw [hLj]
              exact Blk.new W _ _
            replace l7 : L 7 = true → ∃ h, f 11 = .pointer (some ⟨h, 0, none⟩) ∧ p9 < h ∧ Blk (W.alloc (.cells #[.int .i64 0, .int .i64 0, .int .i64 0] 24)) h (if L 9 = true then N3 qx qy qz else N3 0 0 0) 24 := fun hh => by
              obtain ⟨h, g1, g2, g4⟩ := l7 hh
              exact ⟨h, g1, g2, g4.alloc _⟩
            replace HB := HB.alloc hps (.cells #[.int .i64 0, .int .i64 0, .int .i64 0] 24)
            replace hz : p9 < (W.alloc (.cells #[.int .i64 0, .int .i64 0, .int .i64 0] 24)).heap.size := by simp; omega
            replace b3 := b3.alloc (.cells #[.int .i64 0, .int .i64 0, .int .i64 0] 24)
            replace b4 := b4.alloc (.cells #[.int .i64 0, .int .i64 0, .int .i64 0] 24)
            replace b9 := b9.alloc (.cells #[.int .i64 0, .int .i64 0, .int .i64 0] 24)
            replace bg := bg.alloc (.cells #[.int .i64 0, .int .i64 0, .int .i64 0] 24)
            simp only [updF, upd, Nat.reduceEqDiff, if_true, if_false, true_implies, reduceIte]
            repeat' first | assumption | exact trivial | exact rfl | exact fun _ => rfl | exact fun _ => by assumption | apply And.intro
        · have q43 : ev f (.tmp 43) = .agg #[.int .i64 qx, .int .i64 qy, .int .i64 qz] := l1' (by simp only [hdep])
          have hLi : L 7 = true := by simp only [hdep]
          obtain ⟨h, g1, g2, g4⟩ := l7 hLi
          have q11 : ev f (.tmp 11) = .pointer (some ⟨h, 0, none⟩) := g1
          rw [hL] at g4
          have y0 := g4.cell 0 rfl
          have y1 := g4.cell 1 rfl
          have y2 := g4.cell 2 rfl
          have z0 := g4.frozen 0
          have z1 := g4.frozen 1
          have z2 := g4.frozen 2
          refine fwp_skip (w' := (((W.setCell ⟨h, 0, none⟩ (.int .i64 qx)).setCell ⟨h, 1, none⟩ (.int .i64 qy)).setCell ⟨h, 2, none⟩ (.int .i64 qz))) ?_ ?_
          · simp only [execOp, q11, q43]
            go_simp
          · have l7 : ∃ h', f 11 = .pointer (some ⟨h', 0, none⟩) ∧ p9 < h' ∧ Blk (((W.setCell ⟨h, 0, none⟩ (.int .i64 qx)).setCell ⟨h, 1, none⟩ (.int .i64 qy)).setCell ⟨h, 2, none⟩ (.int .i64 qz)) h' (N3 qx qy qz) 24 :=
              ⟨h, g1, g2, ((g4.set 0 (.int .i64 qx)).set 1 (.int .i64 qy)).set 2 (.int .i64 qz)⟩
            replace l8 : L 8 = true → ∃ h', f 12 = .pointer (some ⟨h', 0, none⟩) ∧ p9 < h' ∧ Blk (((W.setCell ⟨h, 0, none⟩ (.int .i64 qx)).setCell ⟨h, 1, none⟩ (.int .i64 qy)).setCell ⟨h, 2, none⟩ (.int .i64 qz)) h' (if L 10 = true then N3 px py pz else N3 0 0 0) 24 := fun hh => by
              obtain ⟨h', k1, k2, k4⟩ := l8 hh
              have hne : h' ≠ h := fun e => by subst e; exact l78 hLi hh (g1.trans k1.symm)
              exact ⟨h', k1, k2, ((k4.set_other _ hne).set_other _ hne).set_other _ hne⟩
            have st : ∀ b cs T, Blk W b cs T → b ≠ h → Blk (((W.setCell ⟨h, 0, none⟩ (.int .i64 qx)).setCell ⟨h, 1, none⟩ (.int .i64 qy)).setCell ⟨h, 2, none⟩ (.int .i64 qz)) b cs T := fun b cs T hb hne => ((hb.set_other _ hne).set_other _ hne).set_other _ hne
            replace b3 := st _ _ _ b3 (by omega)
            replace b4 := st _ _ _ b4 (by omega)
            replace b9 := st _ _ _ b9 (by omega)
            replace bg := st _ _ _ bg (by omega)
            replace HB := ((HB.setCell (p := ⟨h, 0, none⟩) (show p3 ≤ h by omega) (.int .i64 qx)).setCell (p := ⟨h, 1, none⟩) (show p3 ≤ h by omega) (.int .i64 qy)).setCell (p := ⟨h, 2, none⟩) (show p3 ≤ h by omega) (.int .i64 qz)
            replace hz : p9 < (((W.setCell ⟨h, 0, none⟩ (.int .i64 qx)).setCell ⟨h, 1, none⟩ (.int .i64 qy)).setCell ⟨h, 2, none⟩ (.int .i64 qz)).heap.size := b9.lt
            clear st
            simp only [updF, upd, Nat.reduceEqDiff, if_true, if_false, true_implies, reduceIte]
            repeat' first | assumption | exact trivial | exact rfl | exact fun _ => rfl | exact fun _ => by assumption | apply And.intro
        · have q48 : ev f (.tmp 48) = .agg #[.int .i64 px, .int .i64 py, .int .i64 pz] := l6 (by simp only [hdep])
          have hLi : L 8 = true := by simp only [hdep]
          obtain ⟨h, g1, g2, g4⟩ := l8 hLi
          have q12 : ev f (.tmp 12) = .pointer (some ⟨h, 0, none⟩) := g1
          rw [hL] at g4
          have y0 := g4.cell 0 rfl
          have y1 := g4.cell 1 rfl
          have y2 := g4.cell 2 rfl
          have z0 := g4.frozen 0
          have z1 := g4.frozen 1
          have z2 := g4.frozen 2
          refine fwp_skip (w' := (((W.setCell ⟨h, 0, none⟩ (.int .i64 px)).setCell ⟨h, 1, none⟩ (.int .i64 py)).setCell ⟨h, 2, none⟩ (.int .i64 pz))) ?_ ?_
          · simp only [execOp, q12, q48]
            go_simp
          · have l8 : ∃ h', f 12 = .pointer (some ⟨h', 0, none⟩) ∧ p9 < h' ∧ Blk (((W.setCell ⟨h, 0, none⟩ (.int .i64 px)).setCell ⟨h, 1, none⟩ (.int .i64 py)).setCell ⟨h, 2, none⟩ (.int .i64 pz)) h' (N3 px py pz) 24 :=
              ⟨h, g1, g2, ((g4.set 0 (.int .i64 px)).set 1 (.int .i64 py)).set 2 (.int .i64 pz)⟩
            replace l7 : L 7 = true → ∃ h', f 11 = .pointer (some ⟨h', 0, none⟩) ∧ p9 < h' ∧ Blk (((W.setCell ⟨h, 0, none⟩ (.int .i64 px)).setCell ⟨h, 1, none⟩ (.int .i64 py)).setCell ⟨h, 2, none⟩ (.int .i64 pz)) h' (if L 9 = true then N3 qx qy qz else N3 0 0 0) 24 := fun hh => by
              obtain ⟨h', k1, k2, k4⟩ := l7 hh
              have hne : h' ≠ h := fun e => by subst e; exact l78 hh hLi (k1.trans g1.symm)
              exact ⟨h', k1, k2, ((k4.set_other _ hne).set_other _ hne).set_other _ hne⟩
            have st : ∀ b cs T, Blk W b cs T → b ≠ h → Blk (((W.setCell ⟨h, 0, none⟩ (.int .i64 px)).setCell ⟨h, 1, none⟩ (.int .i64 py)).setCell ⟨h, 2, none⟩ (.int .i64 pz)) b cs T := fun b cs T hb hne => ((hb.set_other _ hne).set_other _ hne).set_other _ hne
            replace b3 := st _ _ _ b3 (by omega)
            replace b4 := st _ _ _ b4 (by omega)
            replace b9 := st _ _ _ b9 (by omega)
            replace bg := st _ _ _ bg (by omega)
            replace HB := ((HB.setCell (p := ⟨h, 0, none⟩) (show p3 ≤ h by omega) (.int .i64 px)).setCell (p := ⟨h, 1, none⟩) (show p3 ≤ h by omega) (.int .i64 py)).setCell (p := ⟨h, 2, none⟩) (show p3 ≤ h by omega) (.int .i64 pz)
            replace hz : p9 < (((W.setCell ⟨h, 0, none⟩ (.int .i64 px)).setCell ⟨h, 1, none⟩ (.int .i64 py)).setCell ⟨h, 2, none⟩ (.int .i64 pz)).heap.size := b9.lt
            clear st
            simp only [updF, upd, Nat.reduceEqDiff, if_true, if_false, true_implies, reduceIte]
            repeat' first | assumption | exact trivial | exact rfl | exact fun _ => rfl | exact fun _ => by assumption | apply And.intro
      clear b3 b4 b9 bg HB hz
      rintro L f W ⟨HB, hz, b3, b4, b9, bg, e9, e7, e10, l0, l1', l2, l3, l4, l5, l6, l7, l8, l78, l97, l108⟩ hall
      obtain ⟨ha, g1, g2, g4⟩ := l7 (hall 7 (by show 7 < 11; omega))
      obtain ⟨hb, m1, m2, m4⟩ := l8 (hall 8 (by show 8 < 11; omega))
      rw [if_pos (hall 9 (by show 9 < 11; omega))] at g4
      rw [if_pos (hall 10 (by show 10 < 11; omega))] at m4
      simp only [putAll, g1, m1]
      go_simp
      clear hall l0 l1' l2 l3 l4 l5 l6 l7 l8 l78 l97 l108 e9 e7 e10
      replace HB := Lib.hid HB
      replace b3 := Lib.hid b3
      replace b4 := Lib.hid b4
      replace b9 := Lib.hid b9
      replace bg := Lib.hid bg
      replace g4 := Lib.hid g4
      replace m4 := Lib.hid m4
      replace hc0 := Lib.hid hc0
      replace hc1 := Lib.hid hc1
      replace hc2 := Lib.hid hc2
      go_wp2_with fail
      go_loopw [13, 14] (fun s i W' => ∃ j : Nat, j ≤ 3 ∧ i = .int .i64 j ∧ s = .int .i64 (C j) ∧ ∃ r, W' = W.drewN r) (fun _ i _ => 3 - (intOf i).toNat)
      case atStart => exact ⟨0, by omega, rfl, by rw [hC.out.1], 0, rfl⟩
      case round =>
        obtain ⟨j, hj, rfl, rfl, r, rfl⟩ := hrel
        by_cases hjn : j = 3
        · rw [hjn, hC.out.2.1, show ((3 : Nat) : Int) = 3 from rfl]
          clear hjn hj
          go_upto_region 20 with (fail)
          have HB5 := below_drewN HB.out r
          have b3' := b3.out.drewN r
          have b4' := b4.out.drewN r
          have b9' := b9.out.drewN r
          have bg' := bg.out.drewN r
          have hz5 : p9 < (W.drewN r).heap.size := hz
          generalize W.drewN r = W5 at *
          have x0 := b3'.cells_ext 0 rfl
          have x1 := b3'.cells_ext 1 rfl
          have x2 := b3'.cells_ext 2 rfl
          have y0 := b4'.cells_ext 0 rfl
          have y1 := b4'.cells_ext 1 rfl
          have y2 := b4'.cells_ext 2 rfl
          have z0 := bg'.cells_ext _ hc0.out
          have z1 := bg'.cells_ext _ hc1.out
          have z2 := bg'.cells_ext _ hc2.out
          refine wp_region_ext (by kernel_rfl) (by kernel_rfl) ?_
          repeat (quiet_step (first | (go_at_call 14; exact calls_ext_of (touches_calls _ _ _ _ _ _ _ _ _ _ M S hT.out.1 hT.out.2.1 hT.out.2.2.1 hT.out.2.2.2.1 hT.out.2.2.2.2))))
          refine wpQuiet_nil ?_
          intro _ hw'
          obtain ⟨pq, hw''⟩ := hw'
          subst hw''
          clear x0 x1 x2 y0 y1 y2 z0 z1 z2
          have HB6 := Lib.hid (below_step HB5 (by omega) (below_ext W5 pq))
          replace b3' := Lib.hid (b3'.ext pq)
          replace b4' := Lib.hid (b4'.ext pq)
          replace b9' := b9'.ext pq
          replace bg' := bg'.ext pq
          have hz6 := b9'.lt
          generalize ext W5 pq = W6 at *
          clear HB5 hz5
          have c0 := bg'.cell _ hc0.out
          have c1 := bg'.cell _ hc1.out
          have c2 := bg'.cell _ hc2.out
          have b9'_l := b9'.lt
          have b9'_0 := b9'.cell 0 rfl
          have b9'_1 := b9'.cell 1 rfl
          have b9'_2 := b9'.cell 2 rfl
          have b9'_f0 := b9'.frozen 0
          have b9'_f1 := b9'.frozen 1
          have b9'_f2 := b9'.frozen 2
          replace bg' := Lib.hid bg'
          replace b9' := Lib.hid b9'
          go_wp2_with fail
          have m0 : p3 ≠ p9 := by omega
          have m1 : p4 ≠ p9 := by omega
          have m2 : g ≠ p9 := by omega
          have mm : p3 ≤ p9 := by omega
          refine ⟨⟨k + 1, (px, py, pz), by omega, rfl, fun h => by omega, fun i' h => ?_, ((HB6.out.setCell (p := ⟨p9, 0, none⟩) mm _).setCell (p := ⟨p9, 1, none⟩) mm _).setCell (p := ⟨p9, 2, none⟩) mm _, ?_, ((b3'.out.set_other _ m0).set_other _ m0).set_other _ m0, ((b4'.out.set_other _ m1).set_other _ m1).set_other _ m1, ((b9'.out.set 0 _).set 1 _).set 2 _, ((bg'.out.set_other _ m2).set_other _ m2).set_other _ m2⟩, by simp [intOf]; omega⟩
          · obtain rfl : i' = k := by omega
            exact hp.out
          · simpa using hz6
        · have j' : j < 3 := by omega
          clear hjn
          obtain ⟨Q, hQ⟩ : ∃ F, sel qx qy qz j = F := ⟨_, rfl⟩
          obtain ⟨P, hP⟩ : ∃ P, sel px py pz j = P := ⟨_, rfl⟩
          obtain ⟨D, hD⟩ : ∃ D, sel d0 d1 d2 j = D := ⟨_, rfl⟩
          obtain ⟨u, hu⟩ : ∃ u, C j = u := ⟨_, rfl⟩
          obtain ⟨u', hu'⟩ : ∃ u, C (j + 1) = u := ⟨_, rfl⟩
          have y11 : W.cell? ⟨ha, j, none⟩ = some (.int .i64 Q) := hQ ▸ g4.out.cell j (N3_at _ _ _ j')
          have y12 : W.cell? ⟨hb, j, none⟩ = some (.int .i64 P) := hP ▸ m4.out.cell j (N3_at _ _ _ j')
          have y4 : W.cell? ⟨p4, j, none⟩ = some (.int .i64 D) := hD ▸ b4.out.cell j (N3_at _ _ _ j')
          have hc := hC.out.2.2 j j'
          rw [hQ, hP, hD, hu, hu'] at hc
          rw [hu]
          obtain ⟨hr, hc⟩ := hc
          have kb : (j : Int) < 3 := by omega
          replace hQ := Lib.hid hQ
          replace hP := Lib.hid hP
          replace hD := Lib.hid hD
          replace hu := Lib.hid hu
          rcases hc with ⟨e1, e2⟩ | ⟨e1, e2, e3⟩ | ⟨e1, e2, e3⟩
          · have v0 : IntKind.i64.wrap (P - Q) = 0 := by rw [e1]; rfl
            clear e1
            replace e2 := Lib.hid e2
            go_wp2_with fail
            go_quiet (fail)
            go_wp2_with fail
            exact ⟨⟨j + 1, by omega, rfl, by rw [hu', e2.out], r + nq, rfl⟩, by simp [intOf]; omega⟩
          · have v0 : IntKind.i64.wrap (P - Q) = 1 := by rw [e1]; rfl
            have v1 : IntKind.i64.wrap (u + 1) = u + 1 := IntWalk.i64_in _ (by omega)
            have v2 : ¬ D ≤ 0 := by omega
            clear e1
            replace e3 := Lib.hid e3
            go_wp2_with fail
            go_quiet (fail)
            go_wp2_with fail
            exact ⟨⟨j + 1, by omega, rfl, by rw [hu', e3.out], r + nq, rfl⟩, by simp [intOf]; omega⟩
          · have v0 : IntKind.i64.wrap (P - Q) = -1 := by rw [e1]; rfl
            have v1 : IntKind.i64.wrap (u + 1) = u + 1 := IntWalk.i64_in _ (by omega)
            have v2 : ¬ 0 ≤ D := by omega
            clear e1
            replace e3 := Lib.hid e3
            go_wp2_with fail
            go_quiet (fail)
            go_wp2_with fail
            exact ⟨⟨j + 1, by omega, rfl, by rw [hu', e3.out], r + nq, rfl⟩, by simp [intOf]; omega⟩
end Go.Proofs.Ytdhanigngoniiaa
