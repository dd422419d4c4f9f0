/-
  PlaceBack's walk.
-/
import Derived.Test.YtjodiclmibiboaaWorks02
namespace Go.Proofs.Ytjodiclmibiboaa
open Go.RowKit
set_option linter.unusedSimpArgs false
set_option linter.unusedVariables false

theorem back1 {x y z : Int} (h : mayB x y z = true) : mayS (x / 16) (y / 16) (z / 16) = true ∧ 0 ≤ y % 16 * 256 + z % 16 * 16 + x % 16 ∧ y % 16 * 256 + z % 16 * 16 + x % 16 < 4096 ∧
    x / 16 * 16 + (y % 16 * 256 + z % 16 * 16 + x % 16) % 16 = x ∧ y / 16 * 16 + (y % 16 * 256 + z % 16 * 16 + x % 16) / 256 = y ∧ z / 16 * 16 + (y % 16 * 256 + z % 16 * 16 + x % 16) / 16 % 16 = z := by
  rw [mayB_iff] at h
  rw [mayS_iff]
  omega

theorem back2 {a b c i : Int} (h : ofOk a b c i = true) : mayB (a * 16 + i % 16) (b * 16 + i / 256) (c * 16 + i / 16 % 16) = true ∧ (a * 16 + i % 16) / 16 = a ∧ (b * 16 + i / 256) / 16 = b ∧ (c * 16 + i / 16 % 16) / 16 = c ∧
    (b * 16 + i / 256) % 16 * 256 + (c * 16 + i / 16 % 16) % 16 * 16 + (a * 16 + i % 16) % 16 = i := by
  simp only [ofOk, Bool.and_eq_true, mayS_iff, decide_eq_true_eq] at h
  rw [mayB_iff]
  omega

set_option maxRecDepth 100000 in
set_option maxHeartbeats 4000000 in
theorem back_walk (x y z a b c i : Int) (w : World) :
    Calls Try.prog 5 #[.agg #[.int .i64 x, .int .i64 y, .int .i64 z], .agg #[.int .i64 a, .int .i64 b, .int .i64 c], .int .i64 i] w fun e w' => e = .returned (.bool true) ∧ Below w.heap.size w w' := by
  have hf : ∃ d0 d1 d2 : Int, ofV a b c i = .agg #[.int .i64 d0, .int .i64 d1, .int .i64 d2] ∧ (ofOk a b c i = true → mayB d0 d1 d2 = true ∧ spotB d0 d1 d2 = .agg #[.int .i64 a, .int .i64 b, .int .i64 c] ∧ indexI d0 d1 d2 = i) := by
    cases h : ofOk a b c i
    · exact ⟨0, 0, 0, by unfold ofV; rw [h]; rfl, fun h => by cases h⟩
    · obtain ⟨e1, e2, e3, e4, e5⟩ := back2 h
      exact ⟨_, _, _, by unfold ofV; rw [h]; rfl, fun _ => ⟨e1, by unfold spotB; rw [e1, e2, e3, e4]; rfl, by unfold indexI; rw [e1, e5]; rfl⟩⟩
  obtain ⟨d0, d1, d2, hv, hw⟩ := hf
  replace hv := Lib.hid hv
  replace hw := Lib.hid hw
  have hg : ∃ u0 u1 u2 : Int, spotB x y z = .agg #[.int .i64 u0, .int .i64 u1, .int .i64 u2] ∧ (mayB x y z = true → mayS u0 u1 u2 = true ∧ 0 ≤ indexI x y z ∧ indexI x y z < 4096 ∧ ofOk u0 u1 u2 (indexI x y z) = true ∧ ofV u0 u1 u2 (indexI x y z) = .agg #[.int .i64 x, .int .i64 y, .int .i64 z]) := by
    cases h : mayB x y z
    · exact ⟨0, 0, 0, by unfold spotB; rw [h]; rfl, fun h => by cases h⟩
    · obtain ⟨e1, e2, e3, e4, e5, e6⟩ := back1 h
      refine ⟨_, _, _, by unfold spotB; rw [h]; rfl, fun _ => ?_⟩
      have ei : indexI x y z = y % 16 * 256 + z % 16 * 16 + x % 16 := by unfold indexI; rw [h]; rfl
      have eo : ofOk (x / 16) (y / 16) (z / 16) (indexI x y z) = true := by unfold ofOk; rw [e1, ei]; simp; omega
      exact ⟨e1, by rw [ei]; exact e2, by rw [ei]; exact e3, eo, by unfold ofV; rw [eo, ei, e4, e5, e6]; rfl⟩
  obtain ⟨u0, u1, u2, hu, hq⟩ := hg
  replace hu := Lib.hid hu
  replace hq := Lib.hid hq
  obtain ⟨ix, hix⟩ : ∃ ix, indexI x y z = ix := ⟨_, rfl⟩
  rw [hix] at hq
  replace hix := Lib.hid hix
  cases hA : mayB x y z
  all_goals
    go_enter Try.func5, Try.ntmps5
    go_wp2_with fail
    refine (spot_calls _ _ _ _).mono ?_
    rintro e w1 ⟨rfl, hb⟩
    rw [hu.out, hA]
    have HB := Lib.hid (below_step (((Below.refl w.heap.size w).alloc (by first | exact Nat.le_refl _ | (simp; done) | (simp; omega) | omega) _).alloc (by first | exact Nat.le_refl _ | (simp; done) | (simp; omega) | omega) _) (by first | exact Nat.le_refl _ | (simp; done) | (simp; omega) | omega) hb)
    have b0 := ((Blk.new_at (w := w) (n := w.heap.size) #[.int .i64 x, .int .i64 y, .int .i64 z] 23 (by simp)).alloc (.cells #[.int .i64 a, .int .i64 b, .int .i64 c] 29)).below hb (by first | exact Nat.le_refl _ | (simp; done) | (simp; omega) | omega)
    have b1 := (Blk.new_at (w := (w.alloc (.cells #[.int .i64 x, .int .i64 y, .int .i64 z] 23))) (n := w.heap.size + 1) #[.int .i64 a, .int .i64 b, .int .i64 c] 29 (by simp)).below hb (by first | exact Nat.le_refl _ | (simp; done) | (simp; omega) | omega)
    clear hb
    have b0_l := b0.lt
    have b0_0 := b0.cell 0 rfl
    have b0_1 := b0.cell 1 rfl
    have b0_2 := b0.cell 2 rfl
    have b1_l := b1.lt
    have b1_0 := b1.cell 0 rfl
    have b1_1 := b1.cell 1 rfl
    have b1_2 := b1.cell 2 rfl
    go_wp2_with fail
    try clear b0_l b0_0 b0_1 b0_2
    try clear b1_l b1_0 b1_1 b1_2
    refine (index_calls _ _ _ _).mono ?_
    rintro e w2 ⟨rfl, hb⟩
    rw [hA, hix.out]
    replace HB := Lib.hid (below_step (HB.out.alloc (by have := HB.out.size; first | omega | (simp; omega)) _) (by have := HB.out.size; first | omega | (simp; omega)) hb)
    replace b0 := (b0.alloc _).below hb (b0.alloc _).lt
    replace b1 := (b1.alloc _).below hb (b1.alloc _).lt
    have b2 := (Blk.new _ #[.int .i64 u0, .int .i64 u1, .int .i64 u2] 29).below hb (Blk.new _ #[.int .i64 u0, .int .i64 u1, .int .i64 u2] 29).lt
    clear hb
    have b0_l := b0.lt
    have b0_0 := b0.cell 0 rfl
    have b0_1 := b0.cell 1 rfl
    have b0_2 := b0.cell 2 rfl
    have b1_l := b1.lt
    have b1_0 := b1.cell 0 rfl
    have b1_1 := b1.cell 1 rfl
    have b1_2 := b1.cell 2 rfl
    have b2_l := b2.lt
    have b2_0 := b2.cell 0 rfl
    have b2_1 := b2.cell 1 rfl
    have b2_2 := b2.cell 2 rfl
    go_wp2_with fail
    try clear b0_l b0_0 b0_1 b0_2
    try clear b1_l b1_0 b1_1 b1_2
    try clear b2_l b2_0 b2_1 b2_2
    refine (may_calls _ _ _ _).mono ?_
    rintro e w3 ⟨rfl, hb⟩
    rw [hA]
    replace HB := Lib.hid (below_step HB.out (by have := HB.out.size; first | omega | (simp; omega)) hb)
    replace b0 := b0.below hb b0.lt
    replace b1 := b1.below hb b1.lt
    replace b2 := b2.below hb b2.lt
    clear hb
    have b0_l := b0.lt
    have b0_0 := b0.cell 0 rfl
    have b0_1 := b0.cell 1 rfl
    have b0_2 := b0.cell 2 rfl
    have b1_l := b1.lt
    have b1_0 := b1.cell 0 rfl
    have b1_1 := b1.cell 1 rfl
    have b1_2 := b1.cell 2 rfl
    have b2_l := b2.lt
    have b2_0 := b2.cell 0 rfl
    have b2_1 := b2.cell 1 rfl
    have b2_2 := b2.cell 2 rfl
  · skip
    go_wp2_with fail
    try clear b0_l b0_0 b0_1 b0_2
    try clear b1_l b1_0 b1_1 b1_2
    try clear b2_l b2_0 b2_1 b2_2
    refine (of_calls _ _ _ _ _).mono ?_
    rintro e w6 ⟨rfl, hb⟩
    rw [hv.out]
    replace HB := Lib.hid (below_step HB.out (by have := HB.out.size; first | omega | (simp; omega)) hb)
    replace b0 := b0.below hb b0.lt
    replace b1 := b1.below hb b1.lt
    replace b2 := b2.below hb b2.lt
    clear hb
    have b0_l := b0.lt
    have b0_0 := b0.cell 0 rfl
    have b0_1 := b0.cell 1 rfl
    have b0_2 := b0.cell 2 rfl
    have b1_l := b1.lt
    have b1_0 := b1.cell 0 rfl
    have b1_1 := b1.cell 1 rfl
    have b1_2 := b1.cell 2 rfl
    have b2_l := b2.lt
    have b2_0 := b2.cell 0 rfl
    have b2_1 := b2.cell 1 rfl
    have b2_2 := b2.cell 2 rfl
    cases hO : ofOk a b c i
    · cases hS : mayS a b c
      · skip
        go_wp2_with fail
        try clear b0_l b0_0 b0_1 b0_2
        try clear b1_l b1_0 b1_1 b1_2
        try clear b2_l b2_0 b2_1 b2_2
        refine (mayspot_calls _ _ _ _).mono ?_
        rintro e w7 ⟨rfl, hb⟩
        rw [hS]
        replace HB := Lib.hid (below_step (HB.out.alloc (by have := HB.out.size; first | omega | (simp; omega)) _) (by have := HB.out.size; first | omega | (simp; omega)) hb)
        replace b0 := (b0.alloc _).below hb (b0.alloc _).lt
        replace b1 := (b1.alloc _).below hb (b1.alloc _).lt
        replace b2 := (b2.alloc _).below hb (b2.alloc _).lt
        have b5 := (Blk.new _ #[.int .i64 d0, .int .i64 d1, .int .i64 d2] 23).below hb (Blk.new _ #[.int .i64 d0, .int .i64 d1, .int .i64 d2] 23).lt
        clear hb
        have b0_l := b0.lt
        have b0_0 := b0.cell 0 rfl
        have b0_1 := b0.cell 1 rfl
        have b0_2 := b0.cell 2 rfl
        have b1_l := b1.lt
        have b1_0 := b1.cell 0 rfl
        have b1_1 := b1.cell 1 rfl
        have b1_2 := b1.cell 2 rfl
        have b2_l := b2.lt
        have b2_0 := b2.cell 0 rfl
        have b2_1 := b2.cell 1 rfl
        have b2_2 := b2.cell 2 rfl
        have b5_l := b5.lt
        have b5_0 := b5.cell 0 rfl
        have b5_1 := b5.cell 1 rfl
        have b5_2 := b5.cell 2 rfl
        go_wp2_with fail
        refine (works_calls _).mono ?_
        rintro e w8 ⟨rfl, hb⟩
        replace HB := Lib.hid (below_step HB.out (by have := HB.out.size; first | omega | (simp; omega)) hb)
        clear hb
        go_wp2_with fail
        go_ret
        exact ⟨rfl, HB.out⟩
      · have hi : ¬ (0 ≤ i ∧ i < 4096) := by intro hh; simp [ofOk, hS, hh] at hO
        by_cases hi0 : 0 ≤ i
        · have hi1 : 4096 ≤ i := by omega
          clear hi
          go_wp2_with fail
          try clear b0_l b0_0 b0_1 b0_2
          try clear b1_l b1_0 b1_1 b1_2
          try clear b2_l b2_0 b2_1 b2_2
          refine (mayspot_calls _ _ _ _).mono ?_
          rintro e w7 ⟨rfl, hb⟩
          rw [hS]
          replace HB := Lib.hid (below_step (HB.out.alloc (by have := HB.out.size; first | omega | (simp; omega)) _) (by have := HB.out.size; first | omega | (simp; omega)) hb)
          replace b0 := (b0.alloc _).below hb (b0.alloc _).lt
          replace b1 := (b1.alloc _).below hb (b1.alloc _).lt
          replace b2 := (b2.alloc _).below hb (b2.alloc _).lt
          have b5 := (Blk.new _ #[.int .i64 d0, .int .i64 d1, .int .i64 d2] 23).below hb (Blk.new _ #[.int .i64 d0, .int .i64 d1, .int .i64 d2] 23).lt
          clear hb
          have b0_l := b0.lt
          have b0_0 := b0.cell 0 rfl
          have b0_1 := b0.cell 1 rfl
          have b0_2 := b0.cell 2 rfl
          have b1_l := b1.lt
          have b1_0 := b1.cell 0 rfl
          have b1_1 := b1.cell 1 rfl
          have b1_2 := b1.cell 2 rfl
          have b2_l := b2.lt
          have b2_0 := b2.cell 0 rfl
          have b2_1 := b2.cell 1 rfl
          have b2_2 := b2.cell 2 rfl
          have b5_l := b5.lt
          have b5_0 := b5.cell 0 rfl
          have b5_1 := b5.cell 1 rfl
          have b5_2 := b5.cell 2 rfl
          go_wp2_with fail
          refine (works_calls _).mono ?_
          rintro e w8 ⟨rfl, hb⟩
          replace HB := Lib.hid (below_step HB.out (by have := HB.out.size; first | omega | (simp; omega)) hb)
          clear hb
          go_wp2_with fail
          go_ret
          exact ⟨rfl, HB.out⟩
        · have hi1 : i < 0 := by omega
          clear hi hi0
          go_wp2_with fail
          try clear b0_l b0_0 b0_1 b0_2
          try clear b1_l b1_0 b1_1 b1_2
          try clear b2_l b2_0 b2_1 b2_2
          refine (mayspot_calls _ _ _ _).mono ?_
          rintro e w7 ⟨rfl, hb⟩
          rw [hS]
          replace HB := Lib.hid (below_step (HB.out.alloc (by have := HB.out.size; first | omega | (simp; omega)) _) (by have := HB.out.size; first | omega | (simp; omega)) hb)
          replace b0 := (b0.alloc _).below hb (b0.alloc _).lt
          replace b1 := (b1.alloc _).below hb (b1.alloc _).lt
          replace b2 := (b2.alloc _).below hb (b2.alloc _).lt
          have b5 := (Blk.new _ #[.int .i64 d0, .int .i64 d1, .int .i64 d2] 23).below hb (Blk.new _ #[.int .i64 d0, .int .i64 d1, .int .i64 d2] 23).lt
          clear hb
          have b0_l := b0.lt
          have b0_0 := b0.cell 0 rfl
          have b0_1 := b0.cell 1 rfl
          have b0_2 := b0.cell 2 rfl
          have b1_l := b1.lt
          have b1_0 := b1.cell 0 rfl
          have b1_1 := b1.cell 1 rfl
          have b1_2 := b1.cell 2 rfl
          have b2_l := b2.lt
          have b2_0 := b2.cell 0 rfl
          have b2_1 := b2.cell 1 rfl
          have b2_2 := b2.cell 2 rfl
          have b5_l := b5.lt
          have b5_0 := b5.cell 0 rfl
          have b5_1 := b5.cell 1 rfl
          have b5_2 := b5.cell 2 rfl
          go_wp2_with fail
          refine (works_calls _).mono ?_
          rintro e w8 ⟨rfl, hb⟩
          replace HB := Lib.hid (below_step HB.out (by have := HB.out.size; first | omega | (simp; omega)) hb)
          clear hb
          go_wp2_with fail
          go_ret
          exact ⟨rfl, HB.out⟩
    · obtain ⟨m1, m2, m3⟩ := hw.out hO
      have hO' := hO
      simp only [ofOk, Bool.and_eq_true, decide_eq_true_eq] at hO'
      obtain ⟨hS, hi0, hi1⟩ := hO'
      replace m2 := Lib.hid m2
      replace m3 := Lib.hid m3
      go_wp2_with fail
      try clear b0_l b0_0 b0_1 b0_2
      try clear b1_l b1_0 b1_1 b1_2
      try clear b2_l b2_0 b2_1 b2_2
      refine (mayspot_calls _ _ _ _).mono ?_
      rintro e w7 ⟨rfl, hb⟩
      rw [hS]
      replace HB := Lib.hid (below_step (HB.out.alloc (by have := HB.out.size; first | omega | (simp; omega)) _) (by have := HB.out.size; first | omega | (simp; omega)) hb)
      replace b0 := (b0.alloc _).below hb (b0.alloc _).lt
      replace b1 := (b1.alloc _).below hb (b1.alloc _).lt
      replace b2 := (b2.alloc _).below hb (b2.alloc _).lt
      have b5 := (Blk.new _ #[.int .i64 d0, .int .i64 d1, .int .i64 d2] 23).below hb (Blk.new _ #[.int .i64 d0, .int .i64 d1, .int .i64 d2] 23).lt
      clear hb
      have b0_l := b0.lt
      have b0_0 := b0.cell 0 rfl
      have b0_1 := b0.cell 1 rfl
      have b0_2 := b0.cell 2 rfl
      have b1_l := b1.lt
      have b1_0 := b1.cell 0 rfl
      have b1_1 := b1.cell 1 rfl
      have b1_2 := b1.cell 2 rfl
      have b2_l := b2.lt
      have b2_0 := b2.cell 0 rfl
      have b2_1 := b2.cell 1 rfl
      have b2_2 := b2.cell 2 rfl
      have b5_l := b5.lt
      have b5_0 := b5.cell 0 rfl
      have b5_1 := b5.cell 1 rfl
      have b5_2 := b5.cell 2 rfl
      go_wp2_with fail
      try clear b0_l b0_0 b0_1 b0_2
      try clear b1_l b1_0 b1_1 b1_2
      try clear b2_l b2_0 b2_1 b2_2
      try clear b5_l b5_0 b5_1 b5_2
      refine (spot_calls _ _ _ _).mono ?_
      rintro e w8 ⟨rfl, hb⟩
      rw [m2.out, m1]
      replace HB := Lib.hid (below_step HB.out (by have := HB.out.size; first | omega | (simp; omega)) hb)
      replace b0 := b0.below hb b0.lt
      replace b1 := b1.below hb b1.lt
      replace b2 := b2.below hb b2.lt
      replace b5 := b5.below hb b5.lt
      clear hb
      have b0_l := b0.lt
      have b0_0 := b0.cell 0 rfl
      have b0_1 := b0.cell 1 rfl
      have b0_2 := b0.cell 2 rfl
      have b1_l := b1.lt
      have b1_0 := b1.cell 0 rfl
      have b1_1 := b1.cell 1 rfl
      have b1_2 := b1.cell 2 rfl
      have b2_l := b2.lt
      have b2_0 := b2.cell 0 rfl
      have b2_1 := b2.cell 1 rfl
      have b2_2 := b2.cell 2 rfl
      have b5_l := b5.lt
      have b5_0 := b5.cell 0 rfl
      have b5_1 := b5.cell 1 rfl
      have b5_2 := b5.cell 2 rfl
      go_wp2_with fail
      try clear b0_l b0_0 b0_1 b0_2
      try clear b1_l b1_0 b1_1 b1_2
      try clear b2_l b2_0 b2_1 b2_2
      try clear b5_l b5_0 b5_1 b5_2
      refine (index_calls _ _ _ _).mono ?_
      rintro e w9 ⟨rfl, hb⟩
      rw [m3.out, m1]
      replace HB := Lib.hid (below_step (HB.out.alloc (by have := HB.out.size; first | omega | (simp; omega)) _) (by have := HB.out.size; first | omega | (simp; omega)) hb)
      replace b0 := (b0.alloc _).below hb (b0.alloc _).lt
      replace b1 := (b1.alloc _).below hb (b1.alloc _).lt
      replace b2 := (b2.alloc _).below hb (b2.alloc _).lt
      replace b5 := (b5.alloc _).below hb (b5.alloc _).lt
      have b6 := (Blk.new _ #[.int .i64 a, .int .i64 b, .int .i64 c] 29).below hb (Blk.new _ #[.int .i64 a, .int .i64 b, .int .i64 c] 29).lt
      clear hb
      have b0_l := b0.lt
      have b0_0 := b0.cell 0 rfl
      have b0_1 := b0.cell 1 rfl
      have b0_2 := b0.cell 2 rfl
      have b1_l := b1.lt
      have b1_0 := b1.cell 0 rfl
      have b1_1 := b1.cell 1 rfl
      have b1_2 := b1.cell 2 rfl
      have b2_l := b2.lt
      have b2_0 := b2.cell 0 rfl
      have b2_1 := b2.cell 1 rfl
      have b2_2 := b2.cell 2 rfl
      have b5_l := b5.lt
      have b5_0 := b5.cell 0 rfl
      have b5_1 := b5.cell 1 rfl
      have b5_2 := b5.cell 2 rfl
      have b6_l := b6.lt
      have b6_0 := b6.cell 0 rfl
      have b6_1 := b6.cell 1 rfl
      have b6_2 := b6.cell 2 rfl
      go_wp2_with fail
      try clear b0_l b0_0 b0_1 b0_2
      try clear b1_l b1_0 b1_1 b1_2
      try clear b2_l b2_0 b2_1 b2_2
      try clear b5_l b5_0 b5_1 b5_2
      try clear b6_l b6_0 b6_1 b6_2
      refine (may_calls _ _ _ _).mono ?_
      rintro e w10 ⟨rfl, hb⟩
      rw [m1]
      replace HB := Lib.hid (below_step HB.out (by have := HB.out.size; first | omega | (simp; omega)) hb)
      replace b0 := b0.below hb b0.lt
      replace b1 := b1.below hb b1.lt
      replace b2 := b2.below hb b2.lt
      replace b5 := b5.below hb b5.lt
      replace b6 := b6.below hb b6.lt
      clear hb
      have b0_l := b0.lt
      have b0_0 := b0.cell 0 rfl
      have b0_1 := b0.cell 1 rfl
      have b0_2 := b0.cell 2 rfl
      have b1_l := b1.lt
      have b1_0 := b1.cell 0 rfl
      have b1_1 := b1.cell 1 rfl
      have b1_2 := b1.cell 2 rfl
      have b2_l := b2.lt
      have b2_0 := b2.cell 0 rfl
      have b2_1 := b2.cell 1 rfl
      have b2_2 := b2.cell 2 rfl
      have b5_l := b5.lt
      have b5_0 := b5.cell 0 rfl
      have b5_1 := b5.cell 1 rfl
      have b5_2 := b5.cell 2 rfl
      have b6_l := b6.lt
      have b6_0 := b6.cell 0 rfl
      have b6_1 := b6.cell 1 rfl
      have b6_2 := b6.cell 2 rfl
      go_wp2_with fail
      refine (works_calls _).mono ?_
      rintro e w11 ⟨rfl, hb⟩
      replace HB := Lib.hid (below_step HB.out (by have := HB.out.size; first | omega | (simp; omega)) hb)
      clear hb
      go_wp2_with fail
      go_ret
      exact ⟨rfl, HB.out⟩
  · obtain ⟨n1, n2, n3, n4, n5⟩ := hq.out hA
    replace n5 := Lib.hid n5
    go_wp2_with fail
    try clear b0_l b0_0 b0_1 b0_2
    try clear b1_l b1_0 b1_1 b1_2
    try clear b2_l b2_0 b2_1 b2_2
    refine (of_calls _ _ _ _ _).mono ?_
    rintro e w4 ⟨rfl, hb⟩
    rw [n4, n5.out]
    replace HB := Lib.hid (below_step HB.out (by have := HB.out.size; first | omega | (simp; omega)) hb)
    replace b0 := b0.below hb b0.lt
    replace b1 := b1.below hb b1.lt
    replace b2 := b2.below hb b2.lt
    clear hb
    have b0_l := b0.lt
    have b0_0 := b0.cell 0 rfl
    have b0_1 := b0.cell 1 rfl
    have b0_2 := b0.cell 2 rfl
    have b1_l := b1.lt
    have b1_0 := b1.cell 0 rfl
    have b1_1 := b1.cell 1 rfl
    have b1_2 := b1.cell 2 rfl
    have b2_l := b2.lt
    have b2_0 := b2.cell 0 rfl
    have b2_1 := b2.cell 1 rfl
    have b2_2 := b2.cell 2 rfl
    go_wp2_with fail
    try clear b0_l b0_0 b0_1 b0_2
    try clear b1_l b1_0 b1_1 b1_2
    try clear b2_l b2_0 b2_1 b2_2
    refine (mayspot_calls _ _ _ _).mono ?_
    rintro e w5 ⟨rfl, hb⟩
    rw [n1]
    replace HB := Lib.hid (below_step (HB.out.alloc (by have := HB.out.size; first | omega | (simp; omega)) _) (by have := HB.out.size; first | omega | (simp; omega)) hb)
    replace b0 := (b0.alloc _).below hb (b0.alloc _).lt
    replace b1 := (b1.alloc _).below hb (b1.alloc _).lt
    replace b2 := (b2.alloc _).below hb (b2.alloc _).lt
    have b3 := (Blk.new _ #[.int .i64 x, .int .i64 y, .int .i64 z] 23).below hb (Blk.new _ #[.int .i64 x, .int .i64 y, .int .i64 z] 23).lt
    clear hb
    have b0_l := b0.lt
    have b0_0 := b0.cell 0 rfl
    have b0_1 := b0.cell 1 rfl
    have b0_2 := b0.cell 2 rfl
    have b1_l := b1.lt
    have b1_0 := b1.cell 0 rfl
    have b1_1 := b1.cell 1 rfl
    have b1_2 := b1.cell 2 rfl
    have b2_l := b2.lt
    have b2_0 := b2.cell 0 rfl
    have b2_1 := b2.cell 1 rfl
    have b2_2 := b2.cell 2 rfl
    have b3_l := b3.lt
    have b3_0 := b3.cell 0 rfl
    have b3_1 := b3.cell 1 rfl
    have b3_2 := b3.cell 2 rfl
    go_wp2_with fail
    try clear b0_l b0_0 b0_1 b0_2
    try clear b1_l b1_0 b1_1 b1_2
    try clear b2_l b2_0 b2_1 b2_2
    try clear b3_l b3_0 b3_1 b3_2
    refine (of_calls _ _ _ _ _).mono ?_
    rintro e w6 ⟨rfl, hb⟩
    rw [hv.out]
    replace HB := Lib.hid (below_step HB.out (by have := HB.out.size; first | omega | (simp; omega)) hb)
    replace b0 := b0.below hb b0.lt
    replace b1 := b1.below hb b1.lt
    replace b2 := b2.below hb b2.lt
    replace b3 := b3.below hb b3.lt
    clear hb
    have b0_l := b0.lt
    have b0_0 := b0.cell 0 rfl
    have b0_1 := b0.cell 1 rfl
    have b0_2 := b0.cell 2 rfl
    have b1_l := b1.lt
    have b1_0 := b1.cell 0 rfl
    have b1_1 := b1.cell 1 rfl
    have b1_2 := b1.cell 2 rfl
    have b2_l := b2.lt
    have b2_0 := b2.cell 0 rfl
    have b2_1 := b2.cell 1 rfl
    have b2_2 := b2.cell 2 rfl
    have b3_l := b3.lt
    have b3_0 := b3.cell 0 rfl
    have b3_1 := b3.cell 1 rfl
    have b3_2 := b3.cell 2 rfl
    cases hO : ofOk a b c i
    · cases hS : mayS a b c
      · skip
        go_wp2_with fail
        try clear b0_l b0_0 b0_1 b0_2
        try clear b1_l b1_0 b1_1 b1_2
        try clear b2_l b2_0 b2_1 b2_2
        try clear b3_l b3_0 b3_1 b3_2
        refine (mayspot_calls _ _ _ _).mono ?_
        rintro e w7 ⟨rfl, hb⟩
        rw [hS]
        replace HB := Lib.hid (below_step (HB.out.alloc (by have := HB.out.size; first | omega | (simp; omega)) _) (by have := HB.out.size; first | omega | (simp; omega)) hb)
        replace b0 := (b0.alloc _).below hb (b0.alloc _).lt
        replace b1 := (b1.alloc _).below hb (b1.alloc _).lt
        replace b2 := (b2.alloc _).below hb (b2.alloc _).lt
        replace b3 := (b3.alloc _).below hb (b3.alloc _).lt
        have b5 := (Blk.new _ #[.int .i64 d0, .int .i64 d1, .int .i64 d2] 23).below hb (Blk.new _ #[.int .i64 d0, .int .i64 d1, .int .i64 d2] 23).lt
        clear hb
        have b0_l := b0.lt
        have b0_0 := b0.cell 0 rfl
        have b0_1 := b0.cell 1 rfl
        have b0_2 := b0.cell 2 rfl
        have b1_l := b1.lt
        have b1_0 := b1.cell 0 rfl
        have b1_1 := b1.cell 1 rfl
        have b1_2 := b1.cell 2 rfl
        have b2_l := b2.lt
        have b2_0 := b2.cell 0 rfl
        have b2_1 := b2.cell 1 rfl
        have b2_2 := b2.cell 2 rfl
        have b3_l := b3.lt
        have b3_0 := b3.cell 0 rfl
        have b3_1 := b3.cell 1 rfl
        have b3_2 := b3.cell 2 rfl
        have b5_l := b5.lt
        have b5_0 := b5.cell 0 rfl
        have b5_1 := b5.cell 1 rfl
        have b5_2 := b5.cell 2 rfl
        go_wp2_with fail
        refine (works_calls _).mono ?_
        rintro e w8 ⟨rfl, hb⟩
        replace HB := Lib.hid (below_step HB.out (by have := HB.out.size; first | omega | (simp; omega)) hb)
        clear hb
        go_wp2_with fail
        go_ret
        exact ⟨rfl, HB.out⟩
      · have hi : ¬ (0 ≤ i ∧ i < 4096) := by intro hh; simp [ofOk, hS, hh] at hO
        by_cases hi0 : 0 ≤ i
        · have hi1 : 4096 ≤ i := by omega
          clear hi
          go_wp2_with fail
          try clear b0_l b0_0 b0_1 b0_2
          try clear b1_l b1_0 b1_1 b1_2
          try clear b2_l b2_0 b2_1 b2_2
          try clear b3_l b3_0 b3_1 b3_2
          refine (mayspot_calls _ _ _ _).mono ?_
          rintro e w7 ⟨rfl, hb⟩
          rw [hS]
          replace HB := Lib.hid (below_step (HB.out.alloc (by have := HB.out.size; first | omega | (simp; omega)) _) (by have := HB.out.size; first | omega | (simp; omega)) hb)
          replace b0 := (b0.alloc _).below hb (b0.alloc _).lt
          replace b1 := (b1.alloc _).below hb (b1.alloc _).lt
          replace b2 := (b2.alloc _).below hb (b2.alloc _).lt
          replace b3 := (b3.alloc _).below hb (b3.alloc _).lt
          have b5 := (Blk.new _ #[.int .i64 d0, .int .i64 d1, .int .i64 d2] 23).below hb (Blk.new _ #[.int .i64 d0, .int .i64 d1, .int .i64 d2] 23).lt
          clear hb
          have b0_l := b0.lt
          have b0_0 := b0.cell 0 rfl
          have b0_1 := b0.cell 1 rfl
          have b0_2 := b0.cell 2 rfl
          have b1_l := b1.lt
          have b1_0 := b1.cell 0 rfl
          have b1_1 := b1.cell 1 rfl
          have b1_2 := b1.cell 2 rfl
          have b2_l := b2.lt
          have b2_0 := b2.cell 0 rfl
          have b2_1 := b2.cell 1 rfl
          have b2_2 := b2.cell 2 rfl
          have b3_l := b3.lt
          have b3_0 := b3.cell 0 rfl
          have b3_1 := b3.cell 1 rfl
          have b3_2 := b3.cell 2 rfl
          have b5_l := b5.lt
          have b5_0 := b5.cell 0 rfl
          have b5_1 := b5.cell 1 rfl
          have b5_2 := b5.cell 2 rfl
          go_wp2_with fail
          refine (works_calls _).mono ?_
          rintro e w8 ⟨rfl, hb⟩
          replace HB := Lib.hid (below_step HB.out (by have := HB.out.size; first | omega | (simp; omega)) hb)
          clear hb
          go_wp2_with fail
          go_ret
          exact ⟨rfl, HB.out⟩
        · have hi1 : i < 0 := by omega
          clear hi hi0
          go_wp2_with fail
          try clear b0_l b0_0 b0_1 b0_2
          try clear b1_l b1_0 b1_1 b1_2
          try clear b2_l b2_0 b2_1 b2_2
          try clear b3_l b3_0 b3_1 b3_2
          refine (mayspot_calls _ _ _ _).mono ?_
          rintro e w7 ⟨rfl, hb⟩
          rw [hS]
          replace HB := Lib.hid (below_step (HB.out.alloc (by have := HB.out.size; first | omega | (simp; omega)) _) (by have := HB.out.size; first | omega | (simp; omega)) hb)
          replace b0 := (b0.alloc _).below hb (b0.alloc _).lt
          replace b1 := (b1.alloc _).below hb (b1.alloc _).lt
          replace b2 := (b2.alloc _).below hb (b2.alloc _).lt
          replace b3 := (b3.alloc _).below hb (b3.alloc _).lt
          have b5 := (Blk.new _ #[.int .i64 d0, .int .i64 d1, .int .i64 d2] 23).below hb (Blk.new _ #[.int .i64 d0, .int .i64 d1, .int .i64 d2] 23).lt
          clear hb
          have b0_l := b0.lt
          have b0_0 := b0.cell 0 rfl
          have b0_1 := b0.cell 1 rfl
          have b0_2 := b0.cell 2 rfl
          have b1_l := b1.lt
          have b1_0 := b1.cell 0 rfl
          have b1_1 := b1.cell 1 rfl
          have b1_2 := b1.cell 2 rfl
          have b2_l := b2.lt
          have b2_0 := b2.cell 0 rfl
          have b2_1 := b2.cell 1 rfl
          have b2_2 := b2.cell 2 rfl
          have b3_l := b3.lt
          have b3_0 := b3.cell 0 rfl
          have b3_1 := b3.cell 1 rfl
          have b3_2 := b3.cell 2 rfl
          have b5_l := b5.lt
          have b5_0 := b5.cell 0 rfl
          have b5_1 := b5.cell 1 rfl
          have b5_2 := b5.cell 2 rfl
          go_wp2_with fail
          refine (works_calls _).mono ?_
          rintro e w8 ⟨rfl, hb⟩
          replace HB := Lib.hid (below_step HB.out (by have := HB.out.size; first | omega | (simp; omega)) hb)
          clear hb
          go_wp2_with fail
          go_ret
          exact ⟨rfl, HB.out⟩
    · obtain ⟨m1, m2, m3⟩ := hw.out hO
      have hO' := hO
      simp only [ofOk, Bool.and_eq_true, decide_eq_true_eq] at hO'
      obtain ⟨hS, hi0, hi1⟩ := hO'
      replace m2 := Lib.hid m2
      replace m3 := Lib.hid m3
      go_wp2_with fail
      try clear b0_l b0_0 b0_1 b0_2
      try clear b1_l b1_0 b1_1 b1_2
      try clear b2_l b2_0 b2_1 b2_2
      try clear b3_l b3_0 b3_1 b3_2
      refine (mayspot_calls _ _ _ _).mono ?_
      rintro e w7 ⟨rfl, hb⟩
      rw [hS]
      replace HB := Lib.hid (below_step (HB.out.alloc (by have := HB.out.size; first | omega | (simp; omega)) _) (by have := HB.out.size; first | omega | (simp; omega)) hb)
      replace b0 := (b0.alloc _).below hb (b0.alloc _).lt
      replace b1 := (b1.alloc _).below hb (b1.alloc _).lt
      replace b2 := (b2.alloc _).below hb (b2.alloc _).lt
      replace b3 := (b3.alloc _).below hb (b3.alloc _).lt
      have b5 := (Blk.new _ #[.int .i64 d0, .int .i64 d1, .int .i64 d2] 23).below hb (Blk.new _ #[.int .i64 d0, .int .i64 d1, .int .i64 d2] 23).lt
      clear hb
      have b0_l := b0.lt
      have b0_0 := b0.cell 0 rfl
      have b0_1 := b0.cell 1 rfl
      have b0_2 := b0.cell 2 rfl
      have b1_l := b1.lt
      have b1_0 := b1.cell 0 rfl
      have b1_1 := b1.cell 1 rfl
      have b1_2 := b1.cell 2 rfl
      have b2_l := b2.lt
      have b2_0 := b2.cell 0 rfl
      have b2_1 := b2.cell 1 rfl
      have b2_2 := b2.cell 2 rfl
      have b3_l := b3.lt
      have b3_0 := b3.cell 0 rfl
      have b3_1 := b3.cell 1 rfl
      have b3_2 := b3.cell 2 rfl
      have b5_l := b5.lt
      have b5_0 := b5.cell 0 rfl
      have b5_1 := b5.cell 1 rfl
      have b5_2 := b5.cell 2 rfl
      go_wp2_with fail
      try clear b0_l b0_0 b0_1 b0_2
      try clear b1_l b1_0 b1_1 b1_2
      try clear b2_l b2_0 b2_1 b2_2
      try clear b3_l b3_0 b3_1 b3_2
      try clear b5_l b5_0 b5_1 b5_2
      refine (spot_calls _ _ _ _).mono ?_
      rintro e w8 ⟨rfl, hb⟩
      rw [m2.out, m1]
      replace HB := Lib.hid (below_step HB.out (by have := HB.out.size; first | omega | (simp; omega)) hb)
      replace b0 := b0.below hb b0.lt
      replace b1 := b1.below hb b1.lt
      replace b2 := b2.below hb b2.lt
      replace b3 := b3.below hb b3.lt
      replace b5 := b5.below hb b5.lt
      clear hb
      have b0_l := b0.lt
      have b0_0 := b0.cell 0 rfl
      have b0_1 := b0.cell 1 rfl
      have b0_2 := b0.cell 2 rfl
      have b1_l := b1.lt
      have b1_0 := b1.cell 0 rfl
      have b1_1 := b1.cell 1 rfl
      have b1_2 := b1.cell 2 rfl
      have b2_l := b2.lt
      have b2_0 := b2.cell 0 rfl
      have b2_1 := b2.cell 1 rfl
      have b2_2 := b2.cell 2 rfl
      have b3_l := b3.lt
      have b3_0 := b3.cell 0 rfl
      have b3_1 := b3.cell 1 rfl
      have b3_2 := b3.cell 2 rfl
      have b5_l := b5.lt
      have b5_0 := b5.cell 0 rfl
      have b5_1 := b5.cell 1 rfl
      have b5_2 := b5.cell 2 rfl
      go_wp2_with fail
      try clear b0_l b0_0 b0_1 b0_2
      try clear b1_l b1_0 b1_1 b1_2
      try clear b2_l b2_0 b2_1 b2_2
      try clear b3_l b3_0 b3_1 b3_2
      try clear b5_l b5_0 b5_1 b5_2
      refine (index_calls _ _ _ _).mono ?_
      rintro e w9 ⟨rfl, hb⟩
      rw [m3.out, m1]
      replace HB := Lib.hid (below_step (HB.out.alloc (by have := HB.out.size; first | omega | (simp; omega)) _) (by have := HB.out.size; first | omega | (simp; omega)) hb)
      replace b0 := (b0.alloc _).below hb (b0.alloc _).lt
      replace b1 := (b1.alloc _).below hb (b1.alloc _).lt
      replace b2 := (b2.alloc _).below hb (b2.alloc _).lt
      replace b3 := (b3.alloc _).below hb (b3.alloc _).lt
      replace b5 := (b5.alloc _).below hb (b5.alloc _).lt
      have b6 := (Blk.new _ #[.int .i64 a, .int .i64 b, .int .i64 c] 29).below hb (Blk.new _ #[.int .i64 a, .int .i64 b, .int .i64 c] 29).lt
      clear hb
      have b0_l := b0.lt
      have b0_0 := b0.cell 0 rfl
      have b0_1 := b0.cell 1 rfl
      have b0_2 := b0.cell 2 rfl
      have b1_l := b1.lt
      have b1_0 := b1.cell 0 rfl
      have b1_1 := b1.cell 1 rfl
      have b1_2 := b1.cell 2 rfl
      have b2_l := b2.lt
      have b2_0 := b2.cell 0 rfl
      have b2_1 := b2.cell 1 rfl
      have b2_2 := b2.cell 2 rfl
      have b3_l := b3.lt
      have b3_0 := b3.cell 0 rfl
      have b3_1 := b3.cell 1 rfl
      have b3_2 := b3.cell 2 rfl
      have b5_l := b5.lt
      have b5_0 := b5.cell 0 rfl
      have b5_1 := b5.cell 1 rfl
      have b5_2 := b5.cell 2 rfl
      have b6_l := b6.lt
      have b6_0 := b6.cell 0 rfl
      have b6_1 := b6.cell 1 rfl
      have b6_2 := b6.cell 2 rfl
      go_wp2_with fail
      try clear b0_l b0_0 b0_1 b0_2
      try clear b1_l b1_0 b1_1 b1_2
      try clear b2_l b2_0 b2_1 b2_2
      try clear b3_l b3_0 b3_1 b3_2
      try clear b5_l b5_0 b5_1 b5_2
      try clear b6_l b6_0 b6_1 b6_2
      refine (may_calls _ _ _ _).mono ?_
      rintro e w10 ⟨rfl, hb⟩
      rw [m1]
      replace HB := Lib.hid (below_step HB.out (by have := HB.out.size; first | omega | (simp; omega)) hb)
      replace b0 := b0.below hb b0.lt
      replace b1 := b1.below hb b1.lt
      replace b2 := b2.below hb b2.lt
      replace b3 := b3.below hb b3.lt
      replace b5 := b5.below hb b5.lt
      replace b6 := b6.below hb b6.lt
      clear hb
      have b0_l := b0.lt
      have b0_0 := b0.cell 0 rfl
      have b0_1 := b0.cell 1 rfl
      have b0_2 := b0.cell 2 rfl
      have b1_l := b1.lt
      have b1_0 := b1.cell 0 rfl
      have b1_1 := b1.cell 1 rfl
      have b1_2 := b1.cell 2 rfl
      have b2_l := b2.lt
      have b2_0 := b2.cell 0 rfl
      have b2_1 := b2.cell 1 rfl
      have b2_2 := b2.cell 2 rfl
      have b3_l := b3.lt
      have b3_0 := b3.cell 0 rfl
      have b3_1 := b3.cell 1 rfl
      have b3_2 := b3.cell 2 rfl
      have b5_l := b5.lt
      have b5_0 := b5.cell 0 rfl
      have b5_1 := b5.cell 1 rfl
      have b5_2 := b5.cell 2 rfl
      have b6_l := b6.lt
      have b6_0 := b6.cell 0 rfl
      have b6_1 := b6.cell 1 rfl
      have b6_2 := b6.cell 2 rfl
      go_wp2_with fail
      refine (works_calls _).mono ?_
      rintro e w11 ⟨rfl, hb⟩
      replace HB := Lib.hid (below_step HB.out (by have := HB.out.size; first | omega | (simp; omega)) hb)
      clear hb
      go_wp2_with fail
      go_ret
      exact ⟨rfl, HB.out⟩
end Go.Proofs.Ytjodiclmibiboaa
