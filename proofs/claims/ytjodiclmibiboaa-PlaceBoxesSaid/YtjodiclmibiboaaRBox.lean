/-
  The contracts of the document's Box and Each of layer 2.
-/
import Derived.Test.YtjodiclmibiboaaEachL
import Derived.Test.YtjodiclmibiboaaRef02
import Derived.Deep.DeepCutAuto
namespace Go.Proofs.Ytjodiclmibiboaa
open Go.RowKit
set_option linter.unusedSimpArgs false
set_option linter.unusedVariables false

set_option maxHeartbeats 400000 in
theorem ends_calls (a b : Int) (w : World) :
    Calls Try.prog 40 #[.int .i64 a, .int .i64 b] w fun e w' => e = .returned (.tuple #[.int .i64 (mnI a b), .int .i64 (mxI a b)]) ∧ w' = w := by
  by_cases h : a < b
  all_goals
    go_enter Try.func40, Try.ntmps40
    go_wp2_with fail
    go_ret2
    exact ⟨ret_ii (by unfold mnI; split <;> omega) (by unfold mxI; split <;> omega), rfl⟩

set_option maxRecDepth 100000 in
set_option maxHeartbeats 8000000 in
theorem rbox_calls (x y z a b c : Int) (w : World) :
    Calls Try.prog 28 #[.agg #[.int .i64 x, .int .i64 y, .int .i64 z], .agg #[.int .i64 a, .int .i64 b, .int .i64 c]] w fun e w' =>
      e = .returned (.tuple #[boxLow x y z a b c, boxHigh x y z a b c, .int .i64 (boxMany x y z a b c), .int .i64 (boxE x y z a b c)]) ∧ Below w.heap.size w w' := by
  cases h1 : mayB x y z
  · have hO : boxOk x y z a b c = false := by unfold boxOk; rw [h1]; rfl
    have r1 : boxLow x y z a b c = .agg #[.int .i64 0, .int .i64 0, .int .i64 0] := by unfold boxLow; rw [hO]; rfl
    have r2 : boxHigh x y z a b c = .agg #[.int .i64 0, .int .i64 0, .int .i64 0] := by unfold boxHigh; rw [hO]; rfl
    have r3 : boxMany x y z a b c = 0 := by unfold boxMany; rw [hO]; rfl
    have r4 : boxE x y z a b c = 10 := by unfold boxE; rw [h1]; rfl
    rw [r1, r2, r3, r4]
    clear r1 r2 r3 r4 hO
    go_enter Try.func28, Try.ntmps28
    go_wp2_with fail
    refine (rmay_calls _ _ _ _).mono ?_
    rintro e w1 ⟨rfl, hb⟩
    rw [h1]
    have HB := Lib.hid (below_step (((((Below.refl w.heap.size w).alloc (by first | exact Nat.le_refl _ | (simp; done) | (simp; omega) | omega) _).alloc (by first | exact Nat.le_refl _ | (simp; done) | (simp; omega) | omega) _).alloc (by first | exact Nat.le_refl _ | (simp; done) | (simp; omega) | omega) _).alloc (by first | exact Nat.le_refl _ | (simp; done) | (simp; omega) | omega) _) (by first | exact Nat.le_refl _ | (simp; done) | (simp; omega) | omega) hb)
    have b0 := ((((Blk.new_at (w := w) (n := w.heap.size) #[.int .i64 x, .int .i64 y, .int .i64 z] 23 (by simp)).alloc (.cells #[.int .i64 a, .int .i64 b, .int .i64 c] 23)).alloc (.cells #[.int .i64 0, .int .i64 0, .int .i64 0] 23)).alloc (.cells #[.int .i64 0, .int .i64 0, .int .i64 0] 23)).below hb (by first | exact Nat.le_refl _ | (simp; done) | (simp; omega) | omega)
    have b1 := (((Blk.new_at (w := (w.alloc (.cells #[.int .i64 x, .int .i64 y, .int .i64 z] 23))) (n := w.heap.size + 1) #[.int .i64 a, .int .i64 b, .int .i64 c] 23 (by simp)).alloc (.cells #[.int .i64 0, .int .i64 0, .int .i64 0] 23)).alloc (.cells #[.int .i64 0, .int .i64 0, .int .i64 0] 23)).below hb (by first | exact Nat.le_refl _ | (simp; done) | (simp; omega) | omega)
    have b2 := ((Blk.new_at (w := ((w.alloc (.cells #[.int .i64 x, .int .i64 y, .int .i64 z] 23)).alloc (.cells #[.int .i64 a, .int .i64 b, .int .i64 c] 23))) (n := w.heap.size + 2) #[.int .i64 0, .int .i64 0, .int .i64 0] 23 (by simp)).alloc (.cells #[.int .i64 0, .int .i64 0, .int .i64 0] 23)).below hb (by first | exact Nat.le_refl _ | (simp; done) | (simp; omega) | omega)
    have b3 := (Blk.new_at (w := (((w.alloc (.cells #[.int .i64 x, .int .i64 y, .int .i64 z] 23)).alloc (.cells #[.int .i64 a, .int .i64 b, .int .i64 c] 23)).alloc (.cells #[.int .i64 0, .int .i64 0, .int .i64 0] 23))) (n := w.heap.size + 3) #[.int .i64 0, .int .i64 0, .int .i64 0] 23 (by simp)).below hb (by first | exact Nat.le_refl _ | (simp; done) | (simp; omega) | omega)
    clear hb
    have b0_l := b0.lt
    have b0_0 := b0.cell 0 rfl
    have b0_1 := b0.cell 1 rfl
    have b0_2 := b0.cell 2 rfl
    have b1_l := b1.lt
    have b1_0 := b1.cell 0 rfl
    have b1_1 := b1.cell 1 rfl
    have b1_2 := b1.cell 2 rfl
    have b2_l := b2.lt
    have b2_0 := b2.cell 0 rfl
    have b2_1 := b2.cell 1 rfl
    have b2_2 := b2.cell 2 rfl
    have b2_f0 := b2.frozen 0
    have b2_f1 := b2.frozen 1
    have b2_f2 := b2.frozen 2
    have b3_l := b3.lt
    have b3_0 := b3.cell 0 rfl
    have b3_1 := b3.cell 1 rfl
    have b3_2 := b3.cell 2 rfl
    have b3_f0 := b3.frozen 0
    have b3_f1 := b3.frozen 1
    have b3_f2 := b3.frozen 2
    go_wp2_with fail
    refine bodyPost_ret (by simp [results, Try.results28, go_sem, b2_0, b2_1, b2_2, b3_0, b3_1, b3_2]) rfl ⟨rfl, ?_⟩
    repeat (refine Below.setCell ?_ (by simp <;> omega) _)
    exact HB.out
  cases h2 : mayB a b c
  · have hO : boxOk x y z a b c = false := by unfold boxOk; rw [h1, h2]; rfl
    have r1 : boxLow x y z a b c = .agg #[.int .i64 0, .int .i64 0, .int .i64 0] := by unfold boxLow; rw [hO]; rfl
    have r2 : boxHigh x y z a b c = .agg #[.int .i64 0, .int .i64 0, .int .i64 0] := by unfold boxHigh; rw [hO]; rfl
    have r3 : boxMany x y z a b c = 0 := by unfold boxMany; rw [hO]; rfl
    have r4 : boxE x y z a b c = 10 := by unfold boxE; rw [h1, h2]; rfl
    rw [r1, r2, r3, r4]
    clear r1 r2 r3 r4 hO
    go_enter Try.func28, Try.ntmps28
    go_wp2_with fail
    refine (rmay_calls _ _ _ _).mono ?_
    rintro e w1 ⟨rfl, hb⟩
    rw [h1]
    have HB := Lib.hid (below_step (((((Below.refl w.heap.size w).alloc (by first | exact Nat.le_refl _ | (simp; done) | (simp; omega) | omega) _).alloc (by first | exact Nat.le_refl _ | (simp; done) | (simp; omega) | omega) _).alloc (by first | exact Nat.le_refl _ | (simp; done) | (simp; omega) | omega) _).alloc (by first | exact Nat.le_refl _ | (simp; done) | (simp; omega) | omega) _) (by first | exact Nat.le_refl _ | (simp; done) | (simp; omega) | omega) hb)
    have b0 := ((((Blk.new_at (w := w) (n := w.heap.size) #[.int .i64 x, .int .i64 y, .int .i64 z] 23 (by simp)).alloc (.cells #[.int .i64 a, .int .i64 b, .int .i64 c] 23)).alloc (.cells #[.int .i64 0, .int .i64 0, .int .i64 0] 23)).alloc (.cells #[.int .i64 0, .int .i64 0, .int .i64 0] 23)).below hb (by first | exact Nat.le_refl _ | (simp; done) | (simp; omega) | omega)
    have b1 := (((Blk.new_at (w := (w.alloc (.cells #[.int .i64 x, .int .i64 y, .int .i64 z] 23))) (n := w.heap.size + 1) #[.int .i64 a, .int .i64 b, .int .i64 c] 23 (by simp)).alloc (.cells #[.int .i64 0, .int .i64 0, .int .i64 0] 23)).alloc (.cells #[.int .i64 0, .int .i64 0, .int .i64 0] 23)).below hb (by first | exact Nat.le_refl _ | (simp; done) | (simp; omega) | omega)
    have b2 := ((Blk.new_at (w := ((w.alloc (.cells #[.int .i64 x, .int .i64 y, .int .i64 z] 23)).alloc (.cells #[.int .i64 a, .int .i64 b, .int .i64 c] 23))) (n := w.heap.size + 2) #[.int .i64 0, .int .i64 0, .int .i64 0] 23 (by simp)).alloc (.cells #[.int .i64 0, .int .i64 0, .int .i64 0] 23)).below hb (by first | exact Nat.le_refl _ | (simp; done) | (simp; omega) | omega)
    have b3 := (Blk.new_at (w := (((w.alloc (.cells #[.int .i64 x, .int .i64 y, .int .i64 z] 23)).alloc (.cells #[.int .i64 a, .int .i64 b, .int .i64 c] 23)).alloc (.cells #[.int .i64 0, .int .i64 0, .int .i64 0] 23))) (n := w.heap.size + 3) #[.int .i64 0, .int .i64 0, .int .i64 0] 23 (by simp)).below hb (by first | exact Nat.le_refl _ | (simp; done) | (simp; omega) | omega)
    clear hb
    have b0_l := b0.lt
    have b0_0 := b0.cell 0 rfl
    have b0_1 := b0.cell 1 rfl
    have b0_2 := b0.cell 2 rfl
    have b1_l := b1.lt
    have b1_0 := b1.cell 0 rfl
    have b1_1 := b1.cell 1 rfl
    have b1_2 := b1.cell 2 rfl
    have b2_l := b2.lt
    have b2_0 := b2.cell 0 rfl
    have b2_1 := b2.cell 1 rfl
    have b2_2 := b2.cell 2 rfl
    have b2_f0 := b2.frozen 0
    have b2_f1 := b2.frozen 1
    have b2_f2 := b2.frozen 2
    have b3_l := b3.lt
    have b3_0 := b3.cell 0 rfl
    have b3_1 := b3.cell 1 rfl
    have b3_2 := b3.cell 2 rfl
    have b3_f0 := b3.frozen 0
    have b3_f1 := b3.frozen 1
    have b3_f2 := b3.frozen 2
    go_wp2_with fail
    try clear b0_l b0_0 b0_1 b0_2
    try clear b1_l b1_0 b1_1 b1_2
    try clear b2_l b2_0 b2_1 b2_2 b2_f0 b2_f1 b2_f2
    try clear b3_l b3_0 b3_1 b3_2 b3_f0 b3_f1 b3_f2
    refine (rmay_calls _ _ _ _).mono ?_
    rintro e w2 ⟨rfl, hb⟩
    rw [h2]
    replace HB := Lib.hid (below_step HB.out (by have := HB.out.size; first | omega | (simp; omega)) hb)
    replace b0 := b0.below hb b0.lt
    replace b1 := b1.below hb b1.lt
    replace b2 := b2.below hb b2.lt
    replace b3 := b3.below hb b3.lt
    clear hb
    have b0_l := b0.lt
    have b0_0 := b0.cell 0 rfl
    have b0_1 := b0.cell 1 rfl
    have b0_2 := b0.cell 2 rfl
    have b1_l := b1.lt
    have b1_0 := b1.cell 0 rfl
    have b1_1 := b1.cell 1 rfl
    have b1_2 := b1.cell 2 rfl
    have b2_l := b2.lt
    have b2_0 := b2.cell 0 rfl
    have b2_1 := b2.cell 1 rfl
    have b2_2 := b2.cell 2 rfl
    have b2_f0 := b2.frozen 0
    have b2_f1 := b2.frozen 1
    have b2_f2 := b2.frozen 2
    have b3_l := b3.lt
    have b3_0 := b3.cell 0 rfl
    have b3_1 := b3.cell 1 rfl
    have b3_2 := b3.cell 2 rfl
    have b3_f0 := b3.frozen 0
    have b3_f1 := b3.frozen 1
    have b3_f2 := b3.frozen 2
    go_wp2_with fail
    refine bodyPost_ret (by simp [results, Try.results28, go_sem, b2_0, b2_1, b2_2, b3_0, b3_1, b3_2]) rfl ⟨rfl, ?_⟩
    repeat (refine Below.setCell ?_ (by simp <;> omega) _)
    exact HB.out
  have i1 := mayB_iff.1 h1
  have i2 := mayB_iff.1 h2
  have m1 := mxmn x a
  have m2 := mxmn y b
  have m3 := mxmn z c
  have hN : (mayB x y z && mayB a b c) = true := by rw [h1, h2]; rfl
  obtain ⟨X0, hX0⟩ : ∃ v, mnI x a = v := ⟨_, rfl⟩
  obtain ⟨X1, hX1⟩ : ∃ v, mxI x a = v := ⟨_, rfl⟩
  obtain ⟨Y0, hY0⟩ : ∃ v, mnI y b = v := ⟨_, rfl⟩
  obtain ⟨Y1, hY1⟩ : ∃ v, mxI y b = v := ⟨_, rfl⟩
  obtain ⟨Z0, hZ0⟩ : ∃ v, mnI z c = v := ⟨_, rfl⟩
  obtain ⟨Z1, hZ1⟩ : ∃ v, mxI z c = v := ⟨_, rfl⟩
  have s1 : ∀ wv, Calls Try.prog 40 #[.int .i64 x, .int .i64 a] wv fun e w' => e = .returned (.tuple #[.int .i64 X0, .int .i64 X1]) ∧ w' = wv := fun wv => by have h := ends_calls x a wv; rw [hX0, hX1] at h; exact h
  have s2 : ∀ wv, Calls Try.prog 40 #[.int .i64 y, .int .i64 b] wv fun e w' => e = .returned (.tuple #[.int .i64 Y0, .int .i64 Y1]) ∧ w' = wv := fun wv => by have h := ends_calls y b wv; rw [hY0, hY1] at h; exact h
  have s3 : ∀ wv, Calls Try.prog 40 #[.int .i64 z, .int .i64 c] wv fun e w' => e = .returned (.tuple #[.int .i64 Z0, .int .i64 Z1]) ∧ w' = wv := fun wv => by have h := ends_calls z c wv; rw [hZ0, hZ1] at h; exact h
  have hlong : boxLong x y z a b c = (decide (16 < mxI (mxI (boxN x a) (boxN y b)) (boxN z c)) || decide (512 < boxN x a * boxN y b * boxN z c)) := rfl
  have hmany : boxOk x y z a b c = true → boxMany x y z a b c = boxN x a * boxN y b * boxN z c := fun h => by unfold boxMany; rw [h]; rfl
  obtain ⟨nx, hx⟩ : ∃ nx, boxN x a = nx := ⟨_, rfl⟩
  obtain ⟨ny, hy⟩ : ∃ ny, boxN y b = ny := ⟨_, rfl⟩
  obtain ⟨nz, hz⟩ : ∃ nz, boxN z c = nz := ⟨_, rfl⟩
  have ux : X1 - X0 + 1 = nx := by rw [← hx, ← hX0, ← hX1]; rfl
  have uy : Y1 - Y0 + 1 = ny := by rw [← hy, ← hY0, ← hY1]; rfl
  have uz : Z1 - Z0 + 1 = nz := by rw [← hz, ← hZ0, ← hZ1]; rfl
  rw [hx, hy, hz] at hlong hmany
  rw [hX0, hX1] at m1
  rw [hY0, hY1] at m2
  rw [hZ0, hZ1] at m3
  have n1 : 1 ≤ nx ∧ nx ≤ 2097152 := by omega
  have n2 : 1 ≤ ny ∧ ny ≤ 2097152 := by omega
  have n3 : 1 ≤ nz ∧ nz ≤ 2097152 := by omega
  have e1 : IntKind.i64.wrap (X1 - X0) = nx - 1 := (IntWalk.i64_in _ (by omega)).trans (by omega)
  have e2 : IntKind.i64.wrap (Y1 - Y0) = ny - 1 := (IntWalk.i64_in _ (by omega)).trans (by omega)
  have e3 : IntKind.i64.wrap (Z1 - Z0) = nz - 1 := (IntWalk.i64_in _ (by omega)).trans (by omega)
  have e4 : IntKind.i64.wrap (nx - 1 + 1) = nx := (IntWalk.i64_in _ (by omega)).trans (by omega)
  have e5 : IntKind.i64.wrap (ny - 1 + 1) = ny := (IntWalk.i64_in _ (by omega)).trans (by omega)
  have e6 : IntKind.i64.wrap (nz - 1 + 1) = nz := (IntWalk.i64_in _ (by omega)).trans (by omega)
  have e7 : IntKind.i64.wrap nx = nx := IntWalk.i64_in _ (by omega)
  have e8 : IntKind.i64.wrap ny = ny := IntWalk.i64_in _ (by omega)
  have e9 : IntKind.i64.wrap nz = nz := IntWalk.i64_in _ (by omega)
  have q1 := mxmn nx ny
  have q2 := mxmn (mxI nx ny) nz
  replace hX0 := Lib.hid hX0
  replace hX1 := Lib.hid hX1
  replace hY0 := Lib.hid hY0
  replace hY1 := Lib.hid hY1
  replace hZ0 := Lib.hid hZ0
  replace hZ1 := Lib.hid hZ1
  replace hN := Lib.hid hN
  clear i1 i2 m1 m2 m3 hx hy hz ux uy uz
  have hcase : (boxLong x y z a b c = true ∧ (16 ≤ nx - 1 ∨ (nx - 1 < 16 ∧ 16 ≤ ny - 1) ∨ (nx - 1 < 16 ∧ ny - 1 < 16 ∧ 16 ≤ nz - 1) ∨ (nx - 1 < 16 ∧ ny - 1 < 16 ∧ nz - 1 < 16 ∧ 512 < nx * ny * nz))) ∨
      (boxLong x y z a b c = false ∧ nx - 1 < 16 ∧ ny - 1 < 16 ∧ nz - 1 < 16 ∧ nx * ny * nz ≤ 512) := by
    by_cases L1 : 16 < mxI (mxI nx ny) nz
    · left
      refine ⟨by rw [hlong, decide_eq_true L1]; rfl, ?_⟩
      generalize nx * ny * nz = V
      omega
    · by_cases L2 : 512 < nx * ny * nz
      · left
        refine ⟨by rw [hlong, decide_eq_true L2]; simp, .inr (.inr (.inr ⟨by omega, by omega, by omega, L2⟩))⟩
      · right
        exact ⟨by rw [hlong, decide_eq_false L1, decide_eq_false L2]; rfl, by omega, by omega, by omega, by omega⟩
  clear hlong q1 q2
  have hprod : nx - 1 < 16 → ny - 1 < 16 → nz - 1 < 16 → IntKind.i64.wrap (nx * ny) = nx * ny ∧ IntKind.i64.wrap (nx * ny * nz) = nx * ny * nz := fun k1 k2 k3 => by
    obtain ⟨p1, p2, p3, p4⟩ := prod3 n1.1 (by omega : nx ≤ 16) n2.1 (by omega : ny ≤ 16) n3.1 (by omega : nz ≤ 16)
    exact ⟨IntWalk.i64_in _ (by omega), IntWalk.i64_in _ (by omega)⟩
  replace n1 := Lib.hid n1
  replace n2 := Lib.hid n2
  replace n3 := Lib.hid n3
  replace s1 := Lib.hid s1
  replace s2 := Lib.hid s2
  replace s3 := Lib.hid s3
  replace hmany := Lib.hid hmany
  replace hprod := Lib.hid hprod
  rcases hcase with ⟨hL, hc⟩ | ⟨hL, k1, k2, k3, k4⟩
  · have hO : boxOk x y z a b c = false := by unfold boxOk; rw [hL]; simp
    have r1 : boxLow x y z a b c = .agg #[.int .i64 0, .int .i64 0, .int .i64 0] := by unfold boxLow; rw [hO]; rfl
    have r2 : boxHigh x y z a b c = .agg #[.int .i64 0, .int .i64 0, .int .i64 0] := by unfold boxHigh; rw [hO]; rfl
    have r3 : boxMany x y z a b c = 0 := by unfold boxMany; rw [hO]; rfl
    have r4 : boxE x y z a b c = 3 := by unfold boxE; rw [hN.out, hL]; rfl
    rw [r1, r2, r3, r4]
    clear r1 r2 r3 r4 hO hL
    try replace hc := Lib.hid hc
    go_enter Try.func28, Try.ntmps28
    go_wp2_with fail
    refine (rmay_calls _ _ _ _).mono ?_
    rintro e w1 ⟨rfl, hb⟩
    rw [h1]
    have HB := Lib.hid (below_step (((((Below.refl w.heap.size w).alloc (by first | exact Nat.le_refl _ | (simp; done) | (simp; omega) | omega) _).alloc (by first | exact Nat.le_refl _ | (simp; done) | (simp; omega) | omega) _).alloc (by first | exact Nat.le_refl _ | (simp; done) | (simp; omega) | omega) _).alloc (by first | exact Nat.le_refl _ | (simp; done) | (simp; omega) | omega) _) (by first | exact Nat.le_refl _ | (simp; done) | (simp; omega) | omega) hb)
    have b0 := ((((Blk.new_at (w := w) (n := w.heap.size) #[.int .i64 x, .int .i64 y, .int .i64 z] 23 (by simp)).alloc (.cells #[.int .i64 a, .int .i64 b, .int .i64 c] 23)).alloc (.cells #[.int .i64 0, .int .i64 0, .int .i64 0] 23)).alloc (.cells #[.int .i64 0, .int .i64 0, .int .i64 0] 23)).below hb (by first | exact Nat.le_refl _ | (simp; done) | (simp; omega) | omega)
    have b1 := (((Blk.new_at (w := (w.alloc (.cells #[.int .i64 x, .int .i64 y, .int .i64 z] 23))) (n := w.heap.size + 1) #[.int .i64 a, .int .i64 b, .int .i64 c] 23 (by simp)).alloc (.cells #[.int .i64 0, .int .i64 0, .int .i64 0] 23)).alloc (.cells #[.int .i64 0, .int .i64 0, .int .i64 0] 23)).below hb (by first | exact Nat.le_refl _ | (simp; done) | (simp; omega) | omega)
    have b2 := ((Blk.new_at (w := ((w.alloc (.cells #[.int .i64 x, .int .i64 y, .int .i64 z] 23)).alloc (.cells #[.int .i64 a, .int .i64 b, .int .i64 c] 23))) (n := w.heap.size + 2) #[.int .i64 0, .int .i64 0, .int .i64 0] 23 (by simp)).alloc (.cells #[.int .i64 0, .int .i64 0, .int .i64 0] 23)).below hb (by first | exact Nat.le_refl _ | (simp; done) | (simp; omega) | omega)
    have b3 := (Blk.new_at (w := (((w.alloc (.cells #[.int .i64 x, .int .i64 y, .int .i64 z] 23)).alloc (.cells #[.int .i64 a, .int .i64 b, .int .i64 c] 23)).alloc (.cells #[.int .i64 0, .int .i64 0, .int .i64 0] 23))) (n := w.heap.size + 3) #[.int .i64 0, .int .i64 0, .int .i64 0] 23 (by simp)).below hb (by first | exact Nat.le_refl _ | (simp; done) | (simp; omega) | omega)
    clear hb
    have b0_l := b0.lt
    have b0_0 := b0.cell 0 rfl
    have b0_1 := b0.cell 1 rfl
    have b0_2 := b0.cell 2 rfl
    have b1_l := b1.lt
    have b1_0 := b1.cell 0 rfl
    have b1_1 := b1.cell 1 rfl
    have b1_2 := b1.cell 2 rfl
    have b2_l := b2.lt
    have b2_0 := b2.cell 0 rfl
    have b2_1 := b2.cell 1 rfl
    have b2_2 := b2.cell 2 rfl
    have b2_f0 := b2.frozen 0
    have b2_f1 := b2.frozen 1
    have b2_f2 := b2.frozen 2
    have b3_l := b3.lt
    have b3_0 := b3.cell 0 rfl
    have b3_1 := b3.cell 1 rfl
    have b3_2 := b3.cell 2 rfl
    have b3_f0 := b3.frozen 0
    have b3_f1 := b3.frozen 1
    have b3_f2 := b3.frozen 2
    go_wp2_with fail
    try clear b0_l b0_0 b0_1 b0_2
    try clear b1_l b1_0 b1_1 b1_2
    try clear b2_l b2_0 b2_1 b2_2 b2_f0 b2_f1 b2_f2
    try clear b3_l b3_0 b3_1 b3_2 b3_f0 b3_f1 b3_f2
    refine (rmay_calls _ _ _ _).mono ?_
    rintro e w2 ⟨rfl, hb⟩
    rw [h2]
    replace HB := Lib.hid (below_step HB.out (by have := HB.out.size; first | omega | (simp; omega)) hb)
    replace b0 := b0.below hb b0.lt
    replace b1 := b1.below hb b1.lt
    replace b2 := b2.below hb b2.lt
    replace b3 := b3.below hb b3.lt
    clear hb
    have b0_l := b0.lt
    have b0_0 := b0.cell 0 rfl
    have b0_1 := b0.cell 1 rfl
    have b0_2 := b0.cell 2 rfl
    have b1_l := b1.lt
    have b1_0 := b1.cell 0 rfl
    have b1_1 := b1.cell 1 rfl
    have b1_2 := b1.cell 2 rfl
    have b2_l := b2.lt
    have b2_0 := b2.cell 0 rfl
    have b2_1 := b2.cell 1 rfl
    have b2_2 := b2.cell 2 rfl
    have b2_f0 := b2.frozen 0
    have b2_f1 := b2.frozen 1
    have b2_f2 := b2.frozen 2
    have b3_l := b3.lt
    have b3_0 := b3.cell 0 rfl
    have b3_1 := b3.cell 1 rfl
    have b3_2 := b3.cell 2 rfl
    have b3_f0 := b3.frozen 0
    have b3_f1 := b3.frozen 1
    have b3_f2 := b3.frozen 2
    rcases hc.out with k1 | ⟨k1, k2⟩ | ⟨k1, k2, k3⟩ | ⟨k1, k2, k3, k4⟩
    · skip
      go_wp2_with fail
      refine (s1.out _).mono ?_
      rintro e w' ⟨rfl, rfl⟩
      go_wp2_with fail
      refine (s2.out _).mono ?_
      rintro e w' ⟨rfl, rfl⟩
      go_wp2_with fail
      refine (s3.out _).mono ?_
      rintro e w' ⟨rfl, rfl⟩
      go_wp2_with fail
      refine bodyPost_ret (v := .tuple #[.agg #[.int .i64 0, .int .i64 0, .int .i64 0], .agg #[.int .i64 0, .int .i64 0, .int .i64 0], .int .i64 0, .int .i64 3]) (by simp [results, Try.results28, go_sem, b2_0, b2_1, b2_2, b3_0, b3_1, b3_2]) rfl ⟨rfl, ?_⟩
      repeat (refine Below.setCell ?_ (by simp <;> omega) _)
      exact HB.out
    · skip
      go_wp2_with fail
      refine (s1.out _).mono ?_
      rintro e w' ⟨rfl, rfl⟩
      go_wp2_with fail
      refine (s2.out _).mono ?_
      rintro e w' ⟨rfl, rfl⟩
      go_wp2_with fail
      refine (s3.out _).mono ?_
      rintro e w' ⟨rfl, rfl⟩
      go_wp2_with fail
      refine bodyPost_ret (v := .tuple #[.agg #[.int .i64 0, .int .i64 0, .int .i64 0], .agg #[.int .i64 0, .int .i64 0, .int .i64 0], .int .i64 0, .int .i64 3]) (by simp [results, Try.results28, go_sem, b2_0, b2_1, b2_2, b3_0, b3_1, b3_2]) rfl ⟨rfl, ?_⟩
      repeat (refine Below.setCell ?_ (by simp <;> omega) _)
      exact HB.out
    · skip
      go_wp2_with fail
      refine (s1.out _).mono ?_
      rintro e w' ⟨rfl, rfl⟩
      go_wp2_with fail
      refine (s2.out _).mono ?_
      rintro e w' ⟨rfl, rfl⟩
      go_wp2_with fail
      refine (s3.out _).mono ?_
      rintro e w' ⟨rfl, rfl⟩
      go_wp2_with fail
      refine bodyPost_ret (v := .tuple #[.agg #[.int .i64 0, .int .i64 0, .int .i64 0], .agg #[.int .i64 0, .int .i64 0, .int .i64 0], .int .i64 0, .int .i64 3]) (by simp [results, Try.results28, go_sem, b2_0, b2_1, b2_2, b3_0, b3_1, b3_2]) rfl ⟨rfl, ?_⟩
      repeat (refine Below.setCell ?_ (by simp <;> omega) _)
      exact HB.out
    · have p12 := hprod.out k1 k2 k3
      go_wp2_with fail
      refine (s1.out _).mono ?_
      rintro e w' ⟨rfl, rfl⟩
      go_wp2_with fail
      refine (s2.out _).mono ?_
      rintro e w' ⟨rfl, rfl⟩
      go_wp2_with fail
      refine (s3.out _).mono ?_
      rintro e w' ⟨rfl, rfl⟩
      go_wp2_with fail
      refine bodyPost_ret (v := .tuple #[.agg #[.int .i64 0, .int .i64 0, .int .i64 0], .agg #[.int .i64 0, .int .i64 0, .int .i64 0], .int .i64 0, .int .i64 3]) (by simp [results, Try.results28, go_sem, b2_0, b2_1, b2_2, b3_0, b3_1, b3_2]) rfl ⟨rfl, ?_⟩
      repeat (refine Below.setCell ?_ (by simp <;> omega) _)
      exact HB.out
  · have hO : boxOk x y z a b c = true := by unfold boxOk; rw [hL, hN.out]; rfl
    have r1 : boxLow x y z a b c = .agg #[.int .i64 X0, .int .i64 Y0, .int .i64 Z0] := by unfold boxLow; rw [hO, hX0.out, hY0.out, hZ0.out]; rfl
    have r2 : boxHigh x y z a b c = .agg #[.int .i64 X1, .int .i64 Y1, .int .i64 Z1] := by unfold boxHigh; rw [hO, hX1.out, hY1.out, hZ1.out]; rfl
    have r3 : boxMany x y z a b c = nx * ny * nz := hmany.out hO
    have r4 : boxE x y z a b c = 0 := by unfold boxE; rw [hN.out, hL]; rfl
    rw [r1, r2, r3, r4]
    clear r1 r2 r3 r4 hO hL
    obtain ⟨p1, p2⟩ := hprod.out k1 k2 k3
    go_enter Try.func28, Try.ntmps28
    go_wp2_with fail
    refine (rmay_calls _ _ _ _).mono ?_
    rintro e w1 ⟨rfl, hb⟩
    rw [h1]
    have HB := Lib.hid (below_step (((((Below.refl w.heap.size w).alloc (by first | exact Nat.le_refl _ | (simp; done) | (simp; omega) | omega) _).alloc (by first | exact Nat.le_refl _ | (simp; done) | (simp; omega) | omega) _).alloc (by first | exact Nat.le_refl _ | (simp; done) | (simp; omega) | omega) _).alloc (by first | exact Nat.le_refl _ | (simp; done) | (simp; omega) | omega) _) (by first | exact Nat.le_refl _ | (simp; done) | (simp; omega) | omega) hb)
    have b0 := ((((Blk.new_at (w := w) (n := w.heap.size) #[.int .i64 x, .int .i64 y, .int .i64 z] 23 (by simp)).alloc (.cells #[.int .i64 a, .int .i64 b, .int .i64 c] 23)).alloc (.cells #[.int .i64 0, .int .i64 0, .int .i64 0] 23)).alloc (.cells #[.int .i64 0, .int .i64 0, .int .i64 0] 23)).below hb (by first | exact Nat.le_refl _ | (simp; done) | (simp; omega) | omega)
    have b1 := (((Blk.new_at (w := (w.alloc (.cells #[.int .i64 x, .int .i64 y, .int .i64 z] 23))) (n := w.heap.size + 1) #[.int .i64 a, .int .i64 b, .int .i64 c] 23 (by simp)).alloc (.cells #[.int .i64 0, .int .i64 0, .int .i64 0] 23)).alloc (.cells #[.int .i64 0, .int .i64 0, .int .i64 0] 23)).below hb (by first | exact Nat.le_refl _ | (simp; done) | (simp; omega) | omega)
    have b2 := ((Blk.new_at (w := ((w.alloc (.cells #[.int .i64 x, .int .i64 y, .int .i64 z] 23)).alloc (.cells #[.int .i64 a, .int .i64 b, .int .i64 c] 23))) (n := w.heap.size + 2) #[.int .i64 0, .int .i64 0, .int .i64 0] 23 (by simp)).alloc (.cells #[.int .i64 0, .int .i64 0, .int .i64 0] 23)).below hb (by first | exact Nat.le_refl _ | (simp; done) | (simp; omega) | omega)
    have b3 := (Blk.new_at (w := (((w.alloc (.cells #[.int .i64 x, .int .i64 y, .int .i64 z] 23)).alloc (.cells #[.int .i64 a, .int .i64 b, .int .i64 c] 23)).alloc (.cells #[.int .i64 0, .int .i64 0, .int .i64 0] 23))) (n := w.heap.size + 3) #[.int .i64 0, .int .i64 0, .int .i64 0] 23 (by simp)).below hb (by first | exact Nat.le_refl _ | (simp; done) | (simp; omega) | omega)
    clear hb
    have b0_l := b0.lt
    have b0_0 := b0.cell 0 rfl
    have b0_1 := b0.cell 1 rfl
    have b0_2 := b0.cell 2 rfl
    have b1_l := b1.lt
    have b1_0 := b1.cell 0 rfl
    have b1_1 := b1.cell 1 rfl
    have b1_2 := b1.cell 2 rfl
    have b2_l := b2.lt
    have b2_0 := b2.cell 0 rfl
    have b2_1 := b2.cell 1 rfl
    have b2_2 := b2.cell 2 rfl
    have b2_f0 := b2.frozen 0
    have b2_f1 := b2.frozen 1
    have b2_f2 := b2.frozen 2
    have b3_l := b3.lt
    have b3_0 := b3.cell 0 rfl
    have b3_1 := b3.cell 1 rfl
    have b3_2 := b3.cell 2 rfl
    have b3_f0 := b3.frozen 0
    have b3_f1 := b3.frozen 1
    have b3_f2 := b3.frozen 2
    go_wp2_with fail
    try clear b0_l b0_0 b0_1 b0_2
    try clear b1_l b1_0 b1_1 b1_2
    try clear b2_l b2_0 b2_1 b2_2 b2_f0 b2_f1 b2_f2
    try clear b3_l b3_0 b3_1 b3_2 b3_f0 b3_f1 b3_f2
    refine (rmay_calls _ _ _ _).mono ?_
    rintro e w2 ⟨rfl, hb⟩
    rw [h2]
    replace HB := Lib.hid (below_step HB.out (by have := HB.out.size; first | omega | (simp; omega)) hb)
    replace b0 := b0.below hb b0.lt
    replace b1 := b1.below hb b1.lt
    replace b2 := b2.below hb b2.lt
    replace b3 := b3.below hb b3.lt
    clear hb
    have b0_l := b0.lt
    have b0_0 := b0.cell 0 rfl
    have b0_1 := b0.cell 1 rfl
    have b0_2 := b0.cell 2 rfl
    have b1_l := b1.lt
    have b1_0 := b1.cell 0 rfl
    have b1_1 := b1.cell 1 rfl
    have b1_2 := b1.cell 2 rfl
    have b2_l := b2.lt
    have b2_0 := b2.cell 0 rfl
    have b2_1 := b2.cell 1 rfl
    have b2_2 := b2.cell 2 rfl
    have b2_f0 := b2.frozen 0
    have b2_f1 := b2.frozen 1
    have b2_f2 := b2.frozen 2
    have b3_l := b3.lt
    have b3_0 := b3.cell 0 rfl
    have b3_1 := b3.cell 1 rfl
    have b3_2 := b3.cell 2 rfl
    have b3_f0 := b3.frozen 0
    have b3_f1 := b3.frozen 1
    have b3_f2 := b3.frozen 2
    go_wp2_with fail
    refine (s1.out _).mono ?_
    rintro e w' ⟨rfl, rfl⟩
    go_wp2_with fail
    refine (s2.out _).mono ?_
    rintro e w' ⟨rfl, rfl⟩
    go_wp2_with fail
    refine (s3.out _).mono ?_
    rintro e w' ⟨rfl, rfl⟩
    go_wp2_with fail
    refine bodyPost_ret (v := .tuple #[.agg #[.int .i64 X0, .int .i64 Y0, .int .i64 Z0], .agg #[.int .i64 X1, .int .i64 Y1, .int .i64 Z1], .int .i64 (nx * ny * nz), .int .i64 0]) (by simp [results, Try.results28, go_sem, b2_0, b2_1, b2_2, b3_0, b3_1, b3_2]) rfl ⟨rfl, ?_⟩
    repeat (refine Below.setCell ?_ (by simp <;> omega) _)
    exact HB.out
end Go.Proofs.Ytjodiclmibiboaa
