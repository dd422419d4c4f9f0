/-
  The walk of CacheKnown.
-/
import Derived.Test.YtpdckjbknphelaaCaBa
namespace Go.Proofs.Ytpdckjbknphelaa
open Go.RowKit
set_option linter.unusedSimpArgs false
set_option linter.unusedVariables false

/-- The four spots of the examples. -/
structure S4 (V : World) (p : Nat) : Prop where
  a : Blk V p [.int .i64 1, .int .i64 0, .int .i64 0] 23
  b : Blk V (p + 1) [.int .i64 2, .int .i64 0, .int .i64 0] 23
  c : Blk V (p + 1 + 1) [.int .i64 3, .int .i64 0, .int .i64 0] 23
  d : Blk V (p + 1 + 1 + 1) [.int .i64 4, .int .i64 0, .int .i64 0] 23
theorem S4.below {V U : World} {p : Nat} (h : S4 V p) (hb : Below V.heap.size V U) : S4 U p := ⟨h.a.below hb h.a.lt, h.b.below hb h.b.lt, h.c.below hb h.c.lt, h.d.below hb h.d.lt⟩
theorem S4.chg {V U : World} {p B : Nat} (h : S4 V p) (k : Chg B chA V U) : S4 U p := ⟨k.blk h.a (by simp [chA]), k.blk h.b (by simp [chA]), k.blk h.c (by simp [chA]), k.blk h.d (by simp [chA])⟩
set_option maxRecDepth 100000 in
set_option maxHeartbeats 40000000 in
theorem known_walk26 (W : World) : Calls Try.prog 6 #[] W fun e w' => e = .returned (.bool true) ∧ Below W.heap.size W w' := by
  have hA2 : Below W.heap.size W (W.alloc (.cells #[.slice none 0 0, .slice none 0 0, .int .i64 (-1), .int .i64 0] 29)) := (Below.refl _ _).alloc (Nat.le_refl _) _
  have hw1 : Wv (W.alloc (.cells #[.slice none 0 0, .slice none 0 0, .int .i64 (-1), .int .i64 0] 29)) W.heap.size W.heap.size [] [] (-1) 0 := ⟨Nat.le_refl _, _, _, Blk.new W _ _, ROwn.nil _ _ _ _, ROwn.nil _ _ _ _⟩
  obtain ⟨W1, hW1⟩ : ∃ W1, W.alloc (.cells #[.slice none 0 0, .slice none 0 0, .int .i64 (-1), .int .i64 0] 29) = W1 := ⟨_, rfl⟩
  rw [hW1] at hA2 hw1
  have hnew := cnew_calls (w := W) 2 W.heap.size W1 (by omega) (by omega) hw1 hA2
  unfold loadF saveF at hnew
  replace hnew := Lib.hid hnew
  clear hw1 hA2
  go_enter Try.func6, Try.ntmps6
  go_wp2_with fail
  refine hnew.out.mono ?_
  rintro e V ⟨b, rfl, hbn, hbw, hld, hC, hb⟩
  clear hW1 hnew hb
  replace hbn := Lib.hid hbn
  replace hbw := Lib.hid hbw
  replace hld := Lib.hid hld
  have ha1 : Below V.heap.size V (V.alloc (.cells #[.int .i64 1, .int .i64 0, .int .i64 0] 23)) := (Below.refl _ _).alloc (Nat.le_refl _) _
  have hn0 := Blk.new_at (w := V) (n := V.heap.size) #[.int .i64 1, .int .i64 0, .int .i64 0] 23 rfl
  have hz1 : (V.alloc (.cells #[.int .i64 1, .int .i64 0, .int .i64 0] 23)).heap.size = V.heap.size + 1 := by simp
  have ha2 : Below V.heap.size V ((V.alloc (.cells #[.int .i64 1, .int .i64 0, .int .i64 0] 23)).alloc (.cells #[.int .i64 2, .int .i64 0, .int .i64 0] 23)) := ha1.alloc (by rw [hz1]; omega) _
  have hn1 := Blk.new_at (w := (V.alloc (.cells #[.int .i64 1, .int .i64 0, .int .i64 0] 23))) (n := V.heap.size + 1) #[.int .i64 2, .int .i64 0, .int .i64 0] 23 hz1.symm
  have hn0 := hn0.alloc (.cells #[.int .i64 2, .int .i64 0, .int .i64 0] 23)
  have hz2 : ((V.alloc (.cells #[.int .i64 1, .int .i64 0, .int .i64 0] 23)).alloc (.cells #[.int .i64 2, .int .i64 0, .int .i64 0] 23)).heap.size = V.heap.size + 1 + 1 := by simp
  have ha3 : Below V.heap.size V (((V.alloc (.cells #[.int .i64 1, .int .i64 0, .int .i64 0] 23)).alloc (.cells #[.int .i64 2, .int .i64 0, .int .i64 0] 23)).alloc (.cells #[.int .i64 3, .int .i64 0, .int .i64 0] 23)) := ha2.alloc (by rw [hz2]; omega) _
  have hn2 := Blk.new_at (w := ((V.alloc (.cells #[.int .i64 1, .int .i64 0, .int .i64 0] 23)).alloc (.cells #[.int .i64 2, .int .i64 0, .int .i64 0] 23))) (n := V.heap.size + 1 + 1) #[.int .i64 3, .int .i64 0, .int .i64 0] 23 hz2.symm
  have hn0 := hn0.alloc (.cells #[.int .i64 3, .int .i64 0, .int .i64 0] 23)
  have hn1 := hn1.alloc (.cells #[.int .i64 3, .int .i64 0, .int .i64 0] 23)
  have hz3 : (((V.alloc (.cells #[.int .i64 1, .int .i64 0, .int .i64 0] 23)).alloc (.cells #[.int .i64 2, .int .i64 0, .int .i64 0] 23)).alloc (.cells #[.int .i64 3, .int .i64 0, .int .i64 0] 23)).heap.size = V.heap.size + 1 + 1 + 1 := by simp
  have ha4 : Below V.heap.size V ((((V.alloc (.cells #[.int .i64 1, .int .i64 0, .int .i64 0] 23)).alloc (.cells #[.int .i64 2, .int .i64 0, .int .i64 0] 23)).alloc (.cells #[.int .i64 3, .int .i64 0, .int .i64 0] 23)).alloc (.cells #[.int .i64 4, .int .i64 0, .int .i64 0] 23)) := ha3.alloc (by rw [hz3]; omega) _
  have hn3 := Blk.new_at (w := (((V.alloc (.cells #[.int .i64 1, .int .i64 0, .int .i64 0] 23)).alloc (.cells #[.int .i64 2, .int .i64 0, .int .i64 0] 23)).alloc (.cells #[.int .i64 3, .int .i64 0, .int .i64 0] 23))) (n := V.heap.size + 1 + 1 + 1) #[.int .i64 4, .int .i64 0, .int .i64 0] 23 hz3.symm
  have hn0 := hn0.alloc (.cells #[.int .i64 4, .int .i64 0, .int .i64 0] 23)
  have hn1 := hn1.alloc (.cells #[.int .i64 4, .int .i64 0, .int .i64 0] 23)
  have hn2 := hn2.alloc (.cells #[.int .i64 4, .int .i64 0, .int .i64 0] 23)
  obtain ⟨X0, hX0⟩ : ∃ X, ((((V.alloc (.cells #[.int .i64 1, .int .i64 0, .int .i64 0] 23)).alloc (.cells #[.int .i64 2, .int .i64 0, .int .i64 0] 23)).alloc (.cells #[.int .i64 3, .int .i64 0, .int .i64 0] 23)).alloc (.cells #[.int .i64 4, .int .i64 0, .int .i64 0] 23)) = X := ⟨_, rfl⟩
  rw [hX0] at ha4 hn0 hn1 hn2 hn3
  have hC0 := hC.keep ha4
  obtain ⟨P, hP⟩ : ∃ P, V.heap.size = P := ⟨_, rfl⟩
  rw [hP] at hn0 hn1 hn2 hn3
  have hS := Lib.hid (show S4 X0 P from ⟨hn0, hn1, hn2, hn3⟩)
  have hpb0 := pb0
  replace hC := Lib.hid hC0
  replace hX0 := Lib.hid hX0
  replace hP := Lib.hid hP
  clear hz1 hz2 hz3 ha1 ha2 ha3 ha4 hn0 hn1 hn2 hn3 hC0
  have hpb1 : Pb 0 k1 := hpb0.get (by decide) (by rw [← hbn.out]; exact hC.out.wl)
  have hg := get_calls (1, 0, 0) X0 hC.out (by refine ⟨?_, ?_, ?_⟩ <;> decide) (Nat.zero_le _) (Nat.zero_le _) hld.out
  rw [hbn.out, e1] at hg
  unfold spV at hg
  simp only at hg
  replace hg := Lib.hid hg
  go_wp2_with fail
  rw [hX0.out]
  refine hg.out.mono ?_
  rintro e V1 ⟨rfl, hC2, hch⟩
  rw [hP.out]
  clear hg hX0 hP
  replace hS := Lib.hid (hS.out.chg hch)
  replace hC := Lib.hid hC2
  clear hch
  have hpb2 : Pb 0 k2 := hpb1.get (by decide) (by rw [← hbn.out]; exact hC.out.wl)
  have hg := get_calls (2, 0, 0) V1 hC.out (by refine ⟨?_, ?_, ?_⟩ <;> decide) (by rw [l1.1]; omega) (by rw [l1.2]; omega) hld.out
  rw [hbn.out, e2] at hg
  unfold spV at hg
  simp only at hg
  replace hg := Lib.hid hg
  have z0 := hS.out.b.cell 0 rfl
  have z1 := hS.out.b.cell 1 rfl
  have z2 := hS.out.b.cell 2 rfl
  go_wp2_with fail
  refine hg.out.mono ?_
  rintro e V2 ⟨rfl, hC2, hch⟩
  clear hg z0 z1 z2
  replace hS := Lib.hid (hS.out.chg hch)
  replace hC := Lib.hid hC2
  clear hch
  have hpb3 : Pb 0 k3 := hpb2.get (by decide) (by rw [← hbn.out]; exact hC.out.wl)
  have hg := get_calls (1, 0, 0) V2 hC.out (by refine ⟨?_, ?_, ?_⟩ <;> decide) (by rw [l2.1]; omega) (by rw [l2.2]; omega) hld.out
  rw [hbn.out, e3] at hg
  unfold spV at hg
  simp only at hg
  replace hg := Lib.hid hg
  have z0 := hS.out.a.cell 0 rfl
  have z1 := hS.out.a.cell 1 rfl
  have z2 := hS.out.a.cell 2 rfl
  go_wp2_with fail
  refine hg.out.mono ?_
  rintro e V3 ⟨rfl, hC2, hch⟩
  clear hg z0 z1 z2
  replace hS := Lib.hid (hS.out.chg hch)
  replace hC := Lib.hid hC2
  clear hch
  have hpb4 : Pb 0 k4 := hpb3.get (by decide) (by rw [← hbn.out]; exact hC.out.wl)
  have hg := get_calls (3, 0, 0) V3 hC.out (by refine ⟨?_, ?_, ?_⟩ <;> decide) (by rw [l3.1]; omega) (by rw [l3.2]; omega) hld.out
  rw [hbn.out, e4] at hg
  unfold spV at hg
  simp only at hg
  replace hg := Lib.hid hg
  have z0 := hS.out.c.cell 0 rfl
  have z1 := hS.out.c.cell 1 rfl
  have z2 := hS.out.c.cell 2 rfl
  go_wp2_with fail
  refine hg.out.mono ?_
  rintro e V4 ⟨rfl, hC2, hch⟩
  clear hg z0 z1 z2
  replace hS := Lib.hid (hS.out.chg hch)
  replace hC := Lib.hid hC2
  clear hch
  obtain ⟨g, cap, hgn, hgc, x1, hcell⟩ := hC.out.world.callCells (by rw [calls4]; simp)
  have y1 : V4.cell? ⟨W.heap.size, 1, none⟩ = some (.slice (some ⟨g, 0, none⟩) 3 cap) := by rw [hbw.out, calls4] at x1; exact x1
  have y11 : V4.cell? ⟨g, 11, none⟩ = some (.int .i64 3) := hcell 2 (false, (3, 0, 0), 0) (by rw [calls4]; rfl) 1 _ rfl
  have y12 : V4.cell? ⟨g, 12, none⟩ = some (.int .i64 0) := hcell 2 (false, (3, 0, 0), 0) (by rw [calls4]; rfl) 2 _ rfl
  have y13 : V4.cell? ⟨g, 13, none⟩ = some (.int .i64 0) := hcell 2 (false, (3, 0, 0), 0) (by rw [calls4]; rfl) 3 _ rfl
  rw [calls4] at hgn
  have hgn2 : 3 ≤ cap := hgn
  clear hgn
  unfold maxLen at hgc
  clear x1 hcell
  have z0 := hS.out.c.cell 0 rfl
  have z1 := hS.out.c.cell 1 rfl
  have z2 := hS.out.c.cell 2 rfl
  go_wp2_with fail
  go_quiet (fail)
  have hbb := below_drewN (Below.refl V4.heap.size V4) nq
  replace hS := Lib.hid (hS.out.below hbb)
  replace hC := Lib.hid (hC.out.keep hbb)
  clear hbb
  obtain ⟨V5, hV⟩ : ∃ U, V4.drewN nq = U := ⟨_, rfl⟩
  rw [hV] at hS hC
  rw [hV]
  clear hV y1 y11 y12 y13 z0 z1 z2 hgc hgn2
  have hpb5 : Pb 0 k5 := hpb4.dirty
  have hg := dirty_calls (2, 0, 0) V5 hC.out (by refine ⟨?_, ?_, ?_⟩ <;> decide) 
  rw [e5] at hg
  unfold spV at hg
  simp only at hg
  replace hg := Lib.hid hg
  have z0 := hS.out.b.cell 0 rfl
  have z1 := hS.out.b.cell 1 rfl
  have z2 := hS.out.b.cell 2 rfl
  go_wp2_with fail
  refine hg.out.mono ?_
  rintro e V6 ⟨rfl, hC2, hch⟩
  clear hg z0 z1 z2
  replace hS := Lib.hid (hS.out.chg hch)
  replace hC := Lib.hid hC2
  clear hch
  have hpb6 : Pb 0 k6 := hpb5.get (by decide) (by rw [← hbn.out]; exact hC.out.wl)
  have hg := get_calls (1, 0, 0) V6 hC.out (by refine ⟨?_, ?_, ?_⟩ <;> decide) (by rw [l5.1]; omega) (by rw [l5.2]; omega) hld.out
  rw [hbn.out, e6] at hg
  unfold spV at hg
  simp only at hg
  replace hg := Lib.hid hg
  have z0 := hS.out.a.cell 0 rfl
  have z1 := hS.out.a.cell 1 rfl
  have z2 := hS.out.a.cell 2 rfl
  go_wp2_with fail
  refine hg.out.mono ?_
  rintro e V7 ⟨rfl, hC2, hch⟩
  clear hg z0 z1 z2
  replace hS := Lib.hid (hS.out.chg hch)
  replace hC := Lib.hid hC2
  clear hch
  obtain ⟨g, cap, hgn, hgc, x1, hcell⟩ := hC.out.world.callCells (by rw [calls6]; simp)
  have y1 : V7.cell? ⟨W.heap.size, 1, none⟩ = some (.slice (some ⟨g, 0, none⟩) 5 cap) := by rw [hbw.out, calls6] at x1; exact x1
  have y15 : V7.cell? ⟨g, 15, none⟩ = some (.bool true) := hcell 3 (true, (2, 0, 0), 0) (by rw [calls6]; rfl) 0 _ rfl
  have y16 : V7.cell? ⟨g, 16, none⟩ = some (.int .i64 2) := hcell 3 (true, (2, 0, 0), 0) (by rw [calls6]; rfl) 1 _ rfl
  have y17 : V7.cell? ⟨g, 17, none⟩ = some (.int .i64 0) := hcell 3 (true, (2, 0, 0), 0) (by rw [calls6]; rfl) 2 _ rfl
  have y18 : V7.cell? ⟨g, 18, none⟩ = some (.int .i64 0) := hcell 3 (true, (2, 0, 0), 0) (by rw [calls6]; rfl) 3 _ rfl
  have y21 : V7.cell? ⟨g, 21, none⟩ = some (.int .i64 1) := hcell 4 (false, (1, 0, 0), 0) (by rw [calls6]; rfl) 1 _ rfl
  have y22 : V7.cell? ⟨g, 22, none⟩ = some (.int .i64 0) := hcell 4 (false, (1, 0, 0), 0) (by rw [calls6]; rfl) 2 _ rfl
  have y23 : V7.cell? ⟨g, 23, none⟩ = some (.int .i64 0) := hcell 4 (false, (1, 0, 0), 0) (by rw [calls6]; rfl) 3 _ rfl
  rw [calls6] at hgn
  have hgn2 : 5 ≤ cap := hgn
  clear hgn
  unfold maxLen at hgc
  clear x1 hcell
  have z0 := hS.out.a.cell 0 rfl
  have z1 := hS.out.a.cell 1 rfl
  have z2 := hS.out.a.cell 2 rfl
  have t0 := hS.out.b.cell 0 rfl
  have t1 := hS.out.b.cell 1 rfl
  have t2 := hS.out.b.cell 2 rfl
  go_wp2_with fail
  go_quiet (fail)
  have hbb := below_drewN (Below.refl V7.heap.size V7) nq
  replace hS := Lib.hid (hS.out.below hbb)
  replace hC := Lib.hid (hC.out.keep hbb)
  clear hbb
  obtain ⟨V8, hV⟩ : ∃ U, V7.drewN nq = U := ⟨_, rfl⟩
  rw [hV] at hS hC
  rw [hV]
  clear hV y1 y15 y16 y17 y18 y21 y22 y23 z0 z1 z2 t0 t1 t2 hgc hgn2
  have hpb7 : Pb (0 + 1) k7 := hpb6.pin
  have hg := pin_calls (1, 0, 0) V8 hC.out (by refine ⟨?_, ?_, ?_⟩ <;> decide) (fun i => ⟨(hpb6 i).1, by have := (hpb6 i).2; omega⟩)
  rw [e7] at hg
  unfold spV at hg
  simp only at hg
  replace hg := Lib.hid hg
  have z0 := hS.out.a.cell 0 rfl
  have z1 := hS.out.a.cell 1 rfl
  have z2 := hS.out.a.cell 2 rfl
  go_wp2_with fail
  refine hg.out.mono ?_
  rintro e V9 ⟨rfl, hC2, hch⟩
  clear hg z0 z1 z2
  replace hS := Lib.hid (hS.out.chg hch)
  replace hC := Lib.hid hC2
  clear hch
  have hpb8 : Pb (0 + 1 + 1) k8 := hpb7.pin
  have hg := pin_calls (3, 0, 0) V9 hC.out (by refine ⟨?_, ?_, ?_⟩ <;> decide) (fun i => ⟨(hpb7 i).1, by have := (hpb7 i).2; omega⟩)
  rw [e8] at hg
  unfold spV at hg
  simp only at hg
  replace hg := Lib.hid hg
  have z0 := hS.out.c.cell 0 rfl
  have z1 := hS.out.c.cell 1 rfl
  have z2 := hS.out.c.cell 2 rfl
  go_wp2_with fail
  refine hg.out.mono ?_
  rintro e V10 ⟨rfl, hC2, hch⟩
  clear hg z0 z1 z2
  replace hS := Lib.hid (hS.out.chg hch)
  replace hC := Lib.hid hC2
  clear hch
  have hpb9 : Pb (0 + 1 + 1) k9 := hpb8.get (by decide) (by rw [← hbn.out]; exact hC.out.wl)
  have hg := get_calls (2, 0, 0) V10 hC.out (by refine ⟨?_, ?_, ?_⟩ <;> decide) (by rw [l8.1]; omega) (by rw [l8.2]; omega) hld.out
  rw [hbn.out, e9] at hg
  unfold spV at hg
  simp only at hg
  replace hg := Lib.hid hg
  have z0 := hS.out.b.cell 0 rfl
  have z1 := hS.out.b.cell 1 rfl
  have z2 := hS.out.b.cell 2 rfl
  go_wp2_with fail
  refine hg.out.mono ?_
  rintro e V11 ⟨rfl, hC2, hch⟩
  clear hg z0 z1 z2
  replace hS := Lib.hid (hS.out.chg hch)
  replace hC := Lib.hid hC2
  clear hch
  have hpb10 : Pb (0 + 1 + 1) k10 := hpb9.dirty
  have hg := dirty_calls (4, 0, 0) V11 hC.out (by refine ⟨?_, ?_, ?_⟩ <;> decide) 
  rw [e10] at hg
  unfold spV at hg
  simp only at hg
  replace hg := Lib.hid hg
  have z0 := hS.out.d.cell 0 rfl
  have z1 := hS.out.d.cell 1 rfl
  have z2 := hS.out.d.cell 2 rfl
  go_wp2_with fail
  refine hg.out.mono ?_
  rintro e V12 ⟨rfl, hC2, hch⟩
  clear hg z0 z1 z2
  replace hS := Lib.hid (hS.out.chg hch)
  replace hC := Lib.hid hC2
  clear hch
  have hpb11 : Pb (0 + 1 + 1) k11 := hpb10.unpin
  have hg := unpin_calls (3, 0, 0) V12 hC.out (by refine ⟨?_, ?_, ?_⟩ <;> decide) (fun i => ⟨(hpb10 i).1, by have := (hpb10 i).2; omega⟩)
  rw [e11] at hg
  unfold spV at hg
  simp only at hg
  replace hg := Lib.hid hg
  have z0 := hS.out.c.cell 0 rfl
  have z1 := hS.out.c.cell 1 rfl
  have z2 := hS.out.c.cell 2 rfl
  go_wp2_with fail
  refine hg.out.mono ?_
  rintro e V13 ⟨rfl, hC2, hch⟩
  clear hg z0 z1 z2
  replace hS := Lib.hid (hS.out.chg hch)
  replace hC := Lib.hid hC2
  clear hch
  have hpb12 : Pb (0 + 1 + 1) k12 := hpb11.unpin
  have hg := unpin_calls (3, 0, 0) V13 hC.out (by refine ⟨?_, ?_, ?_⟩ <;> decide) (fun i => ⟨(hpb11 i).1, by have := (hpb11 i).2; omega⟩)
  rw [e12] at hg
  unfold spV at hg
  simp only at hg
  replace hg := Lib.hid hg
  have z0 := hS.out.c.cell 0 rfl
  have z1 := hS.out.c.cell 1 rfl
  have z2 := hS.out.c.cell 2 rfl
  go_wp2_with fail
  refine hg.out.mono ?_
  rintro e V14 ⟨rfl, hC2, hch⟩
  clear hg z0 z1 z2
  replace hS := Lib.hid (hS.out.chg hch)
  replace hC := Lib.hid hC2
  clear hch
  clear hpb0 hpb1 hpb2 hpb3 hpb4 hpb5 hpb6 hpb7 hpb8 hpb9 hpb10 hpb11 hpb12
  have hg := get_calls (0, 4, 0) V14 hC.out (by refine ⟨?_, ?_, ?_⟩ <;> decide) (by rw [l12.1]; omega) (by rw [l12.2]; omega) hld.out
  rw [hbn.out, e13] at hg
  unfold spV at hg
  simp only at hg
  replace hg := Lib.hid hg
  go_wp2_with fail
  refine hg.out.mono ?_
  rintro e V15 ⟨rfl, hC2, hch⟩
  clear hg
  replace hS := Lib.hid (hS.out.chg hch)
  replace hC := Lib.hid hC2
  clear hch
  have en : ∀ V : World, (binOp .eql 34 (.func (.func 9) #[.pointer (some ⟨W.heap.size, 0, none⟩)] #[]) .nilFunc).run Try.prog V = .ok (.bool false) V := fun V => by kernel_rfl
  have en2 : ∀ V : World, (binOp .eql 34 (.func (.func 25) #[] #[]) .nilFunc).run Try.prog V = .ok (.bool false) V := fun V => by kernel_rfl
  replace en := Lib.hid en
  replace en2 := Lib.hid en2
  have hg := Lib.hid (cnew_no 0 (.func (.func 9) #[.pointer (some ⟨W.heap.size, 0, none⟩)] #[]) (.func (.func 10) #[.pointer (some ⟨W.heap.size, 0, none⟩)] #[]) V15 (by omega))
  go_wp2_with fail
  refine hg.out.mono ?_
  rintro e V16 ⟨rfl, rfl⟩
  clear hg
  have hg := Lib.hid (cnew_no 65 (.func (.func 9) #[.pointer (some ⟨W.heap.size, 0, none⟩)] #[]) (.func (.func 10) #[.pointer (some ⟨W.heap.size, 0, none⟩)] #[]) V16 (by omega))
  go_wp2_with fail
  refine hg.out.mono ?_
  rintro e V17 ⟨rfl, rfl⟩
  clear hg
  have hg := Lib.hid (cnew_noL (.func (.func 10) #[.pointer (some ⟨W.heap.size, 0, none⟩)] #[]) V17)
  go_wp2_with fail
  refine hg.out.mono ?_
  rintro e V18 ⟨rfl, rfl⟩
  clear hg
  have hg := Lib.hid (cnew_noS (.func 9) #[.pointer (some ⟨W.heap.size, 0, none⟩)] V18 en.out)
  go_wp2_with fail
  refine hg.out.mono ?_
  rintro e V19 ⟨rfl, rfl⟩
  clear hg
  have hw2 : Wv V19 W.heap.size W.heap.size k12.kept k12.calls (-1) 0 := by have := hC.out.world; rw [hbw.out] at this; exact this
  have hg := cnewB_calls k12.kept k12.calls hC.out.keptv 1 W.heap.size (.func 25) #[] V19 (by omega) (by omega) hw2 hC.out.below en2.out
  unfold saveF at hg
  replace hg := Lib.hid hg
  clear hw2
  go_wp2_with fail
  refine hg.out.mono ?_
  rintro e V20 ⟨b2, rfl, hbn2, hbw2, hld2, hC2, hb⟩
  replace hS := Lib.hid (hS.out.below hb)
  replace hC := Lib.hid hC2
  replace hbn2 := Lib.hid hbn2
  replace hbw2 := Lib.hid hbw2
  replace hld2 := Lib.hid hld2
  clear hg hb hbn hbw hld en en2
  have hg := Lib.hid (getbad_calls k12.kept k12.calls (by rw [l12.2]; omega) (by rw [l12.1]; omega) V20 hC.out hld2.out)
  have z0 := hS.out.a.cell 0 rfl
  have z1 := hS.out.a.cell 1 rfl
  have z2 := hS.out.a.cell 2 rfl
  go_wp2_with fail
  refine hg.out.mono ?_
  rintro e V21 ⟨rfl, hC2, hch⟩
  replace hS := Lib.hid (hS.out.chg hch)
  replace hC := Lib.hid hC2
  clear hg hch z0 z1 z2
  have hg := used_calls V21 hC.out
  rw [hbn2.out, show (spots 1 (csB k12.kept k12.calls)).length = 0 from by rw [spots_len]; rfl] at hg
  replace hg := Lib.hid hg
  go_wp2_with fail
  refine hg.out.mono ?_
  rintro e V22 ⟨rfl, hb⟩
  replace hS := Lib.hid (hS.out.below hb)
  have hE := Lib.hid (hC.out.below.trans (hb.mono hC.out.below.size))
  clear hg hb hC hbn2 hbw2 hld2
  have hA := (Below.refl V22.heap.size V22).alloc (Nat.le_refl _) (.cells #[.pointer none, .slice none 0 0, .map none, .int .i64 0, .nilFunc, .nilFunc] 63)
  have hcb := Blk.new V22 #[.pointer none, .slice none 0 0, .map none, .int .i64 0, .nilFunc, .nilFunc] 63
  obtain ⟨X1, hX1⟩ : ∃ X, V22.alloc (.cells #[.pointer none, .slice none 0 0, .map none, .int .i64 0, .nilFunc, .nilFunc] 63) = X := ⟨_, rfl⟩
  rw [hX1] at hA hcb
  obtain ⟨Q, hQ⟩ : ∃ Q, V22.heap.size = Q := ⟨_, rfl⟩
  rw [hQ] at hcb
  replace hS := Lib.hid (hS.out.below hA)
  replace hE := Lib.hid (hE.out.trans (hA.mono hE.out.size))
  clear hA
  have hg := get_no (.pointer none) (1, 0, 0) X1 (noC_nil X1)
  unfold spV at hg
  replace hg := Lib.hid hg
  have z0 := hS.out.a.cell 0 rfl
  have z1 := hS.out.a.cell 1 rfl
  have z2 := hS.out.a.cell 2 rfl
  replace hcb := Lib.hid hcb
  go_wp2_with fail
  refine hg.out.mono ?_
  rintro e V23 ⟨rfl, hb⟩
  clear hX1 hQ z0 z1 z2 hg
  replace hS := Lib.hid (hS.out.below hb)
  replace hE := Lib.hid (hE.out.trans (hb.mono hE.out.size))
  replace hcb := hcb.out.below hb hcb.out.lt
  clear hb
  have c0 := hcb.cell 0 rfl
  clear hcb
  have hg := Lib.hid (flush_no (.pointer (some ⟨Q, 0, none⟩)) V23 (noC_empty c0))
  go_wp2_with fail
  refine hg.out.mono ?_
  rintro e V24 ⟨rfl, rfl⟩
  clear hg
  have hg := Lib.hid (pool_no (.pointer none) V24 (noC_nil _))
  go_wp2_with fail
  refine hg.out.mono ?_
  rintro e V25 ⟨rfl, rfl⟩
  clear hg
  have hg := Lib.hid (used_no (.pointer (some ⟨Q, 0, none⟩)) V25 (noC_empty c0))
  go_wp2_with fail
  refine hg.out.mono ?_
  rintro e V26 ⟨rfl, rfl⟩
  clear hg
  have hg := Lib.hid (spots_no (.pointer none) V26 (noC_nil _))
  go_wp2_with fail
  refine hg.out.mono ?_
  rintro e V27 ⟨rfl, rfl⟩
  clear hg
  have z0 := hS.out.a.cell 0 rfl
  have z1 := hS.out.a.cell 1 rfl
  have z2 := hS.out.a.cell 2 rfl
  have hg := pin_no (.pointer none) (1, 0, 0) V27 (noC_nil _)
  unfold spV at hg
  replace hg := Lib.hid hg
  go_wp2_with fail
  refine hg.out.mono ?_
  rintro e V28 ⟨rfl, hb⟩
  replace hE := Lib.hid (hE.out.trans (hb.mono hE.out.size))
  clear hb hg z0 z1 z2 c0 hS
  have hg := Lib.hid (works_calls V28)
  go_wp2_with fail
  refine hg.out.mono ?_
  rintro e V29 ⟨rfl, hb⟩
  replace hE := Lib.hid (hE.out.trans (hb.mono hE.out.size))
  clear hb hg
  go_wp2_with fail
  go_ret
  exact ⟨rfl, hE.out⟩
end Go.Proofs.Ytpdckjbknphelaa
