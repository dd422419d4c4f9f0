/-
  The reference's cache: save.
-/
import Derived.Test.YtpdckjbknphelaaRfC
namespace Go.Proofs.Ytpdckjbknphelaa
open Go.RowKit
set_option linter.unusedSimpArgs false
set_option linter.unusedVariables false
section
variable {W0 W W' : World} {Y0 : Nat → Prop} {r : Rb} {c : Cs}
set_option maxRecDepth 100000 in
set_option maxHeartbeats 8000000 in
theorem rsave_bad (i : Nat) (W : World) (h : Rw W0 Y0 W r c) (hi : i < r.n) (hf : (c.sl i).full = true) (hd : (c.sl i).dirty = true) (hc : c.calls.length ≤ 100000) (hk : c.kept.length ≤ 100000) (hbad : badB r.fail r.stop c.calls.length = true) :
    Calls Try.prog 59 #[.pointer (some ⟨r.q, 0, none⟩), .int .i64 i] W fun e w' => e = .returned (.int .i64 (cleanS r.fail r.stop c i (vOf c i)).1) ∧ Rw W0 Y0 w' r (cleanS r.fail r.stop c i (vOf c i)).2 := by
  obtain ⟨q0, q1, q4, q5, qf⟩ := h.qcells
  obtain ⟨z0, z1, z2, z3, z4, z5, z6, v, z7, hv⟩ := h.cells hi
  obtain ⟨hn1, hn64⟩ := h.n64
  have hiz : (i : Int) < (r.n : Int) := by omega
  have hvv := hv hf
  unfold cleanS
  rw [if_pos ⟨hf, hd⟩, hbad]
  simp only [Bool.false_eq_true, if_true, if_false]
  obtain ⟨⟨⟨sx, sy, sz⟩, fu, di, mk, pn⟩, hX⟩ : ∃ x, c.sl i = x := ⟨_, rfl⟩
  rw [hX] at z0 z1 z2 z3 z4 z5 z6 hf hd
  simp only at z0 z1 z2 z3 z4 z5 z6 hf hd
  subst hf hd
  have hA : Below W.heap.size W (W.alloc (.cells #[.int .i64 sx, .int .i64 sy, .int .i64 sz, .bool true, .bool true, .bool mk, .int .i64 pn, .int .i64 v] 78)) := (Below.refl _ _).alloc (Nat.le_refl _) _
  have hs := Blk.new W #[.int .i64 sx, .int .i64 sy, .int .i64 sz, .bool true, .bool true, .bool mk, .int .i64 pn, .int .i64 v] 78
  have h1 := h.keep hA
  obtain ⟨W1, hW1⟩ : ∃ W1, W.alloc (.cells #[.int .i64 sx, .int .i64 sy, .int .i64 sz, .bool true, .bool true, .bool mk, .int .i64 pn, .int .i64 v] 78) = W1 := ⟨_, rfl⟩
  obtain ⟨sbk, hsbk⟩ : ∃ b, W.heap.size = b := ⟨_, rfl⟩
  rw [hW1] at h1
  rw [hW1, hsbk] at hs
  have hfl := rfails_calls W1 h1 hc
  rw [hbad] at hfl
  have w_W2 := Lib.hid h1
  have s_W2 := Lib.hid hs
  replace hfl := Lib.hid hfl
  replace hX := Lib.hid hX
  replace hvv := Lib.hid hvv
  replace hsbk := Lib.hid hsbk
  clear hA h hv q1 q4 q5 qf h1 hs
  go_enter Try.func59, Try.ntmps59
  go_wp2_with fail
  refine hfl.out.mono ?_
  rintro e W2 ⟨rfl, hWW⟩
  rw [← hWW] at w_W2 s_W2
  rw [hsbk.out] at *
  clear hfl hW1 hWW z0 z1 z2 z3 z4 z5 z6 z7 q0
  have hwW3 := w_W2.out.keep (Below.refl _ _).drew
  have hsW3 := s_W2.out.drew
  obtain ⟨cv, v', w', hcv, hr, hfz, hwl, ⟨uu, huu⟩, ⟨vb, vn, vc, rfl⟩, hlog, hbl, hszz⟩ := hwW3.log hc (true, (sx, sy, sz), v) 27
  have hA2 : Below W2.drew.heap.size W2.drew (W2.drew.alloc (.cells #[.bool true, .int .i64 sx, .int .i64 sy, .int .i64 sz, .int .i64 v] 58)) := (Below.refl _ _).alloc (Nat.le_refl _) _
  have sp1 := hsW3.below hA2 hsW3.lt
  have sp2 := (hbl _ _ _ hsW3 (by decide) (by decide)).1
  have sp3 := (hbl _ _ _ hsW3 (by decide) (by decide)).2
  have cv1 := (hA2.cell (p := ⟨r.q, 3, none⟩) (World.block_lt_of_cell? _ _ hcv)).trans hcv
  simp only [callL, keptL] at hr
  obtain ⟨Wa, hWa⟩ : ∃ Wa, W2.drew.alloc (.cells #[.bool true, .int .i64 sx, .int .i64 sy, .int .i64 sz, .int .i64 v] 58) = Wa := ⟨_, rfl⟩
  rw [hWa] at hr sp1 cv1
  replace hlog := Lib.hid hlog
  clear hA2 hbl hszz hwW3
  go_upto_region 3 with fail
  obtain ⟨CC, hCC⟩ : ∃ C, C = appC W2.drew Wa w' (w'.setCell ⟨r.q, 3, none⟩ (.slice vb vn vc)) := ⟨_, rfl⟩
  have y1 : ∀ u (p : {w // AnyStage (CC u) 1 w}), p.val.cell? ⟨r.q, 3, none⟩ = some cv := by rw [hCC]; exact fun u => appC_lo (I := fun W => W.cell? ⟨r.q, 3, none⟩ = some cv) hcv cv1
  have ys : ∀ u N (p : {w // AnyStage (CC u) N w}), Blk p.val sbk [.int .i64 sx, .int .i64 sy, .int .i64 sz, .bool true, .bool true, .bool mk, .int .i64 pn, .int .i64 v] 78 := by rw [hCC]; exact fun u N => appC_all (I := fun V => Blk V sbk [.int .i64 sx, .int .i64 sy, .int .i64 sz, .bool true, .bool true, .bool mk, .int .i64 pn, .int .i64 v] 78) hsW3 sp1 sp2 sp3
  replace hCC := Lib.hid hCC
  replace ys := Lib.hid ys
  clear hcv cv1 sp1 sp2
  replace sp3 := Lib.hid sp3
  replace hsW3 := Lib.hid hsW3
  refine wp_region_stageN [3, 3, 3, 3, 1, 3, 3, 3, 3, 3, 3, 3, 3, 3, 3] (C := CC) (V := appV (.slice (some ⟨W2.drew.heap.size, 0, none⟩) 1 1) (.slice vb vn vc)) (N := 3) (by kernel_rfl) (by kernel_rfl) (by kernel_rfl) (by kernel_rfl) (by kernel_rfl) (appV_some _ _) (fun u u' s w h1 h2 => by rw [hCC.out] at *; exact h2) (fun _ => by rw [hCC.out]; rfl) ?_
  intro u hu
  have e0 : u 0 = .slice (some ⟨W2.drew.heap.size, 0, none⟩) 1 1 := hu 0
  have e1 : u 1 = .slice vb vn vc := hu 1
  have n1 : Nonempty {w // AnyStage (CC u) 1 w} := ⟨⟨W2.drew, 0, by omega, by rw [hCC.out]; rfl⟩⟩
  have n3 : Nonempty {w // AnyStage (CC u) 3 w} := ⟨⟨W2.drew, 0, by omega, by rw [hCC.out]; rfl⟩⟩
  have y1' := y1 u
  clear y1
  have z0 : ∀ p : {w // AnyStage (CC u) 3 w}, p.val.cell? ⟨sbk, 0, none⟩ = some (Value.int .i64 sx) := fun p => (ys.out u 3 p).cell 0 rfl
  have z1 : ∀ p : {w // AnyStage (CC u) 3 w}, p.val.cell? ⟨sbk, 1, none⟩ = some (Value.int .i64 sy) := fun p => (ys.out u 3 p).cell 1 rfl
  have z2 : ∀ p : {w // AnyStage (CC u) 3 w}, p.val.cell? ⟨sbk, 2, none⟩ = some (Value.int .i64 sz) := fun p => (ys.out u 3 p).cell 2 rfl
  have z7 : ∀ p : {w // AnyStage (CC u) 3 w}, p.val.cell? ⟨sbk, 7, none⟩ = some (Value.int .i64 v) := fun p => (ys.out u 3 p).cell 7 rfl
  repeat (refine wpStageN_step rfl rfl (fun K hK => ?_); go_simp; refine hK _ ?_; clear hK K)
  refine wpStageN_call rfl rfl (fun Wx hx => ?_) ?_
  · rw [hCC.out] at hx
    obtain rfl : Wx = W2.drew := hx
    unfold callAtU
    go_simp
    rw [hCC.out]
    exact ⟨rfl, rfl⟩
  rw [e0]
  repeat (refine wpStageN_step rfl rfl (fun K hK => ?_); go_simp; refine hK _ ?_; clear hK K)
  refine wpStageN_call rfl rfl (fun Wx hx => ?_) ?_
  · rw [hCC.out] at hx
    obtain rfl : Wx = Wa := hx
    refine callAtU_append (.tmp 20) (.tmp 26) 27 rfl rfl rfl hr ?_
    rw [hCC.out]
    exact ⟨rfl, rfl⟩
  rw [e1]
  repeat (refine wpStageN_step rfl rfl (fun K hK => ?_); go_simp; refine hK _ ?_; clear hK K)
  refine wpStageN_call rfl rfl (fun Wx hx => ?_) ?_
  · rw [hCC.out] at hx
    obtain rfl : Wx = w' := hx
    unfold callAtU
    go_simp
    rw [hCC.out]
    exact ⟨trivial, rfl⟩
  refine wpStageN_nil ?_
  intro Wx hx
  rw [hCC.out] at hx
  obtain rfl : Wx = w'.setCell ⟨r.q, 3, none⟩ (.slice vb vn vc) := hx
  have s_W3 : Hid (Blk (w'.setCell ⟨r.q, 3, none⟩ (.slice vb vn vc)) sbk [.int .i64 sx, .int .i64 sy, .int .i64 sz, .bool true, .bool true, .bool mk, .int .i64 pn, .int .i64 v] 78) := sp3
  have w_W3 := hlog
  clear z0 z1 z2 z7 y1' n1 n3 hlog sp3 hsW3 e0 e1 hu ys hr hfz hwl huu s_W2 w_W2 hWa
  generalize w'.setCell ⟨r.q, 3, none⟩ (.slice vb vn vc) = W3 at *
  clear hCC
  go_wp2_with fail
  go_ret
  refine ⟨rfl, ?_⟩
  rw [hX.out, ← hvv.out]
  exact w_W3.out
set_option maxRecDepth 100000 in
set_option maxHeartbeats 8000000 in
theorem rsave_ok (i : Nat) (W : World) (h : Rw W0 Y0 W r c) (hi : i < r.n) (hf : (c.sl i).full = true) (hd : (c.sl i).dirty = true) (hc : c.calls.length ≤ 100000) (hk : c.kept.length ≤ 100000) (hbad : badB r.fail r.stop c.calls.length = false) :
    Calls Try.prog 59 #[.pointer (some ⟨r.q, 0, none⟩), .int .i64 i] W fun e w' => e = .returned (.int .i64 (cleanS r.fail r.stop c i (vOf c i)).1) ∧ Rw W0 Y0 w' r (cleanS r.fail r.stop c i (vOf c i)).2 := by
  obtain ⟨q0, q1, q4, q5, qf⟩ := h.qcells
  obtain ⟨z0, z1, z2, z3, z4, z5, z6, v, z7, hv⟩ := h.cells hi
  obtain ⟨hn1, hn64⟩ := h.n64
  have hiz : (i : Int) < (r.n : Int) := by omega
  have hvv := hv hf
  unfold cleanS
  rw [if_pos ⟨hf, hd⟩, hbad]
  simp only [Bool.false_eq_true, if_true, if_false]
  obtain ⟨⟨⟨sx, sy, sz⟩, fu, di, mk, pn⟩, hX⟩ : ∃ x, c.sl i = x := ⟨_, rfl⟩
  rw [hX] at z0 z1 z2 z3 z4 z5 z6 hf hd
  simp only at z0 z1 z2 z3 z4 z5 z6 hf hd
  subst hf hd
  have hA : Below W.heap.size W (W.alloc (.cells #[.int .i64 sx, .int .i64 sy, .int .i64 sz, .bool true, .bool true, .bool mk, .int .i64 pn, .int .i64 v] 78)) := (Below.refl _ _).alloc (Nat.le_refl _) _
  have hs := Blk.new W #[.int .i64 sx, .int .i64 sy, .int .i64 sz, .bool true, .bool true, .bool mk, .int .i64 pn, .int .i64 v] 78
  have h1 := h.keep hA
  obtain ⟨W1, hW1⟩ : ∃ W1, W.alloc (.cells #[.int .i64 sx, .int .i64 sy, .int .i64 sz, .bool true, .bool true, .bool mk, .int .i64 pn, .int .i64 v] 78) = W1 := ⟨_, rfl⟩
  obtain ⟨sbk, hsbk⟩ : ∃ b, W.heap.size = b := ⟨_, rfl⟩
  rw [hW1] at h1
  rw [hW1, hsbk] at hs
  have hfl := rfails_calls W1 h1 hc
  rw [hbad] at hfl
  have w_W2 := Lib.hid h1
  have s_W2 := Lib.hid hs
  replace hfl := Lib.hid hfl
  replace hX := Lib.hid hX
  replace hvv := Lib.hid hvv
  replace hsbk := Lib.hid hsbk
  clear hA h hv q1 q4 q5 qf h1 hs
  go_enter Try.func59, Try.ntmps59
  go_wp2_with fail
  refine hfl.out.mono ?_
  rintro e W2 ⟨rfl, hWW⟩
  rw [← hWW] at w_W2 s_W2
  rw [hsbk.out] at *
  clear hfl hW1 hWW z0 z1 z2 z3 z4 z5 z6 z7 q0
  have hwW3 := w_W2.out.keep (Below.refl _ _).drew
  have hsW3 := s_W2.out.drew
  obtain ⟨cv, v', w', hcv, hr, hfz, hwl, ⟨uu, huu⟩, ⟨vb, vn, vc, rfl⟩, hlog, hbl, hszz⟩ := hwW3.log hc (true, (sx, sy, sz), v) 27
  have hA2 : Below W2.drew.heap.size W2.drew (W2.drew.alloc (.cells #[.bool true, .int .i64 sx, .int .i64 sy, .int .i64 sz, .int .i64 v] 58)) := (Below.refl _ _).alloc (Nat.le_refl _) _
  have sp1 := hsW3.below hA2 hsW3.lt
  have sp2 := (hbl _ _ _ hsW3 (by decide) (by decide)).1
  have sp3 := (hbl _ _ _ hsW3 (by decide) (by decide)).2
  have cv1 := (hA2.cell (p := ⟨r.q, 3, none⟩) (World.block_lt_of_cell? _ _ hcv)).trans hcv
  simp only [callL, keptL] at hr
  obtain ⟨Wa, hWa⟩ : ∃ Wa, W2.drew.alloc (.cells #[.bool true, .int .i64 sx, .int .i64 sy, .int .i64 sz, .int .i64 v] 58) = Wa := ⟨_, rfl⟩
  rw [hWa] at hr sp1 cv1
  replace hlog := Lib.hid hlog
  clear hA2 hbl hszz hwW3
  go_upto_region 3 with fail
  obtain ⟨CC, hCC⟩ : ∃ C, C = appC W2.drew Wa w' (w'.setCell ⟨r.q, 3, none⟩ (.slice vb vn vc)) := ⟨_, rfl⟩
  have y1 : ∀ u (p : {w // AnyStage (CC u) 1 w}), p.val.cell? ⟨r.q, 3, none⟩ = some cv := by rw [hCC]; exact fun u => appC_lo (I := fun W => W.cell? ⟨r.q, 3, none⟩ = some cv) hcv cv1
  have ys : ∀ u N (p : {w // AnyStage (CC u) N w}), Blk p.val sbk [.int .i64 sx, .int .i64 sy, .int .i64 sz, .bool true, .bool true, .bool mk, .int .i64 pn, .int .i64 v] 78 := by rw [hCC]; exact fun u N => appC_all (I := fun V => Blk V sbk [.int .i64 sx, .int .i64 sy, .int .i64 sz, .bool true, .bool true, .bool mk, .int .i64 pn, .int .i64 v] 78) hsW3 sp1 sp2 sp3
  replace hCC := Lib.hid hCC
  replace ys := Lib.hid ys
  clear hcv cv1 sp1 sp2
  replace sp3 := Lib.hid sp3
  replace hsW3 := Lib.hid hsW3
  refine wp_region_stageN [3, 3, 3, 3, 1, 3, 3, 3, 3, 3, 3, 3, 3, 3, 3] (C := CC) (V := appV (.slice (some ⟨W2.drew.heap.size, 0, none⟩) 1 1) (.slice vb vn vc)) (N := 3) (by kernel_rfl) (by kernel_rfl) (by kernel_rfl) (by kernel_rfl) (by kernel_rfl) (appV_some _ _) (fun u u' s w h1 h2 => by rw [hCC.out] at *; exact h2) (fun _ => by rw [hCC.out]; rfl) ?_
  intro u hu
  have e0 : u 0 = .slice (some ⟨W2.drew.heap.size, 0, none⟩) 1 1 := hu 0
  have e1 : u 1 = .slice vb vn vc := hu 1
  have n1 : Nonempty {w // AnyStage (CC u) 1 w} := ⟨⟨W2.drew, 0, by omega, by rw [hCC.out]; rfl⟩⟩
  have n3 : Nonempty {w // AnyStage (CC u) 3 w} := ⟨⟨W2.drew, 0, by omega, by rw [hCC.out]; rfl⟩⟩
  have y1' := y1 u
  clear y1
  have z0 : ∀ p : {w // AnyStage (CC u) 3 w}, p.val.cell? ⟨sbk, 0, none⟩ = some (Value.int .i64 sx) := fun p => (ys.out u 3 p).cell 0 rfl
  have z1 : ∀ p : {w // AnyStage (CC u) 3 w}, p.val.cell? ⟨sbk, 1, none⟩ = some (Value.int .i64 sy) := fun p => (ys.out u 3 p).cell 1 rfl
  have z2 : ∀ p : {w // AnyStage (CC u) 3 w}, p.val.cell? ⟨sbk, 2, none⟩ = some (Value.int .i64 sz) := fun p => (ys.out u 3 p).cell 2 rfl
  have z7 : ∀ p : {w // AnyStage (CC u) 3 w}, p.val.cell? ⟨sbk, 7, none⟩ = some (Value.int .i64 v) := fun p => (ys.out u 3 p).cell 7 rfl
  repeat (refine wpStageN_step rfl rfl (fun K hK => ?_); go_simp; refine hK _ ?_; clear hK K)
  refine wpStageN_call rfl rfl (fun Wx hx => ?_) ?_
  · rw [hCC.out] at hx
    obtain rfl : Wx = W2.drew := hx
    unfold callAtU
    go_simp
    rw [hCC.out]
    exact ⟨rfl, rfl⟩
  rw [e0]
  repeat (refine wpStageN_step rfl rfl (fun K hK => ?_); go_simp; refine hK _ ?_; clear hK K)
  refine wpStageN_call rfl rfl (fun Wx hx => ?_) ?_
  · rw [hCC.out] at hx
    obtain rfl : Wx = Wa := hx
    refine callAtU_append (.tmp 20) (.tmp 26) 27 rfl rfl rfl hr ?_
    rw [hCC.out]
    exact ⟨rfl, rfl⟩
  rw [e1]
  repeat (refine wpStageN_step rfl rfl (fun K hK => ?_); go_simp; refine hK _ ?_; clear hK K)
  refine wpStageN_call rfl rfl (fun Wx hx => ?_) ?_
  · rw [hCC.out] at hx
    obtain rfl : Wx = w' := hx
    unfold callAtU
    go_simp
    rw [hCC.out]
    exact ⟨trivial, rfl⟩
  refine wpStageN_nil ?_
  intro Wx hx
  rw [hCC.out] at hx
  obtain rfl : Wx = w'.setCell ⟨r.q, 3, none⟩ (.slice vb vn vc) := hx
  have s_W3 : Hid (Blk (w'.setCell ⟨r.q, 3, none⟩ (.slice vb vn vc)) sbk [.int .i64 sx, .int .i64 sy, .int .i64 sz, .bool true, .bool true, .bool mk, .int .i64 pn, .int .i64 v] 78) := sp3
  have w_W3 := hlog
  clear z0 z1 z2 z7 y1' n1 n3 hlog sp3 hsW3 e0 e1 hu ys hr hfz hwl huu s_W2 w_W2 hWa
  generalize w'.setCell ⟨r.q, 3, none⟩ (.slice vb vn vc) = W3 at *
  clear hCC
  have hwW4 := w_W3.out.keep (Below.refl _ _).drew
  have hsW4 := s_W3.out.drew
  obtain ⟨cv, v', w', hcv, hr, hfz, hwl, ⟨uu, huu⟩, ⟨vb, vn, vc, rfl⟩, hlog, hbl, hszz⟩ := hwW4.put hk ((sx, sy, sz), v) 26
  have hA2 : Below W3.drew.heap.size W3.drew (W3.drew.alloc (.cells #[.int .i64 sx, .int .i64 sy, .int .i64 sz, .int .i64 v] 84)) := (Below.refl _ _).alloc (Nat.le_refl _) _
  have sp1 := hsW4.below hA2 hsW4.lt
  have sp2 := (hbl _ _ _ hsW4 (by decide) (by decide)).1
  have sp3 := (hbl _ _ _ hsW4 (by decide) (by decide)).2
  have cv1 := (hA2.cell (p := ⟨r.q, 2, none⟩) (World.block_lt_of_cell? _ _ hcv)).trans hcv
  simp only [callL, keptL] at hr
  obtain ⟨Wa, hWa⟩ : ∃ Wa, W3.drew.alloc (.cells #[.int .i64 sx, .int .i64 sy, .int .i64 sz, .int .i64 v] 84) = Wa := ⟨_, rfl⟩
  rw [hWa] at hr sp1 cv1
  replace hlog := Lib.hid hlog
  clear hA2 hbl hszz hwW4
  go_upto_region 6 with fail
  obtain ⟨CC, hCC⟩ : ∃ C, C = appC W3.drew Wa w' (w'.setCell ⟨r.q, 2, none⟩ (.slice vb vn vc)) := ⟨_, rfl⟩
  have y1 : ∀ u (p : {w // AnyStage (CC u) 1 w}), p.val.cell? ⟨r.q, 2, none⟩ = some cv := by rw [hCC]; exact fun u => appC_lo (I := fun W => W.cell? ⟨r.q, 2, none⟩ = some cv) hcv cv1
  have ys : ∀ u N (p : {w // AnyStage (CC u) N w}), Blk p.val sbk [.int .i64 sx, .int .i64 sy, .int .i64 sz, .bool true, .bool true, .bool mk, .int .i64 pn, .int .i64 v] 78 := by rw [hCC]; exact fun u N => appC_all (I := fun V => Blk V sbk [.int .i64 sx, .int .i64 sy, .int .i64 sz, .bool true, .bool true, .bool mk, .int .i64 pn, .int .i64 v] 78) hsW4 sp1 sp2 sp3
  replace hCC := Lib.hid hCC
  replace ys := Lib.hid ys
  clear hcv cv1 sp1 sp2
  replace sp3 := Lib.hid sp3
  replace hsW4 := Lib.hid hsW4
  refine wp_region_stageN [3, 3, 3, 3, 1, 3, 3, 3, 3, 3, 3, 3, 3, 3, 3] (C := CC) (V := appV (.slice (some ⟨W3.drew.heap.size, 0, none⟩) 1 1) (.slice vb vn vc)) (N := 3) (by kernel_rfl) (by kernel_rfl) (by kernel_rfl) (by kernel_rfl) (by kernel_rfl) (appV_some _ _) (fun u u' s w h1 h2 => by rw [hCC.out] at *; exact h2) (fun _ => by rw [hCC.out]; rfl) ?_
  intro u hu
  have e0 : u 0 = .slice (some ⟨W3.drew.heap.size, 0, none⟩) 1 1 := hu 0
  have e1 : u 1 = .slice vb vn vc := hu 1
  have n1 : Nonempty {w // AnyStage (CC u) 1 w} := ⟨⟨W3.drew, 0, by omega, by rw [hCC.out]; rfl⟩⟩
  have n3 : Nonempty {w // AnyStage (CC u) 3 w} := ⟨⟨W3.drew, 0, by omega, by rw [hCC.out]; rfl⟩⟩
  have y1' := y1 u
  clear y1
  have z0 : ∀ p : {w // AnyStage (CC u) 3 w}, p.val.cell? ⟨sbk, 0, none⟩ = some (Value.int .i64 sx) := fun p => (ys.out u 3 p).cell 0 rfl
  have z1 : ∀ p : {w // AnyStage (CC u) 3 w}, p.val.cell? ⟨sbk, 1, none⟩ = some (Value.int .i64 sy) := fun p => (ys.out u 3 p).cell 1 rfl
  have z2 : ∀ p : {w // AnyStage (CC u) 3 w}, p.val.cell? ⟨sbk, 2, none⟩ = some (Value.int .i64 sz) := fun p => (ys.out u 3 p).cell 2 rfl
  have z7 : ∀ p : {w // AnyStage (CC u) 3 w}, p.val.cell? ⟨sbk, 7, none⟩ = some (Value.int .i64 v) := fun p => (ys.out u 3 p).cell 7 rfl
  repeat (refine wpStageN_step rfl rfl (fun K hK => ?_); go_simp; refine hK _ ?_; clear hK K)
  refine wpStageN_call rfl rfl (fun Wx hx => ?_) ?_
  · rw [hCC.out] at hx
    obtain rfl : Wx = W3.drew := hx
    unfold callAtU
    go_simp
    rw [hCC.out]
    exact ⟨rfl, rfl⟩
  rw [e0]
  repeat (refine wpStageN_step rfl rfl (fun K hK => ?_); go_simp; refine hK _ ?_; clear hK K)
  refine wpStageN_call rfl rfl (fun Wx hx => ?_) ?_
  · rw [hCC.out] at hx
    obtain rfl : Wx = Wa := hx
    refine callAtU_append (.tmp 35) (.tmp 41) 26 rfl rfl rfl hr ?_
    rw [hCC.out]
    exact ⟨rfl, rfl⟩
  rw [e1]
  repeat (refine wpStageN_step rfl rfl (fun K hK => ?_); go_simp; refine hK _ ?_; clear hK K)
  refine wpStageN_call rfl rfl (fun Wx hx => ?_) ?_
  · rw [hCC.out] at hx
    obtain rfl : Wx = w' := hx
    unfold callAtU
    go_simp
    rw [hCC.out]
    exact ⟨trivial, rfl⟩
  refine wpStageN_nil ?_
  intro Wx hx
  rw [hCC.out] at hx
  obtain rfl : Wx = w'.setCell ⟨r.q, 2, none⟩ (.slice vb vn vc) := hx
  have s_W4 : Hid (Blk (w'.setCell ⟨r.q, 2, none⟩ (.slice vb vn vc)) sbk [.int .i64 sx, .int .i64 sy, .int .i64 sz, .bool true, .bool true, .bool mk, .int .i64 pn, .int .i64 v] 78) := sp3
  have w_W4 := hlog
  clear z0 z1 z2 z7 y1' n1 n3 hlog sp3 hsW4 e0 e1 hu ys hr hfz hwl huu s_W3 w_W3 hWa
  generalize w'.setCell ⟨r.q, 2, none⟩ (.slice vb vn vc) = W4 at *
  clear hCC
  obtain ⟨q0, _⟩ := w_W4.out.qcells
  obtain ⟨_, _, _, _, z4, _⟩ := w_W4.out.cells hi
  have hfr := w_W4.out.frozen (i * 8 + 4)
  have hM := w_W4.out.setOne (i := i) (k := 4) (x := { c.sl i with dirty := false }) (v := .bool false) hi (by omega) rfl rfl
  replace hM := Lib.hid hM
  simp only at z4
  go_wp2_with fail
  go_ret
  refine ⟨rfl, ?_⟩
  have hM2 := hM.out
  rw [← hvv.out]
  rw [show (c.sl i).sp = (sx, sy, sz) by rw [hX.out]] at hM2 ⊢
  exact hM2
theorem rsave_calls (i : Nat) (W : World) (h : Rw W0 Y0 W r c) (hi : i < r.n) (hf : (c.sl i).full = true) (hd : (c.sl i).dirty = true) (hc : c.calls.length ≤ 100000) (hk : c.kept.length ≤ 100000) :
    Calls Try.prog 59 #[.pointer (some ⟨r.q, 0, none⟩), .int .i64 i] W fun e w' => e = .returned (.int .i64 (cleanS r.fail r.stop c i (vOf c i)).1) ∧ Rw W0 Y0 w' r (cleanS r.fail r.stop c i (vOf c i)).2 := by
  cases hbad : badB r.fail r.stop c.calls.length with
  | true => exact rsave_bad i W h hi hf hd hc hk hbad
  | false => exact rsave_ok i W h hi hf hd hc hk hbad
end
end Go.Proofs.Ytpdckjbknphelaa
