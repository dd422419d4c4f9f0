/-
  The law's world: the walk of save.
-/
import Derived.Test.YtpdckjbknphelaaCpY
namespace Go.Proofs.Ytpdckjbknphelaa
open Go.RowKit
set_option linter.unusedSimpArgs false
set_option linter.unusedVariables false
set_option linter.unusedSectionVars false

section
variable [Xs] {W W' : World} {B wb : Nat} {kept : List (Sp × Int)} {calls : List (Bool × Sp × Int)} {fail stop : Int}
set_option maxRecDepth 100000 in
set_option maxHeartbeats 8000000 in
theorem wsave_bad (s : Sp) (xb : Nat) (ce li : Nat → Int × Int) (tv : Value) (v : Int) (W : World) (h : Wv W B wb kept calls fail stop) (hB : B ≤ W.heap.size) (hc : calls.length ≤ 100000) (hk : kept.length ≤ 100000) (hx : Ck W xb ce li tv) (hv : (ce 5).2 = v) (h0 : 0 ≤ v ∧ v ≤ 255) (hbad : badB fail stop calls.length = true) :
    Calls Try.prog 10 #[.pointer (some ⟨wb, 0, none⟩), spV s, .pointer (some ⟨xb, 0, none⟩)] W fun e w' => e = .returned (.int .i64 7) ∧ Wv w' B wb kept (calls ++ [(true, s, v)]) fail stop ∧ Chg B chW W w' := by
  obtain ⟨sx, sy, sz⟩ := s
  have hA : Below W.heap.size W (W.alloc (.cells #[.int .i64 sx, .int .i64 sy, .int .i64 sz] 23)) := (Below.refl _ _).alloc (Nat.le_refl _) _
  have hs := Blk.new W #[.int .i64 sx, .int .i64 sy, .int .i64 sz] 23
  obtain ⟨W1, hW1⟩ : ∃ W1, W.alloc (.cells #[.int .i64 sx, .int .i64 sy, .int .i64 sz] 23) = W1 := ⟨_, rfl⟩
  rw [hW1] at hA hs
  have h1 := h.keep hA
  have hb := bad_calls wb B kept calls fail stop W1 h1 hc
  rw [hbad] at hb
  have hx1 := hx.keep hA
  replace hb := Lib.hid hb
  replace hA := Lib.hid hA
  replace hs := Lib.hid hs
  replace h1 := Lib.hid h1
  replace hx1 := Lib.hid hx1
  unfold spV
  clear h hx
  go_enter Try.func10, Try.ntmps10
  go_wp2_with fail
  refine hb.out.mono ?_
  rintro e w2 ⟨rfl, q, rfl⟩
  have c11 : (W1.drewN q).cell? ⟨xb, 11, none⟩ = some (.int .u8 (ce 5).2) := (hx1.out.drewN q).c1 (i := 5) (by omega)
  rw [hv] at c11
  have w_W2 := Lib.hid (h1.out.keep (below_drewN (Below.refl _ _) q))
  have s_W2 := Lib.hid (hs.out.drewN q)
  have g_W2 := Lib.hid (Chg.of_below (B := B) (S := chW) (below_drewN hA.out q))
  generalize W1.drewN q = W2 at *
  clear hx1 hb h1 hs hA hW1
  have hBW3 : B ≤ W2.drew.heap.size := Nat.le_trans hB g_W2.out.size
  have hwW3 := w_W2.out.keep (Below.refl _ _).drew
  have hsW3 := s_W2.out.drew
  obtain ⟨cv, v', w', hcv, hr, hfz, hwl, ⟨uu, huu⟩, ⟨vb, vn, vc, rfl⟩, hlog, hch1, hch2⟩ := hwW3.log hBW3 hc (true, (sx, sy, sz), v) 27
  have hA2 : Below W2.drew.heap.size W2.drew (W2.drew.alloc (.cells #[.bool true, .int .i64 sx, .int .i64 sy, .int .i64 sz, .int .i64 v] 58)) := (Below.refl _ _).alloc (Nat.le_refl _) _
  have sp1 := hsW3.below hA2 hsW3.lt
  have sp2 := hch1.blk hsW3 (by simp [chW])
  have sp3 := hch2.blk hsW3 (by simp [chW])
  have cv1 := (hA2.cell (p := ⟨wb, 1, none⟩) (World.block_lt_of_cell? _ _ hcv)).trans hcv
  simp only [callL, keptL] at hr
  obtain ⟨Wa, hWa⟩ : ∃ Wa, W2.drew.alloc (.cells #[.bool true, .int .i64 sx, .int .i64 sy, .int .i64 sz, .int .i64 v] 58) = Wa := ⟨_, rfl⟩
  rw [hWa] at hr sp1 cv1
  replace hlog := Lib.hid hlog
  replace hch2 := Lib.hid hch2
  clear hA2 hch1 hwW3
  go_upto_region 5 with fail
  obtain ⟨CC, hCC⟩ : ∃ C, C = appC W2.drew Wa w' (w'.setCell ⟨wb, 1, none⟩ (.slice vb vn vc)) := ⟨_, rfl⟩
  have y1 : ∀ u (p : {w // AnyStage (CC u) 1 w}), p.val.cell? ⟨wb, 1, none⟩ = some cv := by rw [hCC]; exact fun u => appC_lo (I := fun W => W.cell? ⟨wb, 1, none⟩ = some cv) hcv cv1
  have ys : ∀ u N (p : {w // AnyStage (CC u) N w}), Blk p.val W.heap.size [.int .i64 sx, .int .i64 sy, .int .i64 sz] 23 := by rw [hCC]; exact fun u N => appC_all (I := fun V => Blk V W.heap.size [.int .i64 sx, .int .i64 sy, .int .i64 sz] 23) hsW3 sp1 sp2 sp3
  replace hCC := Lib.hid hCC
  replace ys := Lib.hid ys
  clear hcv cv1 sp1 sp2
  replace sp3 := Lib.hid sp3
  replace hsW3 := Lib.hid hsW3
  refine wp_region_stageN [3, 3, 3, 3, 1, 3, 3, 3, 3, 3, 3, 3, 3] (C := CC) (V := appV (.slice (some ⟨W2.drew.heap.size, 0, none⟩) 1 1) (.slice vb vn vc)) (N := 3) (by kernel_rfl) (by kernel_rfl) (by kernel_rfl) (by kernel_rfl) (by kernel_rfl) (appV_some _ _) (fun u u' s w h1 h2 => by rw [hCC.out] at *; exact h2) (fun _ => by rw [hCC.out]; rfl) ?_
  intro u hu
  have e0 : u 0 = .slice (some ⟨W2.drew.heap.size, 0, none⟩) 1 1 := hu 0
  have e1 : u 1 = .slice vb vn vc := hu 1
  have n1 : Nonempty {w // AnyStage (CC u) 1 w} := ⟨⟨W2.drew, 0, by omega, by rw [hCC.out]; rfl⟩⟩
  have n3 : Nonempty {w // AnyStage (CC u) 3 w} := ⟨⟨W2.drew, 0, by omega, by rw [hCC.out]; rfl⟩⟩
  have y1' := y1 u
  clear y1
  have z0 : ∀ p : {w // AnyStage (CC u) 3 w}, p.val.cell? ⟨W.heap.size, 0, none⟩ = some (Value.int .i64 sx) := fun p => (ys.out u 3 p).cell 0 rfl
  have z1 : ∀ p : {w // AnyStage (CC u) 3 w}, p.val.cell? ⟨W.heap.size, 1, none⟩ = some (Value.int .i64 sy) := fun p => (ys.out u 3 p).cell 1 rfl
  have z2 : ∀ p : {w // AnyStage (CC u) 3 w}, p.val.cell? ⟨W.heap.size, 2, none⟩ = some (Value.int .i64 sz) := fun p => (ys.out u 3 p).cell 2 rfl
  repeat (refine wpStageN_step rfl rfl (fun K hK => ?_); go_simp; refine hK _ ?_; clear hK K)
  refine wpStageN_call rfl rfl (fun Wx hx => ?_) ?_
  · rw [hCC.out] at hx
    obtain rfl : Wx = W2.drew := hx
    unfold callAtU
    go_simp
    rw [hCC.out]
    exact ⟨rfl, rfl⟩
  rw [e0]
  repeat (refine wpStageN_step rfl rfl (fun K hK => ?_); go_simp; refine hK _ ?_; clear hK K)
  refine wpStageN_call rfl rfl (fun Wx hx => ?_) ?_
  · rw [hCC.out] at hx
    obtain rfl : Wx = Wa := hx
    refine callAtU_append (.tmp 24) (.tmp 28) 27 rfl rfl rfl hr ?_
    rw [hCC.out]
    exact ⟨rfl, rfl⟩
  rw [e1]
  repeat (refine wpStageN_step rfl rfl (fun K hK => ?_); go_simp; refine hK _ ?_; clear hK K)
  refine wpStageN_call rfl rfl (fun Wx hx => ?_) ?_
  · rw [hCC.out] at hx
    obtain rfl : Wx = w' := hx
    unfold callAtU
    go_simp
    rw [hCC.out]
    exact ⟨trivial, rfl⟩
  refine wpStageN_nil ?_
  intro Wx hx
  rw [hCC.out] at hx
  obtain rfl : Wx = w'.setCell ⟨wb, 1, none⟩ (.slice vb vn vc) := hx
  have s_W3 : Hid (Blk (w'.setCell ⟨wb, 1, none⟩ (.slice vb vn vc)) W.heap.size [.int .i64 sx, .int .i64 sy, .int .i64 sz] 23) := sp3
  have g_W3 := Lib.hid ((g_W2.out.below (Below.refl _ _).drew).trans hch2.out)
  have w_W3 := hlog
  clear z0 z1 z2 y1' n1 n3 hlog sp3 hch2 hsW3 hBW3 e0 e1 hu ys hr hfz hwl huu s_W2 g_W2 w_W2 hWa
  generalize w'.setCell ⟨wb, 1, none⟩ (.slice vb vn vc) = W3 at *
  clear hCC
  go_wp2_with fail
  go_ret
  exact ⟨rfl, w_W3.out, g_W3.out⟩
set_option maxRecDepth 100000 in
set_option maxHeartbeats 8000000 in
theorem wsave_ok (s : Sp) (xb : Nat) (ce li : Nat → Int × Int) (tv : Value) (v : Int) (W : World) (h : Wv W B wb kept calls fail stop) (hB : B ≤ W.heap.size) (hc : calls.length ≤ 100000) (hk : kept.length ≤ 100000) (hx : Ck W xb ce li tv) (hv : (ce 5).2 = v) (h0 : 0 ≤ v ∧ v ≤ 255) (hbad : badB fail stop calls.length = false) :
    Calls Try.prog 10 #[.pointer (some ⟨wb, 0, none⟩), spV s, .pointer (some ⟨xb, 0, none⟩)] W fun e w' => e = .returned (.int .i64 0) ∧ Wv w' B wb (kept ++ [(s, v)]) (calls ++ [(true, s, v)]) fail stop ∧ Chg B chW W w' := by
  obtain ⟨sx, sy, sz⟩ := s
  have hA : Below W.heap.size W (W.alloc (.cells #[.int .i64 sx, .int .i64 sy, .int .i64 sz] 23)) := (Below.refl _ _).alloc (Nat.le_refl _) _
  have hs := Blk.new W #[.int .i64 sx, .int .i64 sy, .int .i64 sz] 23
  obtain ⟨W1, hW1⟩ : ∃ W1, W.alloc (.cells #[.int .i64 sx, .int .i64 sy, .int .i64 sz] 23) = W1 := ⟨_, rfl⟩
  rw [hW1] at hA hs
  have h1 := h.keep hA
  have hb := bad_calls wb B kept calls fail stop W1 h1 hc
  rw [hbad] at hb
  have hx1 := hx.keep hA
  replace hb := Lib.hid hb
  replace hA := Lib.hid hA
  replace hs := Lib.hid hs
  replace h1 := Lib.hid h1
  replace hx1 := Lib.hid hx1
  unfold spV
  clear h hx
  go_enter Try.func10, Try.ntmps10
  go_wp2_with fail
  refine hb.out.mono ?_
  rintro e w2 ⟨rfl, q, rfl⟩
  have c11 : (W1.drewN q).cell? ⟨xb, 11, none⟩ = some (.int .u8 (ce 5).2) := (hx1.out.drewN q).c1 (i := 5) (by omega)
  rw [hv] at c11
  have w_W2 := Lib.hid (h1.out.keep (below_drewN (Below.refl _ _) q))
  have s_W2 := Lib.hid (hs.out.drewN q)
  have g_W2 := Lib.hid (Chg.of_below (B := B) (S := chW) (below_drewN hA.out q))
  generalize W1.drewN q = W2 at *
  clear hx1 hb h1 hs hA hW1
  have hBW3 : B ≤ W2.drew.heap.size := Nat.le_trans hB g_W2.out.size
  have hwW3 := w_W2.out.keep (Below.refl _ _).drew
  have hsW3 := s_W2.out.drew
  obtain ⟨cv, v', w', hcv, hr, hfz, hwl, ⟨uu, huu⟩, ⟨vb, vn, vc, rfl⟩, hlog, hch1, hch2⟩ := hwW3.log hBW3 hc (true, (sx, sy, sz), v) 27
  have hA2 : Below W2.drew.heap.size W2.drew (W2.drew.alloc (.cells #[.bool true, .int .i64 sx, .int .i64 sy, .int .i64 sz, .int .i64 v] 58)) := (Below.refl _ _).alloc (Nat.le_refl _) _
  have sp1 := hsW3.below hA2 hsW3.lt
  have sp2 := hch1.blk hsW3 (by simp [chW])
  have sp3 := hch2.blk hsW3 (by simp [chW])
  have cv1 := (hA2.cell (p := ⟨wb, 1, none⟩) (World.block_lt_of_cell? _ _ hcv)).trans hcv
  simp only [callL, keptL] at hr
  obtain ⟨Wa, hWa⟩ : ∃ Wa, W2.drew.alloc (.cells #[.bool true, .int .i64 sx, .int .i64 sy, .int .i64 sz, .int .i64 v] 58) = Wa := ⟨_, rfl⟩
  rw [hWa] at hr sp1 cv1
  replace hlog := Lib.hid hlog
  replace hch2 := Lib.hid hch2
  clear hA2 hch1 hwW3
  go_upto_region 5 with fail
  obtain ⟨CC, hCC⟩ : ∃ C, C = appC W2.drew Wa w' (w'.setCell ⟨wb, 1, none⟩ (.slice vb vn vc)) := ⟨_, rfl⟩
  have y1 : ∀ u (p : {w // AnyStage (CC u) 1 w}), p.val.cell? ⟨wb, 1, none⟩ = some cv := by rw [hCC]; exact fun u => appC_lo (I := fun W => W.cell? ⟨wb, 1, none⟩ = some cv) hcv cv1
  have ys : ∀ u N (p : {w // AnyStage (CC u) N w}), Blk p.val W.heap.size [.int .i64 sx, .int .i64 sy, .int .i64 sz] 23 := by rw [hCC]; exact fun u N => appC_all (I := fun V => Blk V W.heap.size [.int .i64 sx, .int .i64 sy, .int .i64 sz] 23) hsW3 sp1 sp2 sp3
  replace hCC := Lib.hid hCC
  replace ys := Lib.hid ys
  clear hcv cv1 sp1 sp2
  replace sp3 := Lib.hid sp3
  replace hsW3 := Lib.hid hsW3
  refine wp_region_stageN [3, 3, 3, 3, 1, 3, 3, 3, 3, 3, 3, 3, 3] (C := CC) (V := appV (.slice (some ⟨W2.drew.heap.size, 0, none⟩) 1 1) (.slice vb vn vc)) (N := 3) (by kernel_rfl) (by kernel_rfl) (by kernel_rfl) (by kernel_rfl) (by kernel_rfl) (appV_some _ _) (fun u u' s w h1 h2 => by rw [hCC.out] at *; exact h2) (fun _ => by rw [hCC.out]; rfl) ?_
  intro u hu
  have e0 : u 0 = .slice (some ⟨W2.drew.heap.size, 0, none⟩) 1 1 := hu 0
  have e1 : u 1 = .slice vb vn vc := hu 1
  have n1 : Nonempty {w // AnyStage (CC u) 1 w} := ⟨⟨W2.drew, 0, by omega, by rw [hCC.out]; rfl⟩⟩
  have n3 : Nonempty {w // AnyStage (CC u) 3 w} := ⟨⟨W2.drew, 0, by omega, by rw [hCC.out]; rfl⟩⟩
  have y1' := y1 u
  clear y1
  have z0 : ∀ p : {w // AnyStage (CC u) 3 w}, p.val.cell? ⟨W.heap.size, 0, none⟩ = some (Value.int .i64 sx) := fun p => (ys.out u 3 p).cell 0 rfl
  have z1 : ∀ p : {w // AnyStage (CC u) 3 w}, p.val.cell? ⟨W.heap.size, 1, none⟩ = some (Value.int .i64 sy) := fun p => (ys.out u 3 p).cell 1 rfl
  have z2 : ∀ p : {w // AnyStage (CC u) 3 w}, p.val.cell? ⟨W.heap.size, 2, none⟩ = some (Value.int .i64 sz) := fun p => (ys.out u 3 p).cell 2 rfl
  repeat (refine wpStageN_step rfl rfl (fun K hK => ?_); go_simp; refine hK _ ?_; clear hK K)
  refine wpStageN_call rfl rfl (fun Wx hx => ?_) ?_
  · rw [hCC.out] at hx
    obtain rfl : Wx = W2.drew := hx
    unfold callAtU
    go_simp
    rw [hCC.out]
    exact ⟨rfl, rfl⟩
  rw [e0]
  repeat (refine wpStageN_step rfl rfl (fun K hK => ?_); go_simp; refine hK _ ?_; clear hK K)
  refine wpStageN_call rfl rfl (fun Wx hx => ?_) ?_
  · rw [hCC.out] at hx
    obtain rfl : Wx = Wa := hx
    refine callAtU_append (.tmp 24) (.tmp 28) 27 rfl rfl rfl hr ?_
    rw [hCC.out]
    exact ⟨rfl, rfl⟩
  rw [e1]
  repeat (refine wpStageN_step rfl rfl (fun K hK => ?_); go_simp; refine hK _ ?_; clear hK K)
  refine wpStageN_call rfl rfl (fun Wx hx => ?_) ?_
  · rw [hCC.out] at hx
    obtain rfl : Wx = w' := hx
    unfold callAtU
    go_simp
    rw [hCC.out]
    exact ⟨trivial, rfl⟩
  refine wpStageN_nil ?_
  intro Wx hx
  rw [hCC.out] at hx
  obtain rfl : Wx = w'.setCell ⟨wb, 1, none⟩ (.slice vb vn vc) := hx
  have s_W3 : Hid (Blk (w'.setCell ⟨wb, 1, none⟩ (.slice vb vn vc)) W.heap.size [.int .i64 sx, .int .i64 sy, .int .i64 sz] 23) := sp3
  have g_W3 := Lib.hid ((g_W2.out.below (Below.refl _ _).drew).trans hch2.out)
  have w_W3 := hlog
  clear z0 z1 z2 y1' n1 n3 hlog sp3 hch2 hsW3 hBW3 e0 e1 hu ys hr hfz hwl huu s_W2 g_W2 w_W2 hWa
  generalize w'.setCell ⟨wb, 1, none⟩ (.slice vb vn vc) = W3 at *
  clear hCC
  have hBW4 : B ≤ W3.drew.heap.size := Nat.le_trans hB g_W3.out.size
  have hwW4 := w_W3.out.keep (Below.refl _ _).drew
  have hsW4 := s_W3.out.drew
  obtain ⟨cv, v', w', hcv, hr, hfz, hwl, ⟨uu, huu⟩, ⟨vb, vn, vc, rfl⟩, hlog, hch1, hch2⟩ := hwW4.put hBW4 hk ((sx, sy, sz), v) 26
  have hA2 : Below W3.drew.heap.size W3.drew (W3.drew.alloc (.cells #[.int .i64 sx, .int .i64 sy, .int .i64 sz, .int .i64 v] 84)) := (Below.refl _ _).alloc (Nat.le_refl _) _
  have sp1 := hsW4.below hA2 hsW4.lt
  have sp2 := hch1.blk hsW4 (by simp [chW])
  have sp3 := hch2.blk hsW4 (by simp [chW])
  have cv1 := (hA2.cell (p := ⟨wb, 0, none⟩) (World.block_lt_of_cell? _ _ hcv)).trans hcv
  simp only [callL, keptL] at hr
  obtain ⟨Wa, hWa⟩ : ∃ Wa, W3.drew.alloc (.cells #[.int .i64 sx, .int .i64 sy, .int .i64 sz, .int .i64 v] 84) = Wa := ⟨_, rfl⟩
  rw [hWa] at hr sp1 cv1
  replace hlog := Lib.hid hlog
  replace hch2 := Lib.hid hch2
  clear hA2 hch1 hwW4
  go_upto_region 8 with fail
  obtain ⟨CC, hCC⟩ : ∃ C, C = appC W3.drew Wa w' (w'.setCell ⟨wb, 0, none⟩ (.slice vb vn vc)) := ⟨_, rfl⟩
  have y1 : ∀ u (p : {w // AnyStage (CC u) 1 w}), p.val.cell? ⟨wb, 0, none⟩ = some cv := by rw [hCC]; exact fun u => appC_lo (I := fun W => W.cell? ⟨wb, 0, none⟩ = some cv) hcv cv1
  have ys : ∀ u N (p : {w // AnyStage (CC u) N w}), Blk p.val W.heap.size [.int .i64 sx, .int .i64 sy, .int .i64 sz] 23 := by rw [hCC]; exact fun u N => appC_all (I := fun V => Blk V W.heap.size [.int .i64 sx, .int .i64 sy, .int .i64 sz] 23) hsW4 sp1 sp2 sp3
  replace hCC := Lib.hid hCC
  replace ys := Lib.hid ys
  clear hcv cv1 sp1 sp2
  replace sp3 := Lib.hid sp3
  replace hsW4 := Lib.hid hsW4
  refine wp_region_stageN [3, 3, 3, 3, 1, 3, 3, 3, 3, 3, 3, 3, 3] (C := CC) (V := appV (.slice (some ⟨W3.drew.heap.size, 0, none⟩) 1 1) (.slice vb vn vc)) (N := 3) (by kernel_rfl) (by kernel_rfl) (by kernel_rfl) (by kernel_rfl) (by kernel_rfl) (appV_some _ _) (fun u u' s w h1 h2 => by rw [hCC.out] at *; exact h2) (fun _ => by rw [hCC.out]; rfl) ?_
  intro u hu
  have e0 : u 0 = .slice (some ⟨W3.drew.heap.size, 0, none⟩) 1 1 := hu 0
  have e1 : u 1 = .slice vb vn vc := hu 1
  have n1 : Nonempty {w // AnyStage (CC u) 1 w} := ⟨⟨W3.drew, 0, by omega, by rw [hCC.out]; rfl⟩⟩
  have n3 : Nonempty {w // AnyStage (CC u) 3 w} := ⟨⟨W3.drew, 0, by omega, by rw [hCC.out]; rfl⟩⟩
  have y1' := y1 u
  clear y1
  have z0 : ∀ p : {w // AnyStage (CC u) 3 w}, p.val.cell? ⟨W.heap.size, 0, none⟩ = some (Value.int .i64 sx) := fun p => (ys.out u 3 p).cell 0 rfl
  have z1 : ∀ p : {w // AnyStage (CC u) 3 w}, p.val.cell? ⟨W.heap.size, 1, none⟩ = some (Value.int .i64 sy) := fun p => (ys.out u 3 p).cell 1 rfl
  have z2 : ∀ p : {w // AnyStage (CC u) 3 w}, p.val.cell? ⟨W.heap.size, 2, none⟩ = some (Value.int .i64 sz) := fun p => (ys.out u 3 p).cell 2 rfl
  repeat (refine wpStageN_step rfl rfl (fun K hK => ?_); go_simp; refine hK _ ?_; clear hK K)
  refine wpStageN_call rfl rfl (fun Wx hx => ?_) ?_
  · rw [hCC.out] at hx
    obtain rfl : Wx = W3.drew := hx
    unfold callAtU
    go_simp
    rw [hCC.out]
    exact ⟨rfl, rfl⟩
  rw [e0]
  repeat (refine wpStageN_step rfl rfl (fun K hK => ?_); go_simp; refine hK _ ?_; clear hK K)
  refine wpStageN_call rfl rfl (fun Wx hx => ?_) ?_
  · rw [hCC.out] at hx
    obtain rfl : Wx = Wa := hx
    refine callAtU_append (.tmp 37) (.tmp 41) 26 rfl rfl rfl hr ?_
    rw [hCC.out]
    exact ⟨rfl, rfl⟩
  rw [e1]
  repeat (refine wpStageN_step rfl rfl (fun K hK => ?_); go_simp; refine hK _ ?_; clear hK K)
  refine wpStageN_call rfl rfl (fun Wx hx => ?_) ?_
  · rw [hCC.out] at hx
    obtain rfl : Wx = w' := hx
    unfold callAtU
    go_simp
    rw [hCC.out]
    exact ⟨trivial, rfl⟩
  refine wpStageN_nil ?_
  intro Wx hx
  rw [hCC.out] at hx
  obtain rfl : Wx = w'.setCell ⟨wb, 0, none⟩ (.slice vb vn vc) := hx
  have s_W4 : Hid (Blk (w'.setCell ⟨wb, 0, none⟩ (.slice vb vn vc)) W.heap.size [.int .i64 sx, .int .i64 sy, .int .i64 sz] 23) := sp3
  have g_W4 := Lib.hid ((g_W3.out.below (Below.refl _ _).drew).trans hch2.out)
  have w_W4 := hlog
  clear z0 z1 z2 y1' n1 n3 hlog sp3 hch2 hsW4 hBW4 e0 e1 hu ys hr hfz hwl huu s_W3 g_W3 w_W3 hWa
  generalize w'.setCell ⟨wb, 0, none⟩ (.slice vb vn vc) = W4 at *
  clear hCC
  go_wp2_with fail
  go_ret
  exact ⟨rfl, w_W4.out, g_W4.out⟩
end
end Go.Proofs.Ytpdckjbknphelaa
