/-
  The law's world: the walks of load and save.
-/
import Derived.Test.YtpdckjbknphelaaMg19
import Derived.Test.YtpdckjbknphelaaStagG
namespace Go.Proofs.Ytpdckjbknphelaa
open Go.RowKit
set_option linter.unusedSimpArgs false
set_option linter.unusedVariables false
set_option linter.unusedSectionVars false

theorem valK_step {kept : List (Sp × Int)} {s : Sp} {k : Nat} {p : Sp × Int} (h : kept[k]? = some p) : valK (kept.take (k + 1)) s = if p.1 = s then p.2 else valK (kept.take k) s := by
  unfold valK
  rw [List.take_add_one, h, Option.toList_some, List.foldl_append]
  rfl
/-- The worlds of a cell's store into a chunk: a call that lays blocks, the store. -/
def cellC (V0 : World) (cb : Nat) (x y : Value) (u : Nat → Value) (s : Nat) (W : World) : Prop := match s with
  | 0 => W = V0
  | 1 => Below V0.heap.size V0 W
  | _ => ∃ V1, Below V0.heap.size V0 V1 ∧ W = (V1.setCell ⟨cb, 10, none⟩ x).setCell ⟨cb, 11, none⟩ y
theorem cellC_but {V0 : World} {cb : Nat} {x y : Value} {u : Nat → Value} {N : Nat} (p : {w // AnyStage (cellC V0 cb x y u) N w}) : But cb V0 p.val := by
  obtain ⟨W, s, _, h⟩ := p
  match s, h with
  | 0, h => cases h; exact But.refl _ _
  | 1, h => exact But.of_below h
  | _ + 2, h =>
    obtain ⟨V1, hb, rfl⟩ := h
    exact ((But.of_below hb).setCell 10 _).setCell 11 _
section
variable [Xs] {W W' : World} {B wb : Nat} {kept : List (Sp × Int)} {calls : List (Bool × Sp × Int)} {fail stop : Int}
set_option maxRecDepth 100000 in
set_option maxHeartbeats 4000000 in
theorem wload_bad (s : Sp) (W : World) (h : Wv W B wb kept calls fail stop) (hB : B ≤ W.heap.size) (hc : calls.length ≤ 100000) (hbad : badB fail stop calls.length = true) :
    Calls Try.prog 9 #[.pointer (some ⟨wb, 0, none⟩), spV s] W fun e w' => e = .returned (.tuple #[.pointer none, .int .i64 7]) ∧ Wv w' B wb kept (calls ++ [(false, s, 0)]) fail stop ∧ Chg B chW W w' := by
  obtain ⟨sx, sy, sz⟩ := s
  have hA : Below W.heap.size W (W.alloc (.cells #[.int .i64 sx, .int .i64 sy, .int .i64 sz] 23)) := (Below.refl _ _).alloc (Nat.le_refl _) _
  have hs := Blk.new W #[.int .i64 sx, .int .i64 sy, .int .i64 sz] 23
  obtain ⟨W1, hW1⟩ : ∃ W1, W.alloc (.cells #[.int .i64 sx, .int .i64 sy, .int .i64 sz] 23) = W1 := ⟨_, rfl⟩
  rw [hW1] at hA hs
  have h1 := h.keep hA
  have hb := bad_calls wb B kept calls fail stop W1 h1 hc
  rw [hbad] at hb
  replace hb := Lib.hid hb
  replace hA := Lib.hid hA
  replace hs := Lib.hid hs
  replace h1 := Lib.hid h1
  unfold spV
  clear h
  go_enter Try.func9, Try.ntmps9
  go_wp2_with fail
  refine hb.out.mono ?_
  rintro e w2 ⟨rfl, q, rfl⟩
  have hB1 : B ≤ (W1.drewN q).drew.heap.size := Nat.le_trans hB hA.out.size
  have hbel := (below_drewN hA.out q).drew
  have hs2 := (hs.out.drewN q).drew
  have h2 := h1.out.keep ((below_drewN (Below.refl _ _) q).drew)
  obtain ⟨W2, hW2⟩ : ∃ W2, W1.drewN q = W2 := ⟨_, rfl⟩
  rw [hW2] at hB1 hbel hs2 h2 ⊢
  obtain ⟨cv, v', w', hcv, hr, hfz, hwl, ⟨uu, huu⟩, ⟨vb, vn, vc, rfl⟩, hlog, hch1, hch2⟩ := h2.log hB1 hc (false, (sx, sy, sz), 0) 27
  have hA2 : Below W2.drew.heap.size W2.drew (W2.drew.alloc (.cells (callL (false, (sx, sy, sz), 0)).toArray 58)) := (Below.refl _ _).alloc (Nat.le_refl _) _
  have sp1 := hs2.below hA2 hs2.lt
  have sp2 := hch1.blk hs2 (by simp [chW])
  have sp3 := hch2.blk hs2 (by simp [chW])
  have cv1 := (hA2.cell (p := ⟨wb, 1, none⟩) (World.block_lt_of_cell? _ _ hcv)).trans hcv
  simp only [callL] at *
  obtain ⟨Wa, hWa⟩ : ∃ Wa, W2.drew.alloc (.cells #[.bool false, .int .i64 sx, .int .i64 sy, .int .i64 sz, .int .i64 0] 58) = Wa := ⟨_, rfl⟩
  rw [hWa] at hr sp1 cv1
  replace hlog := Lib.hid hlog
  replace hch1 := Lib.hid hch1
  replace hch2 := Lib.hid hch2
  replace hbel := Lib.hid hbel
  clear hA2 h1 hs hA hb hW1 hW2 h2
  go_upto_region 2 with fail
  obtain ⟨CC, hCC⟩ : ∃ C, C = appC W2.drew Wa w' (w'.setCell ⟨wb, 1, none⟩ (.slice vb vn vc)) := ⟨_, rfl⟩
  have y1 : ∀ u (p : {w // AnyStage (CC u) 1 w}), p.val.cell? ⟨wb, 1, none⟩ = some cv := by rw [hCC]; exact fun u => appC_lo (I := fun W => W.cell? ⟨wb, 1, none⟩ = some cv) hcv cv1
  have ys : ∀ u N (p : {w // AnyStage (CC u) N w}), Blk p.val W.heap.size [.int .i64 sx, .int .i64 sy, .int .i64 sz] 23 := by rw [hCC]; exact fun u N => appC_all (I := fun V => Blk V W.heap.size [.int .i64 sx, .int .i64 sy, .int .i64 sz] 23) hs2 sp1 sp2 sp3
  replace hCC := Lib.hid hCC
  replace ys := Lib.hid ys
  clear hcv cv1 sp1 sp2 sp3
  refine wp_region_stageN [3, 3, 3, 3, 1, 3, 3, 3, 3, 3, 3, 3] (C := CC) (V := appV (.slice (some ⟨W2.drew.heap.size, 0, none⟩) 1 1) (.slice vb vn vc)) (N := 3) (by kernel_rfl) (by kernel_rfl) (by kernel_rfl) (by kernel_rfl) (by kernel_rfl) (appV_some _ _) (fun u u' s w h1 h2 => by rw [hCC.out] at *; exact h2) (fun _ => by rw [hCC.out]; rfl) ?_
  intro u hu
  have e0 : u 0 = .slice (some ⟨W2.drew.heap.size, 0, none⟩) 1 1 := hu 0
  have e1 : u 1 = .slice vb vn vc := hu 1
  have n1 : Nonempty {w // AnyStage (CC u) 1 w} := ⟨⟨W2.drew, 0, by omega, by rw [hCC.out]; rfl⟩⟩
  have n3 : Nonempty {w // AnyStage (CC u) 3 w} := ⟨⟨W2.drew, 0, by omega, by rw [hCC.out]; rfl⟩⟩
  have y1' := y1 u
  clear y1
  have z0 : ∀ p : {w // AnyStage (CC u) 3 w}, p.val.cell? ⟨W.heap.size, 0, none⟩ = some (Value.int .i64 sx) := fun p => (ys.out u 3 p).cell 0 rfl
  have z1 : ∀ p : {w // AnyStage (CC u) 3 w}, p.val.cell? ⟨W.heap.size, 1, none⟩ = some (Value.int .i64 sy) := fun p => (ys.out u 3 p).cell 1 rfl
  have z2 : ∀ p : {w // AnyStage (CC u) 3 w}, p.val.cell? ⟨W.heap.size, 2, none⟩ = some (Value.int .i64 sz) := fun p => (ys.out u 3 p).cell 2 rfl
  repeat (refine wpStageN_step rfl rfl (fun K hK => ?_); go_simp; refine hK _ ?_; clear hK K)
  refine wpStageN_call rfl rfl (fun Wx hx => ?_) ?_
  · rw [hCC.out] at hx
    obtain rfl : Wx = W2.drew := hx
    unfold callAtU
    go_simp
    rw [hCC.out]
    exact ⟨rfl, rfl⟩
  rw [e0]
  repeat (refine wpStageN_step rfl rfl (fun K hK => ?_); go_simp; refine hK _ ?_; clear hK K)
  refine wpStageN_call rfl rfl (fun Wx hx => ?_) ?_
  · rw [hCC.out] at hx
    obtain rfl : Wx = Wa := hx
    refine callAtU_append (.tmp 15) (.tmp 18) 27 rfl rfl rfl hr ?_
    rw [hCC.out]
    exact ⟨rfl, rfl⟩
  rw [e1]
  repeat (refine wpStageN_step rfl rfl (fun K hK => ?_); go_simp; refine hK _ ?_; clear hK K)
  refine wpStageN_call rfl rfl (fun Wx hx => ?_) ?_
  · rw [hCC.out] at hx
    obtain rfl : Wx = w' := hx
    unfold callAtU
    go_simp
    rw [hCC.out]
    exact ⟨trivial, rfl⟩
  refine wpStageN_nil ?_
  intro Wx hx
  rw [hCC.out] at hx
  obtain rfl : Wx = w'.setCell ⟨wb, 1, none⟩ (.slice vb vn vc) := hx
  clear z0 z1 z2 y1' n1 n3
  go_wp2_with fail
  go_ret2
  exact ⟨rfl, hlog.out, (Chg.of_below hbel.out).trans hch2.out⟩
set_option maxRecDepth 100000 in
set_option maxHeartbeats 4000000 in
theorem wload_ok (s : Sp) (W : World) (h : Wv W B wb kept calls fail stop) (hB : B ≤ W.heap.size) (hc : calls.length ≤ 100000) (hk : kept.length ≤ 100000) (hv : ∀ p ∈ kept, 0 ≤ p.2 ∧ p.2 ≤ 255) (hbad : badB fail stop calls.length = false) :
    Calls Try.prog 9 #[.pointer (some ⟨wb, 0, none⟩), spV s] W fun e w' => (∃ b, e = .returned (.tuple #[.pointer (some ⟨b, 0, none⟩), .int .i64 0]) ∧ W.heap.size ≤ b ∧ Ck w' b (updP zeroP 5 (cellV (valK kept s))) zeroP (.slice none 0 0)) ∧ Wv w' B wb kept (calls ++ [(false, s, 0)]) fail stop ∧ Chg B chW W w' := by
  obtain ⟨sx, sy, sz⟩ := s
  have hA : Below W.heap.size W (W.alloc (.cells #[.int .i64 sx, .int .i64 sy, .int .i64 sz] 23)) := (Below.refl _ _).alloc (Nat.le_refl _) _
  have hs := Blk.new W #[.int .i64 sx, .int .i64 sy, .int .i64 sz] 23
  obtain ⟨W1, hW1⟩ : ∃ W1, W.alloc (.cells #[.int .i64 sx, .int .i64 sy, .int .i64 sz] 23) = W1 := ⟨_, rfl⟩
  rw [hW1] at hA hs
  have h1 := h.keep hA
  have hb := bad_calls wb B kept calls fail stop W1 h1 hc
  rw [hbad] at hb
  replace hb := Lib.hid hb
  replace hA := Lib.hid hA
  replace hs := Lib.hid hs
  replace h1 := Lib.hid h1
  unfold spV
  clear h
  go_enter Try.func9, Try.ntmps9
  go_wp2_with fail
  refine hb.out.mono ?_
  rintro e w2 ⟨rfl, q, rfl⟩
  have hB1 : B ≤ (W1.drewN q).drew.heap.size := Nat.le_trans hB hA.out.size
  have hbel := (below_drewN hA.out q).drew
  have hs2 := (hs.out.drewN q).drew
  have h2 := h1.out.keep ((below_drewN (Below.refl _ _) q).drew)
  obtain ⟨W2, hW2⟩ : ∃ W2, W1.drewN q = W2 := ⟨_, rfl⟩
  rw [hW2] at hB1 hbel hs2 h2 ⊢
  obtain ⟨cv, v', w', hcv, hr, hfz, hwl, ⟨uu, huu⟩, ⟨vb, vn, vc, rfl⟩, hlog, hch1, hch2⟩ := h2.log hB1 hc (false, (sx, sy, sz), 0) 27
  have hA2 : Below W2.drew.heap.size W2.drew (W2.drew.alloc (.cells (callL (false, (sx, sy, sz), 0)).toArray 58)) := (Below.refl _ _).alloc (Nat.le_refl _) _
  have sp1 := hs2.below hA2 hs2.lt
  have sp2 := hch1.blk hs2 (by simp [chW])
  have sp3 := hch2.blk hs2 (by simp [chW])
  have cv1 := (hA2.cell (p := ⟨wb, 1, none⟩) (World.block_lt_of_cell? _ _ hcv)).trans hcv
  simp only [callL] at *
  obtain ⟨Wa, hWa⟩ : ∃ Wa, W2.drew.alloc (.cells #[.bool false, .int .i64 sx, .int .i64 sy, .int .i64 sz, .int .i64 0] 58) = Wa := ⟨_, rfl⟩
  rw [hWa] at hr sp1 cv1
  replace hlog := Lib.hid hlog
  replace hch1 := Lib.hid hch1
  replace hch2 := Lib.hid hch2
  replace hbel := Lib.hid hbel
  clear hA2 h1 hs hA hb hW1 hW2 h2
  go_upto_region 2 with fail
  obtain ⟨CC, hCC⟩ : ∃ C, C = appC W2.drew Wa w' (w'.setCell ⟨wb, 1, none⟩ (.slice vb vn vc)) := ⟨_, rfl⟩
  have y1 : ∀ u (p : {w // AnyStage (CC u) 1 w}), p.val.cell? ⟨wb, 1, none⟩ = some cv := by rw [hCC]; exact fun u => appC_lo (I := fun W => W.cell? ⟨wb, 1, none⟩ = some cv) hcv cv1
  have ys : ∀ u N (p : {w // AnyStage (CC u) N w}), Blk p.val W.heap.size [.int .i64 sx, .int .i64 sy, .int .i64 sz] 23 := by rw [hCC]; exact fun u N => appC_all (I := fun V => Blk V W.heap.size [.int .i64 sx, .int .i64 sy, .int .i64 sz] 23) hs2 sp1 sp2 sp3
  replace hCC := Lib.hid hCC
  replace ys := Lib.hid ys
  clear hcv cv1 sp1 sp2 sp3
  refine wp_region_stageN [3, 3, 3, 3, 1, 3, 3, 3, 3, 3, 3, 3] (C := CC) (V := appV (.slice (some ⟨W2.drew.heap.size, 0, none⟩) 1 1) (.slice vb vn vc)) (N := 3) (by kernel_rfl) (by kernel_rfl) (by kernel_rfl) (by kernel_rfl) (by kernel_rfl) (appV_some _ _) (fun u u' s w h1 h2 => by rw [hCC.out] at *; exact h2) (fun _ => by rw [hCC.out]; rfl) ?_
  intro u hu
  have e0 : u 0 = .slice (some ⟨W2.drew.heap.size, 0, none⟩) 1 1 := hu 0
  have e1 : u 1 = .slice vb vn vc := hu 1
  have n1 : Nonempty {w // AnyStage (CC u) 1 w} := ⟨⟨W2.drew, 0, by omega, by rw [hCC.out]; rfl⟩⟩
  have n3 : Nonempty {w // AnyStage (CC u) 3 w} := ⟨⟨W2.drew, 0, by omega, by rw [hCC.out]; rfl⟩⟩
  have y1' := y1 u
  clear y1
  have z0 : ∀ p : {w // AnyStage (CC u) 3 w}, p.val.cell? ⟨W.heap.size, 0, none⟩ = some (Value.int .i64 sx) := fun p => (ys.out u 3 p).cell 0 rfl
  have z1 : ∀ p : {w // AnyStage (CC u) 3 w}, p.val.cell? ⟨W.heap.size, 1, none⟩ = some (Value.int .i64 sy) := fun p => (ys.out u 3 p).cell 1 rfl
  have z2 : ∀ p : {w // AnyStage (CC u) 3 w}, p.val.cell? ⟨W.heap.size, 2, none⟩ = some (Value.int .i64 sz) := fun p => (ys.out u 3 p).cell 2 rfl
  repeat (refine wpStageN_step rfl rfl (fun K hK => ?_); go_simp; refine hK _ ?_; clear hK K)
  refine wpStageN_call rfl rfl (fun Wx hx => ?_) ?_
  · rw [hCC.out] at hx
    obtain rfl : Wx = W2.drew := hx
    unfold callAtU
    go_simp
    rw [hCC.out]
    exact ⟨rfl, rfl⟩
  rw [e0]
  repeat (refine wpStageN_step rfl rfl (fun K hK => ?_); go_simp; refine hK _ ?_; clear hK K)
  refine wpStageN_call rfl rfl (fun Wx hx => ?_) ?_
  · rw [hCC.out] at hx
    obtain rfl : Wx = Wa := hx
    refine callAtU_append (.tmp 15) (.tmp 18) 27 rfl rfl rfl hr ?_
    rw [hCC.out]
    exact ⟨rfl, rfl⟩
  rw [e1]
  repeat (refine wpStageN_step rfl rfl (fun K hK => ?_); go_simp; refine hK _ ?_; clear hK K)
  refine wpStageN_call rfl rfl (fun Wx hx => ?_) ?_
  · rw [hCC.out] at hx
    obtain rfl : Wx = w' := hx
    unfold callAtU
    go_simp
    rw [hCC.out]
    exact ⟨trivial, rfl⟩
  refine wpStageN_nil ?_
  intro Wx hx
  rw [hCC.out] at hx
  obtain rfl : Wx = w'.setCell ⟨wb, 1, none⟩ (.slice vb vn vc) := hx
  have hsp : Blk (w'.setCell ⟨wb, 1, none⟩ (.slice vb vn vc)) W.heap.size [.int .i64 sx, .int .i64 sy, .int .i64 sz] 23 := ys.out u 3 ⟨w'.setCell ⟨wb, 1, none⟩ (.slice vb vn vc), 3, by omega, by rw [hCC.out]; rfl⟩
  have hch := (Chg.of_below hbel.out).trans hch2.out
  clear z0 z1 z2 y1' n1 n3 e0 e1 hu ys hCC hr hWa hfz hwl huu hch1 hch2 hbel hs2 hB1 hbad CC
  obtain ⟨W3, hW3⟩ : ∃ W3, w'.setCell ⟨wb, 1, none⟩ (.slice vb vn vc) = W3 := ⟨_, rfl⟩
  rw [hW3] at hsp hlog hch ⊢
  clear hW3
  have hnew := new_calls W3
  have hck := ck_new W3
  have hA3 : Below W3.heap.size W3 (W3.alloc (.cells chunkZ 91)) := (Below.refl _ _).alloc (Nat.le_refl _) _
  have hsz : W.heap.size ≤ W3.heap.size := hch.size
  obtain ⟨cb, hcb⟩ : ∃ cb, W3.heap.size = cb := ⟨_, rfl⟩
  rw [hcb] at hck hnew hsz
  obtain ⟨W4, hW4⟩ : ∃ W4, W3.alloc (.cells chunkZ 91) = W4 := ⟨_, rfl⟩
  rw [hW4] at hnew hck hA3
  have hsp4 := hsp.below hA3 hsp.lt
  have hw4 := hlog.out.keep hA3
  have hch4 := hch.below hA3
  replace hnew := Lib.hid hnew
  replace hck := Lib.hid hck
  replace hsp4 := Lib.hid hsp4
  replace hw4 := Lib.hid hw4
  replace hch4 := Lib.hid hch4
  clear hsp hlog hch hA3 hW4 hcb
  go_wp2_with fail
  refine hnew.out.mono ?_
  rintro e w5 ⟨rfl, rfl⟩
  clear hnew
  obtain ⟨m, hm⟩ : ∃ m, kept.length = m := ⟨_, rfl⟩
  replace hm := Lib.hid hm
  go_wp2_with fail
  go_loopw [8] (fun i V => ∃ k, k ≤ m ∧ i = .int .i64 (k : Nat) ∧ Wv V B wb kept (calls ++ [(false, (sx, sy, sz), 0)]) fail stop ∧ Blk V W.heap.size [.int .i64 sx, .int .i64 sy, .int .i64 sz] 23 ∧ Ck V cb (updP zeroP 5 (cellV (valK (kept.take k) (sx, sy, sz)))) zeroP (.slice none 0 0) ∧ Chg B chW W V) (fun i _ => m + 1 - (intOf i).toNat)
  case atStart => exact ⟨0, by omega, rfl, hw4.out, hsp4.out, by
    have : updP zeroP 5 (cellV (valK (kept.take 0) (sx, sy, sz))) = zeroP := by
      funext i
      unfold updP
      split
      · rfl
      · rfl
    rw [this]; exact hck.out, hch4.out⟩
  case round =>
    obtain ⟨k, hkm, rfl, hw, hsp, hc2, hcg⟩ := hrel
    clear hw4 hsp4 hck hch4
    by_cases hlt : k < m
    · obtain ⟨p, hp⟩ : ∃ p, kept[k]? = some p := ⟨_, List.getElem?_eq_getElem (by rw [hm.out]; exact hlt)⟩
      have hstep := valK_step (s := (sx, sy, sz)) hp
      have hpv := hv p (List.mem_of_getElem? hp)
      have hw0 := hw
      obtain ⟨hBw, kv, cv, hb, hkr, hcr⟩ := hw
      obtain ⟨base, cap, rfl, hnc, hcap, hrow⟩ := hkr.open
      rw [List.length_map, hm.out] at hnc
      obtain ⟨g, rfl, hBg, hcell⟩ := hrow (fun e => by have := congrArg List.length e; rw [List.length_map, hm.out] at this; simp at this; omega)
      have hc := hcell k (keptL p) (by rw [List.getElem?_map, hp]; rfl)
      obtain ⟨⟨px, py, pz⟩, pv⟩ := p
      simp only at hpv hstep
      have d0 : wr.cell? ⟨g, k * 4, none⟩ = some (.int .i64 px) := hc 0 _ rfl
      have d1 := hc 1 _ rfl
      have d2 := hc 2 _ rfl
      have d3 := hc 3 _ rfl
      have x0 := hb.cell 0 rfl
      rw [List.length_map, hm.out] at x0
      have z0 := hsp.cell 0 rfl
      have z1 := hsp.cell 1 rfl
      have z2 := hsp.cell 2 rfl
      have hkz : (k : Int) < (m : Int) := by omega
      unfold maxLen at hcap
      have hgl : g < wr.heap.size := World.block_lt_of_cell? _ _ d3
      have hgc : g ≠ cb := fun e => by
        obtain ⟨cs, hc1, _⟩ := hc2
        exact hkr.ne hc1 (by decide) (by rw [e]; rfl)
      have hwc : wb ≠ cb := fun e => by
        obtain ⟨cs, hc1, _⟩ := hc2
        subst e
        unfold Blk at hc1 hb
        rw [hb] at hc1
        injection hc1 with hc1
        injection hc1 with _ h2
        exact absurd h2 (by decide)
      have hsc : W.heap.size ≠ cb := fun e => by
        obtain ⟨cs, hc1, _⟩ := hc2
        unfold Blk at hc1 hsp
        rw [← e, hsp] at hc1
        injection hc1 with hc1
        injection hc1 with _ h2
        exact absurd h2 (by decide)
      replace hw0 := Lib.hid hw0
      replace hb := Lib.hid hb
      replace hsp := Lib.hid hsp
      replace hc2 := Lib.hid hc2
      replace hcg := Lib.hid hcg
      replace hstep := Lib.hid hstep
      replace hgc := Lib.hid hgc
      replace hwc := Lib.hid hwc
      replace hsc := Lib.hid hsc
      clear hkr hcr hrow hcell hc hp
      by_cases e : (px, py, pz) = (sx, sy, sz)
      · have hst := hstep.out
        rw [if_pos e] at hst
        injection e with e1 e
        injection e with e2 e3
        subst e1 e2 e3
        replace hst := Lib.hid hst
        go_wp2_with fail
        go_quiet (fail)
        obtain ⟨V0, hV0⟩ : ∃ V0, wr.drewN nq = V0 := ⟨_, rfl⟩
        have hbb : Below wr.heap.size wr V0.drew := by rw [← hV0]; exact (below_drewN (Below.refl _ _) nq).drew
        rw [hV0]
        clear hV0 nq
        have hw1 := hw0.out.keep hbb
        have hsp1 := hsp.out.below hbb hsp.out.lt
        have hc1 := hc2.out.keep hbb
        have hcg1 := hcg.out.below hbb
        have hb1 := hb.out.below hbb hb.out.lt
        have d3' := (hbb.cell (p := ⟨g, _, none⟩) hgl).trans d3
        have hgl1 : g < V0.drew.heap.size := Nat.lt_of_lt_of_le hgl hbb.size
        clear hw0 hsp hc2 hcg hb hbb z0 z1 z2 d0 d1 d2 d3 x0
        have hcc := fun V => cell_calls pv V hpv
        replace hcc := Lib.hid hcc
        go_upto_region 10 with fail
        obtain ⟨CC, hCC⟩ : ∃ C, C = cellC V0.drew cb (.int .u8 (cellV pv).1) (.int .u8 (cellV pv).2) := ⟨_, rfl⟩
        have hbut : ∀ u N (p : {w // AnyStage (CC u) N w}), But cb V0.drew p.val := by rw [hCC]; exact fun u N p => cellC_but p
        replace hCC := Lib.hid hCC
        refine wp_region_stageN [2, 2, 2, 2, 2, 2, 2, 2, 2, 2, 2, 2, 2, 2] (C := CC) (V := appV (.agg #[.int .u8 (cellV pv).1, .int .u8 (cellV pv).2]) undef) (N := 2) (by kernel_rfl) (by kernel_rfl) (by kernel_rfl) (by kernel_rfl) (by kernel_rfl) (appV_some _ _) (fun u u' s w h1 h2 => by rw [hCC.out] at *; exact h2) (fun _ => by rw [hCC.out]; rfl) ?_
        intro u hu
        have e0 : u 0 = .agg #[.int .u8 (cellV pv).1, .int .u8 (cellV pv).2] := hu 0
        have n2 : Nonempty {w // AnyStage (CC u) 2 w} := ⟨⟨V0.drew, 0, by omega, by rw [hCC.out]; rfl⟩⟩
        have y0 : ∀ p : {w // AnyStage (CC u) 2 w}, p.val.cell? ⟨wb, 0, none⟩ = some (Value.slice (some ⟨g, 0, none⟩) m cap) := fun p => by
          have := (hb1.but (hbut u 2 p) hwc.out).cell 0 rfl
          rw [List.length_map, hm.out] at this
          exact this
        have y3 : ∀ p : {w // AnyStage (CC u) 2 w}, p.val.cell? ⟨g, k * 4 + 3, none⟩ = some (Value.int .i64 pv) := fun p => (World.cell?_of_block (a := ⟨g, _, none⟩) ((hbut u 2 p).block g hgl1 hgc.out)).trans d3'
        repeat (refine wpStageN_step rfl rfl (fun K hK => ?_); go_simp; refine hK _ ?_; clear hK K)
        refine wpStageN_call rfl rfl (fun Wx hx => ?_) ?_
        · rw [hCC.out] at hx
          obtain rfl : Wx = V0.drew := hx
          unfold callAtU
          go_simp
          refine (hcc.out _).mono ?_
          rintro e V1 ⟨rfl, hbx⟩
          rw [hCC.out]
          exact ⟨_, rfl, rfl, hbx⟩
        rw [e0]
        repeat (refine wpStageN_step rfl rfl (fun K hK => ?_); go_simp; refine hK _ ?_; clear hK K)
        refine wpStageN_call rfl rfl (fun Wx hx => ?_) ?_
        · rw [hCC.out] at hx
          have hx : Below V0.drew.heap.size V0.drew Wx := hx
          have q1 : Wx.cell? ⟨cb, 10, none⟩ = some _ := (hc1.keep hx).c0 (i := 5) (by omega)
          have q2 : Wx.cell? ⟨cb, 11, none⟩ = some _ := (hc1.keep hx).c1 (i := 5) (by omega)
          have q3 := (hc1.keep hx).frozen 10
          have q4 := (hc1.keep hx).frozen 11
          have q5 := (hc1.keep hx).lt
          replace hx := Lib.hid hx
          unfold callAtU
          go_simp
          rw [hCC.out]
          exact ⟨rfl, Wx, hx.out, rfl⟩
        refine wpStageN_nil ?_
        intro Wx hx
        rw [hCC.out] at hx
        obtain ⟨V1, hbx, rfl⟩ : ∃ V1, Below V0.drew.heap.size V0.drew V1 ∧ Wx = (V1.setCell ⟨cb, 10, none⟩ (.int .u8 (cellV pv).1)).setCell ⟨cb, 11, none⟩ (.int .u8 (cellV pv).2) := hx
        have hbu : But cb V0.drew ((V1.setCell ⟨cb, 10, none⟩ (.int .u8 (cellV pv).1)).setCell ⟨cb, 11, none⟩ (.int .u8 (cellV pv).2)) := ((But.of_below hbx).setCell 10 _).setCell 11 _
        have hwE := hw1.butO hbu hc1
        have hspE := hsp1.but hbu hsc.out
        have hckE := (hc1.keep hbx).setCell (i := 5) (by omega) (cellV pv).1 (cellV pv).2
        have hcgE := hcg1.but hbu (Nat.le_trans hB hsz) fun o ho => absurd (lt_of_obj ho) (by omega)
        replace hwE := Lib.hid hwE
        replace hspE := Lib.hid hspE
        replace hckE := Lib.hid hckE
        replace hcgE := Lib.hid hcgE
        clear y0 y3 n2 hw1 hsp1 hc1 hcg1 hb1 d3'
        go_wp2_with fail
        go_round
        case rel => exact ⟨k + 1, by omega, by go_num, hwE.out, hspE.out, by
          rw [hst.out]
          have : updP (updP zeroP 5 (cellV (valK (kept.take k) (px, py, pz)))) 5 ((cellV pv).1, (cellV pv).2) = updP zeroP 5 (cellV pv) := by
            funext i
            unfold updP
            split <;> rfl
          rw [← this]; exact hckE.out, hcgE.out⟩
        case measure => simp [intOf]; omega
      · have hst := hstep.out
        rw [if_neg e] at hst
        by_cases e1 : px = sx
        · subst e1
          by_cases e2 : py = sy
          · subst e2
            have h0 : (pz == sz) = false := beq_eq_false_iff_ne.2 fun h => e (by rw [h])
            replace hst := Lib.hid hst
            clear e
            go_wp2_with fail
            go_quiet (fail)
            have hbb := below_drewN (Below.refl wr.heap.size wr) nq
            have hwE := hw0.out.keep hbb
            have hspE := hsp.out.below hbb hsp.out.lt
            have hckE := hc2.out.keep hbb
            have hcgE := hcg.out.below hbb
            replace hwE := Lib.hid hwE
            replace hspE := Lib.hid hspE
            replace hckE := Lib.hid hckE
            replace hcgE := Lib.hid hcgE
            clear hbb
            generalize wr.drewN nq = V0 at *
            clear z0 z1 z2 d0 d1 d2 d3 x0 hw0 hsp hc2 hcg hb
            go_wp2_with fail
            go_round
            case rel => exact ⟨k + 1, by omega, by go_num, hwE.out, hspE.out, by rw [hst.out]; exact hckE.out, hcgE.out⟩
            case measure => simp [intOf]; omega
          · have h0 : (py == sy) = false := beq_eq_false_iff_ne.2 e2
            replace hst := Lib.hid hst
            clear e
            go_wp2_with fail
            go_quiet (fail)
            have hbb := below_drewN (Below.refl wr.heap.size wr) nq
            have hwE := hw0.out.keep hbb
            have hspE := hsp.out.below hbb hsp.out.lt
            have hckE := hc2.out.keep hbb
            have hcgE := hcg.out.below hbb
            replace hwE := Lib.hid hwE
            replace hspE := Lib.hid hspE
            replace hckE := Lib.hid hckE
            replace hcgE := Lib.hid hcgE
            clear hbb
            generalize wr.drewN nq = V0 at *
            clear z0 z1 z2 d0 d1 d2 d3 x0 hw0 hsp hc2 hcg hb
            go_wp2_with fail
            go_round
            case rel => exact ⟨k + 1, by omega, by go_num, hwE.out, hspE.out, by rw [hst.out]; exact hckE.out, hcgE.out⟩
            case measure => simp [intOf]; omega
        · have h0 : (px == sx) = false := beq_eq_false_iff_ne.2 e1
          replace hst := Lib.hid hst
          clear e
          go_wp2_with fail
          go_quiet (fail)
          have hbb := below_drewN (Below.refl wr.heap.size wr) nq
          have hwE := hw0.out.keep hbb
          have hspE := hsp.out.below hbb hsp.out.lt
          have hckE := hc2.out.keep hbb
          have hcgE := hcg.out.below hbb
          replace hwE := Lib.hid hwE
          replace hspE := Lib.hid hspE
          replace hckE := Lib.hid hckE
          replace hcgE := Lib.hid hcgE
          clear hbb
          generalize wr.drewN nq = V0 at *
          clear z0 z1 z2 d0 d1 d2 d3 x0 hw0 hsp hc2 hcg hb
          go_wp2_with fail
          go_round
          case rel => exact ⟨k + 1, by omega, by go_num, hwE.out, hspE.out, by rw [hst.out]; exact hckE.out, hcgE.out⟩
          case measure => simp [intOf]; omega
    · obtain rfl : k = m := by omega
      have hall : kept.take k = kept := List.take_of_length_le (by rw [hm.out]; exact Nat.le_refl _)
      rw [hall] at hc2
      have hw0 := hw
      obtain ⟨hBw, kv, cv, hb, hkr, hcr⟩ := hw
      obtain ⟨base, cap, rfl, hnc, hcap, hrow⟩ := hkr.open
      unfold maxLen at hcap
      rw [List.length_map, hm.out] at hnc
      have x0 := hb.cell 0 rfl
      rw [List.length_map, hm.out] at x0
      replace hw0 := Lib.hid hw0
      replace hc2 := Lib.hid hc2
      replace hcg := Lib.hid hcg
      clear hb hkr hcr hrow hsp
      go_wp2_with fail
      go_ret2
      exact ⟨⟨cb, rfl, hsz, hc2.out⟩, hw0.out, hcg.out⟩
end
end Go.Proofs.Ytpdckjbknphelaa
