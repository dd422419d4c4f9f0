/-
  The reference's cache: Dirty, Pin, Unpin.
-/
import Derived.Test.YtpdckjbknphelaaRfE
import Derived.Test.YtpdckjbknphelaaCpNo
namespace Go.Proofs.Ytpdckjbknphelaa
open Go.RowKit
set_option linter.unusedSimpArgs false
set_option linter.unusedVariables false
section
variable {W0 W W' : World} {Y0 : Nat → Prop} {r : Rb} {c : Cs}
/-- A spot's frame is dirty, and has this value. -/
def dirtV (c : Cs) (s : Sp) (v : Int) : Int × Cs := match c.wh s with
  | none => (5, c)
  | some i => (0, { setV c i v with sl := updS c.sl i { c.sl i with dirty := true } })
theorem vOf_setV (c : Cs) (i j : Nat) (v : Int) : vOf (setV c i v) j = if j = i then v else vOf c j := by
  unfold vOf setV
  simp only
  by_cases e : j = i
  · rw [e, if_pos rfl, updP_same, cellV_snd]
  · rw [if_neg e, updP_other (by omega)]
set_option maxRecDepth 100000 in
set_option maxHeartbeats 8000000 in
theorem rdirty_calls (s : Sp) (v : Int) (W : World) (h : Rw W0 Y0 W r c) (hw : Wl r.n c) :
    Calls Try.prog 44 #[.pointer (some ⟨r.q, 0, none⟩), spV s, .int .i64 v] W fun e w' => e = .returned (.int .i64 (dirtV c s v).1) ∧ Rw W0 Y0 w' r (dirtV c s v).2 := by
  obtain ⟨sx, sy, sz⟩ := s
  have hA : Below W.heap.size W (W.alloc (.cells #[.int .i64 sx, .int .i64 sy, .int .i64 sz] 23)) := (Below.refl _ _).alloc (Nat.le_refl _) _
  have hs := Blk.new W #[.int .i64 sx, .int .i64 sy, .int .i64 sz] 23
  have h1 := h.keep hA
  obtain ⟨W1, hW1⟩ : ∃ W1, W.alloc (.cells #[.int .i64 sx, .int .i64 sy, .int .i64 sz] 23) = W1 := ⟨_, rfl⟩
  rw [hW1] at h1 hs
  obtain ⟨hn1, hn64⟩ := h.n64
  have hat := rat_calls (sx, sy, sz) W1 h1 hw
  have z0 := hs.cell 0 rfl
  have z1 := hs.cell 1 rfl
  have z2 := hs.cell 2 rfl
  unfold spV at *
  obtain ⟨R, hR⟩ : ∃ R, dirtV c (sx, sy, sz) v = R := ⟨_, rfl⟩
  rw [hR]
  unfold dirtV at hR
  replace h1 := Lib.hid h1
  clear h hA hs
  cases hwh : c.wh (sx, sy, sz) with
  | none =>
    rw [hwh] at hat hR
    unfold atI at hat
    simp only at hR
    subst hR
    replace hat := Lib.hid hat
    clear hwh
    go_enter Try.func44, Try.ntmps44
    go_wp2_with fail
    refine hat.out.mono ?_
    rintro e V ⟨rfl, hb⟩
    have hE := Lib.hid (h1.out.keep hb)
    clear hb hat hW1 z0 z1 z2
    go_wp2_with fail
    go_ret
    exact ⟨rfl, hE.out⟩
  | some i =>
    rw [hwh] at hat hR
    unfold atI at hat
    simp only at hR
    subst hR
    have hi := ((hw.wh _ _).1 hwh).1
    have hiz : (i : Int) < (r.n : Int) := by omega
    replace hat := Lib.hid hat
    replace hwh := Lib.hid hwh
    go_enter Try.func44, Try.ntmps44
    go_wp2_with fail
    refine hat.out.mono ?_
    rintro e V ⟨rfl, hb⟩
    have hE := h1.out.keep hb
    obtain ⟨q0, _⟩ := hE.qcells
    obtain ⟨_, _, _, _, a4, _, a6, v7, a7, _⟩ := hE.cells hi
    have hql := hE.lt.2
    have f4 := hE.frozen (i * 8 + 4)
    have hM := hE.setOne (i := i) (k := 4) (x := { c.sl i with dirty := true }) (v := .bool true) hi (by omega) rfl rfl
    obtain ⟨q0', _⟩ := hM.qcells
    obtain ⟨_, _, _, _, _, _, _, v7', a7', _⟩ := hM.cells hi
    have f7 := hM.frozen (i * 8 + 7)
    have hql' := hM.lt.2
    have hF := hM.setVal (i := i) (y := v) (c' := { setV c i v with sl := updS c.sl i { c.sl i with dirty := true } }) hi rfl rfl rfl rfl (fun j => vOf_setV c i j v)
    replace hF := Lib.hid hF
    clear hb hat hW1 z0 z1 z2 hE hM h1
    go_wp2_with fail
    go_ret
    exact ⟨rfl, hF.out⟩
set_option maxRecDepth 100000 in
set_option maxHeartbeats 8000000 in
theorem rpin_calls (s : Sp) (W : World) (h : Rw W0 Y0 W r c) (hw : Wl r.n c) (hpn : ∀ i, 0 ≤ (c.sl i).pins ∧ (c.sl i).pins ≤ 1000000) :
    Calls Try.prog 45 #[.pointer (some ⟨r.q, 0, none⟩), spV s] W fun e w' => e = .returned (.int .i64 (pinS c s).1) ∧ Rw W0 Y0 w' r (pinS c s).2 := by
  obtain ⟨sx, sy, sz⟩ := s
  have hA : Below W.heap.size W (W.alloc (.cells #[.int .i64 sx, .int .i64 sy, .int .i64 sz] 23)) := (Below.refl _ _).alloc (Nat.le_refl _) _
  have hs := Blk.new W #[.int .i64 sx, .int .i64 sy, .int .i64 sz] 23
  have h1 := h.keep hA
  obtain ⟨W1, hW1⟩ : ∃ W1, W.alloc (.cells #[.int .i64 sx, .int .i64 sy, .int .i64 sz] 23) = W1 := ⟨_, rfl⟩
  rw [hW1] at h1 hs
  obtain ⟨hn1, hn64⟩ := h.n64
  have hat := rat_calls (sx, sy, sz) W1 h1 hw
  have z0 := hs.cell 0 rfl
  have z1 := hs.cell 1 rfl
  have z2 := hs.cell 2 rfl
  unfold spV at *
  obtain ⟨R, hR⟩ : ∃ R, pinS c (sx, sy, sz) = R := ⟨_, rfl⟩
  rw [hR]
  unfold pinS at hR
  replace h1 := Lib.hid h1
  clear h hA hs
  cases hwh : c.wh (sx, sy, sz) with
  | none =>
    rw [hwh] at hat hR
    unfold atI at hat
    simp only at hR
    subst hR
    replace hat := Lib.hid hat
    clear hwh
    go_enter Try.func45, Try.ntmps45
    go_wp2_with fail
    refine hat.out.mono ?_
    rintro e V ⟨rfl, hb⟩
    have hE := Lib.hid (h1.out.keep hb)
    clear hb hat hW1 z0 z1 z2
    go_wp2_with fail
    go_ret
    exact ⟨rfl, hE.out⟩
  | some i =>
    rw [hwh] at hat hR
    unfold atI at hat
    simp only at hR
    subst hR
    have hi := ((hw.wh _ _).1 hwh).1
    have hiz : (i : Int) < (r.n : Int) := by omega
    replace hat := Lib.hid hat
    replace hwh := Lib.hid hwh
    go_enter Try.func45, Try.ntmps45
    go_wp2_with fail
    refine hat.out.mono ?_
    rintro e V ⟨rfl, hb⟩
    have hE := h1.out.keep hb
    obtain ⟨q0, _⟩ := hE.qcells
    obtain ⟨_, _, _, _, a4, _, a6, v7, a7, _⟩ := hE.cells hi
    have hql := hE.lt.2
    have f6 := hE.frozen (i * 8 + 6)
    obtain ⟨hp0, hp1⟩ := hpn i
    have hwr : IntKind.i64.wrap ((c.sl i).pins + 1) = (c.sl i).pins + 1 := wrap_i64 (by omega) (by omega)
    clear hb hat hW1 z0 z1 z2 h1 hpn hp0 hp1
    have hsl := hE.lt.2
    have hMd : Hid (Rw W0 Y0 (V.drew.setCell ⟨r.qs, i * 8 + 6, none⟩ (.int .i64 ((c.sl i).pins + 1))) r { c with sl := updS c.sl i { c.sl i with pins := (c.sl i).pins + 1 } }) := Lib.hid ((hE.keep (Below.refl V.heap.size V).drew).setOne (i := i) (k := 6) (x := { c.sl i with pins := (c.sl i).pins + 1 }) (v := .int .i64 ((c.sl i).pins + 1)) hi (by omega) rfl rfl)
    replace hE := Lib.hid hE
    go_upto_region 4 with fail
    obtain ⟨V2, hV2⟩ : ∃ V2, V.drew.setCell ⟨r.qs, i * 8 + 6, none⟩ (.int .i64 ((c.sl i).pins + 1)) = V2 := ⟨_, rfl⟩
    rw [hV2] at hMd
    obtain ⟨CC, hCC⟩ : ∃ C, C = oneE V.drew V2 := ⟨_, rfl⟩
    have y0 : ∀ u (p : {w // AnyStage (CC u) 0 w}), p.val.cell? ⟨r.q, 0, none⟩ = some (Value.slice (some ⟨r.qs, 0, none⟩) r.n r.n) := by rw [hCC]; exact fun u => oneE_lo (I := fun W => W.cell? ⟨r.q, 0, none⟩ = some (Value.slice (some ⟨r.qs, 0, none⟩) r.n r.n)) (w0 := V.drew) q0
    have y6 : ∀ u (p : {w // AnyStage (CC u) 0 w}), p.val.cell? ⟨r.qs, i * 8 + 6, none⟩ = some (Value.int .i64 (c.sl i).pins) := by rw [hCC]; exact fun u => oneE_lo (I := fun W => W.cell? ⟨r.qs, i * 8 + 6, none⟩ = some (Value.int .i64 (c.sl i).pins)) (w0 := V.drew) a6
    replace hCC := Lib.hid hCC
    refine wp_region_stageN [0, 0, 0, 0, 0, 0, 0, 0, 0, 0, 0, 0, 0, 0, 1, 1, 1] (C := CC) (V := fun _ _ => True) (N := 1) (by kernel_rfl) (by kernel_rfl) (by kernel_rfl) (by kernel_rfl) (by kernel_rfl) (fun _ => ⟨undef, trivial⟩) (fun u u' s w h1 h2 => by rw [hCC.out] at *; exact h2) (fun _ => by rw [hCC.out]; rfl) ?_
    intro u hu
    have n0 : Nonempty {w // AnyStage (CC u) 0 w} := ⟨⟨V.drew, 0, by omega, by rw [hCC.out]; rfl⟩⟩
    have n1 : Nonempty {w // AnyStage (CC u) 1 w} := ⟨⟨V.drew, 0, by omega, by rw [hCC.out]; rfl⟩⟩
    have y0' := y0 u
    have y6' := y6 u
    clear y0 y6
    repeat (refine wpStageN_step rfl rfl (fun K hK => ?_); go_simp; refine hK _ ?_; clear hK K)
    refine wpStageN_call rfl rfl (fun Wx hx => ?_) ?_
    · rw [hCC.out] at hx
      obtain rfl : Wx = V.drew := hx
      unfold callAtU
      go_simp
      rw [hCC.out]
      first | exact rfl | exact hV2
    refine wpStageN_nil ?_
    intro Wx hx
    rw [hCC.out] at hx
    obtain rfl : Wx = V2 := hx
    clear hV2 y0' y6' n0 n1 hCC q0 a4 a6 a7 f6 hwr hql hsl hE
    go_wp2_with fail
    go_ret
    exact ⟨rfl, hMd.out⟩
set_option maxRecDepth 100000 in
set_option maxHeartbeats 8000000 in
theorem runpin_calls (s : Sp) (W : World) (h : Rw W0 Y0 W r c) (hw : Wl r.n c) (hpn : ∀ i, 0 ≤ (c.sl i).pins ∧ (c.sl i).pins ≤ 1000000) :
    Calls Try.prog 46 #[.pointer (some ⟨r.q, 0, none⟩), spV s] W fun e w' => e = .returned (.int .i64 (unpinS c s).1) ∧ Rw W0 Y0 w' r (unpinS c s).2 := by
  obtain ⟨sx, sy, sz⟩ := s
  have hA : Below W.heap.size W (W.alloc (.cells #[.int .i64 sx, .int .i64 sy, .int .i64 sz] 23)) := (Below.refl _ _).alloc (Nat.le_refl _) _
  have hs := Blk.new W #[.int .i64 sx, .int .i64 sy, .int .i64 sz] 23
  have h1 := h.keep hA
  obtain ⟨W1, hW1⟩ : ∃ W1, W.alloc (.cells #[.int .i64 sx, .int .i64 sy, .int .i64 sz] 23) = W1 := ⟨_, rfl⟩
  rw [hW1] at h1 hs
  obtain ⟨hn1, hn64⟩ := h.n64
  have hat := rat_calls (sx, sy, sz) W1 h1 hw
  have z0 := hs.cell 0 rfl
  have z1 := hs.cell 1 rfl
  have z2 := hs.cell 2 rfl
  unfold spV at *
  obtain ⟨R, hR⟩ : ∃ R, unpinS c (sx, sy, sz) = R := ⟨_, rfl⟩
  rw [hR]
  unfold unpinS at hR
  replace h1 := Lib.hid h1
  clear h hA hs
  cases hwh : c.wh (sx, sy, sz) with
  | none =>
    rw [hwh] at hat hR
    unfold atI at hat
    simp only at hR
    subst hR
    replace hat := Lib.hid hat
    clear hwh
    go_enter Try.func46, Try.ntmps46
    go_wp2_with fail
    refine hat.out.mono ?_
    rintro e V ⟨rfl, hb⟩
    have hE := Lib.hid (h1.out.keep hb)
    clear hb hat hW1 z0 z1 z2
    go_wp2_with fail
    go_ret
    exact ⟨rfl, hE.out⟩
  | some i =>
    rw [hwh] at hat hR
    unfold atI at hat
    simp only at hR
    replace hR := Lib.hid hR
    have hi := ((hw.wh _ _).1 hwh).1
    have hiz : (i : Int) < (r.n : Int) := by omega
    replace hat := Lib.hid hat
    replace hwh := Lib.hid hwh
    go_enter Try.func46, Try.ntmps46
    go_wp2_with fail
    refine hat.out.mono ?_
    rintro e V ⟨rfl, hb⟩
    have hE := h1.out.keep hb
    obtain ⟨q0, _⟩ := hE.qcells
    obtain ⟨_, _, _, _, a4, _, a6, v7, a7, _⟩ := hE.cells hi
    have hql := hE.lt.2
    have f6 := hE.frozen (i * 8 + 6)
    obtain ⟨hp0, hp1⟩ := hpn i
    have hwr : IntKind.i64.wrap ((c.sl i).pins - 1) = (c.sl i).pins - 1 := wrap_i64 (by omega) (by omega)
    clear hb hat hW1 z0 z1 z2 h1 hpn hp0 hp1
    have hR2 := hR.out
    clear hR
    by_cases hp : (c.sl i).pins = 0
    · rw [if_pos hp] at hR2
      subst hR2
      rw [hp] at a6
      replace hp := Lib.hid hp
      replace hE := Lib.hid hE
      clear hwr
      go_wp2_with fail
      go_ret
      exact ⟨rfl, hE.out⟩
    · rw [if_neg hp] at hR2
      subst hR2
      have hp2 : ((c.sl i).pins == 0) = false := beq_eq_false_iff_ne.2 hp
      clear hp
      have hsl := hE.lt.2
      have hMd : Hid (Rw W0 Y0 (V.drew.setCell ⟨r.qs, i * 8 + 6, none⟩ (.int .i64 ((c.sl i).pins - 1))) r { c with sl := updS c.sl i { c.sl i with pins := (c.sl i).pins - 1 } }) := Lib.hid ((hE.keep (Below.refl V.heap.size V).drew).setOne (i := i) (k := 6) (x := { c.sl i with pins := (c.sl i).pins - 1 }) (v := .int .i64 ((c.sl i).pins - 1)) hi (by omega) rfl rfl)
      replace hE := Lib.hid hE
      go_upto_region 6 with fail
      obtain ⟨V2, hV2⟩ : ∃ V2, V.drew.setCell ⟨r.qs, i * 8 + 6, none⟩ (.int .i64 ((c.sl i).pins - 1)) = V2 := ⟨_, rfl⟩
      rw [hV2] at hMd
      obtain ⟨CC, hCC⟩ : ∃ C, C = oneE V.drew V2 := ⟨_, rfl⟩
      have y0 : ∀ u (p : {w // AnyStage (CC u) 0 w}), p.val.cell? ⟨r.q, 0, none⟩ = some (Value.slice (some ⟨r.qs, 0, none⟩) r.n r.n) := by rw [hCC]; exact fun u => oneE_lo (I := fun W => W.cell? ⟨r.q, 0, none⟩ = some (Value.slice (some ⟨r.qs, 0, none⟩) r.n r.n)) (w0 := V.drew) q0
      have y6 : ∀ u (p : {w // AnyStage (CC u) 0 w}), p.val.cell? ⟨r.qs, i * 8 + 6, none⟩ = some (Value.int .i64 (c.sl i).pins) := by rw [hCC]; exact fun u => oneE_lo (I := fun W => W.cell? ⟨r.qs, i * 8 + 6, none⟩ = some (Value.int .i64 (c.sl i).pins)) (w0 := V.drew) a6
      replace hCC := Lib.hid hCC
      refine wp_region_stageN [0, 0, 0, 0, 0, 0, 0, 0, 0, 0, 0, 0, 0, 0, 1, 1, 1] (C := CC) (V := fun _ _ => True) (N := 1) (by kernel_rfl) (by kernel_rfl) (by kernel_rfl) (by kernel_rfl) (by kernel_rfl) (fun _ => ⟨undef, trivial⟩) (fun u u' s w h1 h2 => by rw [hCC.out] at *; exact h2) (fun _ => by rw [hCC.out]; rfl) ?_
      intro u hu
      have n0 : Nonempty {w // AnyStage (CC u) 0 w} := ⟨⟨V.drew, 0, by omega, by rw [hCC.out]; rfl⟩⟩
      have n1 : Nonempty {w // AnyStage (CC u) 1 w} := ⟨⟨V.drew, 0, by omega, by rw [hCC.out]; rfl⟩⟩
      have y0' := y0 u
      have y6' := y6 u
      clear y0 y6
      repeat (refine wpStageN_step rfl rfl (fun K hK => ?_); go_simp; refine hK _ ?_; clear hK K)
      refine wpStageN_call rfl rfl (fun Wx hx => ?_) ?_
      · rw [hCC.out] at hx
        obtain rfl : Wx = V.drew := hx
        unfold callAtU
        go_simp
        rw [hCC.out]
        first | exact rfl | exact hV2
      refine wpStageN_nil ?_
      intro Wx hx
      rw [hCC.out] at hx
      obtain rfl : Wx = V2 := hx
      clear hV2 y0' y6' n0 n1 hCC q0 a4 a6 a7 f6 hwr hql hsl hE
      go_wp2_with fail
      go_ret
      exact ⟨rfl, hMd.out⟩
end
end Go.Proofs.Ytpdckjbknphelaa
