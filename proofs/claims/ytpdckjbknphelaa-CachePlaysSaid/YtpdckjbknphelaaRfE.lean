/-
  The reference's cache: Get.
-/
import Derived.Test.YtpdckjbknphelaaRfD
namespace Go.Proofs.Ytpdckjbknphelaa
open Go.RowKit
set_option linter.unusedSimpArgs false
set_option linter.unusedVariables false
/-- What is empty is all zero. -/
def Emp (c : Cs) : Prop := ∀ j, (c.sl j).full = false → c.sl j = slZ
section
variable {W0 W W' : World} {Y0 : Nat → Prop} {r : Rb} {c : Cs}
theorem updS_self (g : Nat → Sl) (i : Nat) : updS g i (g i) = g := by
  funext j
  unfold updS
  split
  · rename_i e; rw [e]
  · rfl
/-- What a save that goes well leaves. -/
def P1' (c : Cs) (i : Nat) (v : Int) : Cs := { c with calls := c.calls ++ [(true, (c.sl i).sp, v)], kept := c.kept ++ [((c.sl i).sp, v)], sl := updS c.sl i { c.sl i with dirty := false } }
set_option maxRecDepth 100000 in
set_option maxHeartbeats 16000000 in
theorem rget_calls (s : Sp) (W : World) (h : Rw W0 Y0 W r c) (hw : Wl r.n c) (he : Emp c) (hc : c.calls.length ≤ 90000) (hk : c.kept.length ≤ 90000) :
    Calls Try.prog 43 #[.pointer (some ⟨r.q, 0, none⟩), spV s] W fun e w' => e = .returned (.tuple #[.int .i64 (getS r.fail r.stop r.n c s).1, .int .i64 (getS r.fail r.stop r.n c s).2.1]) ∧ Rw W0 Y0 w' r (getS r.fail r.stop r.n c s).2.2 := by
  obtain ⟨sx, sy, sz⟩ := s
  have hA : Below W.heap.size W (W.alloc (.cells #[.int .i64 sx, .int .i64 sy, .int .i64 sz] 23)) := (Below.refl _ _).alloc (Nat.le_refl _) _
  have hs := Blk.new W #[.int .i64 sx, .int .i64 sy, .int .i64 sz] 23
  obtain ⟨sbk, hsbk⟩ : ∃ b, W.heap.size = b := ⟨_, rfl⟩
  have h1 := h.keep hA
  obtain ⟨W1, hW1⟩ : ∃ W1, W.alloc (.cells #[.int .i64 sx, .int .i64 sy, .int .i64 sz] 23) = W1 := ⟨_, rfl⟩
  rw [hW1] at h1 hA hs
  obtain ⟨hn1, hn64⟩ := h.n64
  have hmt := rmayspot_calls sx sy sz W1
  have z0 := hs.cell 0 rfl
  have z1 := hs.cell 1 rfl
  have z2 := hs.cell 2 rfl
  obtain ⟨R, hR⟩ : ∃ R, getS r.fail r.stop r.n c (sx, sy, sz) = R := ⟨_, rfl⟩
  rw [hR]
  unfold spV
  replace hsbk := Lib.hid hsbk
  replace h1 := Lib.hid h1
  replace hs := Lib.hid hs
  replace hR := Lib.hid hR
  clear h hA
  cases hmay : mayS sx sy sz with
  | false =>
    rw [hmay] at hmt
    replace hmt := Lib.hid hmt
    have hg := hR.out
    unfold getS at hg
    rw [if_pos hmay] at hg
    subst hg
    clear hR
    go_enter Try.func43, Try.ntmps43
    go_wp2_with fail
    refine hmt.out.mono ?_
    rintro e V ⟨rfl, hb⟩
    rw [hsbk.out] at *
    have hE := Lib.hid (h1.out.keep hb)
    clear hmt hW1 z0 z1 z2 hb
    go_wp2_with fail
    go_ret2
    exact ⟨rfl, hE.out⟩
  | true =>
    rw [hmay] at hmt
    replace hmt := Lib.hid hmt
    go_enter Try.func43, Try.ntmps43
    go_wp2_with fail
    refine hmt.out.mono ?_
    rintro e V ⟨rfl, hb⟩
    rw [hsbk.out] at *
    have hE := h1.out.keep hb
    have hs2 := hs.out.below hb hs.out.lt
    have hat := rat_calls (sx, sy, sz) V hE hw
    clear hmt hW1 z0 z1 z2 hb h1 hs
    have z0 := hs2.cell 0 rfl
    have z1 := hs2.cell 1 rfl
    have z2 := hs2.cell 2 rfl
    unfold spV at hat
    have hg := hR.out
    unfold getS at hg
    rw [if_neg (by show ¬ mayS sx sy sz = false; rw [hmay]; simp)] at hg
    clear hR
    cases hwh : c.wh (sx, sy, sz) with
    | some i =>
      rw [hwh] at hat hg
      unfold atI at hat
      simp only at hg
      subst hg
      have hi := ((hw.wh _ _).1 hwh).1
      have hiz : (i : Int) < (r.n : Int) := by omega
      replace hat := Lib.hid hat
      go_wp2_with fail
      refine hat.out.mono ?_
      rintro e V2 ⟨rfl, hb⟩
      have hE2 := hE.keep hb
      obtain ⟨q0, _⟩ := hE2.qcells
      obtain ⟨_, _, _, _, _, a5, _⟩ := hE2.cells hi
      have hfr := hE2.frozen (i * 8 + 5)
      have hM := Lib.hid (hE2.setOne (i := i) (k := 5) (x := { c.sl i with mark := true }) (v := .bool true) hi (by omega) rfl rfl)
      clear hb hat hE hE2 z0 z1 z2 hs2
      go_wp2_with fail
      go_ret2
      exact ⟨rfl, hM.out⟩
    | none =>
      rw [hwh] at hat hg
      unfold atI at hat
      simp only at hg
      replace hat := Lib.hid hat
      replace hg := Lib.hid hg
      go_wp2_with fail
      refine hat.out.mono ?_
      rintro e V2 ⟨rfl, hb⟩
      have hE2 := hE.keep hb
      have hs3 := hs2.below hb hs2.lt
      obtain ⟨Y1, hY1, hback, hoth⟩ := hE2.rebase
      have hn3 := hoth _ _ _ hs3 ⟨by decide, by decide, by decide, by decide⟩
      have hfd := rfind_calls V2 hY1 hw.hand
      clear hb hat hE hE2 z0 z1 z2 hs2 hoth
      unfold rfindP at hfd
      cases hf : findS r.n c.sl c.hand with
      | none =>
        rw [hf] at hfd
        simp only at hfd
        have hg2 := hg.out
        rw [hf] at hg2
        simp only at hg2
        subst hg2
        clear hg
        replace hfd := Lib.hid hfd
        go_wp2_with fail
        refine hfd.out.mono ?_
        rintro e V3 ⟨rfl, hE3⟩
        replace hE3 := Lib.hid (hback _ _ hE3)
        go_wp2_with fail
        go_ret2
        exact ⟨rfl, hE3.out⟩
      | some p =>
        obtain ⟨i, g, k⟩ := p
        rw [hf] at hfd
        simp only at hfd
        have hg2 := hg.out
        rw [hf] at hg2
        simp only at hg2
        clear hg
        obtain ⟨hi, hkn, hsb, hq4⟩ := findS_res (by omega) hw.hand hf
        have hiz : (i : Int) < (r.n : Int) := by omega
        have hem : (g i).full = false → g i = slZ := fun hfu => by
          unfold findS at hf
          cases hee : emptyAt r.n c.sl with
          | some j =>
            rw [hee] at hf
            simp only [Option.some.injEq, Prod.mk.injEq] at hf
            rw [← hf.2.1] at hfu ⊢
            exact he _ hfu
          | none =>
            exfalso
            rw [(hsb i).2.1] at hfu
            unfold emptyAt at hee
            have := List.find?_eq_none.1 hee i (List.mem_range.2 hi)
            rw [hfu] at this
            simp at this
        replace hfd := Lib.hid hfd
        replace hem := Lib.hid hem
        replace hg2 := Lib.hid hg2
        replace hs3 := Lib.hid hs3
        clear hq4 hsb hf hwh hY1
        go_wp2_with fail
        refine hfd.out.mono ?_
        rintro e V3 ⟨rfl, hE3⟩
        have hs5 := hE3.blk hs3.out hn3
        have hE5 := hback _ _ hE3
        clear hE3 hback hs3 hfd hn3
        have hvo : ∀ j, vOf ({ c with sl := g, hand := k } : Cs) j = vOf c j := fun j => rfl
        obtain ⟨cF, hcF⟩ : ∃ cF : Cs, ({ c with sl := g, hand := k } : Cs) = cF := ⟨_, rfl⟩
        have hclF : cF.calls.length ≤ 90000 ∧ cF.kept.length ≤ 90000 := by rw [← hcF]; exact ⟨hc, hk⟩
        have hslF : cF.sl i = g i := by rw [← hcF]
        rw [hcF] at hE5 hvo
        have hg3 := hg2.out
        rw [hcF, ← hvo i] at hg3
        rw [← hslF] at hem
        clear hg2 hvo hcF
        obtain ⟨q0, _⟩ := hE5.qcells
        obtain ⟨_, _, _, a3, a4, _⟩ := hE5.cells hi
        cases hfu : (cF.sl i).full with
        | false =>
          rw [hfu] at a3
          have hem2 := hem.out hfu
          have hcE : cleanS r.fail r.stop cF i (vOf cF i) = (0, cF) := by unfold cleanS; rw [if_neg (by rw [hfu]; simp)]
          rw [hcE] at hg3
          unfold getT at hg3
          simp only [if_true] at hg3
          rw [hfu, if_neg (by simp)] at hg3
          have hR := hg3
          clear hg3
          obtain ⟨cE, hEE⟩ : ∃ cE, cF = cE := ⟨_, rfl⟩
          rw [hEE] at hR hE5 hclF hem2
          have hem := hem2
          have hcl : cE.calls.length ≤ 90001 ∧ cE.kept.length ≤ 90001 := ⟨by omega, by omega⟩
          have w_V3 := Lib.hid hE5
          have s_V3 := Lib.hid hs5
          clear hem2 hcE hEE hE5 hs5 hclF hc hk he hw
          obtain ⟨X, hX⟩ : ∃ X, cE = X := ⟨_, rfl⟩
          have hX1 : X.sl = updS cE.sl i slZ := by rw [← hX, ← hem, updS_self]
          have hX2 : X.hand = cE.hand := by rw [← hX]
          have hX3 : X.kept = cE.kept := by rw [← hX]
          have hX4 : X.calls = cE.calls := by rw [← hX]
          have hX5 : ∀ j, vOf X j = vOf cE j := by rw [← hX]; exact fun j => rfl
          rw [show getL r.fail r.stop cE i (sx, sy, sz) = getL r.fail r.stop X i (sx, sy, sz) by rw [hX]] at hR
          have hXl : X.calls.length ≤ 90001 ∧ X.kept.length ≤ 90001 := by rw [hX3, hX4]; exact hcl
          clear hX
          obtain ⟨hXl1, hXl2⟩ := hXl
          replace hR := Lib.hid hR
          obtain ⟨q0, _, _, _, _⟩ := w_V3.out.qcells
          obtain ⟨z0, z1, z2, z3, z4, z5, z6, v7, z7, _⟩ := w_V3.out.cells hi
          have fr0 := w_V3.out.frozen (i * 8)
          have fr1 := w_V3.out.frozen (i * 8 + 1)
          have fr2 := w_V3.out.frozen (i * 8 + 2)
          have fr3 := w_V3.out.frozen (i * 8 + 3)
          have fr4 := w_V3.out.frozen (i * 8 + 4)
          have fr5 := w_V3.out.frozen (i * 8 + 5)
          have fr6 := w_V3.out.frozen (i * 8 + 6)
          have fr7 := w_V3.out.frozen (i * 8 + 7)
          have hql := w_V3.out.lt.2
          have hE := w_V3.out.set8 slZ 0 (c' := X) hi hX1 hX2 hX3 hX4 (fun j _ => hX5 j) (fun h => by cases h)
          clear hX1 hX2 hX3 hX4 hX5
          have hsne := w_V3.out.sne s_V3.out (by decide)
          have hsE := s_V3.out.but (set8_but V3 r.qs (i * 8) slZ 0) hsne
          obtain ⟨V6, hV6⟩ : ∃ V6, set8 V3 r.qs (i * 8) slZ 0 = V6 := ⟨_, rfl⟩
          have hV6' := hV6
          unfold set8 set7 slZ at hV6'
          simp only at hV6'
          rw [hV6] at hE hsE
          have hfl := rfails_calls V6 hE (by omega)
          have w_V6 := Lib.hid hE
          have s_V6 := Lib.hid hsE
          replace hfl := Lib.hid hfl
          clear hE hsE hV6 w_V3 s_V3 hsne
          go_wp2_with fail
          refine hfl.out.mono ?_
          rintro e V6b ⟨rfl, hVV⟩
          rw [← hVV] at w_V6 s_V6
          have w_V6b := w_V6
          have s_V6b := s_V6
          clear w_V6 s_V6 hVV hfl hV6' q0 z0 z1 z2 z3 z4 z5 z6 z7 fr0 fr1 fr2 fr3 fr4 fr5 fr6 fr7 hql
          have hwV7 := w_V6b.out.keep (Below.refl _ _).drew
          have hsV7 := s_V6b.out.drew
          obtain ⟨cv, v', w', hcv, hr, hfz, hwl, ⟨uu, huu⟩, ⟨vb, vn, vc, rfl⟩, hlog, hbl, hszz⟩ := hwV7.log (by omega) (false, (sx, sy, sz), 0) 27
          have hA2 : Below V6b.drew.heap.size V6b.drew (V6b.drew.alloc (.cells #[.bool false, .int .i64 sx, .int .i64 sy, .int .i64 sz, .int .i64 0] 58)) := (Below.refl _ _).alloc (Nat.le_refl _) _
          have sp1 := hsV7.below hA2 hsV7.lt
          have sp2 := (hbl _ _ _ hsV7 (by decide) (by decide)).1
          have sp3 := (hbl _ _ _ hsV7 (by decide) (by decide)).2
          have cv1 := (hA2.cell (p := ⟨r.q, 3, none⟩) (World.block_lt_of_cell? _ _ hcv)).trans hcv
          simp only [callL, keptL] at hr
          obtain ⟨Wa, hWa⟩ : ∃ Wa, V6b.drew.alloc (.cells #[.bool false, .int .i64 sx, .int .i64 sy, .int .i64 sz, .int .i64 0] 58) = Wa := ⟨_, rfl⟩
          rw [hWa] at hr sp1 cv1
          replace hlog := Lib.hid hlog
          clear hA2 hbl hszz hwV7
          go_upto_region 16 with fail
          obtain ⟨CC, hCC⟩ : ∃ C, C = appC V6b.drew Wa w' (w'.setCell ⟨r.q, 3, none⟩ (.slice vb vn vc)) := ⟨_, rfl⟩
          have y1 : ∀ u (p : {w // AnyStage (CC u) 1 w}), p.val.cell? ⟨r.q, 3, none⟩ = some cv := by rw [hCC]; exact fun u => appC_lo (I := fun W => W.cell? ⟨r.q, 3, none⟩ = some cv) hcv cv1
          have ys : ∀ u N (p : {w // AnyStage (CC u) N w}), Blk p.val sbk [.int .i64 sx, .int .i64 sy, .int .i64 sz] 23 := by rw [hCC]; exact fun u N => appC_all (I := fun V => Blk V sbk [.int .i64 sx, .int .i64 sy, .int .i64 sz] 23) hsV7 sp1 sp2 sp3
          replace hCC := Lib.hid hCC
          replace ys := Lib.hid ys
          clear hcv cv1 sp1 sp2
          replace sp3 := Lib.hid sp3
          replace hsV7 := Lib.hid hsV7
          refine wp_region_stageN [3, 3, 3, 3, 1, 3, 3, 3, 3, 3, 3, 3] (C := CC) (V := appV (.slice (some ⟨V6b.drew.heap.size, 0, none⟩) 1 1) (.slice vb vn vc)) (N := 3) (by kernel_rfl) (by kernel_rfl) (by kernel_rfl) (by kernel_rfl) (by kernel_rfl) (appV_some _ _) (fun u u' s w h1 h2 => by rw [hCC.out] at *; exact h2) (fun _ => by rw [hCC.out]; rfl) ?_
          intro u hu
          have e0 : u 0 = .slice (some ⟨V6b.drew.heap.size, 0, none⟩) 1 1 := hu 0
          have e1 : u 1 = .slice vb vn vc := hu 1
          have n1 : Nonempty {w // AnyStage (CC u) 1 w} := ⟨⟨V6b.drew, 0, by omega, by rw [hCC.out]; rfl⟩⟩
          have n3 : Nonempty {w // AnyStage (CC u) 3 w} := ⟨⟨V6b.drew, 0, by omega, by rw [hCC.out]; rfl⟩⟩
          have y1' := y1 u
          clear y1
          have z0 : ∀ p : {w // AnyStage (CC u) 3 w}, p.val.cell? ⟨sbk, 0, none⟩ = some (Value.int .i64 sx) := fun p => (ys.out u 3 p).cell 0 rfl
          have z1 : ∀ p : {w // AnyStage (CC u) 3 w}, p.val.cell? ⟨sbk, 1, none⟩ = some (Value.int .i64 sy) := fun p => (ys.out u 3 p).cell 1 rfl
          have z2 : ∀ p : {w // AnyStage (CC u) 3 w}, p.val.cell? ⟨sbk, 2, none⟩ = some (Value.int .i64 sz) := fun p => (ys.out u 3 p).cell 2 rfl
          repeat (refine wpStageN_step rfl rfl (fun K hK => ?_); go_simp; refine hK _ ?_; clear hK K)
          refine wpStageN_call rfl rfl (fun Wx hx => ?_) ?_
          · rw [hCC.out] at hx
            obtain rfl : Wx = V6b.drew := hx
            unfold callAtU
            go_simp
            rw [hCC.out]
            exact ⟨rfl, rfl⟩
          rw [e0]
          repeat (refine wpStageN_step rfl rfl (fun K hK => ?_); go_simp; refine hK _ ?_; clear hK K)
          refine wpStageN_call rfl rfl (fun Wx hx => ?_) ?_
          · rw [hCC.out] at hx
            obtain rfl : Wx = Wa := hx
            refine callAtU_append (.tmp 67) (.tmp 70) 27 rfl rfl rfl hr ?_
            rw [hCC.out]
            exact ⟨rfl, rfl⟩
          rw [e1]
          repeat (refine wpStageN_step rfl rfl (fun K hK => ?_); go_simp; refine hK _ ?_; clear hK K)
          refine wpStageN_call rfl rfl (fun Wx hx => ?_) ?_
          · rw [hCC.out] at hx
            obtain rfl : Wx = w' := hx
            unfold callAtU
            go_simp
            rw [hCC.out]
            exact ⟨trivial, rfl⟩
          refine wpStageN_nil ?_
          intro Wx hx
          rw [hCC.out] at hx
          obtain rfl : Wx = w'.setCell ⟨r.q, 3, none⟩ (.slice vb vn vc) := hx
          have s_V7 : Hid (Blk (w'.setCell ⟨r.q, 3, none⟩ (.slice vb vn vc)) sbk [.int .i64 sx, .int .i64 sy, .int .i64 sz] 23) := sp3
          have w_V7 := hlog
          clear z0 z1 z2 y1' n1 n3 hlog sp3 hsV7 e0 e1 hu ys hr hfz hwl huu s_V6b w_V6b hWa
          generalize w'.setCell ⟨r.q, 3, none⟩ (.slice vb vn vc) = V7 at *
          clear hCC
          have hR2 := hR.out
          unfold getL at hR2
          clear hR
          cases hbad : badB r.fail r.stop X.calls.length with
          | true =>
            rw [hbad, if_pos rfl] at hR2
            subst hR2
            go_wp2_with fail
            go_ret2
            exact ⟨rfl, w_V7.out⟩
          | false =>
            rw [hbad, if_neg (by simp)] at hR2
            subst hR2
            have hva := rvalue_calls (sx, sy, sz) V7 w_V7.out (by show X.kept.length ≤ _; omega)
            unfold spV at hva
            have z0 := s_V7.out.cell 0 rfl
            have z1 := s_V7.out.cell 1 rfl
            have z2 := s_V7.out.cell 2 rfl
            replace hva := Lib.hid hva
            go_wp2_with fail
            refine hva.out.mono ?_
            rintro e V8 ⟨rfl, hb⟩
            have hw8u := w_V7.out.keep hb
            have hw8 := w_V7.out.keep (hb.drew)
            have hs8 := (s_V7.out.below hb s_V7.out.lt).drew
            obtain ⟨vv, hvv⟩ : ∃ v, valK X.kept (sx, sy, sz) = v := ⟨_, rfl⟩
            have hcv : ({ X with calls := X.calls ++ [(false, (sx, sy, sz), (0 : Int))] } : Cs).kept = X.kept := rfl
            rw [hcv, hvv]
            clear hcv hva hb z0 z1 z2 w_V7 s_V7
            obtain ⟨q0, _, _, _, _⟩ := hw8.qcells
            obtain ⟨a0, a1, a2, a3, a4, a5, a6, v7, a7, _⟩ := hw8u.cells hi
            have fr0 := hw8u.frozen (i * 8)
            have fr1 := hw8u.frozen (i * 8 + 1)
            have fr2 := hw8u.frozen (i * 8 + 2)
            have fr3 := hw8u.frozen (i * 8 + 3)
            have fr4 := hw8u.frozen (i * 8 + 4)
            have fr5 := hw8u.frozen (i * 8 + 5)
            have fr6 := hw8u.frozen (i * 8 + 6)
            have fr7 := hw8u.frozen (i * 8 + 7)
            have hql := hw8u.lt.2
            clear hw8u
            have hF := hw8.set8 (c' := enterS (loadS { X with calls := X.calls ++ [(false, (sx, sy, sz), (0 : Int))] } i (sx, sy, sz)) i (sx, sy, sz)) ⟨(sx, sy, sz), true, false, true, 0⟩ vv hi rfl rfl rfl rfl (fun j hj => by
              rw [vOf_put (c := enterS (loadS { X with calls := X.calls ++ [(false, (sx, sy, sz), (0 : Int))] } i (sx, sy, sz)) i (sx, sy, sz)) (i := i) (v := valK X.kept (sx, sy, sz)) (g := X.ce) rfl, if_neg hj]
              rfl) (fun _ => by
              rw [vOf_put (c := enterS (loadS { X with calls := X.calls ++ [(false, (sx, sy, sz), (0 : Int))] } i (sx, sy, sz)) i (sx, sy, sz)) (i := i) (v := valK X.kept (sx, sy, sz)) (g := X.ce) rfl, if_pos rfl]
              exact hvv)
            have hsne := hw8.sne hs8 (by decide)
            have hs9 := hs8.but (set8_but V8.drew r.qs (i * 8) ⟨(sx, sy, sz), true, false, true, 0⟩ vv) hsne
            have hq9 := hw8.qbut (set8_but V8.drew r.qs (i * 8) ⟨(sx, sy, sz), true, false, true, 0⟩ vv)
            obtain ⟨V9, hV9⟩ : ∃ V9, set8 V8.drew r.qs (i * 8) ⟨(sx, sy, sz), true, false, true, 0⟩ vv = V9 := ⟨_, rfl⟩
            have hV9' := hV9
            unfold set8 set7 at hV9'
            simp only at hV9'
            rw [hV9] at hF hs9 hq9
            replace hF := Lib.hid hF
            replace hw8 := Lib.hid hw8
            replace hs8 := Lib.hid hs8
            replace hs9 := Lib.hid hs9
            clear hsne hV9
            go_upto_region 20 with fail
            obtain ⟨CC, hCC⟩ : ∃ C, C = oneE V8.drew V9 := ⟨_, rfl⟩
            have y1 : ∀ u (p : {w // AnyStage (CC u) 1 w}), p.val.cell? ⟨r.q, 0, none⟩ = some (Value.slice (some ⟨r.qs, 0, none⟩) r.n r.n) := by rw [hCC]; exact fun u => oneE_all (I := fun W => W.cell? ⟨r.q, 0, none⟩ = some (Value.slice (some ⟨r.qs, 0, none⟩) r.n r.n)) (w0 := V8.drew) q0 hq9
            have ys : ∀ u (p : {w // AnyStage (CC u) 1 w}), Blk p.val sbk [.int .i64 sx, .int .i64 sy, .int .i64 sz] 23 := by rw [hCC]; exact fun u => oneE_all (I := fun V => Blk V sbk [.int .i64 sx, .int .i64 sy, .int .i64 sz] 23) (w0 := V8.drew) hs8.out hs9.out
            replace hCC := Lib.hid hCC
            replace ys := Lib.hid ys
            clear q0 hq9
            refine wp_region_stageN [1, 1, 1, 1, 1, 1, 1, 1, 1, 1] (C := CC) (V := fun _ _ => True) (N := 1) (by kernel_rfl) (by kernel_rfl) (by kernel_rfl) (by kernel_rfl) (by kernel_rfl) (fun _ => ⟨undef, trivial⟩) (fun u u' s w h1 h2 => by rw [hCC.out] at *; exact h2) (fun _ => by rw [hCC.out]; rfl) ?_
            intro u hu
            have n1 : Nonempty {w // AnyStage (CC u) 1 w} := ⟨⟨V8.drew, 0, by omega, by rw [hCC.out]; rfl⟩⟩
            have y1' := y1 u
            clear y1
            have q0 : ∀ p : {w // AnyStage (CC u) 1 w}, p.val.cell? ⟨sbk, 0, none⟩ = some (Value.int .i64 sx) := fun p => (ys.out u p).cell 0 rfl
            have q1 : ∀ p : {w // AnyStage (CC u) 1 w}, p.val.cell? ⟨sbk, 1, none⟩ = some (Value.int .i64 sy) := fun p => (ys.out u p).cell 1 rfl
            have q2 : ∀ p : {w // AnyStage (CC u) 1 w}, p.val.cell? ⟨sbk, 2, none⟩ = some (Value.int .i64 sz) := fun p => (ys.out u p).cell 2 rfl
            repeat (refine wpStageN_step rfl rfl (fun K hK => ?_); go_simp; refine hK _ ?_; clear hK K)
            refine wpStageN_call rfl rfl (fun Wx hx => ?_) ?_
            · rw [hCC.out] at hx
              obtain rfl : Wx = V8.drew := hx
              unfold callAtU
              go_simp
              rw [hCC.out]
              show _ = V9
              simp only [drew_in]
              exact hV9'
            refine wpStageN_nil ?_
            intro Wx hx
            rw [hCC.out] at hx
            obtain rfl : Wx = V9 := hx
            clear q0 q1 q2 y1' n1 hu hCC ys a0 a1 a2 a3 a4 a5 a6 a7 fr0 fr1 fr2 fr3 fr4 fr5 fr6 fr7 hql hV9' hs8 hs9 hw8
            go_wp2_with fail
            go_ret2
            exact ⟨rfl, hF.out⟩
        | true =>
          rw [hfu] at a3
          cases hdi : (cF.sl i).dirty with
          | false =>
            rw [hdi] at a4
            have hcE : cleanS r.fail r.stop cF i (vOf cF i) = (0, cF) := by unfold cleanS; rw [if_neg (by rw [hdi]; simp)]
            rw [hcE] at hg3
            unfold getT at hg3
            simp only [if_true] at hg3
            rw [hfu, if_pos rfl] at hg3
            have hR := hg3
            clear hg3
            obtain ⟨cE, hEE⟩ : ∃ cE, cF = cE := ⟨_, rfl⟩
            rw [hEE] at hR hE5 hclF
            have hcl : cE.calls.length ≤ 90001 ∧ cE.kept.length ≤ 90001 := ⟨by omega, by omega⟩
            have w_V3 := Lib.hid hE5
            have s_V3 := Lib.hid hs5
            clear hcE hEE hE5 hs5 hclF hc hk he hw hem
            obtain ⟨X, hX⟩ : ∃ X, evictS cE i = X := ⟨_, rfl⟩
            have hX1 : X.sl = updS cE.sl i slZ := by rw [← hX]; rfl
            have hX2 : X.hand = cE.hand := by rw [← hX]; rfl
            have hX3 : X.kept = cE.kept := by rw [← hX]; rfl
            have hX4 : X.calls = cE.calls := by rw [← hX]; rfl
            have hX5 : ∀ j, vOf X j = vOf cE j := by rw [← hX]; exact fun j => rfl
            rw [hX] at hR
            have hXl : X.calls.length ≤ 90001 ∧ X.kept.length ≤ 90001 := by rw [hX3, hX4]; exact hcl
            clear hX
            obtain ⟨hXl1, hXl2⟩ := hXl
            replace hR := Lib.hid hR
            obtain ⟨q0, _, _, _, _⟩ := w_V3.out.qcells
            obtain ⟨z0, z1, z2, z3, z4, z5, z6, v7, z7, _⟩ := w_V3.out.cells hi
            have fr0 := w_V3.out.frozen (i * 8)
            have fr1 := w_V3.out.frozen (i * 8 + 1)
            have fr2 := w_V3.out.frozen (i * 8 + 2)
            have fr3 := w_V3.out.frozen (i * 8 + 3)
            have fr4 := w_V3.out.frozen (i * 8 + 4)
            have fr5 := w_V3.out.frozen (i * 8 + 5)
            have fr6 := w_V3.out.frozen (i * 8 + 6)
            have fr7 := w_V3.out.frozen (i * 8 + 7)
            have hql := w_V3.out.lt.2
            have hE := w_V3.out.set8 slZ 0 (c' := X) hi hX1 hX2 hX3 hX4 (fun j _ => hX5 j) (fun h => by cases h)
            clear hX1 hX2 hX3 hX4 hX5
            have hsne := w_V3.out.sne s_V3.out (by decide)
            have hsE := s_V3.out.but (set8_but V3 r.qs (i * 8) slZ 0) hsne
            obtain ⟨V6, hV6⟩ : ∃ V6, set8 V3 r.qs (i * 8) slZ 0 = V6 := ⟨_, rfl⟩
            have hV6' := hV6
            unfold set8 set7 slZ at hV6'
            simp only at hV6'
            rw [hV6] at hE hsE
            have hfl := rfails_calls V6 hE (by omega)
            have w_V6 := Lib.hid hE
            have s_V6 := Lib.hid hsE
            replace hfl := Lib.hid hfl
            clear hE hsE hV6 w_V3 s_V3 hsne
            go_wp2_with fail
            refine hfl.out.mono ?_
            rintro e V6b ⟨rfl, hVV⟩
            rw [← hVV] at w_V6 s_V6
            have w_V6b := w_V6
            have s_V6b := s_V6
            clear w_V6 s_V6 hVV hfl hV6' q0 z0 z1 z2 z3 z4 z5 z6 z7 fr0 fr1 fr2 fr3 fr4 fr5 fr6 fr7 hql
            have hwV7 := w_V6b.out.keep (Below.refl _ _).drew
            have hsV7 := s_V6b.out.drew
            obtain ⟨cv, v', w', hcv, hr, hfz, hwl, ⟨uu, huu⟩, ⟨vb, vn, vc, rfl⟩, hlog, hbl, hszz⟩ := hwV7.log (by omega) (false, (sx, sy, sz), 0) 27
            have hA2 : Below V6b.drew.heap.size V6b.drew (V6b.drew.alloc (.cells #[.bool false, .int .i64 sx, .int .i64 sy, .int .i64 sz, .int .i64 0] 58)) := (Below.refl _ _).alloc (Nat.le_refl _) _
            have sp1 := hsV7.below hA2 hsV7.lt
            have sp2 := (hbl _ _ _ hsV7 (by decide) (by decide)).1
            have sp3 := (hbl _ _ _ hsV7 (by decide) (by decide)).2
            have cv1 := (hA2.cell (p := ⟨r.q, 3, none⟩) (World.block_lt_of_cell? _ _ hcv)).trans hcv
            simp only [callL, keptL] at hr
            obtain ⟨Wa, hWa⟩ : ∃ Wa, V6b.drew.alloc (.cells #[.bool false, .int .i64 sx, .int .i64 sy, .int .i64 sz, .int .i64 0] 58) = Wa := ⟨_, rfl⟩
            rw [hWa] at hr sp1 cv1
            replace hlog := Lib.hid hlog
            clear hA2 hbl hszz hwV7
            go_upto_region 16 with fail
            obtain ⟨CC, hCC⟩ : ∃ C, C = appC V6b.drew Wa w' (w'.setCell ⟨r.q, 3, none⟩ (.slice vb vn vc)) := ⟨_, rfl⟩
            have y1 : ∀ u (p : {w // AnyStage (CC u) 1 w}), p.val.cell? ⟨r.q, 3, none⟩ = some cv := by rw [hCC]; exact fun u => appC_lo (I := fun W => W.cell? ⟨r.q, 3, none⟩ = some cv) hcv cv1
            have ys : ∀ u N (p : {w // AnyStage (CC u) N w}), Blk p.val sbk [.int .i64 sx, .int .i64 sy, .int .i64 sz] 23 := by rw [hCC]; exact fun u N => appC_all (I := fun V => Blk V sbk [.int .i64 sx, .int .i64 sy, .int .i64 sz] 23) hsV7 sp1 sp2 sp3
            replace hCC := Lib.hid hCC
            replace ys := Lib.hid ys
            clear hcv cv1 sp1 sp2
            replace sp3 := Lib.hid sp3
            replace hsV7 := Lib.hid hsV7
            refine wp_region_stageN [3, 3, 3, 3, 1, 3, 3, 3, 3, 3, 3, 3] (C := CC) (V := appV (.slice (some ⟨V6b.drew.heap.size, 0, none⟩) 1 1) (.slice vb vn vc)) (N := 3) (by kernel_rfl) (by kernel_rfl) (by kernel_rfl) (by kernel_rfl) (by kernel_rfl) (appV_some _ _) (fun u u' s w h1 h2 => by rw [hCC.out] at *; exact h2) (fun _ => by rw [hCC.out]; rfl) ?_
            intro u hu
            have e0 : u 0 = .slice (some ⟨V6b.drew.heap.size, 0, none⟩) 1 1 := hu 0
            have e1 : u 1 = .slice vb vn vc := hu 1
            have n1 : Nonempty {w // AnyStage (CC u) 1 w} := ⟨⟨V6b.drew, 0, by omega, by rw [hCC.out]; rfl⟩⟩
            have n3 : Nonempty {w // AnyStage (CC u) 3 w} := ⟨⟨V6b.drew, 0, by omega, by rw [hCC.out]; rfl⟩⟩
            have y1' := y1 u
            clear y1
            have z0 : ∀ p : {w // AnyStage (CC u) 3 w}, p.val.cell? ⟨sbk, 0, none⟩ = some (Value.int .i64 sx) := fun p => (ys.out u 3 p).cell 0 rfl
            have z1 : ∀ p : {w // AnyStage (CC u) 3 w}, p.val.cell? ⟨sbk, 1, none⟩ = some (Value.int .i64 sy) := fun p => (ys.out u 3 p).cell 1 rfl
            have z2 : ∀ p : {w // AnyStage (CC u) 3 w}, p.val.cell? ⟨sbk, 2, none⟩ = some (Value.int .i64 sz) := fun p => (ys.out u 3 p).cell 2 rfl
            repeat (refine wpStageN_step rfl rfl (fun K hK => ?_); go_simp; refine hK _ ?_; clear hK K)
            refine wpStageN_call rfl rfl (fun Wx hx => ?_) ?_
            · rw [hCC.out] at hx
              obtain rfl : Wx = V6b.drew := hx
              unfold callAtU
              go_simp
              rw [hCC.out]
              exact ⟨rfl, rfl⟩
            rw [e0]
            repeat (refine wpStageN_step rfl rfl (fun K hK => ?_); go_simp; refine hK _ ?_; clear hK K)
            refine wpStageN_call rfl rfl (fun Wx hx => ?_) ?_
            · rw [hCC.out] at hx
              obtain rfl : Wx = Wa := hx
              refine callAtU_append (.tmp 67) (.tmp 70) 27 rfl rfl rfl hr ?_
              rw [hCC.out]
              exact ⟨rfl, rfl⟩
            rw [e1]
            repeat (refine wpStageN_step rfl rfl (fun K hK => ?_); go_simp; refine hK _ ?_; clear hK K)
            refine wpStageN_call rfl rfl (fun Wx hx => ?_) ?_
            · rw [hCC.out] at hx
              obtain rfl : Wx = w' := hx
              unfold callAtU
              go_simp
              rw [hCC.out]
              exact ⟨trivial, rfl⟩
            refine wpStageN_nil ?_
            intro Wx hx
            rw [hCC.out] at hx
            obtain rfl : Wx = w'.setCell ⟨r.q, 3, none⟩ (.slice vb vn vc) := hx
            have s_V7 : Hid (Blk (w'.setCell ⟨r.q, 3, none⟩ (.slice vb vn vc)) sbk [.int .i64 sx, .int .i64 sy, .int .i64 sz] 23) := sp3
            have w_V7 := hlog
            clear z0 z1 z2 y1' n1 n3 hlog sp3 hsV7 e0 e1 hu ys hr hfz hwl huu s_V6b w_V6b hWa
            generalize w'.setCell ⟨r.q, 3, none⟩ (.slice vb vn vc) = V7 at *
            clear hCC
            have hR2 := hR.out
            unfold getL at hR2
            clear hR
            cases hbad : badB r.fail r.stop X.calls.length with
            | true =>
              rw [hbad, if_pos rfl] at hR2
              subst hR2
              go_wp2_with fail
              go_ret2
              exact ⟨rfl, w_V7.out⟩
            | false =>
              rw [hbad, if_neg (by simp)] at hR2
              subst hR2
              have hva := rvalue_calls (sx, sy, sz) V7 w_V7.out (by show X.kept.length ≤ _; omega)
              unfold spV at hva
              have z0 := s_V7.out.cell 0 rfl
              have z1 := s_V7.out.cell 1 rfl
              have z2 := s_V7.out.cell 2 rfl
              replace hva := Lib.hid hva
              go_wp2_with fail
              refine hva.out.mono ?_
              rintro e V8 ⟨rfl, hb⟩
              have hw8u := w_V7.out.keep hb
              have hw8 := w_V7.out.keep (hb.drew)
              have hs8 := (s_V7.out.below hb s_V7.out.lt).drew
              obtain ⟨vv, hvv⟩ : ∃ v, valK X.kept (sx, sy, sz) = v := ⟨_, rfl⟩
              have hcv : ({ X with calls := X.calls ++ [(false, (sx, sy, sz), (0 : Int))] } : Cs).kept = X.kept := rfl
              rw [hcv, hvv]
              clear hcv hva hb z0 z1 z2 w_V7 s_V7
              obtain ⟨q0, _, _, _, _⟩ := hw8.qcells
              obtain ⟨a0, a1, a2, a3, a4, a5, a6, v7, a7, _⟩ := hw8u.cells hi
              have fr0 := hw8u.frozen (i * 8)
              have fr1 := hw8u.frozen (i * 8 + 1)
              have fr2 := hw8u.frozen (i * 8 + 2)
              have fr3 := hw8u.frozen (i * 8 + 3)
              have fr4 := hw8u.frozen (i * 8 + 4)
              have fr5 := hw8u.frozen (i * 8 + 5)
              have fr6 := hw8u.frozen (i * 8 + 6)
              have fr7 := hw8u.frozen (i * 8 + 7)
              have hql := hw8u.lt.2
              clear hw8u
              have hF := hw8.set8 (c' := enterS (loadS { X with calls := X.calls ++ [(false, (sx, sy, sz), (0 : Int))] } i (sx, sy, sz)) i (sx, sy, sz)) ⟨(sx, sy, sz), true, false, true, 0⟩ vv hi rfl rfl rfl rfl (fun j hj => by
                rw [vOf_put (c := enterS (loadS { X with calls := X.calls ++ [(false, (sx, sy, sz), (0 : Int))] } i (sx, sy, sz)) i (sx, sy, sz)) (i := i) (v := valK X.kept (sx, sy, sz)) (g := X.ce) rfl, if_neg hj]
                rfl) (fun _ => by
                rw [vOf_put (c := enterS (loadS { X with calls := X.calls ++ [(false, (sx, sy, sz), (0 : Int))] } i (sx, sy, sz)) i (sx, sy, sz)) (i := i) (v := valK X.kept (sx, sy, sz)) (g := X.ce) rfl, if_pos rfl]
                exact hvv)
              have hsne := hw8.sne hs8 (by decide)
              have hs9 := hs8.but (set8_but V8.drew r.qs (i * 8) ⟨(sx, sy, sz), true, false, true, 0⟩ vv) hsne
              have hq9 := hw8.qbut (set8_but V8.drew r.qs (i * 8) ⟨(sx, sy, sz), true, false, true, 0⟩ vv)
              obtain ⟨V9, hV9⟩ : ∃ V9, set8 V8.drew r.qs (i * 8) ⟨(sx, sy, sz), true, false, true, 0⟩ vv = V9 := ⟨_, rfl⟩
              have hV9' := hV9
              unfold set8 set7 at hV9'
              simp only at hV9'
              rw [hV9] at hF hs9 hq9
              replace hF := Lib.hid hF
              replace hw8 := Lib.hid hw8
              replace hs8 := Lib.hid hs8
              replace hs9 := Lib.hid hs9
              clear hsne hV9
              go_upto_region 20 with fail
              obtain ⟨CC, hCC⟩ : ∃ C, C = oneE V8.drew V9 := ⟨_, rfl⟩
              have y1 : ∀ u (p : {w // AnyStage (CC u) 1 w}), p.val.cell? ⟨r.q, 0, none⟩ = some (Value.slice (some ⟨r.qs, 0, none⟩) r.n r.n) := by rw [hCC]; exact fun u => oneE_all (I := fun W => W.cell? ⟨r.q, 0, none⟩ = some (Value.slice (some ⟨r.qs, 0, none⟩) r.n r.n)) (w0 := V8.drew) q0 hq9
              have ys : ∀ u (p : {w // AnyStage (CC u) 1 w}), Blk p.val sbk [.int .i64 sx, .int .i64 sy, .int .i64 sz] 23 := by rw [hCC]; exact fun u => oneE_all (I := fun V => Blk V sbk [.int .i64 sx, .int .i64 sy, .int .i64 sz] 23) (w0 := V8.drew) hs8.out hs9.out
              replace hCC := Lib.hid hCC
              replace ys := Lib.hid ys
              clear q0 hq9
              refine wp_region_stageN [1, 1, 1, 1, 1, 1, 1, 1, 1, 1] (C := CC) (V := fun _ _ => True) (N := 1) (by kernel_rfl) (by kernel_rfl) (by kernel_rfl) (by kernel_rfl) (by kernel_rfl) (fun _ => ⟨undef, trivial⟩) (fun u u' s w h1 h2 => by rw [hCC.out] at *; exact h2) (fun _ => by rw [hCC.out]; rfl) ?_
              intro u hu
              have n1 : Nonempty {w // AnyStage (CC u) 1 w} := ⟨⟨V8.drew, 0, by omega, by rw [hCC.out]; rfl⟩⟩
              have y1' := y1 u
              clear y1
              have q0 : ∀ p : {w // AnyStage (CC u) 1 w}, p.val.cell? ⟨sbk, 0, none⟩ = some (Value.int .i64 sx) := fun p => (ys.out u p).cell 0 rfl
              have q1 : ∀ p : {w // AnyStage (CC u) 1 w}, p.val.cell? ⟨sbk, 1, none⟩ = some (Value.int .i64 sy) := fun p => (ys.out u p).cell 1 rfl
              have q2 : ∀ p : {w // AnyStage (CC u) 1 w}, p.val.cell? ⟨sbk, 2, none⟩ = some (Value.int .i64 sz) := fun p => (ys.out u p).cell 2 rfl
              repeat (refine wpStageN_step rfl rfl (fun K hK => ?_); go_simp; refine hK _ ?_; clear hK K)
              refine wpStageN_call rfl rfl (fun Wx hx => ?_) ?_
              · rw [hCC.out] at hx
                obtain rfl : Wx = V8.drew := hx
                unfold callAtU
                go_simp
                rw [hCC.out]
                show _ = V9
                simp only [drew_in]
                exact hV9'
              refine wpStageN_nil ?_
              intro Wx hx
              rw [hCC.out] at hx
              obtain rfl : Wx = V9 := hx
              clear q0 q1 q2 y1' n1 hu hCC ys a0 a1 a2 a3 a4 a5 a6 a7 fr0 fr1 fr2 fr3 fr4 fr5 fr6 fr7 hql hV9' hs8 hs9 hw8
              go_wp2_with fail
              go_ret2
              exact ⟨rfl, hF.out⟩
          | true =>
            rw [hdi] at a4
            obtain ⟨Y2, hY2, hback2, hoth2⟩ := hE5.rebase
            have hn5 := hoth2 _ _ _ hs5 ⟨by decide, by decide, by decide, by decide⟩
            have hsv := rsave_calls i V3 hY2 hi hfu hdi (by omega) (by omega)
            obtain ⟨P, hP⟩ : ∃ P, cleanS r.fail r.stop cF i (vOf cF i) = P := ⟨_, rfl⟩
            rw [hP] at hsv hg3
            have hP2 := hP
            unfold cleanS at hP2
            rw [if_pos ⟨hfu, hdi⟩] at hP2
            replace hsv := Lib.hid hsv
            replace hg3 := Lib.hid hg3
            replace hP := Lib.hid hP
            cases hb0 : badB r.fail r.stop cF.calls.length with
            | true =>
              rw [hb0] at hP2
              have hP1 : P.1 = 7 := by rw [← hP2]; rfl
              replace hP2 := Lib.hid hP2
              rw [hP1] at hsv
              have hR := hg3.out
              unfold getT at hR
              rw [hP1, if_neg (by decide)] at hR
              subst hR
              clear hg3 hem he hw hY2 hoth2
              replace hP1 := Lib.hid hP1
              replace hb0 := Lib.hid hb0
              replace hE5 := Lib.hid hE5
              go_wp2_with fail
              refine hsv.out.mono ?_
              rintro e V5 ⟨rfl, hE6⟩
              replace hE6 := Lib.hid (hback2 _ _ hE6)
              clear hsv hback2 hE5 hs5 a3 a4 q0 hn5
              go_wp2_with fail
              go_ret2
              exact ⟨rfl, hE6.out⟩
            | false =>
              rw [hb0] at hP2
              have hP1 : P.1 = 0 := by rw [← hP2]; rfl
              obtain ⟨P1, cE⟩ := P
              simp only at hP1
              subst hP1
              have hE2 : cE = (P1' cF i (vOf cF i)) := by
                injection hP2 with _ hP2
                exact hP2.symm
              have hcl : cE.calls.length ≤ 90001 ∧ cE.kept.length ≤ 90001 := by
                rw [hE2]
                unfold P1'
                simp only [List.length_append, List.length_cons, List.length_nil]
                omega
              have hfE : (cE.sl i).full = true := by
                rw [hE2]
                unfold P1'
                simp only
                rw [updS_same]
                exact hfu
              have hR := hg3.out
              unfold getT at hR
              simp only [if_true] at hR
              rw [hfE, if_pos rfl] at hR
              simp only at hsv
              clear hg3 hem he hw hY2 hoth2 hP2 hP hE2
              replace hb0 := Lib.hid hb0
              replace hR := Lib.hid hR
              replace hE5 := Lib.hid hE5
              replace hfE := Lib.hid hfE
              replace hs5 := Lib.hid hs5
              go_wp2_with fail
              refine hsv.out.mono ?_
              rintro e V5 ⟨rfl, hE6⟩
              have s_V5 := Lib.hid (hE6.blk hs5.out hn5)
              have w_V5 := Lib.hid (hback2 _ _ hE6)
              replace hR := hR.out
              clear hsv hback2 hE5 hs5 a3 a4 q0 hn5 hE6 hfE hc hk hclF
              obtain ⟨X, hX⟩ : ∃ X, evictS cE i = X := ⟨_, rfl⟩
              have hX1 : X.sl = updS cE.sl i slZ := by rw [← hX]; rfl
              have hX2 : X.hand = cE.hand := by rw [← hX]; rfl
              have hX3 : X.kept = cE.kept := by rw [← hX]; rfl
              have hX4 : X.calls = cE.calls := by rw [← hX]; rfl
              have hX5 : ∀ j, vOf X j = vOf cE j := by rw [← hX]; exact fun j => rfl
              rw [hX] at hR
              have hXl : X.calls.length ≤ 90001 ∧ X.kept.length ≤ 90001 := by rw [hX3, hX4]; exact hcl
              clear hX
              obtain ⟨hXl1, hXl2⟩ := hXl
              replace hR := Lib.hid hR
              obtain ⟨q0, _, _, _, _⟩ := w_V5.out.qcells
              obtain ⟨z0, z1, z2, z3, z4, z5, z6, v7, z7, _⟩ := w_V5.out.cells hi
              have fr0 := w_V5.out.frozen (i * 8)
              have fr1 := w_V5.out.frozen (i * 8 + 1)
              have fr2 := w_V5.out.frozen (i * 8 + 2)
              have fr3 := w_V5.out.frozen (i * 8 + 3)
              have fr4 := w_V5.out.frozen (i * 8 + 4)
              have fr5 := w_V5.out.frozen (i * 8 + 5)
              have fr6 := w_V5.out.frozen (i * 8 + 6)
              have fr7 := w_V5.out.frozen (i * 8 + 7)
              have hql := w_V5.out.lt.2
              have hE := w_V5.out.set8 slZ 0 (c' := X) hi hX1 hX2 hX3 hX4 (fun j _ => hX5 j) (fun h => by cases h)
              clear hX1 hX2 hX3 hX4 hX5
              have hsne := w_V5.out.sne s_V5.out (by decide)
              have hsE := s_V5.out.but (set8_but V5 r.qs (i * 8) slZ 0) hsne
              obtain ⟨V6, hV6⟩ : ∃ V6, set8 V5 r.qs (i * 8) slZ 0 = V6 := ⟨_, rfl⟩
              have hV6' := hV6
              unfold set8 set7 slZ at hV6'
              simp only at hV6'
              rw [hV6] at hE hsE
              have hfl := rfails_calls V6 hE (by omega)
              have w_V6 := Lib.hid hE
              have s_V6 := Lib.hid hsE
              replace hfl := Lib.hid hfl
              clear hE hsE hV6 w_V5 s_V5 hsne
              go_wp2_with fail
              refine hfl.out.mono ?_
              rintro e V6b ⟨rfl, hVV⟩
              rw [← hVV] at w_V6 s_V6
              have w_V6b := w_V6
              have s_V6b := s_V6
              clear w_V6 s_V6 hVV hfl hV6' q0 z0 z1 z2 z3 z4 z5 z6 z7 fr0 fr1 fr2 fr3 fr4 fr5 fr6 fr7 hql
              have hwV7 := w_V6b.out.keep (Below.refl _ _).drew
              have hsV7 := s_V6b.out.drew
              obtain ⟨cv, v', w', hcv, hr, hfz, hwl, ⟨uu, huu⟩, ⟨vb, vn, vc, rfl⟩, hlog, hbl, hszz⟩ := hwV7.log (by omega) (false, (sx, sy, sz), 0) 27
              have hA2 : Below V6b.drew.heap.size V6b.drew (V6b.drew.alloc (.cells #[.bool false, .int .i64 sx, .int .i64 sy, .int .i64 sz, .int .i64 0] 58)) := (Below.refl _ _).alloc (Nat.le_refl _) _
              have sp1 := hsV7.below hA2 hsV7.lt
              have sp2 := (hbl _ _ _ hsV7 (by decide) (by decide)).1
              have sp3 := (hbl _ _ _ hsV7 (by decide) (by decide)).2
              have cv1 := (hA2.cell (p := ⟨r.q, 3, none⟩) (World.block_lt_of_cell? _ _ hcv)).trans hcv
              simp only [callL, keptL] at hr
              obtain ⟨Wa, hWa⟩ : ∃ Wa, V6b.drew.alloc (.cells #[.bool false, .int .i64 sx, .int .i64 sy, .int .i64 sz, .int .i64 0] 58) = Wa := ⟨_, rfl⟩
              rw [hWa] at hr sp1 cv1
              replace hlog := Lib.hid hlog
              clear hA2 hbl hszz hwV7
              go_upto_region 16 with fail
              obtain ⟨CC, hCC⟩ : ∃ C, C = appC V6b.drew Wa w' (w'.setCell ⟨r.q, 3, none⟩ (.slice vb vn vc)) := ⟨_, rfl⟩
              have y1 : ∀ u (p : {w // AnyStage (CC u) 1 w}), p.val.cell? ⟨r.q, 3, none⟩ = some cv := by rw [hCC]; exact fun u => appC_lo (I := fun W => W.cell? ⟨r.q, 3, none⟩ = some cv) hcv cv1
              have ys : ∀ u N (p : {w // AnyStage (CC u) N w}), Blk p.val sbk [.int .i64 sx, .int .i64 sy, .int .i64 sz] 23 := by rw [hCC]; exact fun u N => appC_all (I := fun V => Blk V sbk [.int .i64 sx, .int .i64 sy, .int .i64 sz] 23) hsV7 sp1 sp2 sp3
              replace hCC := Lib.hid hCC
              replace ys := Lib.hid ys
              clear hcv cv1 sp1 sp2
              replace sp3 := Lib.hid sp3
              replace hsV7 := Lib.hid hsV7
              refine wp_region_stageN [3, 3, 3, 3, 1, 3, 3, 3, 3, 3, 3, 3] (C := CC) (V := appV (.slice (some ⟨V6b.drew.heap.size, 0, none⟩) 1 1) (.slice vb vn vc)) (N := 3) (by kernel_rfl) (by kernel_rfl) (by kernel_rfl) (by kernel_rfl) (by kernel_rfl) (appV_some _ _) (fun u u' s w h1 h2 => by rw [hCC.out] at *; exact h2) (fun _ => by rw [hCC.out]; rfl) ?_
              intro u hu
              have e0 : u 0 = .slice (some ⟨V6b.drew.heap.size, 0, none⟩) 1 1 := hu 0
              have e1 : u 1 = .slice vb vn vc := hu 1
              have n1 : Nonempty {w // AnyStage (CC u) 1 w} := ⟨⟨V6b.drew, 0, by omega, by rw [hCC.out]; rfl⟩⟩
              have n3 : Nonempty {w // AnyStage (CC u) 3 w} := ⟨⟨V6b.drew, 0, by omega, by rw [hCC.out]; rfl⟩⟩
              have y1' := y1 u
              clear y1
              have z0 : ∀ p : {w // AnyStage (CC u) 3 w}, p.val.cell? ⟨sbk, 0, none⟩ = some (Value.int .i64 sx) := fun p => (ys.out u 3 p).cell 0 rfl
              have z1 : ∀ p : {w // AnyStage (CC u) 3 w}, p.val.cell? ⟨sbk, 1, none⟩ = some (Value.int .i64 sy) := fun p => (ys.out u 3 p).cell 1 rfl
              have z2 : ∀ p : {w // AnyStage (CC u) 3 w}, p.val.cell? ⟨sbk, 2, none⟩ = some (Value.int .i64 sz) := fun p => (ys.out u 3 p).cell 2 rfl
              repeat (refine wpStageN_step rfl rfl (fun K hK => ?_); go_simp; refine hK _ ?_; clear hK K)
              refine wpStageN_call rfl rfl (fun Wx hx => ?_) ?_
              · rw [hCC.out] at hx
                obtain rfl : Wx = V6b.drew := hx
                unfold callAtU
                go_simp
                rw [hCC.out]
                exact ⟨rfl, rfl⟩
              rw [e0]
              repeat (refine wpStageN_step rfl rfl (fun K hK => ?_); go_simp; refine hK _ ?_; clear hK K)
              refine wpStageN_call rfl rfl (fun Wx hx => ?_) ?_
              · rw [hCC.out] at hx
                obtain rfl : Wx = Wa := hx
                refine callAtU_append (.tmp 67) (.tmp 70) 27 rfl rfl rfl hr ?_
                rw [hCC.out]
                exact ⟨rfl, rfl⟩
              rw [e1]
              repeat (refine wpStageN_step rfl rfl (fun K hK => ?_); go_simp; refine hK _ ?_; clear hK K)
              refine wpStageN_call rfl rfl (fun Wx hx => ?_) ?_
              · rw [hCC.out] at hx
                obtain rfl : Wx = w' := hx
                unfold callAtU
                go_simp
                rw [hCC.out]
                exact ⟨trivial, rfl⟩
              refine wpStageN_nil ?_
              intro Wx hx
              rw [hCC.out] at hx
              obtain rfl : Wx = w'.setCell ⟨r.q, 3, none⟩ (.slice vb vn vc) := hx
              have s_V7 : Hid (Blk (w'.setCell ⟨r.q, 3, none⟩ (.slice vb vn vc)) sbk [.int .i64 sx, .int .i64 sy, .int .i64 sz] 23) := sp3
              have w_V7 := hlog
              clear z0 z1 z2 y1' n1 n3 hlog sp3 hsV7 e0 e1 hu ys hr hfz hwl huu s_V6b w_V6b hWa
              generalize w'.setCell ⟨r.q, 3, none⟩ (.slice vb vn vc) = V7 at *
              clear hCC
              have hR2 := hR.out
              unfold getL at hR2
              clear hR
              cases hbad : badB r.fail r.stop X.calls.length with
              | true =>
                rw [hbad, if_pos rfl] at hR2
                subst hR2
                go_wp2_with fail
                go_ret2
                exact ⟨rfl, w_V7.out⟩
              | false =>
                rw [hbad, if_neg (by simp)] at hR2
                subst hR2
                have hva := rvalue_calls (sx, sy, sz) V7 w_V7.out (by show X.kept.length ≤ _; omega)
                unfold spV at hva
                have z0 := s_V7.out.cell 0 rfl
                have z1 := s_V7.out.cell 1 rfl
                have z2 := s_V7.out.cell 2 rfl
                replace hva := Lib.hid hva
                go_wp2_with fail
                refine hva.out.mono ?_
                rintro e V8 ⟨rfl, hb⟩
                have hw8u := w_V7.out.keep hb
                have hw8 := w_V7.out.keep (hb.drew)
                have hs8 := (s_V7.out.below hb s_V7.out.lt).drew
                obtain ⟨vv, hvv⟩ : ∃ v, valK X.kept (sx, sy, sz) = v := ⟨_, rfl⟩
                have hcv : ({ X with calls := X.calls ++ [(false, (sx, sy, sz), (0 : Int))] } : Cs).kept = X.kept := rfl
                rw [hcv, hvv]
                clear hcv hva hb z0 z1 z2 w_V7 s_V7
                obtain ⟨q0, _, _, _, _⟩ := hw8.qcells
                obtain ⟨a0, a1, a2, a3, a4, a5, a6, v7, a7, _⟩ := hw8u.cells hi
                have fr0 := hw8u.frozen (i * 8)
                have fr1 := hw8u.frozen (i * 8 + 1)
                have fr2 := hw8u.frozen (i * 8 + 2)
                have fr3 := hw8u.frozen (i * 8 + 3)
                have fr4 := hw8u.frozen (i * 8 + 4)
                have fr5 := hw8u.frozen (i * 8 + 5)
                have fr6 := hw8u.frozen (i * 8 + 6)
                have fr7 := hw8u.frozen (i * 8 + 7)
                have hql := hw8u.lt.2
                clear hw8u
                have hF := hw8.set8 (c' := enterS (loadS { X with calls := X.calls ++ [(false, (sx, sy, sz), (0 : Int))] } i (sx, sy, sz)) i (sx, sy, sz)) ⟨(sx, sy, sz), true, false, true, 0⟩ vv hi rfl rfl rfl rfl (fun j hj => by
                  rw [vOf_put (c := enterS (loadS { X with calls := X.calls ++ [(false, (sx, sy, sz), (0 : Int))] } i (sx, sy, sz)) i (sx, sy, sz)) (i := i) (v := valK X.kept (sx, sy, sz)) (g := X.ce) rfl, if_neg hj]
                  rfl) (fun _ => by
                  rw [vOf_put (c := enterS (loadS { X with calls := X.calls ++ [(false, (sx, sy, sz), (0 : Int))] } i (sx, sy, sz)) i (sx, sy, sz)) (i := i) (v := valK X.kept (sx, sy, sz)) (g := X.ce) rfl, if_pos rfl]
                  exact hvv)
                have hsne := hw8.sne hs8 (by decide)
                have hs9 := hs8.but (set8_but V8.drew r.qs (i * 8) ⟨(sx, sy, sz), true, false, true, 0⟩ vv) hsne
                have hq9 := hw8.qbut (set8_but V8.drew r.qs (i * 8) ⟨(sx, sy, sz), true, false, true, 0⟩ vv)
                obtain ⟨V9, hV9⟩ : ∃ V9, set8 V8.drew r.qs (i * 8) ⟨(sx, sy, sz), true, false, true, 0⟩ vv = V9 := ⟨_, rfl⟩
                have hV9' := hV9
                unfold set8 set7 at hV9'
                simp only at hV9'
                rw [hV9] at hF hs9 hq9
                replace hF := Lib.hid hF
                replace hw8 := Lib.hid hw8
                replace hs8 := Lib.hid hs8
                replace hs9 := Lib.hid hs9
                clear hsne hV9
                go_upto_region 20 with fail
                obtain ⟨CC, hCC⟩ : ∃ C, C = oneE V8.drew V9 := ⟨_, rfl⟩
                have y1 : ∀ u (p : {w // AnyStage (CC u) 1 w}), p.val.cell? ⟨r.q, 0, none⟩ = some (Value.slice (some ⟨r.qs, 0, none⟩) r.n r.n) := by rw [hCC]; exact fun u => oneE_all (I := fun W => W.cell? ⟨r.q, 0, none⟩ = some (Value.slice (some ⟨r.qs, 0, none⟩) r.n r.n)) (w0 := V8.drew) q0 hq9
                have ys : ∀ u (p : {w // AnyStage (CC u) 1 w}), Blk p.val sbk [.int .i64 sx, .int .i64 sy, .int .i64 sz] 23 := by rw [hCC]; exact fun u => oneE_all (I := fun V => Blk V sbk [.int .i64 sx, .int .i64 sy, .int .i64 sz] 23) (w0 := V8.drew) hs8.out hs9.out
                replace hCC := Lib.hid hCC
                replace ys := Lib.hid ys
                clear q0 hq9
                refine wp_region_stageN [1, 1, 1, 1, 1, 1, 1, 1, 1, 1] (C := CC) (V := fun _ _ => True) (N := 1) (by kernel_rfl) (by kernel_rfl) (by kernel_rfl) (by kernel_rfl) (by kernel_rfl) (fun _ => ⟨undef, trivial⟩) (fun u u' s w h1 h2 => by rw [hCC.out] at *; exact h2) (fun _ => by rw [hCC.out]; rfl) ?_
                intro u hu
                have n1 : Nonempty {w // AnyStage (CC u) 1 w} := ⟨⟨V8.drew, 0, by omega, by rw [hCC.out]; rfl⟩⟩
                have y1' := y1 u
                clear y1
                have q0 : ∀ p : {w // AnyStage (CC u) 1 w}, p.val.cell? ⟨sbk, 0, none⟩ = some (Value.int .i64 sx) := fun p => (ys.out u p).cell 0 rfl
                have q1 : ∀ p : {w // AnyStage (CC u) 1 w}, p.val.cell? ⟨sbk, 1, none⟩ = some (Value.int .i64 sy) := fun p => (ys.out u p).cell 1 rfl
                have q2 : ∀ p : {w // AnyStage (CC u) 1 w}, p.val.cell? ⟨sbk, 2, none⟩ = some (Value.int .i64 sz) := fun p => (ys.out u p).cell 2 rfl
                repeat (refine wpStageN_step rfl rfl (fun K hK => ?_); go_simp; refine hK _ ?_; clear hK K)
                refine wpStageN_call rfl rfl (fun Wx hx => ?_) ?_
                · rw [hCC.out] at hx
                  obtain rfl : Wx = V8.drew := hx
                  unfold callAtU
                  go_simp
                  rw [hCC.out]
                  show _ = V9
                  simp only [drew_in]
                  exact hV9'
                refine wpStageN_nil ?_
                intro Wx hx
                rw [hCC.out] at hx
                obtain rfl : Wx = V9 := hx
                clear q0 q1 q2 y1' n1 hu hCC ys a0 a1 a2 a3 a4 a5 a6 a7 fr0 fr1 fr2 fr3 fr4 fr5 fr6 fr7 hql hV9' hs8 hs9 hw8
                go_wp2_with fail
                go_ret2
                exact ⟨rfl, hF.out⟩
end
end Go.Proofs.Ytpdckjbknphelaa
