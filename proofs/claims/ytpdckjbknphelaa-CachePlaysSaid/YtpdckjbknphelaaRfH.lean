/-
  The reference's lists: the walk.
-/
import Derived.Test.YtpdckjbknphelaaRfG
namespace Go.Proofs.Ytpdckjbknphelaa
open Go.RowKit
set_option linter.unusedSimpArgs false
set_option linter.unusedVariables false
section
variable {W0 W W' : World} {Y0 : Nat → Prop} {r : Rb} {c : Cs}
def pD (d : Bool) (x : Sl) : Bool := !d || x.dirty
set_option maxRecDepth 100000 in
set_option maxHeartbeats 16000000 in
theorem rspots_calls (d : Bool) (W : World) (h : Rw W0 Y0 W r c) : Calls Try.prog 29 #[.pointer (some ⟨r.q, 0, none⟩), .bool d] W fun e w' => ∃ v, e = .returned v ∧ ROwn w' W.heap.size 23 3 v ((sortSp (selN c.sl (pD d) r.n)).map spL) ∧ Below W.heap.size W w' := by
  obtain ⟨hn1, hn64⟩ := h.n64
  rw [← selR_eq]
  have hlen := selR_len c.sl (pD d)
  have hRR := fun W' (hb : Below W.heap.size W W') => h.keep hb
  have hstep : ∀ k, selR c.sl (pD d) (k + 1) = if (c.sl k).full = true ∧ pD d (c.sl k) = true then insS (c.sl k).sp (selR c.sl (pD d) k) else selR c.sl (pD d) k := fun k => rfl
  have h00 : selR c.sl (pD d) 0 = [] := rfl
  generalize hSEL : selR c.sl (pD d) = SEL at *
  clear hSEL
  replace hRR := Lib.hid hRR
  replace hlen := Lib.hid hlen
  replace hstep := Lib.hid hstep
  replace h00 := Lib.hid h00
  clear h
  go_enter Try.func29, Try.ntmps29
  go_wp2_with fail
  go_loopw [5, 6] (fun v i X => ∃ k : Nat, k ≤ r.n ∧ i = .int .i64 k ∧ ROwn X W.heap.size 23 3 v ((SEL k).map spL) ∧ (SEL k = [] → v = .slice none 0 0) ∧ Below W.heap.size W X) (fun _ i _ => r.n + 1 - (intOf i).toNat)
  case atStart => exact ⟨0, by omega, rfl, by rw [h00.out]; exact ROwn.nil _ _ _ _, fun _ => rfl, Below.refl _ _⟩
  case round =>
    obtain ⟨k, hk, rfl, hro, hnil, hb⟩ := hrel
    have hR := hRR.out wr hb
    obtain ⟨q0, _⟩ := hR.qcells
    by_cases hlt : k < r.n
    · obtain ⟨z0, z1, z2, z3, z4, z5, z6, vv, z7, _⟩ := hR.cells hlt
      have hkz : (k : Int) < (r.n : Int) := by omega
      have hst := hstep.out k
      have hXl := hlen.out k
      obtain ⟨⟨⟨sx, sy, sz⟩, fu, di, mk, pn⟩, hX⟩ : ∃ x, c.sl k = x := ⟨_, rfl⟩
      rw [hX] at z0 z1 z2 z3 z4 z5 z6 hst
      simp only at z0 z1 z2 z3 z4 z5 z6 hst
      obtain ⟨XS, hXS⟩ : ∃ XS, SEL k = XS := ⟨_, rfl⟩
      rw [hXS] at hro hnil hXl hst
      have hbx := Blk.new wr #[.int .i64 sx, .int .i64 sy, .int .i64 sz, .bool fu, .bool di, .bool mk, .int .i64 pn, .int .i64 vv] 78
      have hbE : Below wr.heap.size wr (wr.alloc (.cells #[.int .i64 sx, .int .i64 sy, .int .i64 sz, .bool fu, .bool di, .bool mk, .int .i64 pn, .int .i64 vv] 78)) := (Below.refl _ _).alloc (Nat.le_refl _) _
      obtain ⟨V1, hV1⟩ : ∃ V1, wr.alloc (.cells #[.int .i64 sx, .int .i64 sy, .int .i64 sz, .bool fu, .bool di, .bool mk, .int .i64 pn, .int .i64 vv] 78) = V1 := ⟨_, rfl⟩
      rw [hV1] at hbx hbE
      have hbW := Lib.hid (hb.trans (hbE.mono hb.size))
      have hro2 := hro.keep hbE
      obtain ⟨xb, hxb⟩ : ∃ b, wr.heap.size = b := ⟨_, rfl⟩
      rw [hxb] at hbx
      have y3 := hbx.cell 3 rfl
      have y4 := hbx.cell 4 rfl
      replace hX := Lib.hid hX
      replace hXS := Lib.hid hXS
      replace hnil := Lib.hid hnil
      clear hro hb
      cases fu with
      | false =>
        rw [if_neg (fun h => by cases h.1)] at hst
        replace hst := Lib.hid hst
        replace hro2 := Lib.hid hro2
        replace hbx := Lib.hid hbx
        clear hbE hR
        go_wp2_with fail
        go_round
        case rel => exact ⟨k + 1, by omega, by go_num, by rw [hst.out]; exact hro2.out, fun e => hnil.out (by rw [← hst.out]; exact e), hbW.out⟩
        case measure => simp [intOf]; omega
      | true =>
        cases d with
        | false =>
          rw [if_pos ⟨rfl, rfl⟩] at hst
          replace hst := Lib.hid hst
          obtain ⟨base, cap, rfl, hcl1, hcl2, hrow⟩ := hro2.spots
          unfold maxLen at hcl2
          obtain ⟨ln, hln⟩ : ∃ ln, XS.length = ln := ⟨_, rfl⟩
          rw [hln] at hcl1 hXl ⊢
          have hcp := fun a b c V => rcmpspot_calls a b c sx sy sz V
          replace hcp := Lib.hid hcp
          replace hln := Lib.hid hln
          replace hrow := Lib.hid hrow
          replace hro2 := Lib.hid hro2
          replace hbx := Lib.hid hbx
          replace hXl := Lib.hid hXl
          replace hbE := Lib.hid hbE
          clear hR
          go_wp2_with fail
          clear q0 y3 y4 z0 z1 z2 z3 z4 z5 z6 z7 hxb hV1
          go_loopw [8] (fun kk X => ∃ j : Nat, j ≤ ln ∧ kk = .int .i64 j ∧ (∀ m y, m < j → XS[m]? = some y → cfS y (sx, sy, sz) < 0) ∧ Below V1.heap.size V1 X) (fun kk _ => ln + 1 - (intOf kk).toNat)
          case atStart => exact ⟨0, by omega, rfl, fun m y hm => absurd hm (Nat.not_lt_zero _), Below.refl _ _⟩
          case round =>
            obtain ⟨j, hj, rfl, hlo, hbj⟩ := hrel
            by_cases hjl : j < ln
            · have hjz : (j : Int) < (ln : Int) := by omega
              have hne : XS ≠ [] := fun e => by rw [← hln.out, e] at hjl; simp at hjl
              obtain ⟨gq, rfl, hgl, hcell⟩ := hrow.out hne
              obtain ⟨y, hy⟩ : ∃ y, XS[j]? = some y := ⟨_, List.getElem?_eq_getElem (by rw [hln.out]; exact hjl)⟩
              obtain ⟨c0, c1, c2⟩ := hcell j y hy
              obtain ⟨yx, yy, yz⟩ := y
              simp only at c0 c1 c2
              have B1 := fun p : Ext => (hbj.trans ((below_ext wr p).mono hbj.size))
              have k0 : ∀ p : Ext, (ext wr p).cell? ⟨gq, j * 3, none⟩ = some (.int .i64 yx) := fun p => ((B1 p).cell (p := ⟨gq, _, none⟩) hgl).trans c0
              have k1 : ∀ p : Ext, (ext wr p).cell? ⟨gq, j * 3 + 1, none⟩ = some (.int .i64 yy) := fun p => ((B1 p).cell (p := ⟨gq, _, none⟩) hgl).trans c1
              have k2 : ∀ p : Ext, (ext wr p).cell? ⟨gq, j * 3 + 2, none⟩ = some (.int .i64 yz) := fun p => ((B1 p).cell (p := ⟨gq, _, none⟩) hgl).trans c2
              have x0 : ∀ p : Ext, (ext wr p).cell? ⟨xb, 0, none⟩ = some (.int .i64 sx) := fun p => (hbx.out.below (B1 p) hbx.out.lt).cell 0 rfl
              have x1 : ∀ p : Ext, (ext wr p).cell? ⟨xb, 1, none⟩ = some (.int .i64 sy) := fun p => (hbx.out.below (B1 p) hbx.out.lt).cell 1 rfl
              have x2 : ∀ p : Ext, (ext wr p).cell? ⟨xb, 2, none⟩ = some (.int .i64 sz) := fun p => (hbx.out.below (B1 p) hbx.out.lt).cell 2 rfl
              have hcf : cfS (yx, yy, yz) (sx, sy, sz) = cmpP yx yy yz sx sy sz := rfl
              have hcal := fun V => hcp.out yx yy yz V
              have hstep : cfS (yx, yy, yz) (sx, sy, sz) < 0 → ∀ m y, m < j + 1 → XS[m]? = some y → cfS y (sx, sy, sz) < 0 := fun hn m y hm hmy => by
                by_cases e : m = j
                · rw [e, hy] at hmy
                  rw [← Option.some.inj hmy]; exact hn
                · exact hlo m y (by omega) hmy
              have hstop : ¬ cfS (yx, yy, yz) (sx, sy, sz) < 0 → posS (sx, sy, sz) XS = j := fun hn => posS_eq hlo (.inr ⟨_, hy, hn⟩)
              clear c0 c1 c2 hcell hne B1 hlo
              by_cases hc : cfS (yx, yy, yz) (sx, sy, sz) < 0
              · have hs' := Lib.hid (hstep hc)
                rw [hcf] at hc
                have hcv : decide (cmpP yx yy yz sx sy sz < 0) = true := decide_eq_true hc
                clear hstep hstop hcf hc
                generalize cmpP yx yy yz sx sy sz = cv at *
                replace hcal := Lib.hid hcal
                replace hbj := Lib.hid hbj
                replace hy := Lib.hid hy
                go_wp2_with fail
                refine wp_region_ext (by kernel_rfl) (by kernel_rfl) ?_
                repeat (quiet_step ((go_at_call 49; exact calls_ext_of (hcal.out _))))
                refine wpQuiet_nil ?_
                rintro _ ⟨pq, rfl⟩
                have B6 := Lib.hid (hbj.out.trans ((below_ext wr pq).mono hbj.out.size))
                clear k0 k1 k2 x0 x1 x2
                go_wp2_with fail
                go_round
                case rel => exact ⟨j + 1, by omega, by go_num, hs'.out, B6.out⟩
                case measure => simp [intOf]; omega
              · have hpos := Lib.hid (hstop hc)
                rw [hcf] at hc
                have hcv : decide (cmpP yx yy yz sx sy sz < 0) = false := decide_eq_false hc
                clear hstep hstop hcf hc
                generalize cmpP yx yy yz sx sy sz = cv at *
                replace hcal := Lib.hid hcal
                replace hbj := Lib.hid hbj
                replace hy := Lib.hid hy
                go_wp2_with fail
                refine wp_region_ext (by kernel_rfl) (by kernel_rfl) ?_
                repeat (quiet_step ((go_at_call 49; exact calls_ext_of (hcal.out _))))
                refine wpQuiet_nil ?_
                rintro _ ⟨pq, rfl⟩
                have B6 := Lib.hid (hbj.out.trans ((below_ext wr pq).mono hbj.out.size))
                clear k0 k1 k2 x0 x1 x2
                generalize ext wr pq = V2 at *
                have hro3 := hro2.out.keep B6.out
                have hbx3 := hbx.out.below B6.out hbx.out.lt
                have hsrc : ∀ X, Below V2.heap.size V2 X → ∀ m y, (XS.map spL)[m]? = some y → ∀ i u, y[i]? = some u → X.cell? ((⟨gq, 0, none⟩ : Addr).add (m * 3 + i)) = some u := fun X hX m y hy i u hu => by
                  have := (hro3.keep hX)
                  obtain ⟨bq, cq, eq, _, _, hq⟩ := this.open
                  obtain ⟨g', e', _, hc'⟩ := hq (fun e => by rw [e] at hy; simp at hy)
                  injection eq with eq1 _ _
                  rw [← eq1] at e'
                  injection e' with e'
                  injection e' with e'
                  subst e'
                  have := hc' m y hy i u hu
                  rw [Addr.add_mid, Nat.zero_add]
                  exact this
                have hV0 : Below V2.heap.size V2 V2 := Below.refl _ _
                have hXl' := hXl.out
                have b0 := hbx3.cell 0 rfl
                have b1 := hbx3.cell 1 rfl
                have b2 := hbx3.cell 2 rfl
                have hn0 := ROwn.nil V2 V2.heap.size 23 3
                obtain ⟨v1, W1, hr1, ho1, hg1, _⟩ := hn0.appends (S := 24) (zv := .agg #[.int .i64 0, .int .i64 0, .int .i64 0]) (by_ := 24) (a := ⟨gq, 0, none⟩) (m := j) (cp := cap) (ys := (XS.take j).map spL) 24 Try.underlying24 info_spot rfl (by omega) (by rw [List.length_map, List.length_take]; have := hln.out; omega) (fun y hy => by
                    obtain ⟨q, _, rfl⟩ := List.mem_map.1 hy
                    exact ⟨rfl, spL_one q⟩) (fun m y hy i u hu => by
                    rw [List.getElem?_map, List.getElem?_take] at hy
                    split at hy
                    · exact hsrc _ hV0 m y (by rw [List.getElem?_map]; exact hy) i u hu
                    · cases hy) (by simp; omega) (by omega) (Nat.le_refl _)
                rw [List.nil_append] at ho1
                have hb1 := hn0.grew hV0 hg1 (Nat.le_refl _)
                have hl1 : (XS.take j).length = j := by rw [List.length_take]; have := hln.out; omega
                obtain ⟨bs1, cp1, rfl, _, hcm1, _⟩ := ho1.spots
                rw [hl1] at hr1
                unfold maxLen at hcm1
                have d0 := (hbx3.below hb1 hbx3.lt).cell 0 rfl
                have d1 := (hbx3.below hb1 hbx3.lt).cell 1 rfl
                have d2 := (hbx3.below hb1 hbx3.lt).cell 2 rfl
                have hA2 : Below W1.heap.size W1 (W1.alloc (.cells #[.int .i64 sx, .int .i64 sy, .int .i64 sz] 23)) := (Below.refl _ _).alloc (Nat.le_refl _) _
                have ho1a := ho1.keep hA2
                have hb1a := hb1.trans (hA2.mono hb1.size)
                obtain ⟨v2, W2, hr2, ho2, hg2, _⟩ := ho1a.append (S := 24) 24 Try.underlying24 info_spot rfl (by omega) (Blk.new W1 #[.int .i64 sx, .int .i64 sy, .int .i64 sz] 23) rfl (spL_one (sx, sy, sz)) (by rw [List.length_map, hl1]; omega) (by omega) hb1a.size
                have hb2 := ho1a.grew hb1a hg2 hb1a.size
                obtain ⟨bs2, cp2, e2, _, hcm2, _⟩ := ho2.open
                subst e2
                have hl2 : ((XS.take j).map spL ++ [[Value.int .i64 sx, .int .i64 sy, .int .i64 sz]]).length = j + 1 := by rw [List.length_append, List.length_map, hl1]; rfl
                rw [hl2] at hr2
                unfold maxLen at hcm2
                rw [hl1] at hr2
                obtain ⟨v3, W3, hr3, ho3, hg3, _⟩ := ho2.appends (S := 24) (zv := .agg #[.int .i64 0, .int .i64 0, .int .i64 0]) (by_ := 24) (a := ⟨gq, j * 3, none⟩) (m := ln - j) (cp := cap - j) (ys := (XS.drop j).map spL) 24 Try.underlying24 info_spot rfl (by omega) (by rw [List.length_map, List.length_drop]; have := hln.out; omega) (fun y hy => by
                    obtain ⟨q, _, rfl⟩ := List.mem_map.1 hy
                    exact ⟨rfl, spL_one q⟩) (fun m y hy i u hu => by
                    rw [List.getElem?_map, List.getElem?_drop] at hy
                    have := hsrc _ hb2 (j + m) y (by rw [List.getElem?_map]; exact hy) i u hu
                    rw [← this, Addr.add_mid, Addr.add_mid]
                    congr 2
                    omega) (by rw [hl2]; omega) (by omega) hb2.size
                have hb3 := ho2.grew hb2 hg3 hb2.size
                rw [hl2] at hr3
                have hfin : ROwn W3 W.heap.size 23 3 v3 ((SEL (k + 1)).map spL) := by
                  rw [hst.out]
                  have := ho3.base (B' := W.heap.size) (Nat.le_trans hbW.out.size B6.out.size)
                  unfold insS
                  rw [hpos.out, List.map_append, List.map_append]
                  exact this
                have hbF := Lib.hid (hbW.out.trans ((B6.out.trans (hb3.mono B6.out.size)).mono hbW.out.size))
                have hne : SEL (k + 1) ≠ [] := by rw [hst.out]; unfold insS; simp
                replace hne := Lib.hid hne
                replace hfin := Lib.hid hfin
                clear ho3 hn0 hV0 hb1 ho1 hA2 ho1a hb1a ho2 hb2 hb3 hro3 hbx3 hl1 hl2 hg2 hg1 hg3 hsrc
                go_wp2_with (at_builtin; first | refine wpList_run_append rfl (.tmp 53) (.tmp 56) 24 rfl rfl rfl hr1 ?_ | refine wpList_run_append rfl (.tmp 58) (.tmp 61) 24 rfl rfl rfl hr2 ?_ | refine wpList_run_append rfl (.tmp 63) (.tmp 66) 24 rfl rfl rfl hr3 ?_)
                go_round
                case rel => exact ⟨k + 1, by omega, by go_num, hfin.out, fun e => absurd e hne.out, hbF.out⟩
                case measure => simp [intOf]; omega
            · obtain rfl : j = ln := by omega
              have hpos : posS (sx, sy, sz) XS = j := posS_eq hlo (.inl hln.out.symm)
              replace hpos := Lib.hid hpos
              replace hbj := Lib.hid hbj
              clear hlo
              go_wp2_with fail
              go_quiet (fail)
              have B6 := Lib.hid (hbj.out.trans ((below_drewN (Below.refl wr.heap.size wr) nq).mono hbj.out.size))
              generalize wr.drewN nq = V2 at *
              have hro3 := hro2.out.keep B6.out
              have hbx3 := hbx.out.below B6.out hbx.out.lt
              by_cases hln0 : j = 0
              · subst hln0
                have hXn : XS = [] := List.eq_nil_of_length_eq_zero hln.out
                have hv0 := hnil.out hXn
                injection hv0 with e1 e2 e3
                subst e1 e3
                clear hXn
                have hV0 : Below V2.heap.size V2 V2 := Below.refl _ _
                have hXl' := hXl.out
                have b0 := hbx3.cell 0 rfl
                have b1 := hbx3.cell 1 rfl
                have b2 := hbx3.cell 2 rfl
                have hn0 := ROwn.nil V2 V2.heap.size 23 3
                have hr1 := hn0.append_nil (S := 24) (zv := .agg #[.int .i64 0, .int .i64 0, .int .i64 0]) (by_ := 24) 24 Try.underlying24 info_spot
                have hb1 := hV0
                have ho1 : ROwn V2 V2.heap.size 23 3 (.slice none 0 0) (((XS.take 0)).map spL) := hn0
                have hl1 : (XS.take 0).length = 0 := rfl
                have hA2 : Below V2.heap.size V2 (V2.alloc (.cells #[.int .i64 sx, .int .i64 sy, .int .i64 sz] 23)) := (Below.refl _ _).alloc (Nat.le_refl _) _
                have ho1a := ho1.keep hA2
                have hb1a := hb1.trans (hA2.mono hb1.size)
                obtain ⟨v2, W2, hr2, ho2, hg2, _⟩ := ho1a.append (S := 24) 24 Try.underlying24 info_spot rfl (by omega) (Blk.new V2 #[.int .i64 sx, .int .i64 sy, .int .i64 sz] 23) rfl (spL_one (sx, sy, sz)) (by rw [List.length_map, hl1]; omega) (by omega) hb1a.size
                have hb2 := ho1a.grew hb1a hg2 hb1a.size
                obtain ⟨bs2, cp2, e2, _, hcm2, _⟩ := ho2.open
                subst e2
                have hl2 : ((XS.take 0).map spL ++ [[Value.int .i64 sx, .int .i64 sy, .int .i64 sz]]).length = 0 + 1 := by rw [List.length_append, List.length_map, hl1]; rfl
                rw [hl2] at hr2
                unfold maxLen at hcm2
                have hr3 := ho2.append_nil (S := 24) (zv := .agg #[.int .i64 0, .int .i64 0, .int .i64 0]) (by_ := 24) 24 Try.underlying24 info_spot
                rw [hl2] at hr3
                have hb3 := hb2
                have ho3 : ROwn W2 V2.heap.size 23 3 (.slice bs2 ((XS.take 0).map spL ++ [[Value.int .i64 sx, .int .i64 sy, .int .i64 sz]]).length cp2) (((XS.take 0).map spL ++ [[Value.int .i64 sx, .int .i64 sy, .int .i64 sz]]) ++ (XS.drop 0).map spL) := by
                  rw [show (XS.drop 0).map spL = [] by rw [List.drop_zero, List.eq_nil_of_length_eq_zero hln.out]; rfl, List.append_nil]
                  exact ho2
                rw [hl2] at ho3
                have hfin : ROwn W2 W.heap.size 23 3 (.slice bs2 (0 + 1) cp2) ((SEL (k + 1)).map spL) := by
                  rw [hst.out]
                  have := ho3.base (B' := W.heap.size) (Nat.le_trans hbW.out.size B6.out.size)
                  unfold insS
                  rw [hpos.out, List.map_append, List.map_append]
                  exact this
                have hbF := Lib.hid (hbW.out.trans ((B6.out.trans (hb3.mono B6.out.size)).mono hbW.out.size))
                have hne : SEL (k + 1) ≠ [] := by rw [hst.out]; unfold insS; simp
                replace hne := Lib.hid hne
                replace hfin := Lib.hid hfin
                clear ho3 hn0 hV0 hb1 ho1 hA2 ho1a hb1a ho2 hb2 hb3 hro3 hbx3 hl1 hl2 hg2
                go_wp2_with (at_builtin; first | refine wpList_run_append rfl (.tmp 53) (.tmp 56) 24 rfl rfl rfl hr1 ?_ | refine wpList_run_append rfl (.tmp 58) (.tmp 61) 24 rfl rfl rfl hr2 ?_ | refine wpList_run_append rfl (.tmp 63) (.tmp 66) 24 rfl rfl rfl hr3 ?_)
                go_round
                case rel => exact ⟨k + 1, by omega, by go_num, hfin.out, fun e => absurd e hne.out, hbF.out⟩
                case measure => simp [intOf]; omega
              · have hne0 : XS ≠ [] := fun e => by have := hln.out; rw [e] at this; simp at this; omega
                obtain ⟨gq, rfl, hgl, _⟩ := hrow.out hne0
                clear hne0
                by_cases hcap : j < cap
                · skip
                  have hsrc : ∀ X, Below V2.heap.size V2 X → ∀ m y, (XS.map spL)[m]? = some y → ∀ i u, y[i]? = some u → X.cell? ((⟨gq, 0, none⟩ : Addr).add (m * 3 + i)) = some u := fun X hX m y hy i u hu => by
                    have := (hro3.keep hX)
                    obtain ⟨bq, cq, eq, _, _, hq⟩ := this.open
                    obtain ⟨g', e', _, hc'⟩ := hq (fun e => by rw [e] at hy; simp at hy)
                    injection eq with eq1 _ _
                    rw [← eq1] at e'
                    injection e' with e'
                    injection e' with e'
                    subst e'
                    have := hc' m y hy i u hu
                    rw [Addr.add_mid, Nat.zero_add]
                    exact this
                  have hV0 : Below V2.heap.size V2 V2 := Below.refl _ _
                  have hXl' := hXl.out
                  have b0 := hbx3.cell 0 rfl
                  have b1 := hbx3.cell 1 rfl
                  have b2 := hbx3.cell 2 rfl
                  have hn0 := ROwn.nil V2 V2.heap.size 23 3
                  obtain ⟨v1, W1, hr1, ho1, hg1, _⟩ := hn0.appends (S := 24) (zv := .agg #[.int .i64 0, .int .i64 0, .int .i64 0]) (by_ := 24) (a := ⟨gq, 0, none⟩) (m := j) (cp := cap) (ys := (XS.take j).map spL) 24 Try.underlying24 info_spot rfl (by omega) (by rw [List.length_map, List.length_take]; have := hln.out; omega) (fun y hy => by
                      obtain ⟨q, _, rfl⟩ := List.mem_map.1 hy
                      exact ⟨rfl, spL_one q⟩) (fun m y hy i u hu => by
                      rw [List.getElem?_map, List.getElem?_take] at hy
                      split at hy
                      · exact hsrc _ hV0 m y (by rw [List.getElem?_map]; exact hy) i u hu
                      · cases hy) (by simp; omega) (by omega) (Nat.le_refl _)
                  rw [List.nil_append] at ho1
                  have hb1 := hn0.grew hV0 hg1 (Nat.le_refl _)
                  have hl1 : (XS.take j).length = j := by rw [List.length_take]; have := hln.out; omega
                  obtain ⟨bs1, cp1, rfl, _, hcm1, _⟩ := ho1.spots
                  rw [hl1] at hr1
                  unfold maxLen at hcm1
                  have d0 := (hbx3.below hb1 hbx3.lt).cell 0 rfl
                  have d1 := (hbx3.below hb1 hbx3.lt).cell 1 rfl
                  have d2 := (hbx3.below hb1 hbx3.lt).cell 2 rfl
                  have hA2 : Below W1.heap.size W1 (W1.alloc (.cells #[.int .i64 sx, .int .i64 sy, .int .i64 sz] 23)) := (Below.refl _ _).alloc (Nat.le_refl _) _
                  have ho1a := ho1.keep hA2
                  have hb1a := hb1.trans (hA2.mono hb1.size)
                  obtain ⟨v2, W2, hr2, ho2, hg2, _⟩ := ho1a.append (S := 24) 24 Try.underlying24 info_spot rfl (by omega) (Blk.new W1 #[.int .i64 sx, .int .i64 sy, .int .i64 sz] 23) rfl (spL_one (sx, sy, sz)) (by rw [List.length_map, hl1]; omega) (by omega) hb1a.size
                  have hb2 := ho1a.grew hb1a hg2 hb1a.size
                  obtain ⟨bs2, cp2, e2, _, hcm2, _⟩ := ho2.open
                  subst e2
                  have hl2 : ((XS.take j).map spL ++ [[Value.int .i64 sx, .int .i64 sy, .int .i64 sz]]).length = j + 1 := by rw [List.length_append, List.length_map, hl1]; rfl
                  rw [hl2] at hr2
                  unfold maxLen at hcm2
                  rw [hl1] at hr2
                  obtain ⟨v3, W3, hr3, ho3, hg3, _⟩ := ho2.appends (S := 24) (zv := .agg #[.int .i64 0, .int .i64 0, .int .i64 0]) (by_ := 24) (a := ⟨gq, j * 3, none⟩) (m := 0) (cp := cap - j) (ys := (XS.drop j).map spL) 24 Try.underlying24 info_spot rfl (by omega) (by rw [List.length_map, List.length_drop]; have := hln.out; omega) (fun y hy => by
                      obtain ⟨q, _, rfl⟩ := List.mem_map.1 hy
                      exact ⟨rfl, spL_one q⟩) (fun m y hy i u hu => by
                      rw [List.drop_eq_nil_of_le (by rw [hln.out]; exact Nat.le_refl _)] at hy
                      cases hy) (by rw [hl2]; omega) (by omega) hb2.size
                  have hb3 := ho2.grew hb2 hg3 hb2.size
                  rw [hl2] at hr3
                  have hfin : ROwn W3 W.heap.size 23 3 v3 ((SEL (k + 1)).map spL) := by
                    rw [hst.out]
                    have := ho3.base (B' := W.heap.size) (Nat.le_trans hbW.out.size B6.out.size)
                    unfold insS
                    rw [hpos.out, List.map_append, List.map_append]
                    exact this
                  have hbF := Lib.hid (hbW.out.trans ((B6.out.trans (hb3.mono B6.out.size)).mono hbW.out.size))
                  have hne : SEL (k + 1) ≠ [] := by rw [hst.out]; unfold insS; simp
                  replace hne := Lib.hid hne
                  replace hfin := Lib.hid hfin
                  clear ho3 hn0 hV0 hb1 ho1 hA2 ho1a hb1a ho2 hb2 hb3 hro3 hbx3 hl1 hl2 hg2 hg1 hg3 hsrc
                  go_wp2_with (at_builtin; first | refine wpList_run_append rfl (.tmp 53) (.tmp 56) 24 rfl rfl rfl hr1 ?_ | refine wpList_run_append rfl (.tmp 58) (.tmp 61) 24 rfl rfl rfl hr2 ?_ | refine wpList_run_append rfl (.tmp 63) (.tmp 66) 24 rfl rfl rfl hr3 ?_)
                  go_round
                  case rel => exact ⟨k + 1, by omega, by go_num, hfin.out, fun e => absurd e hne.out, hbF.out⟩
                  case measure => simp [intOf]; omega
                · obtain rfl : j = cap := by omega
                  have hsrc : ∀ X, Below V2.heap.size V2 X → ∀ m y, (XS.map spL)[m]? = some y → ∀ i u, y[i]? = some u → X.cell? ((⟨gq, 0, none⟩ : Addr).add (m * 3 + i)) = some u := fun X hX m y hy i u hu => by
                    have := (hro3.keep hX)
                    obtain ⟨bq, cq, eq, _, _, hq⟩ := this.open
                    obtain ⟨g', e', _, hc'⟩ := hq (fun e => by rw [e] at hy; simp at hy)
                    injection eq with eq1 _ _
                    rw [← eq1] at e'
                    injection e' with e'
                    injection e' with e'
                    subst e'
                    have := hc' m y hy i u hu
                    rw [Addr.add_mid, Nat.zero_add]
                    exact this
                  have hV0 : Below V2.heap.size V2 V2 := Below.refl _ _
                  have hXl' := hXl.out
                  have b0 := hbx3.cell 0 rfl
                  have b1 := hbx3.cell 1 rfl
                  have b2 := hbx3.cell 2 rfl
                  have hn0 := ROwn.nil V2 V2.heap.size 23 3
                  obtain ⟨v1, W1, hr1, ho1, hg1, _⟩ := hn0.appends (S := 24) (zv := .agg #[.int .i64 0, .int .i64 0, .int .i64 0]) (by_ := 24) (a := ⟨gq, 0, none⟩) (m := j) (cp := j) (ys := (XS.take j).map spL) 24 Try.underlying24 info_spot rfl (by omega) (by rw [List.length_map, List.length_take]; have := hln.out; omega) (fun y hy => by
                      obtain ⟨q, _, rfl⟩ := List.mem_map.1 hy
                      exact ⟨rfl, spL_one q⟩) (fun m y hy i u hu => by
                      rw [List.getElem?_map, List.getElem?_take] at hy
                      split at hy
                      · exact hsrc _ hV0 m y (by rw [List.getElem?_map]; exact hy) i u hu
                      · cases hy) (by simp; omega) (by omega) (Nat.le_refl _)
                  rw [List.nil_append] at ho1
                  have hb1 := hn0.grew hV0 hg1 (Nat.le_refl _)
                  have hl1 : (XS.take j).length = j := by rw [List.length_take]; have := hln.out; omega
                  obtain ⟨bs1, cp1, rfl, _, hcm1, _⟩ := ho1.spots
                  rw [hl1] at hr1
                  unfold maxLen at hcm1
                  have d0 := (hbx3.below hb1 hbx3.lt).cell 0 rfl
                  have d1 := (hbx3.below hb1 hbx3.lt).cell 1 rfl
                  have d2 := (hbx3.below hb1 hbx3.lt).cell 2 rfl
                  have hA2 : Below W1.heap.size W1 (W1.alloc (.cells #[.int .i64 sx, .int .i64 sy, .int .i64 sz] 23)) := (Below.refl _ _).alloc (Nat.le_refl _) _
                  have ho1a := ho1.keep hA2
                  have hb1a := hb1.trans (hA2.mono hb1.size)
                  obtain ⟨v2, W2, hr2, ho2, hg2, _⟩ := ho1a.append (S := 24) 24 Try.underlying24 info_spot rfl (by omega) (Blk.new W1 #[.int .i64 sx, .int .i64 sy, .int .i64 sz] 23) rfl (spL_one (sx, sy, sz)) (by rw [List.length_map, hl1]; omega) (by omega) hb1a.size
                  have hb2 := ho1a.grew hb1a hg2 hb1a.size
                  obtain ⟨bs2, cp2, e2, _, hcm2, _⟩ := ho2.open
                  subst e2
                  have hl2 : ((XS.take j).map spL ++ [[Value.int .i64 sx, .int .i64 sy, .int .i64 sz]]).length = j + 1 := by rw [List.length_append, List.length_map, hl1]; rfl
                  rw [hl2] at hr2
                  unfold maxLen at hcm2
                  rw [hl1] at hr2
                  obtain ⟨v3, W3, hr3, ho3, hg3, _⟩ := ho2.appends (S := 24) (zv := .agg #[.int .i64 0, .int .i64 0, .int .i64 0]) (by_ := 24) (a := ⟨gq, 0, none⟩) (m := 0) (cp := 0) (ys := (XS.drop j).map spL) 24 Try.underlying24 info_spot rfl (by omega) (by rw [List.length_map, List.length_drop]; have := hln.out; omega) (fun y hy => by
                      obtain ⟨q, _, rfl⟩ := List.mem_map.1 hy
                      exact ⟨rfl, spL_one q⟩) (fun m y hy i u hu => by
                      rw [List.drop_eq_nil_of_le (by rw [hln.out]; exact Nat.le_refl _)] at hy
                      cases hy) (by rw [hl2]; omega) (by omega) hb2.size
                  have hb3 := ho2.grew hb2 hg3 hb2.size
                  rw [hl2] at hr3
                  have hfin : ROwn W3 W.heap.size 23 3 v3 ((SEL (k + 1)).map spL) := by
                    rw [hst.out]
                    have := ho3.base (B' := W.heap.size) (Nat.le_trans hbW.out.size B6.out.size)
                    unfold insS
                    rw [hpos.out, List.map_append, List.map_append]
                    exact this
                  have hbF := Lib.hid (hbW.out.trans ((B6.out.trans (hb3.mono B6.out.size)).mono hbW.out.size))
                  have hne : SEL (k + 1) ≠ [] := by rw [hst.out]; unfold insS; simp
                  replace hne := Lib.hid hne
                  replace hfin := Lib.hid hfin
                  clear ho3 hn0 hV0 hb1 ho1 hA2 ho1a hb1a ho2 hb2 hb3 hro3 hbx3 hl1 hl2 hg2 hg1 hg3 hsrc
                  go_wp2_with (at_builtin; first | refine wpList_run_append rfl (.tmp 53) (.tmp 56) 24 rfl rfl rfl hr1 ?_ | refine wpList_run_append rfl (.tmp 58) (.tmp 61) 24 rfl rfl rfl hr2 ?_ | refine wpList_run_append rfl (.tmp 63) (.tmp 66) 24 rfl rfl rfl hr3 ?_)
                  go_round
                  case rel => exact ⟨k + 1, by omega, by go_num, hfin.out, fun e => absurd e hne.out, hbF.out⟩
                  case measure => simp [intOf]; omega
        | true =>
          cases di with
          | false =>
            rw [if_neg (fun h => by cases h.2)] at hst
            replace hst := Lib.hid hst
            replace hro2 := Lib.hid hro2
            replace hbx := Lib.hid hbx
            clear hbE hR
            go_wp2_with fail
            go_round
            case rel => exact ⟨k + 1, by omega, by go_num, by rw [hst.out]; exact hro2.out, fun e => hnil.out (by rw [← hst.out]; exact e), hbW.out⟩
            case measure => simp [intOf]; omega
          | true =>
            rw [if_pos ⟨rfl, rfl⟩] at hst
            replace hst := Lib.hid hst
            obtain ⟨base, cap, rfl, hcl1, hcl2, hrow⟩ := hro2.spots
            unfold maxLen at hcl2
            obtain ⟨ln, hln⟩ : ∃ ln, XS.length = ln := ⟨_, rfl⟩
            rw [hln] at hcl1 hXl ⊢
            have hcp := fun a b c V => rcmpspot_calls a b c sx sy sz V
            replace hcp := Lib.hid hcp
            replace hln := Lib.hid hln
            replace hrow := Lib.hid hrow
            replace hro2 := Lib.hid hro2
            replace hbx := Lib.hid hbx
            replace hXl := Lib.hid hXl
            replace hbE := Lib.hid hbE
            clear hR
            go_wp2_with fail
            clear q0 y3 y4 z0 z1 z2 z3 z4 z5 z6 z7 hxb hV1
            go_loopw [8] (fun kk X => ∃ j : Nat, j ≤ ln ∧ kk = .int .i64 j ∧ (∀ m y, m < j → XS[m]? = some y → cfS y (sx, sy, sz) < 0) ∧ Below V1.heap.size V1 X) (fun kk _ => ln + 1 - (intOf kk).toNat)
            case atStart => exact ⟨0, by omega, rfl, fun m y hm => absurd hm (Nat.not_lt_zero _), Below.refl _ _⟩
            case round =>
              obtain ⟨j, hj, rfl, hlo, hbj⟩ := hrel
              by_cases hjl : j < ln
              · have hjz : (j : Int) < (ln : Int) := by omega
                have hne : XS ≠ [] := fun e => by rw [← hln.out, e] at hjl; simp at hjl
                obtain ⟨gq, rfl, hgl, hcell⟩ := hrow.out hne
                obtain ⟨y, hy⟩ : ∃ y, XS[j]? = some y := ⟨_, List.getElem?_eq_getElem (by rw [hln.out]; exact hjl)⟩
                obtain ⟨c0, c1, c2⟩ := hcell j y hy
                obtain ⟨yx, yy, yz⟩ := y
                simp only at c0 c1 c2
                have B1 := fun p : Ext => (hbj.trans ((below_ext wr p).mono hbj.size))
                have k0 : ∀ p : Ext, (ext wr p).cell? ⟨gq, j * 3, none⟩ = some (.int .i64 yx) := fun p => ((B1 p).cell (p := ⟨gq, _, none⟩) hgl).trans c0
                have k1 : ∀ p : Ext, (ext wr p).cell? ⟨gq, j * 3 + 1, none⟩ = some (.int .i64 yy) := fun p => ((B1 p).cell (p := ⟨gq, _, none⟩) hgl).trans c1
                have k2 : ∀ p : Ext, (ext wr p).cell? ⟨gq, j * 3 + 2, none⟩ = some (.int .i64 yz) := fun p => ((B1 p).cell (p := ⟨gq, _, none⟩) hgl).trans c2
                have x0 : ∀ p : Ext, (ext wr p).cell? ⟨xb, 0, none⟩ = some (.int .i64 sx) := fun p => (hbx.out.below (B1 p) hbx.out.lt).cell 0 rfl
                have x1 : ∀ p : Ext, (ext wr p).cell? ⟨xb, 1, none⟩ = some (.int .i64 sy) := fun p => (hbx.out.below (B1 p) hbx.out.lt).cell 1 rfl
                have x2 : ∀ p : Ext, (ext wr p).cell? ⟨xb, 2, none⟩ = some (.int .i64 sz) := fun p => (hbx.out.below (B1 p) hbx.out.lt).cell 2 rfl
                have hcf : cfS (yx, yy, yz) (sx, sy, sz) = cmpP yx yy yz sx sy sz := rfl
                have hcal := fun V => hcp.out yx yy yz V
                have hstep : cfS (yx, yy, yz) (sx, sy, sz) < 0 → ∀ m y, m < j + 1 → XS[m]? = some y → cfS y (sx, sy, sz) < 0 := fun hn m y hm hmy => by
                  by_cases e : m = j
                  · rw [e, hy] at hmy
                    rw [← Option.some.inj hmy]; exact hn
                  · exact hlo m y (by omega) hmy
                have hstop : ¬ cfS (yx, yy, yz) (sx, sy, sz) < 0 → posS (sx, sy, sz) XS = j := fun hn => posS_eq hlo (.inr ⟨_, hy, hn⟩)
                clear c0 c1 c2 hcell hne B1 hlo
                by_cases hc : cfS (yx, yy, yz) (sx, sy, sz) < 0
                · have hs' := Lib.hid (hstep hc)
                  rw [hcf] at hc
                  have hcv : decide (cmpP yx yy yz sx sy sz < 0) = true := decide_eq_true hc
                  clear hstep hstop hcf hc
                  generalize cmpP yx yy yz sx sy sz = cv at *
                  replace hcal := Lib.hid hcal
                  replace hbj := Lib.hid hbj
                  replace hy := Lib.hid hy
                  go_wp2_with fail
                  refine wp_region_ext (by kernel_rfl) (by kernel_rfl) ?_
                  repeat (quiet_step ((go_at_call 49; exact calls_ext_of (hcal.out _))))
                  refine wpQuiet_nil ?_
                  rintro _ ⟨pq, rfl⟩
                  have B6 := Lib.hid (hbj.out.trans ((below_ext wr pq).mono hbj.out.size))
                  clear k0 k1 k2 x0 x1 x2
                  go_wp2_with fail
                  go_round
                  case rel => exact ⟨j + 1, by omega, by go_num, hs'.out, B6.out⟩
                  case measure => simp [intOf]; omega
                · have hpos := Lib.hid (hstop hc)
                  rw [hcf] at hc
                  have hcv : decide (cmpP yx yy yz sx sy sz < 0) = false := decide_eq_false hc
                  clear hstep hstop hcf hc
                  generalize cmpP yx yy yz sx sy sz = cv at *
                  replace hcal := Lib.hid hcal
                  replace hbj := Lib.hid hbj
                  replace hy := Lib.hid hy
                  go_wp2_with fail
                  refine wp_region_ext (by kernel_rfl) (by kernel_rfl) ?_
                  repeat (quiet_step ((go_at_call 49; exact calls_ext_of (hcal.out _))))
                  refine wpQuiet_nil ?_
                  rintro _ ⟨pq, rfl⟩
                  have B6 := Lib.hid (hbj.out.trans ((below_ext wr pq).mono hbj.out.size))
                  clear k0 k1 k2 x0 x1 x2
                  generalize ext wr pq = V2 at *
                  have hro3 := hro2.out.keep B6.out
                  have hbx3 := hbx.out.below B6.out hbx.out.lt
                  have hsrc : ∀ X, Below V2.heap.size V2 X → ∀ m y, (XS.map spL)[m]? = some y → ∀ i u, y[i]? = some u → X.cell? ((⟨gq, 0, none⟩ : Addr).add (m * 3 + i)) = some u := fun X hX m y hy i u hu => by
                    have := (hro3.keep hX)
                    obtain ⟨bq, cq, eq, _, _, hq⟩ := this.open
                    obtain ⟨g', e', _, hc'⟩ := hq (fun e => by rw [e] at hy; simp at hy)
                    injection eq with eq1 _ _
                    rw [← eq1] at e'
                    injection e' with e'
                    injection e' with e'
                    subst e'
                    have := hc' m y hy i u hu
                    rw [Addr.add_mid, Nat.zero_add]
                    exact this
                  have hV0 : Below V2.heap.size V2 V2 := Below.refl _ _
                  have hXl' := hXl.out
                  have b0 := hbx3.cell 0 rfl
                  have b1 := hbx3.cell 1 rfl
                  have b2 := hbx3.cell 2 rfl
                  have hn0 := ROwn.nil V2 V2.heap.size 23 3
                  obtain ⟨v1, W1, hr1, ho1, hg1, _⟩ := hn0.appends (S := 24) (zv := .agg #[.int .i64 0, .int .i64 0, .int .i64 0]) (by_ := 24) (a := ⟨gq, 0, none⟩) (m := j) (cp := cap) (ys := (XS.take j).map spL) 24 Try.underlying24 info_spot rfl (by omega) (by rw [List.length_map, List.length_take]; have := hln.out; omega) (fun y hy => by
                      obtain ⟨q, _, rfl⟩ := List.mem_map.1 hy
                      exact ⟨rfl, spL_one q⟩) (fun m y hy i u hu => by
                      rw [List.getElem?_map, List.getElem?_take] at hy
                      split at hy
                      · exact hsrc _ hV0 m y (by rw [List.getElem?_map]; exact hy) i u hu
                      · cases hy) (by simp; omega) (by omega) (Nat.le_refl _)
                  rw [List.nil_append] at ho1
                  have hb1 := hn0.grew hV0 hg1 (Nat.le_refl _)
                  have hl1 : (XS.take j).length = j := by rw [List.length_take]; have := hln.out; omega
                  obtain ⟨bs1, cp1, rfl, _, hcm1, _⟩ := ho1.spots
                  rw [hl1] at hr1
                  unfold maxLen at hcm1
                  have d0 := (hbx3.below hb1 hbx3.lt).cell 0 rfl
                  have d1 := (hbx3.below hb1 hbx3.lt).cell 1 rfl
                  have d2 := (hbx3.below hb1 hbx3.lt).cell 2 rfl
                  have hA2 : Below W1.heap.size W1 (W1.alloc (.cells #[.int .i64 sx, .int .i64 sy, .int .i64 sz] 23)) := (Below.refl _ _).alloc (Nat.le_refl _) _
                  have ho1a := ho1.keep hA2
                  have hb1a := hb1.trans (hA2.mono hb1.size)
                  obtain ⟨v2, W2, hr2, ho2, hg2, _⟩ := ho1a.append (S := 24) 24 Try.underlying24 info_spot rfl (by omega) (Blk.new W1 #[.int .i64 sx, .int .i64 sy, .int .i64 sz] 23) rfl (spL_one (sx, sy, sz)) (by rw [List.length_map, hl1]; omega) (by omega) hb1a.size
                  have hb2 := ho1a.grew hb1a hg2 hb1a.size
                  obtain ⟨bs2, cp2, e2, _, hcm2, _⟩ := ho2.open
                  subst e2
                  have hl2 : ((XS.take j).map spL ++ [[Value.int .i64 sx, .int .i64 sy, .int .i64 sz]]).length = j + 1 := by rw [List.length_append, List.length_map, hl1]; rfl
                  rw [hl2] at hr2
                  unfold maxLen at hcm2
                  rw [hl1] at hr2
                  obtain ⟨v3, W3, hr3, ho3, hg3, _⟩ := ho2.appends (S := 24) (zv := .agg #[.int .i64 0, .int .i64 0, .int .i64 0]) (by_ := 24) (a := ⟨gq, j * 3, none⟩) (m := ln - j) (cp := cap - j) (ys := (XS.drop j).map spL) 24 Try.underlying24 info_spot rfl (by omega) (by rw [List.length_map, List.length_drop]; have := hln.out; omega) (fun y hy => by
                      obtain ⟨q, _, rfl⟩ := List.mem_map.1 hy
                      exact ⟨rfl, spL_one q⟩) (fun m y hy i u hu => by
                      rw [List.getElem?_map, List.getElem?_drop] at hy
                      have := hsrc _ hb2 (j + m) y (by rw [List.getElem?_map]; exact hy) i u hu
                      rw [← this, Addr.add_mid, Addr.add_mid]
                      congr 2
                      omega) (by rw [hl2]; omega) (by omega) hb2.size
                  have hb3 := ho2.grew hb2 hg3 hb2.size
                  rw [hl2] at hr3
                  have hfin : ROwn W3 W.heap.size 23 3 v3 ((SEL (k + 1)).map spL) := by
                    rw [hst.out]
                    have := ho3.base (B' := W.heap.size) (Nat.le_trans hbW.out.size B6.out.size)
                    unfold insS
                    rw [hpos.out, List.map_append, List.map_append]
                    exact this
                  have hbF := Lib.hid (hbW.out.trans ((B6.out.trans (hb3.mono B6.out.size)).mono hbW.out.size))
                  have hne : SEL (k + 1) ≠ [] := by rw [hst.out]; unfold insS; simp
                  replace hne := Lib.hid hne
                  replace hfin := Lib.hid hfin
                  clear ho3 hn0 hV0 hb1 ho1 hA2 ho1a hb1a ho2 hb2 hb3 hro3 hbx3 hl1 hl2 hg2 hg1 hg3 hsrc
                  go_wp2_with (at_builtin; first | refine wpList_run_append rfl (.tmp 53) (.tmp 56) 24 rfl rfl rfl hr1 ?_ | refine wpList_run_append rfl (.tmp 58) (.tmp 61) 24 rfl rfl rfl hr2 ?_ | refine wpList_run_append rfl (.tmp 63) (.tmp 66) 24 rfl rfl rfl hr3 ?_)
                  go_round
                  case rel => exact ⟨k + 1, by omega, by go_num, hfin.out, fun e => absurd e hne.out, hbF.out⟩
                  case measure => simp [intOf]; omega
              · obtain rfl : j = ln := by omega
                have hpos : posS (sx, sy, sz) XS = j := posS_eq hlo (.inl hln.out.symm)
                replace hpos := Lib.hid hpos
                replace hbj := Lib.hid hbj
                clear hlo
                go_wp2_with fail
                go_quiet (fail)
                have B6 := Lib.hid (hbj.out.trans ((below_drewN (Below.refl wr.heap.size wr) nq).mono hbj.out.size))
                generalize wr.drewN nq = V2 at *
                have hro3 := hro2.out.keep B6.out
                have hbx3 := hbx.out.below B6.out hbx.out.lt
                by_cases hln0 : j = 0
                · subst hln0
                  have hXn : XS = [] := List.eq_nil_of_length_eq_zero hln.out
                  have hv0 := hnil.out hXn
                  injection hv0 with e1 e2 e3
                  subst e1 e3
                  clear hXn
                  have hV0 : Below V2.heap.size V2 V2 := Below.refl _ _
                  have hXl' := hXl.out
                  have b0 := hbx3.cell 0 rfl
                  have b1 := hbx3.cell 1 rfl
                  have b2 := hbx3.cell 2 rfl
                  have hn0 := ROwn.nil V2 V2.heap.size 23 3
                  have hr1 := hn0.append_nil (S := 24) (zv := .agg #[.int .i64 0, .int .i64 0, .int .i64 0]) (by_ := 24) 24 Try.underlying24 info_spot
                  have hb1 := hV0
                  have ho1 : ROwn V2 V2.heap.size 23 3 (.slice none 0 0) (((XS.take 0)).map spL) := hn0
                  have hl1 : (XS.take 0).length = 0 := rfl
                  have hA2 : Below V2.heap.size V2 (V2.alloc (.cells #[.int .i64 sx, .int .i64 sy, .int .i64 sz] 23)) := (Below.refl _ _).alloc (Nat.le_refl _) _
                  have ho1a := ho1.keep hA2
                  have hb1a := hb1.trans (hA2.mono hb1.size)
                  obtain ⟨v2, W2, hr2, ho2, hg2, _⟩ := ho1a.append (S := 24) 24 Try.underlying24 info_spot rfl (by omega) (Blk.new V2 #[.int .i64 sx, .int .i64 sy, .int .i64 sz] 23) rfl (spL_one (sx, sy, sz)) (by rw [List.length_map, hl1]; omega) (by omega) hb1a.size
                  have hb2 := ho1a.grew hb1a hg2 hb1a.size
                  obtain ⟨bs2, cp2, e2, _, hcm2, _⟩ := ho2.open
                  subst e2
                  have hl2 : ((XS.take 0).map spL ++ [[Value.int .i64 sx, .int .i64 sy, .int .i64 sz]]).length = 0 + 1 := by rw [List.length_append, List.length_map, hl1]; rfl
                  rw [hl2] at hr2
                  unfold maxLen at hcm2
                  have hr3 := ho2.append_nil (S := 24) (zv := .agg #[.int .i64 0, .int .i64 0, .int .i64 0]) (by_ := 24) 24 Try.underlying24 info_spot
                  rw [hl2] at hr3
                  have hb3 := hb2
                  have ho3 : ROwn W2 V2.heap.size 23 3 (.slice bs2 ((XS.take 0).map spL ++ [[Value.int .i64 sx, .int .i64 sy, .int .i64 sz]]).length cp2) (((XS.take 0).map spL ++ [[Value.int .i64 sx, .int .i64 sy, .int .i64 sz]]) ++ (XS.drop 0).map spL) := by
                    rw [show (XS.drop 0).map spL = [] by rw [List.drop_zero, List.eq_nil_of_length_eq_zero hln.out]; rfl, List.append_nil]
                    exact ho2
                  rw [hl2] at ho3
                  have hfin : ROwn W2 W.heap.size 23 3 (.slice bs2 (0 + 1) cp2) ((SEL (k + 1)).map spL) := by
                    rw [hst.out]
                    have := ho3.base (B' := W.heap.size) (Nat.le_trans hbW.out.size B6.out.size)
                    unfold insS
                    rw [hpos.out, List.map_append, List.map_append]
                    exact this
                  have hbF := Lib.hid (hbW.out.trans ((B6.out.trans (hb3.mono B6.out.size)).mono hbW.out.size))
                  have hne : SEL (k + 1) ≠ [] := by rw [hst.out]; unfold insS; simp
                  replace hne := Lib.hid hne
                  replace hfin := Lib.hid hfin
                  clear ho3 hn0 hV0 hb1 ho1 hA2 ho1a hb1a ho2 hb2 hb3 hro3 hbx3 hl1 hl2 hg2
                  go_wp2_with (at_builtin; first | refine wpList_run_append rfl (.tmp 53) (.tmp 56) 24 rfl rfl rfl hr1 ?_ | refine wpList_run_append rfl (.tmp 58) (.tmp 61) 24 rfl rfl rfl hr2 ?_ | refine wpList_run_append rfl (.tmp 63) (.tmp 66) 24 rfl rfl rfl hr3 ?_)
                  go_round
                  case rel => exact ⟨k + 1, by omega, by go_num, hfin.out, fun e => absurd e hne.out, hbF.out⟩
                  case measure => simp [intOf]; omega
                · have hne0 : XS ≠ [] := fun e => by have := hln.out; rw [e] at this; simp at this; omega
                  obtain ⟨gq, rfl, hgl, _⟩ := hrow.out hne0
                  clear hne0
                  by_cases hcap : j < cap
                  · skip
                    have hsrc : ∀ X, Below V2.heap.size V2 X → ∀ m y, (XS.map spL)[m]? = some y → ∀ i u, y[i]? = some u → X.cell? ((⟨gq, 0, none⟩ : Addr).add (m * 3 + i)) = some u := fun X hX m y hy i u hu => by
                      have := (hro3.keep hX)
                      obtain ⟨bq, cq, eq, _, _, hq⟩ := this.open
                      obtain ⟨g', e', _, hc'⟩ := hq (fun e => by rw [e] at hy; simp at hy)
                      injection eq with eq1 _ _
                      rw [← eq1] at e'
                      injection e' with e'
                      injection e' with e'
                      subst e'
                      have := hc' m y hy i u hu
                      rw [Addr.add_mid, Nat.zero_add]
                      exact this
                    have hV0 : Below V2.heap.size V2 V2 := Below.refl _ _
                    have hXl' := hXl.out
                    have b0 := hbx3.cell 0 rfl
                    have b1 := hbx3.cell 1 rfl
                    have b2 := hbx3.cell 2 rfl
                    have hn0 := ROwn.nil V2 V2.heap.size 23 3
                    obtain ⟨v1, W1, hr1, ho1, hg1, _⟩ := hn0.appends (S := 24) (zv := .agg #[.int .i64 0, .int .i64 0, .int .i64 0]) (by_ := 24) (a := ⟨gq, 0, none⟩) (m := j) (cp := cap) (ys := (XS.take j).map spL) 24 Try.underlying24 info_spot rfl (by omega) (by rw [List.length_map, List.length_take]; have := hln.out; omega) (fun y hy => by
                        obtain ⟨q, _, rfl⟩ := List.mem_map.1 hy
                        exact ⟨rfl, spL_one q⟩) (fun m y hy i u hu => by
                        rw [List.getElem?_map, List.getElem?_take] at hy
                        split at hy
                        · exact hsrc _ hV0 m y (by rw [List.getElem?_map]; exact hy) i u hu
                        · cases hy) (by simp; omega) (by omega) (Nat.le_refl _)
                    rw [List.nil_append] at ho1
                    have hb1 := hn0.grew hV0 hg1 (Nat.le_refl _)
                    have hl1 : (XS.take j).length = j := by rw [List.length_take]; have := hln.out; omega
                    obtain ⟨bs1, cp1, rfl, _, hcm1, _⟩ := ho1.spots
                    rw [hl1] at hr1
                    unfold maxLen at hcm1
                    have d0 := (hbx3.below hb1 hbx3.lt).cell 0 rfl
                    have d1 := (hbx3.below hb1 hbx3.lt).cell 1 rfl
                    have d2 := (hbx3.below hb1 hbx3.lt).cell 2 rfl
                    have hA2 : Below W1.heap.size W1 (W1.alloc (.cells #[.int .i64 sx, .int .i64 sy, .int .i64 sz] 23)) := (Below.refl _ _).alloc (Nat.le_refl _) _
                    have ho1a := ho1.keep hA2
                    have hb1a := hb1.trans (hA2.mono hb1.size)
                    obtain ⟨v2, W2, hr2, ho2, hg2, _⟩ := ho1a.append (S := 24) 24 Try.underlying24 info_spot rfl (by omega) (Blk.new W1 #[.int .i64 sx, .int .i64 sy, .int .i64 sz] 23) rfl (spL_one (sx, sy, sz)) (by rw [List.length_map, hl1]; omega) (by omega) hb1a.size
                    have hb2 := ho1a.grew hb1a hg2 hb1a.size
                    obtain ⟨bs2, cp2, e2, _, hcm2, _⟩ := ho2.open
                    subst e2
                    have hl2 : ((XS.take j).map spL ++ [[Value.int .i64 sx, .int .i64 sy, .int .i64 sz]]).length = j + 1 := by rw [List.length_append, List.length_map, hl1]; rfl
                    rw [hl2] at hr2
                    unfold maxLen at hcm2
                    rw [hl1] at hr2
                    obtain ⟨v3, W3, hr3, ho3, hg3, _⟩ := ho2.appends (S := 24) (zv := .agg #[.int .i64 0, .int .i64 0, .int .i64 0]) (by_ := 24) (a := ⟨gq, j * 3, none⟩) (m := 0) (cp := cap - j) (ys := (XS.drop j).map spL) 24 Try.underlying24 info_spot rfl (by omega) (by rw [List.length_map, List.length_drop]; have := hln.out; omega) (fun y hy => by
                        obtain ⟨q, _, rfl⟩ := List.mem_map.1 hy
                        exact ⟨rfl, spL_one q⟩) (fun m y hy i u hu => by
                        rw [List.drop_eq_nil_of_le (by rw [hln.out]; exact Nat.le_refl _)] at hy
                        cases hy) (by rw [hl2]; omega) (by omega) hb2.size
                    have hb3 := ho2.grew hb2 hg3 hb2.size
                    rw [hl2] at hr3
                    have hfin : ROwn W3 W.heap.size 23 3 v3 ((SEL (k + 1)).map spL) := by
                      rw [hst.out]
                      have := ho3.base (B' := W.heap.size) (Nat.le_trans hbW.out.size B6.out.size)
                      unfold insS
                      rw [hpos.out, List.map_append, List.map_append]
                      exact this
                    have hbF := Lib.hid (hbW.out.trans ((B6.out.trans (hb3.mono B6.out.size)).mono hbW.out.size))
                    have hne : SEL (k + 1) ≠ [] := by rw [hst.out]; unfold insS; simp
                    replace hne := Lib.hid hne
                    replace hfin := Lib.hid hfin
                    clear ho3 hn0 hV0 hb1 ho1 hA2 ho1a hb1a ho2 hb2 hb3 hro3 hbx3 hl1 hl2 hg2 hg1 hg3 hsrc
                    go_wp2_with (at_builtin; first | refine wpList_run_append rfl (.tmp 53) (.tmp 56) 24 rfl rfl rfl hr1 ?_ | refine wpList_run_append rfl (.tmp 58) (.tmp 61) 24 rfl rfl rfl hr2 ?_ | refine wpList_run_append rfl (.tmp 63) (.tmp 66) 24 rfl rfl rfl hr3 ?_)
                    go_round
                    case rel => exact ⟨k + 1, by omega, by go_num, hfin.out, fun e => absurd e hne.out, hbF.out⟩
                    case measure => simp [intOf]; omega
                  · obtain rfl : j = cap := by omega
                    have hsrc : ∀ X, Below V2.heap.size V2 X → ∀ m y, (XS.map spL)[m]? = some y → ∀ i u, y[i]? = some u → X.cell? ((⟨gq, 0, none⟩ : Addr).add (m * 3 + i)) = some u := fun X hX m y hy i u hu => by
                      have := (hro3.keep hX)
                      obtain ⟨bq, cq, eq, _, _, hq⟩ := this.open
                      obtain ⟨g', e', _, hc'⟩ := hq (fun e => by rw [e] at hy; simp at hy)
                      injection eq with eq1 _ _
                      rw [← eq1] at e'
                      injection e' with e'
                      injection e' with e'
                      subst e'
                      have := hc' m y hy i u hu
                      rw [Addr.add_mid, Nat.zero_add]
                      exact this
                    have hV0 : Below V2.heap.size V2 V2 := Below.refl _ _
                    have hXl' := hXl.out
                    have b0 := hbx3.cell 0 rfl
                    have b1 := hbx3.cell 1 rfl
                    have b2 := hbx3.cell 2 rfl
                    have hn0 := ROwn.nil V2 V2.heap.size 23 3
                    obtain ⟨v1, W1, hr1, ho1, hg1, _⟩ := hn0.appends (S := 24) (zv := .agg #[.int .i64 0, .int .i64 0, .int .i64 0]) (by_ := 24) (a := ⟨gq, 0, none⟩) (m := j) (cp := j) (ys := (XS.take j).map spL) 24 Try.underlying24 info_spot rfl (by omega) (by rw [List.length_map, List.length_take]; have := hln.out; omega) (fun y hy => by
                        obtain ⟨q, _, rfl⟩ := List.mem_map.1 hy
                        exact ⟨rfl, spL_one q⟩) (fun m y hy i u hu => by
                        rw [List.getElem?_map, List.getElem?_take] at hy
                        split at hy
                        · exact hsrc _ hV0 m y (by rw [List.getElem?_map]; exact hy) i u hu
                        · cases hy) (by simp; omega) (by omega) (Nat.le_refl _)
                    rw [List.nil_append] at ho1
                    have hb1 := hn0.grew hV0 hg1 (Nat.le_refl _)
                    have hl1 : (XS.take j).length = j := by rw [List.length_take]; have := hln.out; omega
                    obtain ⟨bs1, cp1, rfl, _, hcm1, _⟩ := ho1.spots
                    rw [hl1] at hr1
                    unfold maxLen at hcm1
                    have d0 := (hbx3.below hb1 hbx3.lt).cell 0 rfl
                    have d1 := (hbx3.below hb1 hbx3.lt).cell 1 rfl
                    have d2 := (hbx3.below hb1 hbx3.lt).cell 2 rfl
                    have hA2 : Below W1.heap.size W1 (W1.alloc (.cells #[.int .i64 sx, .int .i64 sy, .int .i64 sz] 23)) := (Below.refl _ _).alloc (Nat.le_refl _) _
                    have ho1a := ho1.keep hA2
                    have hb1a := hb1.trans (hA2.mono hb1.size)
                    obtain ⟨v2, W2, hr2, ho2, hg2, _⟩ := ho1a.append (S := 24) 24 Try.underlying24 info_spot rfl (by omega) (Blk.new W1 #[.int .i64 sx, .int .i64 sy, .int .i64 sz] 23) rfl (spL_one (sx, sy, sz)) (by rw [List.length_map, hl1]; omega) (by omega) hb1a.size
                    have hb2 := ho1a.grew hb1a hg2 hb1a.size
                    obtain ⟨bs2, cp2, e2, _, hcm2, _⟩ := ho2.open
                    subst e2
                    have hl2 : ((XS.take j).map spL ++ [[Value.int .i64 sx, .int .i64 sy, .int .i64 sz]]).length = j + 1 := by rw [List.length_append, List.length_map, hl1]; rfl
                    rw [hl2] at hr2
                    unfold maxLen at hcm2
                    rw [hl1] at hr2
                    obtain ⟨v3, W3, hr3, ho3, hg3, _⟩ := ho2.appends (S := 24) (zv := .agg #[.int .i64 0, .int .i64 0, .int .i64 0]) (by_ := 24) (a := ⟨gq, 0, none⟩) (m := 0) (cp := 0) (ys := (XS.drop j).map spL) 24 Try.underlying24 info_spot rfl (by omega) (by rw [List.length_map, List.length_drop]; have := hln.out; omega) (fun y hy => by
                        obtain ⟨q, _, rfl⟩ := List.mem_map.1 hy
                        exact ⟨rfl, spL_one q⟩) (fun m y hy i u hu => by
                        rw [List.drop_eq_nil_of_le (by rw [hln.out]; exact Nat.le_refl _)] at hy
                        cases hy) (by rw [hl2]; omega) (by omega) hb2.size
                    have hb3 := ho2.grew hb2 hg3 hb2.size
                    rw [hl2] at hr3
                    have hfin : ROwn W3 W.heap.size 23 3 v3 ((SEL (k + 1)).map spL) := by
                      rw [hst.out]
                      have := ho3.base (B' := W.heap.size) (Nat.le_trans hbW.out.size B6.out.size)
                      unfold insS
                      rw [hpos.out, List.map_append, List.map_append]
                      exact this
                    have hbF := Lib.hid (hbW.out.trans ((B6.out.trans (hb3.mono B6.out.size)).mono hbW.out.size))
                    have hne : SEL (k + 1) ≠ [] := by rw [hst.out]; unfold insS; simp
                    replace hne := Lib.hid hne
                    replace hfin := Lib.hid hfin
                    clear ho3 hn0 hV0 hb1 ho1 hA2 ho1a hb1a ho2 hb2 hb3 hro3 hbx3 hl1 hl2 hg2 hg1 hg3 hsrc
                    go_wp2_with (at_builtin; first | refine wpList_run_append rfl (.tmp 53) (.tmp 56) 24 rfl rfl rfl hr1 ?_ | refine wpList_run_append rfl (.tmp 58) (.tmp 61) 24 rfl rfl rfl hr2 ?_ | refine wpList_run_append rfl (.tmp 63) (.tmp 66) 24 rfl rfl rfl hr3 ?_)
                    go_round
                    case rel => exact ⟨k + 1, by omega, by go_num, hfin.out, fun e => absurd e hne.out, hbF.out⟩
                    case measure => simp [intOf]; omega
    · obtain rfl : k = r.n := by omega
      replace hro := Lib.hid hro
      replace hb := Lib.hid hb
      clear hR hnil
      go_wp2_with fail
      go_ret
      exact ⟨_, rfl, hro.out, hb.out⟩
end
end Go.Proofs.Ytpdckjbknphelaa
