/-
  The walk of ChunkCopies: true for every list of edits and of ticks.
-/
import Derived.Test.YtmpnpanlabkkdaaChunkLS
import Derived.Test.YtmpnpanlabkkdaaChunkZ
import Derived.Deep.Cut
import Derived.Deep.DeepCutAuto
namespace Go.Proofs.Ytmpnpanlabkkdaa
open Go.RowKit
set_option linter.unusedSimpArgs false
set_option linter.unusedVariables false

/-- The due of a tick of an owned row may be set. -/
theorem TOwn.due {w : World} {B : Nat} {v : Value} {ts : List Tk} (h : TOwn w B v ts) {k : Nat} (hk : k < ts.length) (x : Int) :
    ∃ g cap, v = .slice (some ⟨g, 0, none⟩) ts.length cap ∧ B ≤ g ∧ g < w.heap.size ∧ w.frozen? ⟨g, k * 2 + 1, none⟩ = false ∧ (∃ u, w.cell? ⟨g, k * 2 + 1, none⟩ = some u) ∧
      ∃ us : List Tk, us.length = ts.length ∧ TOwn (w.setCell ⟨g, k * 2 + 1, none⟩ (.int .i64 x)) B v us := by
  obtain ⟨t, ht⟩ : ∃ t, ts[k]? = some t := ⟨_, List.getElem?_eq_getElem hk⟩
  rcases h.2 with ⟨rfl, h0⟩ | ⟨g, cap, cur, rfl, hb, hg, hnc, hcm, hcs, htake⟩
  · omega
  · have hB : Blk w g cur.toList 62 := hg
    have hcl : cur.toList.length = cap * 2 := by rw [Array.length_toList]; exact hcs
    refine ⟨g, cap, rfl, hb, hB.lt, hB.frozen _, ⟨_, hB.cell (k * 2 + 1) (List.getElem?_eq_getElem (by omega))⟩, ts.set k (t.1, x), by rw [List.length_set], ?_⟩
    refine ⟨by rw [cellsT_len], .inr ⟨g, cap, _, by rw [List.length_set], hb, hB.set (k * 2 + 1) (.int .i64 x), by rw [List.length_set]; exact hnc, hcm, by rw [List.size_toArray, List.length_set]; exact hcl, ?_⟩⟩
    rw [List.toList_toArray, List.length_set, List.take_set, htake, cellsT_set ht x]

set_option maxRecDepth 100000 in
set_option maxHeartbeats 8000000 in
theorem copies_walk (s : Value) (es : List Ed) (st : Value) (ts : List Tk) (w : World) (he : ERow w s es) (ht : TRow w st ts) :
    Calls Try.prog 7 #[s, st] w fun e w' => e = .returned (.bool true) ∧ Below w.heap.size w w' := by
  have haw := fun W => awake_calls W
  replace haw := Lib.hid haw
  obtain ⟨bs, cs, hs, _⟩ := he.open
  obtain ⟨bt, ct, hst, _⟩ := ht.open
  by_cases hn : 300 < es.length
  · subst hs hst
    clear he ht
    go_enter Try.func7, Try.ntmps7
    go_wp2_with fail
    refine (haw.out _).mono ?_
    rintro e w1 ⟨rfl, hb⟩
    replace hb := Lib.hid hb
    go_wp2_with fail
    go_ret
    exact ⟨rfl, hb.out⟩
  have hn' : decide (300 < es.length) = false := by simp; omega
  by_cases hn : 300 < ts.length
  · subst hs hst
    clear he ht
    go_enter Try.func7, Try.ntmps7
    go_wp2_with fail
    refine (haw.out _).mono ?_
    rintro e w1 ⟨rfl, hb⟩
    replace hb := Lib.hid hb
    go_wp2_with fail
    go_ret
    exact ⟨rfl, hb.out⟩
  have hn' : decide (300 < ts.length) = false := by simp; omega
  have hlen : ts.length ≤ 300 := by omega
  have c1 := ofe_calls s st es ts w he ht (by omega)
  replace c1 := Lib.hid c1
  replace he := Lib.hid he
  replace ht := Lib.hid ht
  subst hs hst
  go_enter Try.func7, Try.ntmps7
  go_wp2_with fail
  refine c1.out.mono ?_
  rintro e W2 ⟨rfl, B1, z1, sa, ka, oa⟩
  have he1 := he.out.keep B1
  have ht1 := ht.out.keep B1
  have ra := oa.row
  clear c1 oa he ht
  have c3 := copy_calls w.heap.size (edCe es) (edLi es) sa ts W2 ka ra (by omega)
  replace c3 := Lib.hid c3
  replace B1 := Lib.hid B1
  replace ka := Lib.hid ka
  replace ra := Lib.hid ra
  replace he1 := Lib.hid he1
  replace ht1 := Lib.hid ht1
  go_wp2_with fail
  refine c3.out.mono ?_
  rintro e W3 ⟨rfl, B3, z3, sc, kc, oc⟩
  clear c3
  obtain ⟨bc, cc, rfl, _, hcc, _⟩ := oc.row.open
  unfold maxLen at hcc
  go_wp2_with fail
  go_loopw [7] (fun v W => ∃ (k : Nat) (us : List Tk), k ≤ ts.length ∧ us.length = ts.length ∧ v = .int .i64 k ∧ Below W2.heap.size W2 W ∧ Ck W W2.heap.size (edCe es) (edLi es) (.slice bc ts.length cc) ∧ TOwn W (W2.heap.size + 1) (.slice bc ts.length cc) us) (fun v _ => ts.length - (intOf v).toNat)
  case atStart => exact ⟨0, ts, by omega, rfl, rfl, B3, kc, oc⟩
  case round =>
    obtain ⟨k, us, hk, hus, rfl, BW, kW, oW⟩ := hrel
    clear B3 kc oc
    have ct := kW.tk
    have hclt := kW.lt
    by_cases hlt : k < ts.length
    · obtain ⟨g, cap, hv, hBg, hgl, hfz, ⟨u, hu⟩, us', hus', o'⟩ := oW.due (k := k) (by omega) (-9)
      obtain ⟨rfl, hcap⟩ : bc = some ⟨g, 0, none⟩ ∧ cap = cc := by injection hv with h1 h2 h3; exact ⟨h1, h3.symm⟩
      subst hcap
      have k' := kW.set_other (a := ⟨g, k * 2 + 1, none⟩) (.int .i64 (-9)) (show W2.heap.size ≠ g by omega)
      have B' := BW.setCell (p := ⟨g, k * 2 + 1, none⟩) (show W2.heap.size ≤ g by omega) (.int .i64 (-9))
      replace hus := Lib.hid (hus'.trans hus)
      replace o' := Lib.hid o'
      replace k' := Lib.hid k'
      replace B' := Lib.hid B'
      clear hus' hv kW BW oW
      go_wp2_with fail
      go_roundw
      case rel => exact ⟨k + 1, us', by omega, hus.out, by go_num, B'.out, k'.out, o'.out⟩
      case measure => simp [intOf]; omega
    · have hk : k = ts.length := by omega
      subst hk
      have hS1 : Ck ((wr.setCell ⟨W2.heap.size, 0, none⟩ (.int .u8 99)).setCell ⟨W2.heap.size, 1, none⟩ (.int .u8 0)) W2.heap.size (updP (edCe es) 0 (99, 0)) (edLi es) (.slice bc ts.length cc) := kW.setCell (i := 0) (by omega) 99 0
      have f0 := kW.frozen 0
      have f1 := kW.frozen 1
      have f2 := kW.frozen 16382
      have f3 := kW.frozen 16383
      have c0 := kW.c0 (i := 0) (by omega)
      have c1 := kW.c1 (i := 0) (by omega)
      have c2 := kW.l0 (i := 4095) (by omega)
      have c3 := kW.l1 (i := 4095) (by omega)
      have hS2 : Ck ((((wr.setCell ⟨W2.heap.size, 0, none⟩ (.int .u8 99)).setCell ⟨W2.heap.size, 1, none⟩ (.int .u8 0)).setCell ⟨W2.heap.size, 16382, none⟩ (.int .u8 99)).setCell ⟨W2.heap.size, 16383, none⟩ (.int .u8 0)) W2.heap.size (updP (edCe es) 0 (99, 0)) (updP (edLi es) 4095 (99, 0)) (.slice bc ts.length cc) := hS1.setLight (i := 4095) (by omega) 99 0
      have hB2 : Below W2.heap.size W2 ((((wr.setCell ⟨W2.heap.size, 0, none⟩ (.int .u8 99)).setCell ⟨W2.heap.size, 1, none⟩ (.int .u8 0)).setCell ⟨W2.heap.size, 16382, none⟩ (.int .u8 99)).setCell ⟨W2.heap.size, 16383, none⟩ (.int .u8 0)) := (((BW.setCell (p := ⟨_, _, none⟩) (Nat.le_refl _) _).setCell (p := ⟨_, _, none⟩) (Nat.le_refl _) _).setCell (p := ⟨_, _, none⟩) (Nat.le_refl _) _).setCell (p := ⟨_, _, none⟩) (Nat.le_refl _) _
      have hO2 : TOwn ((((wr.setCell ⟨W2.heap.size, 0, none⟩ (.int .u8 99)).setCell ⟨W2.heap.size, 1, none⟩ (.int .u8 0)).setCell ⟨W2.heap.size, 16382, none⟩ (.int .u8 99)).setCell ⟨W2.heap.size, 16383, none⟩ (.int .u8 0)) (W2.heap.size + 1) (.slice bc ts.length cc) us := (((oW.setBelow (a := ⟨W2.heap.size, _, none⟩) (Nat.lt_succ_self _) _).setBelow (a := ⟨W2.heap.size, _, none⟩) (Nat.lt_succ_self _) _).setBelow (a := ⟨W2.heap.size, _, none⟩) (Nat.lt_succ_self _) _).setBelow (a := ⟨W2.heap.size, _, none⟩) (Nat.lt_succ_self _) _
      clear kW BW oW hS1 hlt
      replace hS2 := Lib.hid hS2
      replace hB2 := Lib.hid hB2
      replace hO2 := Lib.hid hO2
      replace hus := Lib.hid hus
      go_upto_region 13 with fail
      clear f0 f1 f2 f3 c0 c1 c2 c3 ct hclt
      generalize (((wr.setCell ⟨W2.heap.size, 0, none⟩ (.int .u8 99)).setCell ⟨W2.heap.size, 1, none⟩ (.int .u8 0)).setCell ⟨W2.heap.size, 16382, none⟩ (.int .u8 99)).setCell ⟨W2.heap.size, 16383, none⟩ (.int .u8 0) = W4 at *
      have he4 := he1.out.keep hB2.out
      have ht4 := ht1.out.keep hB2.out
      have ka4 := ka.out.keep hB2.out
      have ra4 := ra.out.keep hB2.out
      have hz4 := hB2.out.size
      have he2 := he1
      have ht2 := ht1
      clear he1 ht1
      go_cut [98] (fun v W => v = .bool false ∧ Below W4.heap.size W4 W)
      case first =>
        have d1 := ofe_calls _ _ es ts W4 he4 ht4 (by omega)
        replace d1 := Lib.hid d1
        go_wp2_with fail
        refine d1.out.mono ?_
        rintro e W5 ⟨rfl, hb5, z5, sd, kd, od⟩
        have d2 := same_b _ _ _ _ _ _ _ _ _ _ _ (ka4.keep hb5) kd (ra4.keep hb5) od.row
        rw [sameB_refl] at d2
        clear d1 kd od
        replace d2 := Lib.hid d2
        replace hb5 := Lib.hid hb5
        go_wp2_with fail
        refine d2.out.mono ?_
        rintro e W6 ⟨rfl, hb6⟩
        have B6 := hb5.out.trans (hb6.mono hb5.out.size)
        have d3 := same_b _ _ _ _ _ _ _ _ _ _ _ (ka4.keep B6) (hS2.out.keep B6) (ra4.keep B6) (hO2.out.row.keep B6)
        generalize hR : sameB (edCe es) (updP (edCe es) 0 (99, 0)) (edLi es) (updP (edLi es) 4095 (99, 0)) ts us = R at d3
        clear d2 hb5 hb6
        replace d3 := Lib.hid d3
        replace B6 := Lib.hid B6
        replace hR := Lib.hid hR
        go_wp2_with fail
        refine d3.out.mono ?_
        rintro e W7 ⟨rfl, hb7⟩
        have B7 := B6.out.trans (hb7.mono B6.out.size)
        have kf := ka4.keep B7
        have c0 : W7.cell? ⟨w.heap.size, 0, none⟩ = some (.int .u8 (edCe es 0).1) := kf.c0 (i := 0) (by omega)
        have c1 : W7.cell? ⟨w.heap.size, 1, none⟩ = some (.int .u8 (edCe es 0).2) := kf.c1 (i := 0) (by omega)
        have c2 : W7.cell? ⟨w.heap.size, 16382, none⟩ = some (.int .u8 (edLi es 4095).1) := kf.l0 (i := 4095) (by omega)
        have c3 : W7.cell? ⟨w.heap.size, 16383, none⟩ = some (.int .u8 (edLi es 4095).2) := kf.l1 (i := 4095) (by omega)
        clear d3 B6 hb7 kf
        replace B7 := Lib.hid B7
        by_cases hl : ts.length = 0
        · have hm : ((ts.length : Int) == 0) = true := beq_iff_eq.2 (by omega)
          have hts : ts = us := by rw [List.eq_nil_of_length_eq_zero hl, List.eq_nil_of_length_eq_zero (hus.out.trans hl)]
          replace hts := Lib.hid hts
          replace hl := Lib.hid hl
          have hF : ∀ i, i < 4096 → ¬ (edCe es i = updP (edCe es) 0 (99, 0) i ∧ edLi es i = updP (edLi es) 4095 (99, 0) i) → R = false := fun i hi h => by rw [← hR.out]; exact sameB_no hi h
          replace hF := Lib.hid hF
          by_cases q1 : (edCe es 0).1 = 99
          · by_cases q2 : (edCe es 0).2 = 0
            · by_cases q3 : (edLi es 4095).1 = 99
              · by_cases q4 : (edLi es 4095).2 = 0
                · have hT : R = true := by
                    rw [← hR.out, sameB_iff]
                    refine ⟨fun i _ => ⟨?_, ?_⟩, hts.out⟩
                    · unfold updP; split
                      · subst_vars; exact Prod.ext q1 q2
                      · rfl
                    · unfold updP; split
                      · subst_vars; exact Prod.ext q3 q4
                      · rfl
                  subst hT
                  rw [q1] at c0
                  rw [q2] at c1
                  rw [q3] at c2
                  rw [q4] at c3
                  clear q1 q2 q3 q4
                  go_wp2_with fail
                  go_meet
                  exact ⟨rfl, B7.out⟩
                · have hT : R = false := hF.out 4095 (by omega) fun h => q4 (by rw [h.2, updP_same])
                  subst hT
                  rw [q1] at c0
                  rw [q2] at c1
                  rw [q3] at c2
                  have q5 : ((edLi es 4095).2 == 0) = false := by simpa using q4
                  clear q1 q2 q3
                  go_wp2_with fail
                  go_meet
                  exact ⟨rfl, B7.out⟩
              · have hT : R = false := hF.out 4095 (by omega) fun h => q3 (by rw [h.2, updP_same])
                subst hT
                rw [q1] at c0
                rw [q2] at c1
                have q5 : ((edLi es 4095).1 == 99) = false := by simpa using q3
                clear q1 q2
                go_wp2_with fail
                go_meet
                exact ⟨rfl, B7.out⟩
            · have hT : R = false := hF.out 0 (by omega) fun h => q2 (by rw [h.1, updP_same])
              subst hT
              rw [q1] at c0
              have q5 : ((edCe es 0).2 == 0) = false := by simpa using q2
              clear q1
              go_wp2_with fail
              go_meet
              exact ⟨rfl, B7.out⟩
          · have hT : R = false := hF.out 0 (by omega) fun h => q1 (by rw [h.1, updP_same])
            subst hT
            have q5 : ((edCe es 0).1 == 99) = false := by simpa using q1
            go_wp2_with fail
            go_meet
            exact ⟨rfl, B7.out⟩
        · have hm : ((ts.length : Int) == 0) = false := beq_eq_false_iff_ne.2 (by omega)
          have hm2 : ¬ (ts.length : Int) = 0 := by omega
          clear c2 c3
          cases R
          · go_wp2_with fail
            go_meet
            exact ⟨rfl, B7.out⟩
          · go_wp2_with fail
            go_meet
            exact ⟨rfl, B7.out⟩
      case rest =>
        obtain ⟨hv, hb⟩ := hcut
        subst hv
        have B8 := hB2.out.trans (hb.mono hz4)
        clear hb hS2 hO2 he4 ht4 ka4 ra4 hus
        have hrd := ready_calls _ _ _ _ ts 4611686018427387904 wc (ka.out.keep B8) (ra.out.keep B8) (by omega)
        replace hrd := Lib.hid hrd
        replace B8 := Lib.hid B8
        go_wp2_with fail
        refine hrd.out.mono ?_
        rintro e W8 ⟨v8, rs, rfl, o8, hb8, _, _⟩
        clear hrd
        obtain ⟨b8, c8, rfl, _, hc8, _⟩ := o8.row.open
        unfold maxLen at hc8
        have B9 := B8.out.trans (hb8.mono B8.out.size)
        have hw8 := hb8.size
        have hw2 := B8.out.size
        clear hb8 B8
        go_wp2_with fail
        go_loopw [9] (fun v W => ∃ (k : Nat) (us : List Tk), k ≤ rs.length ∧ us.length = rs.length ∧ v = .int .i64 k ∧ Below W2.heap.size W2 W ∧ TOwn W wc.heap.size (.slice b8 rs.length c8) us) (fun v _ => rs.length - (intOf v).toNat)
        case atStart => exact ⟨0, rs, by omega, rfl, rfl, B9, o8⟩
        case round =>
          obtain ⟨k, us, hk, hus, rfl, BW, oW⟩ := hrel
          clear B9 o8
          by_cases hlt : k < rs.length
          · obtain ⟨g, cap, hv, hBg, hgl, hfz, ⟨u, hu⟩, us', hus', o'⟩ := oW.due (k := k) (by omega) (-8)
            obtain ⟨rfl, hcap⟩ : b8 = some ⟨g, 0, none⟩ ∧ cap = c8 := by injection hv with h1 h2 h3; exact ⟨h1, h3.symm⟩
            subst hcap
            have B' := BW.setCell (p := ⟨g, k * 2 + 1, none⟩) (show W2.heap.size ≤ g by omega) (.int .i64 (-8))
            replace hus := Lib.hid (hus'.trans hus)
            replace o' := Lib.hid o'
            replace B' := Lib.hid B'
            clear hus' hv BW oW
            go_wp2_with fail
            go_roundw
            case rel => exact ⟨k + 1, us', by omega, hus.out, by go_num, B'.out, o'.out⟩
            case measure => simp [intOf]; omega
          · have hk : k = rs.length := by omega
            subst hk
            have d1 := ofe_calls _ _ es ts wr (he2.out.keep BW) (ht2.out.keep BW) (by omega)
            have kaW := ka.out.keep BW
            have raW := ra.out.keep BW
            have hBz := B1.out.trans (BW.mono B1.out.size)
            clear oW hus BW hlt
            replace d1 := Lib.hid d1
            replace kaW := Lib.hid kaW
            replace raW := Lib.hid raW
            replace hBz := Lib.hid hBz
            go_wp2_with fail
            refine d1.out.mono ?_
            rintro e W5 ⟨rfl, hb5, z5, sd, kd, od⟩
            have d2 := same_b _ _ _ _ _ _ _ _ _ _ _ (kaW.out.keep hb5) kd (raW.out.keep hb5) od.row
            rw [sameB_refl] at d2
            have B5 := hBz.out.trans (hb5.mono hBz.out.size)
            clear d1 kd od hb5 kaW raW
            replace d2 := Lib.hid d2
            replace B5 := Lib.hid B5
            go_wp2_with fail
            refine d2.out.mono ?_
            rintro e W6 ⟨rfl, hb6⟩
            have B6 := B5.out.trans (hb6.mono B5.out.size)
            clear d2 hb6 B5
            replace B6 := Lib.hid B6
            go_wp2_with fail
            refine (haw.out _).mono ?_
            rintro e W9 ⟨rfl, hb9⟩
            have B7 := B6.out.trans (hb9.mono B6.out.size)
            clear hb9 B6
            replace B7 := Lib.hid B7
            go_wp2_with fail
            go_ret
            exact ⟨rfl, B7.out⟩
end Go.Proofs.Ytmpnpanlabkkdaa
