/-
  The reference's cache: Flush, Same, New.
-/
import Derived.Test.YtpdckjbknphelaaRfH
namespace Go.Proofs.Ytpdckjbknphelaa
open Go.RowKit
set_option linter.unusedSimpArgs false
set_option linter.unusedVariables false
theorem pD_true : pD true = fun x => x.dirty := rfl
theorem pD_false : pD false = fun _ => true := rfl
section
variable {W0 W W' : World} {Y0 : Nat → Prop} {r : Rb} {c : Cs}
theorem Rw.row {Y1 : Nat → Prop} {V : World} {c' : Cs} {B z : Nat} {E : TypeId} {v : Value} {xs : List (List Value)} (h : Rw W Y1 V r c') (k : ROwn W B E z v xs) (hn : ∀ g, v.ownBlock = some g → ¬ Y1 g) : ROwn V B E z v xs := by
  obtain ⟨kv, cv, k1, k2, k3⟩ := h
  exact k.block fun g hg => k2.block g (k.lt hg).2 (hn g hg)
theorem cleanS_wl {n : Nat} {c : Cs} {fail stop : Int} {i : Nat} {v : Int} (hw : Wl n c) : Wl n (cleanS fail stop c i v).2 := by
  have hh : ∀ g : Nat → Sl, (∀ j, (g j).full = (c.sl j).full ∧ (g j).sp = (c.sl j).sp) → ∀ s j, c.wh s = some j ↔ j < n ∧ (g j).full = true ∧ (g j).sp = s := fun g hg s j => by
    rw [(hg j).1, (hg j).2]; exact hw.wh s j
  have hu : ∀ j, (updS c.sl i { c.sl i with dirty := false } j).full = (c.sl j).full ∧ (updS c.sl i { c.sl i with dirty := false } j).sp = (c.sl j).sp := fun j => by
    unfold updS
    split
    · rename_i e; rw [e]; exact ⟨rfl, rfl⟩
    · exact ⟨rfl, rfl⟩
  unfold cleanS
  split
  · refine ⟨?_, hw.hand, hw.n1⟩
    show ∀ s j, c.wh s = some j ↔ j < n ∧ ((if badB fail stop c.calls.length = true then c.sl else updS c.sl i { c.sl i with dirty := false }) j).full = true ∧ ((if badB fail stop c.calls.length = true then c.sl else updS c.sl i { c.sl i with dirty := false }) j).sp = s
    split
    · exact hw.wh
    · exact hh _ hu
  · exact hw
/-- Others stay dirty. -/
theorem cleanS_dirt {c : Cs} {fail stop : Int} {i j : Nat} {v : Int} (hj : j ≠ i) : ((cleanS fail stop c i v).2.sl j) = c.sl j := by
  unfold cleanS
  split
  · show (if badB fail stop c.calls.length = true then c.sl else updS c.sl i { c.sl i with dirty := false }) j = c.sl j
    split
    · rfl
    · exact updS_other hj
  · rfl
set_option maxRecDepth 100000 in
set_option maxHeartbeats 8000000 in
theorem rflush_calls (W : World) (h : Rw W0 Y0 W r c) (hw : Wl r.n c) (hc : c.calls.length ≤ 90000) (hk : c.kept.length ≤ 90000) :
    Calls Try.prog 47 #[.pointer (some ⟨r.q, 0, none⟩)] W fun e w' => e = .returned (.int .i64 (flushS r.fail r.stop r.n c).1) ∧ Rw W0 Y0 w' r (flushS r.fail r.stop r.n c).2 := by
  have hsp := rspots_calls true W h
  rw [pD_true] at hsp
  have hnd := dirts_nodup hw
  have hmem := fun s => mem_dirts (n := r.n) (c := c) (s := s) hw
  have hlen : (dirts r.n c).length ≤ 64 := by rw [dirts_len]; exact Nat.le_trans (selN_len _ _ _) h.n64.2
  unfold flushS
  change Calls _ _ _ _ fun e w' => ∃ v, e = .returned v ∧ ROwn w' W.heap.size 23 3 v ((dirts r.n c).map spL) ∧ Below W.heap.size W w' at hsp
  obtain ⟨A, hA⟩ : ∃ A, dirts r.n c = A := ⟨_, rfl⟩
  rw [hA] at hsp hnd hmem hlen ⊢
  obtain ⟨F, hF⟩ : ∃ F, flushL r.fail r.stop A c = F := ⟨_, rfl⟩
  rw [hF]
  obtain ⟨N, hN⟩ : ∃ N, A.length = N := ⟨_, rfl⟩
  have h0 := Lib.hid h
  have hstart : ∀ m s, 0 ≤ m → A[m]? = some s → ∃ i, c.wh s = some i ∧ (c.sl i).full = true ∧ (c.sl i).dirty = true := fun m s _ hs => by
    obtain ⟨i, h1, h2, h3, h4, h5⟩ := hmem s (List.mem_of_getElem? hs)
    exact ⟨i, h1, h3, h4⟩
  have hinj : ∀ m m' s, A[m]? = some s → A[m']? = some s → m = m' := fun m m' s h1 h2 => by
    obtain ⟨l1, e1⟩ := List.getElem?_eq_some_iff.1 h1
    obtain ⟨l2, e2⟩ := List.getElem?_eq_some_iff.1 h2
    exact (List.getElem_inj hnd).1 (e1.trans e2.symm)
  replace hA := Lib.hid hA
  replace hsp := Lib.hid hsp
  replace hF := Lib.hid hF
  replace hstart := Lib.hid hstart
  replace hinj := Lib.hid hinj
  replace hN := Lib.hid hN
  clear h hmem hnd
  go_enter Try.func47, Try.ntmps47
  go_wp2_with fail
  refine hsp.out.mono ?_
  rintro e V ⟨v, rfl, hro, hb⟩
  have hRV := Lib.hid (h0.out.keep hb)
  obtain ⟨base, cap, rfl, hcl, hcm, _⟩ := hro.spots
  rw [hN.out] at hcl
  unfold maxLen at hcm
  obtain ⟨B0, hB0⟩ : ∃ B0, W.heap.size = B0 := ⟨_, rfl⟩
  rw [hB0, hN.out] at hro
  rw [hN.out] at hlen ⊢
  replace hro := Lib.hid hro
  clear hsp hb h0 hB0
  go_wp2_with fail
  go_loopw [4] (fun i X => ∃ (j : Nat) (c' : Cs), j ≤ N ∧ i = .int .i64 j ∧ Rw W0 Y0 X r c' ∧ Wl r.n c' ∧ c'.wh = c.wh ∧ flushL r.fail r.stop (A.drop j) c' = F ∧ c'.calls.length ≤ 90000 + j ∧ c'.kept.length ≤ 90000 + j ∧ (∀ m s, j ≤ m → A[m]? = some s → ∃ i, c.wh s = some i ∧ (c'.sl i).full = true ∧ (c'.sl i).dirty = true) ∧ ROwn X B0 23 3 (.slice base N cap) (A.map spL)) (fun i _ => N + 1 - (intOf i).toNat)
  case atStart => exact ⟨0, c, by omega, rfl, hRV.out, hw, rfl, by rw [List.drop_zero]; exact hF.out, by omega, by omega, hstart.out, hro.out⟩
  case round =>
    obtain ⟨j, c', hj, rfl, hR, hw', hwh, hfl, hcl', hkl', hd, hrow⟩ := hrel
    clear hRV hro
    by_cases hlt : j < N
    · have hjz : (j : Int) < (N : Int) := by omega
      obtain ⟨s, hs⟩ : ∃ s, A[j]? = some s := ⟨_, List.getElem?_eq_getElem (by rw [hN.out]; exact hlt)⟩
      obtain ⟨i, hi, hfu, hdi⟩ := hd j s (Nat.le_refl _) hs
      have hi' : c'.wh s = some i := by rw [hwh]; exact hi
      have hin := ((hw'.wh _ _).1 hi').1
      have hdrop : A.drop j = s :: A.drop (j + 1) := by
        obtain ⟨l1, e1⟩ := List.getElem?_eq_some_iff.1 hs
        rw [List.drop_eq_getElem_cons l1, e1]
      rw [hdrop, flushL_cons hi'] at hfl
      obtain ⟨b2, c2, e2, _, _, hcell⟩ := hrow.spots
      obtain ⟨g, rfl, _, hc⟩ : ∃ g, base = some ⟨g, 0, none⟩ ∧ g < wr.heap.size ∧ ∀ j s, A[j]? = some s → wr.cell? ⟨g, j * 3, none⟩ = some (.int .i64 s.1) ∧ wr.cell? ⟨g, j * 3 + 1, none⟩ = some (.int .i64 s.2.1) ∧ wr.cell? ⟨g, j * 3 + 2, none⟩ = some (.int .i64 s.2.2) := by
        injection e2 with e2 _ _
        rw [e2]
        exact hcell (fun e => by rw [e] at hs; simp at hs)
      obtain ⟨c0, c1, c2'⟩ := hc j s hs
      have hat := rat_calls s wr hR hw'
      rw [hi'] at hat
      unfold atI at hat
      have hothers : ∀ m u, j + 1 ≤ m → A[m]? = some u → ∃ k, c.wh u = some k ∧ ((cleanS r.fail r.stop c' i (vOf c' i)).2.sl k).full = true ∧ ((cleanS r.fail r.stop c' i (vOf c' i)).2.sl k).dirty = true := fun m u hm hu => by
        obtain ⟨k, h1, h2, h3⟩ := hd m u (by omega) hu
        have hne : k ≠ i := fun e => by
          rw [e, ← hwh] at h1
          have k1 := ((hw'.wh _ _).1 h1).2.2
          have k2 := ((hw'.wh _ _).1 hi').2.2
          have : u = s := k1.symm.trans k2
          rw [this] at hu
          have := hinj.out _ _ _ hu hs
          omega
        exact ⟨k, h1, by rw [cleanS_dirt hne]; exact h2, by rw [cleanS_dirt hne]; exact h3⟩
      obtain ⟨sx, sy, sz⟩ := s
      unfold spV at hat
      simp only at c0 c1 c2'
      replace hat := Lib.hid hat
      replace hfl := Lib.hid hfl
      replace hrow := Lib.hid hrow
      replace hothers := Lib.hid hothers
      replace hs := Lib.hid hs
      clear hcell hc hd hdrop hstart e2
      go_wp2_with fail
      refine hat.out.mono ?_
      rintro e X1 ⟨rfl, hb⟩
      have hR1 := hR.keep hb
      have hrow1 := hrow.out.keep hb
      obtain ⟨Y1, hY1, hback, hoth⟩ := hR1.rebase
      have hng : ∀ g', (Value.slice (some ⟨g, 0, none⟩) N cap).ownBlock = some g' → ¬ Y1 g' := fun g' hg => by
        obtain ⟨cs, kb⟩ := hrow1.blk hg
        exact hoth _ _ _ kb ⟨by decide, by decide, by decide, by decide⟩
      have hsv := rsave_calls i X1 hY1 hin hfu hdi (by omega) (by omega)
      have hwl := cleanS_wl (fail := r.fail) (stop := r.stop) (i := i) (v := vOf c' i) hw'
      have hwh2 := cleanS_wh r.fail r.stop c' i (vOf c' i)
      have hln := cleanS_len r.fail r.stop c' i (vOf c' i)
      have hce := cleanS_e r.fail r.stop c' i (vOf c' i)
      have hfl2 := hfl.out
      have hot2 := hothers.out
      obtain ⟨P, hP⟩ : ∃ P, cleanS r.fail r.stop c' i (vOf c' i) = P := ⟨_, rfl⟩
      rw [hP] at hsv hwl hwh2 hln hce hfl2 hot2
      obtain ⟨pe, pc⟩ := P
      simp only at hsv hwl hwh2 hln hce hfl2 hot2
      replace hsv := Lib.hid hsv
      replace hrow1 := Lib.hid hrow1
      replace hwh2 := Lib.hid hwh2
      replace hi' := Lib.hid hi'
      replace hwh := Lib.hid hwh
      replace hot2 := Lib.hid hot2
      clear hat hb hR hR1 hY1 hoth hrow hothers hP c0 c1 c2' hfl hi hfu hdi
      rcases hce with he | he
      · subst he
        rw [if_pos rfl] at hfl2
        replace hfl2 := Lib.hid hfl2
        go_wp2_with fail
        refine hsv.out.mono ?_
        rintro e X2 ⟨rfl, hR2⟩
        have hrow2 := Lib.hid (hR2.row hrow1.out hng)
        have hR3 := Lib.hid (hback _ _ hR2)
        clear hsv hR2 hrow1 hng hback
        go_wp2_with fail
        go_round
        case rel => exact ⟨j + 1, pc, by omega, by go_num, hR3.out, hwl, by rw [hwh2.out]; exact hwh.out, hfl2.out, by omega, by omega, hot2.out, hrow2.out⟩
        case measure => simp [intOf]; omega
      · subst he
        rw [if_neg (by decide)] at hfl2
        subst hfl2
        go_wp2_with fail
        refine hsv.out.mono ?_
        rintro e X2 ⟨rfl, hR2⟩
        have hR3 := Lib.hid (hback _ _ hR2)
        clear hsv hR2 hrow1 hng hback
        go_wp2_with fail
        go_ret
        exact ⟨rfl, hR3.out⟩
    · obtain rfl : j = N := by omega
      rw [List.drop_eq_nil_of_le (by rw [hN.out]; exact Nat.le_refl _)] at hfl
      have hfl2 : (0, c') = F := hfl
      subst hfl2
      replace hR := Lib.hid hR
      clear hfl hrow hd
      go_wp2_with fail
      go_ret
      exact ⟨rfl, hR.out⟩
end
set_option maxRecDepth 100000 in
set_option maxHeartbeats 4000000 in
theorem rsame_calls (x y : Value) (l : List Sp) (W : World) (h1 : SRow W 3 x (l.map spL)) (h2 : SRow W 3 y (l.map spL)) :
    Calls Try.prog 28 #[x, y] W fun e w' => e = .returned (.bool true) ∧ Below W.heap.size W w' := by
  obtain ⟨b1, c1, rfl, hm1, hr1⟩ := h1.sp
  obtain ⟨b2, c2, rfl, hm2, hr2⟩ := h2.sp
  unfold maxLen at hm1 hm2
  obtain ⟨n, hn⟩ : ∃ n, l.length = n := ⟨_, rfl⟩
  have hnm : n ≤ 9223372036854775807 := by
    have := h1.len
    rw [List.length_map] at this
    unfold maxLen at this
    omega
  rw [hn]
  replace hn := Lib.hid hn
  replace hr1 := Lib.hid hr1
  replace hr2 := Lib.hid hr2
  clear h1 h2
  go_enter Try.func28, Try.ntmps28
  go_wp2_with fail
  go_loopw [5] (fun i X => ∃ j : Nat, j ≤ n ∧ i = .int .i64 j ∧ Below W.heap.size W X) (fun i _ => n + 1 - (intOf i).toNat)
  case atStart => exact ⟨0, by omega, rfl, Below.refl _ _⟩
  case round =>
    obtain ⟨j, hj, rfl, hb⟩ := hrel
    by_cases hlt : j < n
    · have hjz : (j : Int) < (n : Int) := by omega
      obtain ⟨s, hs⟩ : ∃ s, l[j]? = some s := ⟨_, List.getElem?_eq_getElem (by rw [hn.out]; exact hlt)⟩
      have hne : l ≠ [] := fun e => by rw [e] at hs; simp at hs
      obtain ⟨g1, o1, rfl, k1⟩ := hr1.out hne
      obtain ⟨g2, o2, rfl, k2⟩ := hr2.out hne
      obtain ⟨a0, a1, a2⟩ := k1 j s hs
      obtain ⟨d0, d1, d2⟩ := k2 j s hs
      obtain ⟨sx, sy, sz⟩ := s
      simp only at a0 a1 a2 d0 d1 d2
      have a0' := (hb.cell (World.block_lt_of_cell? _ _ a0)).trans a0
      have a1' := (hb.cell (World.block_lt_of_cell? _ _ a1)).trans a1
      have a2' := (hb.cell (World.block_lt_of_cell? _ _ a2)).trans a2
      have d0' := (hb.cell (World.block_lt_of_cell? _ _ d0)).trans d0
      have d1' := (hb.cell (World.block_lt_of_cell? _ _ d1)).trans d1
      have d2' := (hb.cell (World.block_lt_of_cell? _ _ d2)).trans d2
      replace hs := Lib.hid hs
      replace hb := Lib.hid hb
      clear a0 a1 a2 d0 d1 d2 k1 k2 hne
      go_wp2_with fail
      go_quiet (fail)
      have hbE := Lib.hid (hb.out.trans ((below_drewN (Below.refl wr.heap.size wr) nq).mono hb.out.size))
      generalize wr.drewN nq = V at *
      clear a0' a1' a2' d0' d1' d2'
      go_wp2_with fail
      go_round
      case rel => exact ⟨j + 1, by omega, by go_num, hbE.out⟩
      case measure => simp [intOf]; omega
    · obtain rfl : j = n := by omega
      replace hb := Lib.hid hb
      go_wp2_with fail
      go_ret
      exact ⟨rfl, hb.out⟩
end Go.Proofs.Ytpdckjbknphelaa
