/-
  The reference's cache: which spots there are, their order; what fails, what was kept, where a spot is.
-/
import Derived.Test.YtpdckjbknphelaaRfA
namespace Go.Proofs.Ytpdckjbknphelaa
open Go.RowKit
set_option linter.unusedSimpArgs false
set_option linter.unusedVariables false

set_option maxHeartbeats 400000 in
theorem within_calls (n f t : Int) (w : World) :
    Calls Try.prog 67 #[.int .i64 n, .int .i64 f, .int .i64 t] w fun e w' => e = .returned (.bool (decide (f ≤ n ∧ n < t))) ∧ w' = w := by
  go_enter Try.func67, Try.ntmps67
  go_wp2
  all_goals go_ret
  all_goals exact ⟨ret_bool (by rw [Bool.eq_iff_iff]; simp; omega), rfl⟩
set_option maxHeartbeats 400000 in
theorem rmayspot_calls (x y z : Int) (w : World) :
    Calls Try.prog 57 #[.agg #[.int .i64 x, .int .i64 y, .int .i64 z]] w fun e w' => e = .returned (.bool (mayS x y z)) ∧ Below w.heap.size w w' := by
  go_enter Try.func57, Try.ntmps57
  go_wp2
  all_goals go_ret
  all_goals exact ⟨ret_bool (by rw [Bool.eq_iff_iff]; simp [mayS]; omega), (Below.refl _ _).alloc (Nat.le_refl _) _⟩
set_option maxHeartbeats 1000000 in
theorem rcmp_calls (x y z a b c : Int) (w : World) :
    Calls Try.prog 62 #[.agg #[.int .i64 x, .int .i64 y, .int .i64 z], .agg #[.int .i64 a, .int .i64 b, .int .i64 c]] w fun e w' => e = .returned (.int .i64 (cmpP x y z a b c)) ∧ Below w.heap.size w w' := by
  go_enter Try.func62, Try.ntmps62
  go_wp2
  all_goals go_ret
  all_goals exact ⟨ret_int (by (try simp only [bne_iff_ne, bne_eq_false_iff_eq, ne_eq] at *); unfold cmpP orI cmpI; (repeat' split) <;> omega), ((Below.refl _ _).alloc (Nat.le_refl _) _).alloc (by simp) _⟩
set_option maxHeartbeats 1000000 in
theorem rcmpspot_calls (x y z a b c : Int) (w : World) :
    Calls Try.prog 49 #[.agg #[.int .i64 x, .int .i64 y, .int .i64 z], .agg #[.int .i64 a, .int .i64 b, .int .i64 c]] w fun e w' => e = .returned (.int .i64 (cmpP x y z a b c)) ∧ Below w.heap.size w w' := by
  go_enter Try.func49, Try.ntmps49
  go_wp2_with fail
  refine (rcmp_calls _ _ _ _ _ _ _).mono ?_
  rintro e w1 ⟨rfl, hb⟩
  have HB := Lib.hid (below_step (((Below.refl w.heap.size w).alloc (by first | exact Nat.le_refl _ | (simp; done) | (simp; omega) | omega) _).alloc (by first | exact Nat.le_refl _ | (simp; done) | (simp; omega) | omega) _) (by first | exact Nat.le_refl _ | (simp; done) | (simp; omega) | omega) hb)
  have b0 := ((Blk.new_at (w := w) (n := w.heap.size) #[.int .i64 x, .int .i64 y, .int .i64 z] 23 (by simp)).alloc (.cells #[.int .i64 a, .int .i64 b, .int .i64 c] 23)).below hb (by first | exact Nat.le_refl _ | (simp; done) | (simp; omega) | omega)
  have b1 := (Blk.new_at (w := (w.alloc (.cells #[.int .i64 x, .int .i64 y, .int .i64 z] 23))) (n := w.heap.size + 1) #[.int .i64 a, .int .i64 b, .int .i64 c] 23 (by simp)).below hb (by first | exact Nat.le_refl _ | (simp; done) | (simp; omega) | omega)
  clear hb
  go_wp2_with fail
  go_ret
  exact ⟨rfl, HB.out⟩
section
variable {W0 W W' : World} {Y0 : Nat → Prop} {r : Rb} {c : Cs}
set_option maxRecDepth 100000 in
set_option maxHeartbeats 4000000 in
theorem rfails_calls (W : World) (h : Rw W0 Y0 W r c) (hc : c.calls.length ≤ 100000) :
    Calls Try.prog 60 #[.pointer (some ⟨r.q, 0, none⟩)] W fun e w' => e = .returned (.bool (badB r.fail r.stop c.calls.length)) ∧ w' = W := by
  obtain ⟨base, cap, x1, h1, h2, h3⟩ := h.calls
  obtain ⟨_, _, x2, x3, _⟩ := h.qcells
  clear h3 h
  generalize r.fail = fail at *
  generalize r.stop = stop at *
  unfold maxLen at h2
  obtain ⟨n, hnn⟩ : ∃ n, c.calls.length = n := ⟨_, rfl⟩
  rw [hnn] at x1 h1 hc ⊢
  clear hnn
  by_cases q1 : 0 ≤ fail
  · by_cases q2 : fail ≤ n
    · by_cases q3 : (n : Int) < stop
      · rw [show badB fail stop n = true from decide_eq_true ⟨q1, q2, q3⟩]
        have p1 : decide (0 ≤ fail) = true := decide_eq_true q1
        have p2 : decide (fail ≤ (n : Int)) = true := decide_eq_true q2
        have p3 : decide ((n : Int) < stop) = true := decide_eq_true q3
        go_enter Try.func60, Try.ntmps60
        go_wp2_with fail
        go_ret
        exact ⟨rfl, rfl⟩
      · rw [show badB fail stop n = false from decide_eq_false fun h => q3 h.2.2]
        have p1 : decide (0 ≤ fail) = true := decide_eq_true q1
        have p2 : decide (fail ≤ (n : Int)) = true := decide_eq_true q2
        have p3 : decide ((n : Int) < stop) = false := decide_eq_false q3
        go_enter Try.func60, Try.ntmps60
        go_wp2_with fail
        go_ret
        exact ⟨rfl, rfl⟩
    · rw [show badB fail stop n = false from decide_eq_false fun h => q2 h.2.1]
      have p1 : decide (0 ≤ fail) = true := decide_eq_true q1
      have p2 : decide (fail ≤ (n : Int)) = false := decide_eq_false q2
      go_enter Try.func60, Try.ntmps60
      go_wp2_with fail
      go_ret
      exact ⟨rfl, rfl⟩
  · rw [show badB fail stop n = false from decide_eq_false fun h => q1 h.1]
    have p1 : decide (0 ≤ fail) = false := decide_eq_false q1
    go_enter Try.func60, Try.ntmps60
    go_wp2_with fail
    go_ret
    exact ⟨rfl, rfl⟩
set_option maxRecDepth 100000 in
set_option maxHeartbeats 8000000 in
theorem rvalue_calls (s : Sp) (W : World) (h : Rw W0 Y0 W r c) (hk : c.kept.length ≤ 100000) :
    Calls Try.prog 61 #[.pointer (some ⟨r.q, 0, none⟩), spV s] W fun e w' => e = .returned (.int .i64 (valK c.kept s)) ∧ Below W.heap.size W w' := by
  obtain ⟨sx, sy, sz⟩ := s
  have hA : Below W.heap.size W (W.alloc (.cells #[.int .i64 sx, .int .i64 sy, .int .i64 sz] 23)) := (Below.refl _ _).alloc (Nat.le_refl _) _
  have hs := Blk.new W #[.int .i64 sx, .int .i64 sy, .int .i64 sz] 23
  obtain ⟨sb, hsb⟩ : ∃ sb, W.heap.size = sb := ⟨_, rfl⟩
  have hrd := fun W' (hb : Below W.heap.size W W') => (h.keep hb).kept
  rw [hsb] at hs
  obtain ⟨W1, hW1⟩ : ∃ W1, W.alloc (.cells #[.int .i64 sx, .int .i64 sy, .int .i64 sz] 23) = W1 := ⟨_, rfl⟩
  rw [hW1] at hA hs
  obtain ⟨m, hm⟩ : ∃ m, c.kept.length = m := ⟨_, rfl⟩
  obtain ⟨base, cap, x2, hcap1, hcap, _⟩ := hrd W1 hA
  rw [hm] at x2 hcap1 hk
  unfold maxLen at hcap
  have hfull : valK (c.kept.take m) (sx, sy, sz) = valK c.kept (sx, sy, sz) := by rw [← hm, List.take_length]
  replace hrd := Lib.hid hrd
  replace hm := Lib.hid hm
  replace hA := Lib.hid hA
  replace hs := Lib.hid hs
  replace hfull := Lib.hid hfull
  clear h
  unfold spV
  go_enter Try.func61, Try.ntmps61
  go_wp2_with fail
  go_loopw [5] (fun i V => ∃ k : Nat, k ≤ m ∧ i = .int .i64 ((k : Int) - 1) ∧ valK (c.kept.take k) (sx, sy, sz) = valK c.kept (sx, sy, sz) ∧ Blk V sb [.int .i64 sx, .int .i64 sy, .int .i64 sz] 23 ∧ Below W.heap.size W V) (fun i _ => (intOf i + 1).toNat)
  case atStart => exact ⟨m, by omega, by go_num, hfull.out, hs.out, hA.out⟩
  case round =>
    obtain ⟨k, hkm, rfl, hv, hsp, hb⟩ := hrel
    clear x2
    obtain ⟨base, cap, x2, hcap1, hcap, hrow⟩ := hrd.out wr hb
    rw [hm.out] at x2 hcap1
    unfold maxLen at hcap
    by_cases hlt : 0 < k
    · have g1 : decide (0 ≤ (k : Int) - 1) = true := by simp; omega
      obtain ⟨p, hp⟩ : ∃ p, c.kept[k - 1]? = some p := ⟨_, List.getElem?_eq_getElem (by rw [hm.out]; omega)⟩
      have hstep := valK_step (s := (sx, sy, sz)) hp
      rw [show k - 1 + 1 = k by omega, hv] at hstep
      obtain ⟨g, rfl, hcell⟩ := hrow (fun e => by have := congrArg List.length e; rw [hm.out] at this; simp at this; omega)
      obtain ⟨d0, d1, d2, d3⟩ := hcell _ p hp
      obtain ⟨⟨px, py, pz⟩, pv⟩ := p
      simp only at hstep d0 d1 d2 d3
      obtain ⟨k', rfl⟩ : ∃ k', k = k' + 1 := ⟨k - 1, by omega⟩
      rw [show k' + 1 - 1 = k' by omega] at d0 d1 d2 d3
      rw [show ((k' + 1 : Nat) : Int) - 1 = (k' : Int) by omega] at *
      have hkz : (k' : Int) < (m : Int) := by omega
      have z0 := hsp.cell 0 rfl
      have z1 := hsp.cell 1 rfl
      have z2 := hsp.cell 2 rfl
      replace hsp := Lib.hid hsp
      replace hstep := Lib.hid hstep
      replace hb := Lib.hid hb
      replace hv := Lib.hid hv
      clear hrow hcell hp
      by_cases e : (px, py, pz) = (sx, sy, sz)
      · have hst := hstep.out
        rw [if_pos e] at hst
        injection e with e1 e
        injection e with e2 e3
        subst e1 e2 e3
        replace hst := Lib.hid hst
        clear hstep hv
        go_wp2_with fail
        go_quiet (fail)
        have hbb := below_drewN (Below.refl wr.heap.size wr) nq
        have hbE := Lib.hid (hb.out.trans (hbb.mono hb.out.size))
        have d0' := (hbb.cell (World.block_lt_of_cell? _ _ d0)).trans d0
        have d1' := (hbb.cell (World.block_lt_of_cell? _ _ d1)).trans d1
        have d2' := (hbb.cell (World.block_lt_of_cell? _ _ d2)).trans d2
        have d3' := (hbb.cell (World.block_lt_of_cell? _ _ d3)).trans d3
        have x2'' := (hbb.cell (World.block_lt_of_cell? _ _ x2)).trans x2
        clear d0 d1 d2 d3 x2 z0 z1 z2 hbb hsp hb
        generalize wr.drewN nq = V at *
        go_wp2_with fail
        go_ret
        exact ⟨ret_int hst.out.symm, hbE.out⟩
      · have hst := hstep.out
        rw [if_neg e] at hst
        replace hst := Lib.hid hst
        clear hstep hv
        have hne : px ≠ sx ∨ (px = sx ∧ py ≠ sy) ∨ (px = sx ∧ py = sy ∧ pz ≠ sz) := by
          by_cases e1 : px = sx
          · by_cases e2 : py = sy
            · exact .inr (.inr ⟨e1, e2, fun e3 => e (by rw [e1, e2, e3])⟩)
            · exact .inr (.inl ⟨e1, e2⟩)
          · exact .inl e1
        clear e
        rcases hne with e1 | ⟨rfl, e1⟩ | ⟨rfl, rfl, e1⟩
        all_goals
          have h0 := beq_eq_false_iff_ne.2 e1
          go_wp2_with fail
          go_quiet (fail)
          have hbb := below_drewN (Below.refl wr.heap.size wr) nq
          have hbE := Lib.hid (hb.out.trans (hbb.mono hb.out.size))
          have hsE := Lib.hid (hsp.out.below hbb hsp.out.lt)
          clear d0 d1 d2 d3 x2 z0 z1 z2 hbb hsp hb
          generalize wr.drewN nq = V at *
          go_wp2_with fail
          go_round
          case rel => exact ⟨k', by omega, by go_num, hst.out.symm, hsE.out, hbE.out⟩
          case measure => simp [intOf] <;> omega
    · obtain rfl : k = 0 := by omega
      have hv0 : 0 = valK c.kept (sx, sy, sz) := by rw [← hv]; rfl
      replace hv0 := Lib.hid hv0
      replace hb := Lib.hid hb
      clear hv hrow hsp
      rw [show ((0 : Nat) : Int) - 1 = -1 by omega]
      go_wp2_with fail
      go_ret
      exact ⟨ret_int hv0.out, hb.out⟩
def atI : Option Nat → Int
  | some i => i
  | none => -1
set_option maxRecDepth 100000 in
set_option maxHeartbeats 8000000 in
theorem rat_calls (s : Sp) (W : World) (h : Rw W0 Y0 W r c) (hw : Wl r.n c) :
    Calls Try.prog 48 #[.pointer (some ⟨r.q, 0, none⟩), spV s] W fun e w' => e = .returned (.int .i64 (atI (c.wh s))) ∧ Below W.heap.size W w' := by
  obtain ⟨sx, sy, sz⟩ := s
  have hA : Below W.heap.size W (W.alloc (.cells #[.int .i64 sx, .int .i64 sy, .int .i64 sz] 23)) := (Below.refl _ _).alloc (Nat.le_refl _) _
  have hs := Blk.new W #[.int .i64 sx, .int .i64 sy, .int .i64 sz] 23
  obtain ⟨sb, hsb⟩ : ∃ sb, W.heap.size = sb := ⟨_, rfl⟩
  have hrd := fun W' (hb : Below W.heap.size W W') => h.keep hb
  rw [hsb] at hs
  obtain ⟨W1, hW1⟩ : ∃ W1, W.alloc (.cells #[.int .i64 sx, .int .i64 sy, .int .i64 sz] 23) = W1 := ⟨_, rfl⟩
  rw [hW1] at hA hs
  obtain ⟨hn1, hn64⟩ := h.n64
  have hno : (∀ j, j < r.n → ¬ ((c.sl j).full = true ∧ (c.sl j).sp = (sx, sy, sz))) → c.wh (sx, sy, sz) = none := fun hall => by
    cases e : c.wh (sx, sy, sz) with
    | none => rfl
    | some i =>
      obtain ⟨k1, k2, k3⟩ := (hw.wh _ _).1 e
      exact absurd ⟨k2, k3⟩ (hall i k1)
  have hyes : ∀ j, j < r.n → (c.sl j).full = true → (c.sl j).sp = (sx, sy, sz) → c.wh (sx, sy, sz) = some j := fun j h1 h2 h3 => (hw.wh _ _).2 ⟨h1, h2, h3⟩
  obtain ⟨n, hn⟩ : ∃ n, r.n = n := ⟨_, rfl⟩
  replace hrd := Lib.hid hrd
  replace hA := Lib.hid hA
  replace hs := Lib.hid hs
  replace hno := Lib.hid hno
  replace hyes := Lib.hid hyes
  replace hn := Lib.hid hn
  clear h hw
  unfold spV
  go_enter Try.func48, Try.ntmps48
  go_wp2_with fail
  go_loopw [5] (fun i V => ∃ k : Nat, k ≤ r.n ∧ i = .int .i64 k ∧ (∀ j, j < k → ¬ ((c.sl j).full = true ∧ (c.sl j).sp = (sx, sy, sz))) ∧ Blk V sb [.int .i64 sx, .int .i64 sy, .int .i64 sz] 23 ∧ Below W.heap.size W V) (fun i _ => r.n + 1 - (intOf i).toNat)
  case atStart => exact ⟨0, by omega, rfl, fun j hj => absurd hj (Nat.not_lt_zero _), hs.out, hA.out⟩
  case round =>
    obtain ⟨k, hkm, rfl, hall, hsp, hb⟩ := hrel
    have hR := hrd.out wr hb
    obtain ⟨q0, _⟩ := hR.qcells
    by_cases hlt : k < r.n
    · obtain ⟨d0, d1, d2, d3, _⟩ := hR.cells hlt
      have hkz : (k : Int) < (r.n : Int) := by omega
      have hy := hyes.out k hlt
      obtain ⟨⟨⟨px, py, pz⟩, fu, di, mk, pn⟩, hX⟩ : ∃ x, c.sl k = x := ⟨_, rfl⟩
      rw [hX] at d0 d1 d2 d3 hy
      simp only at d0 d1 d2 d3 hy
      have z0 := hsp.cell 0 rfl
      have z1 := hsp.cell 1 rfl
      have z2 := hsp.cell 2 rfl
      replace hX := Lib.hid hX
      replace hsp := Lib.hid hsp
      replace hb := Lib.hid hb
      replace hall := Lib.hid hall
      replace hy := Lib.hid hy
      clear hR
      have hnext : ¬ (fu = true ∧ (px, py, pz) = (sx, sy, sz)) → ∀ j, j < k + 1 → ¬ ((c.sl j).full = true ∧ (c.sl j).sp = (sx, sy, sz)) := fun hn j hj => by
        by_cases e : j = k
        · rw [e, hX.out]; exact hn
        · exact hall.out j (by omega)
      replace hnext := Lib.hid hnext
      cases fu with
      | false =>
        have hall' := Lib.hid (hnext.out (fun h => by cases h.1))
        clear hnext hy hall
        go_wp2_with fail
        go_quiet (fail)
        have hbb := below_drewN (Below.refl wr.heap.size wr) nq
        have hbE := Lib.hid (hb.out.trans (hbb.mono hb.out.size))
        have hsE := Lib.hid (hsp.out.below hbb hsp.out.lt)
        clear d0 d1 d2 d3 q0 z0 z1 z2 hbb hsp hb
        generalize wr.drewN nq = V at *
        go_wp2_with fail
        go_round
        case rel => exact ⟨k + 1, by omega, by go_num, hall'.out, hsE.out, hbE.out⟩
        case measure => simp [intOf]; omega
      | true =>
        by_cases e : (px, py, pz) = (sx, sy, sz)
        · have hwh := Lib.hid (hy.out rfl e)
          injection e with e1 e
          injection e with e2 e3
          subst e1 e2 e3
          clear hnext hy hall
          go_wp2_with fail
          go_quiet (fail)
          have hbE := Lib.hid (hb.out.trans ((below_drewN (Below.refl wr.heap.size wr) nq).mono hb.out.size))
          clear d0 d1 d2 d3 q0 z0 z1 z2 hsp hb
          generalize wr.drewN nq = V at *
          go_wp2_with fail
          go_ret
          exact ⟨ret_int (by rw [hwh.out]; rfl), hbE.out⟩
        · have hall' := Lib.hid (hnext.out (fun h => e h.2))
          clear hnext hy hall
          have hne : px ≠ sx ∨ (px = sx ∧ py ≠ sy) ∨ (px = sx ∧ py = sy ∧ pz ≠ sz) := by
            by_cases e1 : px = sx
            · by_cases e2 : py = sy
              · exact .inr (.inr ⟨e1, e2, fun e3 => e (by rw [e1, e2, e3])⟩)
              · exact .inr (.inl ⟨e1, e2⟩)
            · exact .inl e1
          clear e
          rcases hne with e1 | ⟨rfl, e1⟩ | ⟨rfl, rfl, e1⟩
          all_goals
            have h0 := beq_eq_false_iff_ne.2 e1
            go_wp2_with fail
            go_quiet (fail)
            have hbb := below_drewN (Below.refl wr.heap.size wr) nq
            have hbE := Lib.hid (hb.out.trans (hbb.mono hb.out.size))
            have hsE := Lib.hid (hsp.out.below hbb hsp.out.lt)
            clear d0 d1 d2 d3 q0 z0 z1 z2 hbb hsp hb
            generalize wr.drewN nq = V at *
            go_wp2_with fail
            go_round
            case rel => exact ⟨k + 1, by omega, by go_num, hall'.out, hsE.out, hbE.out⟩
            case measure => simp [intOf]; omega
    · obtain rfl : k = r.n := by omega
      have hwn := Lib.hid (hno.out hall)
      replace hb := Lib.hid hb
      clear hall hsp hR
      go_wp2_with fail
      go_ret
      exact ⟨ret_int (by rw [hwn.out]; rfl), hb.out⟩
end
end Go.Proofs.Ytpdckjbknphelaa
