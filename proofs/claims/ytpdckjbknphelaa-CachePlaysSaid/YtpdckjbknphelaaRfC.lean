/-
  The reference's search for a frame.
-/
import Derived.Test.YtpdckjbknphelaaRfB
namespace Go.Proofs.Ytpdckjbknphelaa
open Go.RowKit
set_option linter.unusedSimpArgs false
set_option linter.unusedVariables false
section
variable {W0 W W' : World} {Y0 : Nat → Prop} {r : Rb} {c : Cs}
def rfindP (W0 : World) (Y0 : Nat → Prop) (r : Rb) (c : Cs) (e : Ending) (w' : World) : Prop := match findS r.n c.sl c.hand with
  | none => e = .returned (.int .i64 (-1)) ∧ Rw W0 Y0 w' r c
  | some (i, g, k) => e = .returned (.int .i64 i) ∧ Rw W0 Y0 w' r { c with sl := g, hand := k }
set_option maxRecDepth 100000 in
set_option maxHeartbeats 8000000 in
theorem rfind_calls (W : World) (h : Rw W0 Y0 W r c) (hh : c.hand < r.n) : Calls Try.prog 58 #[.pointer (some ⟨r.q, 0, none⟩)] W (rfindP W0 Y0 r c) := by
  obtain ⟨hn1, hn64⟩ := h.n64
  obtain ⟨q0, q1, q4, q5, qf⟩ := h.qcells
  have hql := h.lt.1
  replace q4 := Lib.hid q4
  replace q5 := Lib.hid q5
  have h0 := Lib.hid h
  clear h
  go_enter Try.func58, Try.ntmps58
  go_wp2_with fail
  go_loopw [3, 4] (fun p i V => ∃ k : Nat, k ≤ r.n ∧ i = .int .i64 k ∧ p = .bool (decide (pinnedN c.sl k = k)) ∧ (∀ j, j < k → (c.sl j).full = true) ∧ V = W) (fun _ i _ => r.n + 1 - (intOf i).toNat)
  case atStart => exact ⟨0, by omega, rfl, rfl, fun j hj => absurd hj (Nat.not_lt_zero _), rfl⟩
  case round =>
    obtain ⟨k, hk, rfl, rfl, hall, rfl⟩ := hrel
    have hpl := pinnedN_le c.sl k
    by_cases hlt : k < r.n
    · obtain ⟨z0, z1, z2, z3, z4, z5, z6, v, z7, _⟩ := h0.out.cells hlt
      have hkz : (k : Int) < (r.n : Int) := by omega
      have hstep : pinnedN c.sl (k + 1) = pinnedN c.sl k + if 0 < (c.sl k).pins then 1 else 0 := rfl
      cases hfu : (c.sl k).full with
      | false =>
        rw [hfu] at z3
        have he := emptyAt_some hall hlt hfu
        replace he := Lib.hid he
        replace hall := Lib.hid hall
        replace hstep := Lib.hid hstep
        replace hfu := Lib.hid hfu
        go_wp2_with fail
        go_ret
        unfold rfindP findS
        rw [he.out]
        exact ⟨rfl, h0.out⟩
      | true =>
        rw [hfu] at z3
        have hall' : ∀ j, j < k + 1 → (c.sl j).full = true := fun j hj => by
          by_cases e : j = k
          · rw [e]; exact hfu
          · exact hall j (by omega)
        replace hall' := Lib.hid hall'
        replace hfu := Lib.hid hfu
        clear hall
        by_cases hd : pinnedN c.sl k = k
        · rw [decide_eq_true hd]
          by_cases hp : 0 < (c.sl k).pins
          · rw [if_pos hp] at hstep
            have hpt : decide (0 < (c.sl k).pins) = true := decide_eq_true hp
            have hne : decide (pinnedN c.sl (k + 1) = k + 1) = true := decide_eq_true (by omega)
            replace hne := Lib.hid hne
            clear hstep hd hpl
            go_wp2_with fail
            go_round
            case rel => exact ⟨k + 1, by omega, by go_num, by rw [hne.out], hall'.out, by first | rfl | trivial⟩
            case measure => simp [intOf]; omega
          · rw [if_neg hp, Nat.add_zero] at hstep
            have hpf : decide (0 < (c.sl k).pins) = false := decide_eq_false hp
            have hne : decide (pinnedN c.sl (k + 1) = k + 1) = false := decide_eq_false (by omega)
            replace hne := Lib.hid hne
            clear hstep hd hpl
            go_wp2_with fail
            go_round
            case rel => exact ⟨k + 1, by omega, by go_num, by rw [hne.out], hall'.out, by first | rfl | trivial⟩
            case measure => simp [intOf]; omega
        · rw [decide_eq_false hd]
          have hne : decide (pinnedN c.sl (k + 1) = k + 1) = false := decide_eq_false (by split at hstep <;> omega)
          replace hne := Lib.hid hne
          clear hstep hd hpl
          go_wp2_with fail
          go_round
          case rel => exact ⟨k + 1, by omega, by go_num, by rw [hne.out], hall'.out, by first | rfl | trivial⟩
          case measure => simp [intOf]; omega
    · obtain rfl : k = r.n := by omega
      have he := emptyAt_none hall
      replace he := Lib.hid he
      clear hall hpl
      by_cases hp : pinnedN c.sl r.n = r.n
      · rw [decide_eq_true hp]
        have hpp := Lib.hid hp
        clear hp
        go_wp2_with fail
        go_ret
        unfold rfindP findS
        rw [he.out]
        simp only
        rw [if_pos hpp.out]
        exact ⟨rfl, h0.out⟩
      · rw [decide_eq_false hp]
        have hgo := findIt_go hn1 hh hp
        have hpp := Lib.hid hp
        replace hgo := Lib.hid hgo
        clear hp
        have hn1' : IntKind.i64.wrap (2 * (r.n : Int)) = 2 * (r.n : Int) := wrap_i64 (by omega) (by omega)
        have hn2' : IntKind.i64.wrap (2 * (r.n : Int) + 1) = 2 * (r.n : Int) + 1 := wrap_i64 (by omega) (by omega)
        go_wp2_with fail
        go_loopw [5] (fun i V => ∃ (F : Nat) (g : Nat → Sl) (k : Nat), F ≤ 2 * r.n + 1 ∧ k < r.n ∧ i = .int .i64 ((2 * r.n + 1 - F : Nat) : Int) ∧ findIt r.n F g k = findIt r.n (2 * r.n + 1) c.sl c.hand ∧ Rw W0 Y0 V r { c with sl := g, hand := k }) (fun i _ => 2 * r.n + 2 - (intOf i).toNat)
        case atStart => exact ⟨2 * r.n + 1, c.sl, c.hand, Nat.le_refl _, hh, by simp, rfl, h0.out⟩
        case round =>
          clear q0 q1 qf hql
          obtain ⟨F, g, k, hF, hk, rfl, hf, hR⟩ := hrel
          cases F with
          | zero => exact absurd hf.symm hgo.out
          | succ F =>
            obtain ⟨j, hj⟩ : ∃ j : Nat, 2 * r.n + 1 - (F + 1) = j := ⟨_, rfl⟩
            rw [hj]
            have hjz : (j : Int) < 2 * (r.n : Int) + 1 := by omega
            have hjb : (j : Int) ≤ 200 := by omega
            obtain ⟨q0, q1, _, _, qf⟩ := hR.qcells
            simp only at q1
            have f1 := qf 1
            have hql := hR.lt.1
            have hkb : (k : Int) < (r.n : Int) := by omega
            have hwr : IntKind.i64.wrap ((k : Int) + 1) = (k : Int) + 1 := wrap_i64 (by omega) (by omega)
            have hS := hR.setHand (k + 1)
            rw [show ((k + 1 : Nat) : Int) = (k : Int) + 1 by omega] at hS
            have hf1 := (findIt_succ r.n F g k).symm.trans hf
            clear qf hf
            replace hf1 := Lib.hid hf1
            replace hR := Lib.hid hR
            replace hS := Lib.hid hS
            obtain ⟨V, hV⟩ : ∃ V, wr.setCell ⟨r.q, 1, none⟩ (.int .i64 ((k : Int) + 1)) = V := ⟨_, rfl⟩
            rw [hV] at hS
            go_wp2_with fail
            clear hV q0 q1 f1 hql
            obtain ⟨q0, q1, _, _, qf⟩ := hS.out.qcells
            simp only at q1
            rw [show ((k + 1 : Nat) : Int) = (k : Int) + 1 by omega] at q1
            have f1 := qf 1
            have hql := hS.out.lt.1
            clear qf
            by_cases hlast : k + 1 = r.n
            · have hq : (((k : Int) + 1) == (r.n : Int)) = true := by rw [beq_iff_eq]; omega
              have hmod : (k + 1) % r.n = 0 := by rw [hlast, Nat.mod_self]
              go_quiet (fail)
              have hbb := below_drewN (Below.refl V.heap.size V) nq
              have hS2 := hS.out.keep hbb
              obtain ⟨q0', q1', _, _, qf'⟩ := hS2.qcells
              have f1' := qf' 1
              have hql' := hS2.lt.1
              have hT := hS2.setHand 0
              have hf1 := hf1.out
              rw [hmod] at hf1
              rw [show ((0 : Nat) : Int) = 0 by rfl] at hT
              simp only at hT
              have hKn := Lib.hid (show 0 < r.n by omega)
              clear hbb qf' q0 q1 f1 hql hS hS2 hmod hlast
              generalize V.drewN nq = V1 at *
              obtain ⟨V2, hV2⟩ : ∃ V2, V1.setCell ⟨r.q, 1, none⟩ (.int .i64 0) = V2 := ⟨_, rfl⟩
              rw [hV2] at hT
              go_upto_region 17 with fail
              clear hV2 q0' q1' f1' hql'
              obtain ⟨q0, q1, _, _, qf⟩ := hT.qcells
              obtain ⟨z0, z1, z2, z3, z4, z5, z6, zv, z7, _⟩ := hT.cells hk
              have hfr := hT.frozen (k * 8 + 5)
              simp only at z5 z6
              clear z0 z1 z2 z3 z4 z7 qf q1
              by_cases hp : 0 < (g k).pins
              · rw [if_pos hp] at hf1
                replace hf1 := Lib.hid hf1
                replace hT := Lib.hid hT
                have hpt : decide (0 < (g k).pins) = true := decide_eq_true hp
                go_wp2_with fail
                go_round
                case rel => exact ⟨F, g, _, by omega, hKn.out, by congr 1; omega, hf1.out, hT.out⟩
                case measure => simp [intOf]; omega
              · rw [if_neg hp] at hf1
                have hpf : decide (0 < (g k).pins) = false := decide_eq_false hp
                cases hm : (g k).mark with
                | true =>
                  rw [hm] at z5
                  rw [if_pos hm] at hf1
                  have hM := Lib.hid (hT.setOne (i := k) (k := 5) (x := { g k with mark := false }) (v := .bool false) hk (by omega) rfl rfl)
                  replace hf1 := Lib.hid hf1
                  replace hT := Lib.hid hT
                  replace hm := Lib.hid hm
                  go_wp2_with fail
                  go_round
                  case rel => exact ⟨F, stepM g k, _, by omega, hKn.out, by congr 1; omega, hf1.out, hM.out⟩
                  case measure => simp [intOf]; omega
                | false =>
                  rw [hm] at z5
                  rw [if_neg (by rw [hm]; simp)] at hf1
                  replace hf1 := Lib.hid hf1
                  replace hm := Lib.hid hm
                  replace hT := Lib.hid hT
                  go_wp2_with fail
                  go_ret
                  unfold rfindP findS
                  rw [he.out]
                  simp only
                  rw [if_neg hpp.out, ← hf1.out]
                  exact ⟨rfl, hT.out⟩
            · have hq : (((k : Int) + 1) == (r.n : Int)) = false := beq_eq_false_iff_ne.2 (by omega)
              have hmod : (k + 1) % r.n = k + 1 := Nat.mod_eq_of_lt (by omega)
              go_quiet (fail)
              have hbb := below_drewN (Below.refl V.heap.size V) nq
              have hT := hS.out.keep hbb
              have hf1 := hf1.out
              rw [hmod] at hf1
              have hKn := Lib.hid (show k + 1 < r.n by omega)
              clear hbb q0 q1 f1 hql hS hmod hlast
              generalize V.drewN nq = V2 at *
              obtain ⟨q0, q1, _, _, qf⟩ := hT.qcells
              obtain ⟨z0, z1, z2, z3, z4, z5, z6, zv, z7, _⟩ := hT.cells hk
              have hfr := hT.frozen (k * 8 + 5)
              simp only at z5 z6
              clear z0 z1 z2 z3 z4 z7 qf q1
              by_cases hp : 0 < (g k).pins
              · rw [if_pos hp] at hf1
                replace hf1 := Lib.hid hf1
                replace hT := Lib.hid hT
                have hpt : decide (0 < (g k).pins) = true := decide_eq_true hp
                go_wp2_with fail
                go_round
                case rel => exact ⟨F, g, _, by omega, hKn.out, by congr 1; omega, hf1.out, hT.out⟩
                case measure => simp [intOf]; omega
              · rw [if_neg hp] at hf1
                have hpf : decide (0 < (g k).pins) = false := decide_eq_false hp
                cases hm : (g k).mark with
                | true =>
                  rw [hm] at z5
                  rw [if_pos hm] at hf1
                  have hM := Lib.hid (hT.setOne (i := k) (k := 5) (x := { g k with mark := false }) (v := .bool false) hk (by omega) rfl rfl)
                  replace hf1 := Lib.hid hf1
                  replace hT := Lib.hid hT
                  replace hm := Lib.hid hm
                  go_wp2_with fail
                  go_round
                  case rel => exact ⟨F, stepM g k, _, by omega, hKn.out, by congr 1; omega, hf1.out, hM.out⟩
                  case measure => simp [intOf]; omega
                | false =>
                  rw [hm] at z5
                  rw [if_neg (by rw [hm]; simp)] at hf1
                  replace hf1 := Lib.hid hf1
                  replace hm := Lib.hid hm
                  replace hT := Lib.hid hT
                  go_wp2_with fail
                  go_ret
                  unfold rfindP findS
                  rw [he.out]
                  simp only
                  rw [if_neg hpp.out, ← hf1.out]
                  exact ⟨rfl, hT.out⟩
end
end Go.Proofs.Ytpdckjbknphelaa
