/-
  chunk.Same, slices.Clone, chunk.Copy.
-/
import Derived.Test.YtlaodkolkoefgaaChunkG
namespace Go.Proofs.Ytlaodkolkoefgaa
open Go.RowKit
set_option linter.unusedSimpArgs false
set_option linter.unusedVariables false

theorem ck_arrays {w : World} {b : Nat} {ce li : Nat → Int × Int} {s : Value} (h : Ck w b ce li s) :
    (∃ A, CellsA A ce ∧ ∀ n, (Instr.loadAt 43 (.pointer (some ⟨b, 0, none⟩))).run Try.prog (w.drewN n) = .ok (.agg A) (w.drewN n)) ∧
    (∃ A, CellsA A li ∧ ∀ n, (Instr.loadAt 44 (.pointer (some ⟨b, 8192, none⟩))).run Try.prog (w.drewN n) = .ok (.agg A) (w.drewN n)) := by
  obtain ⟨cs, hb, hl⟩ := h
  have hlen := hl.len
  constructor
  · have hn : (cs.take 8192).length = 8192 := by rw [List.length_take]; omega
    refine ⟨(cs.take 8192).toArray, ⟨by rw [List.size_toArray, hn], fun i hi => ?_⟩, fun n => ?_⟩
    · rw [List.getElem?_toArray, List.getElem?_toArray, List.getElem?_take, List.getElem?_take, if_pos (by omega), if_pos (by omega), hl.get _ (by omega), hl.get _ (by omega), ckF_c0 hi, ckF_c1 hi]
      exact ⟨rfl, rfl⟩
    · refine run_loadAt_mid (w.drewN n) b 0 _ (cs.take 8192) (.array 4096 25) (fun j v hv => ?_) (by kernel_rfl) rfl (by rw [hn]; kernel_rfl)
      have hj := (List.getElem?_eq_some_iff.1 hv).1
      rw [hn] at hj
      rw [List.getElem?_take, if_pos hj] at hv
      rw [Nat.zero_add]
      exact (hb.drewN n).cell j hv
  · have hn : ((cs.drop 8192).take 8192).length = 8192 := by rw [List.length_take, List.length_drop]; omega
    refine ⟨((cs.drop 8192).take 8192).toArray, ⟨by rw [List.size_toArray, hn], fun i hi => ?_⟩, fun n => ?_⟩
    · rw [List.getElem?_toArray, List.getElem?_toArray, List.getElem?_take, List.getElem?_take, if_pos (by omega), if_pos (by omega), List.getElem?_drop, List.getElem?_drop, hl.get _ (by omega), hl.get _ (by omega), ckF_l0 hi, ← Nat.add_assoc, ckF_l1 hi]
      exact ⟨rfl, rfl⟩
    · refine run_loadAt_mid (w.drewN n) b 8192 _ ((cs.drop 8192).take 8192) (.array 4096 42) (fun j v hv => ?_) (by kernel_rfl) rfl (by rw [hn]; kernel_rfl)
      have hj := (List.getElem?_eq_some_iff.1 hv).1
      rw [hn] at hj
      rw [List.getElem?_take, if_pos hj, List.getElem?_drop] at hv
      exact (hb.drewN n).cell _ hv

section
variable {P : Program} {ops : Array Oper} {C : World → Prop} {Q : Act → Prop} {a : Act} {o : Oper} {rest : List Oper}
theorem wpQuiet_run {v : Value} (hw : Region.wanted o (yielded ops a.tmps) = true) (hr : ∀ w, C w → (execOp a.eval o).run P w = .ok (.value v) w) (h : wpQuiet P ops C Q rest (a.put o.dst v)) : wpQuiet P ops C Q (o :: rest) a :=
  wpQuiet_step fun K hK => by
    rw [if_pos hw]
    exact ⟨v, fun w hC => by unfold Oper.quietAt; rw [hr w hC]; exact ⟨rfl, rfl⟩, hK _ h⟩
theorem wpQuiet_load (ty : TypeId) (x : Operand) (ho : o.op = .load ty x) (hw : Region.wanted o (yielded ops a.tmps) = true) {p v : Value} (hx : a.eval x = p) (hl : ∀ w, C w → (Instr.loadAt ty p).run P w = .ok v w)
    (h : wpQuiet P ops C Q rest (a.put o.dst v)) : wpQuiet P ops C Q (o :: rest) a :=
  wpQuiet_run hw (fun w hC => by unfold execOp; simp only [ho, hx, Sem.run_bind, hl w hC, Result.andThen_ok, Sem.run_pure]) h
theorem wpQuiet_eqAgg (ty : TypeId) (x y : Operand) (t' : TypeId) (ho : o.op = .binOp .eql ty x y t') (hw : Region.wanted o (yielded ops a.tmps) = true) {A B : Array Value} {b : Bool} (hx : a.eval x = .agg A) (hy : a.eval y = .agg B) (hm : P.eqGuardType P.depth ty = false)
    (hq : ∀ w, (binOp .eql ty (.agg A) (.agg B)).run P w = .ok (.bool b) w)
    (h : wpQuiet P ops C Q rest (a.put o.dst (.bool b))) : wpQuiet P ops C Q (o :: rest) a :=
  wpQuiet_run hw (fun w hC => by unfold execOp; simp only [ho, hx, hy, Sem.run_bind, run_eqGuard_agg w _ _ _ _ _ _ hm, hq, Result.andThen_ok, Sem.run_pure]) h
end

theorem sameB_parts (ce ce' li li' : Nat → Int × Int) (ts ts' : List (Int × Int)) : sameB ce ce' li li' ts ts' = (allN (fun i => decide (ce i = ce' i)) 4096 && (allN (fun i => decide (li i = li' i)) 4096 && decide (ts = ts'))) := by
  rw [Bool.eq_iff_iff, sameB_iff, Bool.and_eq_true, Bool.and_eq_true, allN_iff, allN_iff, decide_eq_true_iff]
  constructor
  · intro ⟨h1, h2⟩
    exact ⟨fun i hi => by simpa using (h1 i hi).1, fun i hi => by simpa using (h1 i hi).2, h2⟩
  · intro ⟨h1, h2, h3⟩
    exact ⟨fun i hi => ⟨by simpa using h1 i hi, by simpa using h2 i hi⟩, h3⟩

set_option maxRecDepth 100000 in
set_option maxHeartbeats 2000000 in
theorem same_calls (b b' : Nat) (ce ce' li li' : Nat → Int × Int) (s s' : Value) (ts us : List (Int × Int)) (w : World) (h : Ck w b ce li s) (h' : Ck w b' ce' li' s') (ht : TRow w s ts) (hu : TRow w s' us) :
    Calls Try.prog 11 #[.pointer (some ⟨b, 0, none⟩), .pointer (some ⟨b', 0, none⟩)] w fun e w' => e = .returned (.bool (sameB ce ce' li li' ts us)) ∧ ∃ q, w' = w.drewN q := by
  have hcal := fun q => equal_calls s s' ts us (w.drewN q) ht hu
  obtain ⟨⟨A, hA, lA⟩, ⟨B, hB, lB⟩⟩ := ck_arrays h
  obtain ⟨⟨A', hA', lA'⟩, ⟨B', hB', lB'⟩⟩ := ck_arrays h'
  have q1 := eql_cells A A' ce ce' hA hA'
  have q2 := eql_lights B B' li li' hB hB'
  have hr := sameB_parts ce ce' li li' ts us
  have ct := h.tk
  have ct' := h'.tk
  clear hA hB hA' hB' h h' ht hu
  obtain ⟨e1, he1⟩ : ∃ e, allN (fun i => decide (ce i = ce' i)) 4096 = e := ⟨_, rfl⟩
  obtain ⟨e2, he2⟩ : ∃ e, allN (fun i => decide (li i = li' i)) 4096 = e := ⟨_, rfl⟩
  obtain ⟨e3, he3⟩ : ∃ e, decide (ts = us) = e := ⟨_, rfl⟩
  obtain ⟨R, hR⟩ : ∃ e, sameB ce ce' li li' ts us = e := ⟨_, rfl⟩
  rw [hR]
  rw [hR] at hr
  rw [he1] at hr q1
  rw [he2] at hr q2
  rw [he3] at hr
  simp only [he3] at hcal
  clear he1 he2 he3 hR
  replace hcal := Lib.hid hcal
  cases e1
  · simp only [Bool.false_and] at hr
    subst hr
    replace lA := Lib.hid lA
    replace lA' := Lib.hid lA'
    replace q1 := Lib.hid q1
    clear hcal lB lB' q2
    go_enter Try.func11, Try.ntmps11
    go_wp2_with fail
    refine wp_region_quiet_lit (by kernel_rfl) (by kernel_rfl) ?_
    iterate 3 (go_big_quiet_step (fail))
    refine wpQuiet_load 43 (.tmp 16) rfl rfl rfl (fun w' ⟨n, e⟩ => by subst e; exact lA.out n) ?_
    simp only [Act.put, List.setIfInBounds_toArray, List.set_cons_succ, List.set_cons_zero]
    iterate 3 (go_big_quiet_step (fail))
    refine wpQuiet_load 43 (.tmp 20) rfl rfl rfl (fun w' ⟨n, e⟩ => by subst e; exact lA'.out n) ?_
    simp only [Act.put, List.setIfInBounds_toArray, List.set_cons_succ, List.set_cons_zero]
    refine wpQuiet_eqAgg 43 (.tmp 17) (.tmp 21) 43 rfl rfl rfl rfl (by kernel_rfl) q1.out ?_
    simp only [Act.put, List.setIfInBounds_toArray, List.set_cons_succ, List.set_cons_zero]
    repeat (go_big_quiet_step (fail))
    refine wpQuiet_nil ?_
    rintro _ ⟨nq, rfl⟩
    go_wp2_with fail
    go_ret
    exact ⟨rfl, _, rfl⟩
  · replace lA := Lib.hid lA
    replace lA' := Lib.hid lA'
    replace q1 := Lib.hid q1
    replace lB := Lib.hid lB
    replace lB' := Lib.hid lB'
    replace q2 := Lib.hid q2
    cases e2
    all_goals
      simp only [Bool.true_and, Bool.false_and] at hr
      subst hr
      go_enter Try.func11, Try.ntmps11
      go_wp2_with fail
      refine wp_region_quiet_lit (by kernel_rfl) (by kernel_rfl) ?_
      iterate 3 (go_big_quiet_step (fail))
      refine wpQuiet_load 43 (.tmp 16) rfl rfl rfl (fun w' ⟨n, e⟩ => by subst e; exact lA.out n) ?_
      simp only [Act.put, List.setIfInBounds_toArray, List.set_cons_succ, List.set_cons_zero]
      iterate 3 (go_big_quiet_step (fail))
      refine wpQuiet_load 43 (.tmp 20) rfl rfl rfl (fun w' ⟨n, e⟩ => by subst e; exact lA'.out n) ?_
      simp only [Act.put, List.setIfInBounds_toArray, List.set_cons_succ, List.set_cons_zero]
      refine wpQuiet_eqAgg 43 (.tmp 17) (.tmp 21) 43 rfl rfl rfl rfl (by kernel_rfl) q1.out ?_
      simp only [Act.put, List.setIfInBounds_toArray, List.set_cons_succ, List.set_cons_zero]
      iterate 4 (go_big_quiet_step (fail))
      refine wpQuiet_load 44 (.tmp 26) rfl rfl rfl (fun w' ⟨n, e⟩ => by subst e; exact lB.out n) ?_
      simp only [Act.put, List.setIfInBounds_toArray, List.set_cons_succ, List.set_cons_zero]
      iterate 3 (go_big_quiet_step (fail))
      refine wpQuiet_load 44 (.tmp 30) rfl rfl rfl (fun w' ⟨n, e⟩ => by subst e; exact lB'.out n) ?_
      simp only [Act.put, List.setIfInBounds_toArray, List.set_cons_succ, List.set_cons_zero]
      refine wpQuiet_eqAgg 44 (.tmp 27) (.tmp 31) 44 rfl rfl rfl rfl (by kernel_rfl) q2.out ?_
      simp only [Act.put, List.setIfInBounds_toArray, List.set_cons_succ, List.set_cons_zero]
      repeat (go_big_quiet_step ((go_at_call 32; exact Calls.quiet_of (hcal.out _))))
      refine wpQuiet_nil ?_
      rintro _ ⟨nq, rfl⟩
      go_wp2_with fail
      go_ret
      exact ⟨rfl, _, rfl⟩
end Go.Proofs.Ytlaodkolkoefgaa
