/-
  The cache's lists: which spots are there, which are dirty; how many are used.
-/
import Derived.Test.YtpdckjbknphelaaCpS
import Derived.Test.YtpdckjbknphelaaCpN
namespace Go.Proofs.Ytpdckjbknphelaa
open Go.RowKit
set_option linter.unusedSimpArgs false
set_option linter.unusedVariables false
set_option linter.unusedSectionVars false

theorem info_spot : (Try.prog.info? 23).map (fun i => (i.zero, i.size, i.bytes)) = some (some (.agg #[.int .i64 0, .int .i64 0, .int .i64 0]), 3, 24) := by kernel_rfl
theorem wpList_run_append {P : Program} {w w' : World} {ops : Array Oper} {rest : List Oper} {o : Oper} {a : Act} {Q : Exit → Act → World → Prop} (hg : o.guard = none) (s x : Operand) (S : TypeId) (hop : o.op = .call { callee := .builtin .append, args := #[s, x], argTypes := #[S, S] }) {v sl v' : Value} (hs : a.eval s = v) (hx : a.eval x = sl)
    (hr : (Builtin.append_ #[S, S] o.type #[v, sl]).run P w = .ok v' w') (h : wpList P ops Q rest (a.put o.dst v') w') : wpList P ops Q (o :: rest) a w := by
  refine wpList_plain hg fun K' hK' => ?_
  unfold Oper.wp
  simp [execOp, hop, resolve, invoke, builtin, hs, hx, hr, Result.andThen]
  exact hK' _ _ h
theorem ROwn.grew {w w' u : World} {B z : Nat} {E : TypeId} {v : Value} {xs : List (List Value)} (h : ROwn w B E z v xs) (hb : Below B u w) (k : w.grownBy w' v.ownBlock) (hB : B ≤ w.heap.size) : Below B u w' :=
  ⟨k.os.trans hb.os, k.tape.trans hb.tape, k.output.trans hb.output, Nat.le_trans hb.size k.size, fun j hj => by
    rw [k.block j (by omega) (fun e => by have := (h.lt e.symm).1; omega)]
    exact hb.block j hj⟩
def selN (g : Nat → Sl) (p : Sl → Bool) : Nat → List Sp
  | 0 => []
  | k + 1 => selN g p k ++ if (g k).full = true ∧ p (g k) = true then [(g k).sp] else []
theorem selN_len (g : Nat → Sl) (p : Sl → Bool) : ∀ k, (selN g p k).length ≤ k
  | 0 => Nat.le_refl _
  | k + 1 => by
    have := selN_len g p k
    unfold selN
    rw [List.length_append]
    split <;> simp <;> omega
section
variable [Xs] {w W W' : World} {b : Bc} {c : Cs} {fail stop : Int}
set_option maxRecDepth 100000 in
set_option maxHeartbeats 4000000 in
theorem all_calls (x0 x1 x2 : Int) (f d m : Bool) (n : Int) (W : World) : Calls Try.prog 39 #[.agg #[.int .i64 x0, .int .i64 x1, .int .i64 x2, .bool f, .bool d, .bool m, .int .i64 n]] W fun e w' => e = .returned (.bool true) ∧ Below W.heap.size W w' := by
  go_enter Try.func39, Try.ntmps39
  go_wp2_with fail
  go_ret
  exact ⟨rfl, (Below.refl _ _).alloc (Nat.le_refl _) _⟩
set_option maxRecDepth 100000 in
set_option maxHeartbeats 4000000 in
theorem dirt_calls (x0 x1 x2 : Int) (f d m : Bool) (n : Int) (W : World) : Calls Try.prog 42 #[.agg #[.int .i64 x0, .int .i64 x1, .int .i64 x2, .bool f, .bool d, .bool m, .int .i64 n]] W fun e w' => e = .returned (.bool d) ∧ Below W.heap.size W w' := by
  go_enter Try.func42, Try.ntmps42
  go_wp2_with fail
  go_ret
  exact ⟨rfl, (Below.refl _ _).alloc (Nat.le_refl _) _⟩
set_option maxRecDepth 100000 in
set_option maxHeartbeats 8000000 in
theorem listAll_calls (W : World) (h : Cv w W b c fail stop) : Calls Try.prog 38 #[.pointer (some ⟨b.cb, 0, none⟩), .func (.func 39) #[] #[]] W fun e w' => ∃ v, e = .returned v ∧ SRow w' 3 v ((sortSp (selN c.sl (fun _ => true) b.n)).map spL) ∧ TyB w' v ∧ Below W.heap.size W w' := by
  have his := is_calls b.cb b.pb W (h.cache.cell 0 rfl)
  have c1 := h.cache.cell 1 rfl
  have hn64 := h.n64
  have hcs := fun W' (hb : Below W.heap.size W W') (k : Nat) (hk : k < b.n) => (h.keep hb).cells hk
  have hcl := fun x0 x1 x2 f d m n V => all_calls x0 x1 x2 f d m n V
  have hso := fun V v (hr : ROwn V W.heap.size 23 3 v ((selN c.sl (fun _ => true) b.n).map spL)) => sort_calls V W.heap.size v _ hr (Nat.le_trans (selN_len _ _ _) (by omega))
  have hsl : ∀ k, (selN c.sl (fun _ => true) k).length ≤ k := selN_len _ _
  have hstep : ∀ k, selN c.sl (fun _ => true) (k + 1) = selN c.sl (fun _ => true) k ++ if (c.sl k).full = true ∧ (fun _ => true) (c.sl k) = true then [(c.sl k).sp] else [] := fun k => rfl
  generalize hSEL : selN c.sl (fun _ => true) = SEL at *
  clear hSEL
  replace his := Lib.hid his
  replace hcs := Lib.hid hcs
  replace hcl := Lib.hid hcl
  replace hso := Lib.hid hso
  replace hsl := Lib.hid hsl
  have h00 : SEL 0 = [] := by have := hsl.out 0; exact List.eq_nil_of_length_eq_zero (by omega)
  replace h00 := Lib.hid h00
  replace hstep := Lib.hid hstep
  clear h
  go_enter Try.func38, Try.ntmps38
  go_wp2_with fail
  refine his.out.mono ?_
  rintro e V ⟨rfl, rfl⟩
  clear his
  go_wp2_with fail
  go_loopw [5, 16] (fun v i X => ∃ k : Nat, k ≤ b.n ∧ i = .int .i64 k ∧ ROwn X V.heap.size 23 3 v ((SEL k).map spL) ∧ Below V.heap.size V X) (fun _ i _ => b.n + 1 - (intOf i).toNat)
  case atStart => exact ⟨0, by omega, rfl, by rw [h00.out]; exact ROwn.nil _ _ _ _, Below.refl _ _⟩
  case round =>
    obtain ⟨k, hk, rfl, hro, hb⟩ := hrel
    have hwsz := hb.size
    by_cases hlt : k < b.n
    · obtain ⟨z0, z1, z2, z3, z4, z5, z6⟩ := hcs.out wr hb k hlt
      have hkz : (k : Int) < (b.n : Int) := by omega
      have hst := hstep.out k
      have hrl := hsl.out k
      obtain ⟨⟨⟨sx, sy, sz⟩, fu, di, mk, pn⟩, hX⟩ : ∃ x, c.sl k = x := ⟨_, rfl⟩
      rw [hX] at z0 z1 z2 z3 z4 z5 z6 hst
      simp only at z0 z1 z2 z3 z4 z5 z6 hst
      have hbx := Blk.new wr #[.int .i64 sx, .int .i64 sy, .int .i64 sz, .bool fu, .bool di, .bool mk, .int .i64 pn] 94
      have hbE : Below wr.heap.size wr (wr.alloc (.cells #[.int .i64 sx, .int .i64 sy, .int .i64 sz, .bool fu, .bool di, .bool mk, .int .i64 pn] 94)) := (Below.refl _ _).alloc (Nat.le_refl _) _
      replace hX := Lib.hid hX
      replace hro := Lib.hid hro
      replace hb := Lib.hid hb
      replace hbx := Lib.hid hbx
      replace hbE := Lib.hid hbE
      cases fu with
      | false =>
        rw [if_neg (fun h => by cases h.1), List.append_nil] at hst
        replace hst := Lib.hid hst
        go_wp2_with fail
        go_round
        case rel => exact ⟨k + 1, by omega, by go_num, by rw [hst.out]; exact hro.out.keep hbE.out, hb.out.trans (hbE.out.mono hb.out.size)⟩
        case measure => simp [intOf]; omega
      | true =>
        replace hst := Lib.hid hst
        go_wp2_with fail
        refine (hcl.out _ _ _ _ _ _ _ _).mono ?_
        rintro e V2 ⟨rfl, hb2⟩
        have hbx2 := hbx.out.below hb2 hbx.out.lt
        have hb02 := hbE.out.trans (hb2.mono hbE.out.size)
        have hro2 := hro.out.keep hb02
        have hbV2 := hb.out.trans (hb02.mono hb.out.size)
        clear hb2 hbx hbE hro hb z0 z1 z2 z3 z4 z5 z6
        have d0 := hbx2.cell 0 rfl
        have d1 := hbx2.cell 1 rfl
        have d2 := hbx2.cell 2 rfl
        have hA3 : Below V2.heap.size V2 (V2.alloc (.cells #[.int .i64 sx, .int .i64 sy, .int .i64 sz] 23)) := (Below.refl _ _).alloc (Nat.le_refl _) _
        have hr3 := hro2.keep hA3
        have hbV3 := hbV2.trans (hA3.mono hbV2.size)
        obtain ⟨base, cap, e, _⟩ := hr3.open
        obtain ⟨ln, hln⟩ : ∃ ln, (List.map spL (SEL k)).length = ln := ⟨_, rfl⟩
        obtain ⟨v', w', hr, hr4, hgr, hloc⟩ := hr3.append (S := 24) 24 Try.underlying24 info_spot rfl (by omega) (Blk.new V2 #[.int .i64 sx, .int .i64 sy, .int .i64 sz] 23) rfl (spL_one (sx, sy, sz)) (by rw [List.length_map]; omega) (by omega) hbV3.size
        have hb4 := hr3.grew hbV3 hgr hbV3.size
        rw [hln] at e
        clear hln hr3 hgr hloc hbx2 hb02 hro2 hbV2 hbV3 hA3
        rw [e] at hr ⊢
        clear e
        replace hr4 := Lib.hid hr4
        replace hb4 := Lib.hid hb4
        have hst2 := hst.out
        rw [if_pos (by simp)] at hst2
        replace hst2 := Lib.hid hst2
        clear hst
        go_wp2_with (at_builtin; refine wpList_run_append rfl (.tmp 27) (.tmp 30) 24 rfl rfl rfl hr ?_)
        clear d0 d1 d2 hr
        go_wp2_with fail
        go_round
        case rel => exact ⟨k + 1, by omega, by go_num, by rw [hst2.out, List.map_append]; exact hr4.out, hb4.out⟩
        case measure => simp [intOf]; omega
    · obtain rfl : k = b.n := by omega
      have hs := hso.out wr _ hro
      obtain ⟨base, cap, e, _⟩ := hro.open
      obtain ⟨ln, hln⟩ : ∃ ln, (List.map spL (SEL b.n)).length = ln := ⟨_, rfl⟩
      rw [hln] at e
      rw [e] at hs ⊢
      clear hln e
      replace hs := Lib.hid hs
      replace hb := Lib.hid hb
      clear hro
      go_wp2_with fail
      refine hs.out.mono ?_
      rintro e2 V2 ⟨rfl, hr, hty, hb2⟩
      replace hty := Lib.hid hty
      have hbE := Lib.hid (hb.out.trans hb2)
      replace hr := Lib.hid hr
      clear hs hb2
      go_wp2_with fail
      go_ret
      exact ⟨_, rfl, hr.out, hty.out, hbE.out⟩
set_option maxRecDepth 100000 in
set_option maxHeartbeats 8000000 in
theorem listDirt_calls (W : World) (h : Cv w W b c fail stop) : Calls Try.prog 38 #[.pointer (some ⟨b.cb, 0, none⟩), .func (.func 42) #[] #[]] W fun e w' => ∃ v, e = .returned v ∧ SRow w' 3 v ((sortSp (selN c.sl (fun x => x.dirty) b.n)).map spL) ∧ TyB w' v ∧ Below W.heap.size W w' := by
  have his := is_calls b.cb b.pb W (h.cache.cell 0 rfl)
  have c1 := h.cache.cell 1 rfl
  have hn64 := h.n64
  have hcs := fun W' (hb : Below W.heap.size W W') (k : Nat) (hk : k < b.n) => (h.keep hb).cells hk
  have hcl := fun x0 x1 x2 f d m n V => dirt_calls x0 x1 x2 f d m n V
  have hso := fun V v (hr : ROwn V W.heap.size 23 3 v ((selN c.sl (fun x => x.dirty) b.n).map spL)) => sort_calls V W.heap.size v _ hr (Nat.le_trans (selN_len _ _ _) (by omega))
  have hsl : ∀ k, (selN c.sl (fun x => x.dirty) k).length ≤ k := selN_len _ _
  have hstep : ∀ k, selN c.sl (fun x => x.dirty) (k + 1) = selN c.sl (fun x => x.dirty) k ++ if (c.sl k).full = true ∧ (fun x => x.dirty) (c.sl k) = true then [(c.sl k).sp] else [] := fun k => rfl
  generalize hSEL : selN c.sl (fun x => x.dirty) = SEL at *
  clear hSEL
  replace his := Lib.hid his
  replace hcs := Lib.hid hcs
  replace hcl := Lib.hid hcl
  replace hso := Lib.hid hso
  replace hsl := Lib.hid hsl
  have h00 : SEL 0 = [] := by have := hsl.out 0; exact List.eq_nil_of_length_eq_zero (by omega)
  replace h00 := Lib.hid h00
  replace hstep := Lib.hid hstep
  clear h
  go_enter Try.func38, Try.ntmps38
  go_wp2_with fail
  refine his.out.mono ?_
  rintro e V ⟨rfl, rfl⟩
  clear his
  go_wp2_with fail
  go_loopw [5, 16] (fun v i X => ∃ k : Nat, k ≤ b.n ∧ i = .int .i64 k ∧ ROwn X V.heap.size 23 3 v ((SEL k).map spL) ∧ Below V.heap.size V X) (fun _ i _ => b.n + 1 - (intOf i).toNat)
  case atStart => exact ⟨0, by omega, rfl, by rw [h00.out]; exact ROwn.nil _ _ _ _, Below.refl _ _⟩
  case round =>
    obtain ⟨k, hk, rfl, hro, hb⟩ := hrel
    have hwsz := hb.size
    by_cases hlt : k < b.n
    · obtain ⟨z0, z1, z2, z3, z4, z5, z6⟩ := hcs.out wr hb k hlt
      have hkz : (k : Int) < (b.n : Int) := by omega
      have hst := hstep.out k
      have hrl := hsl.out k
      obtain ⟨⟨⟨sx, sy, sz⟩, fu, di, mk, pn⟩, hX⟩ : ∃ x, c.sl k = x := ⟨_, rfl⟩
      rw [hX] at z0 z1 z2 z3 z4 z5 z6 hst
      simp only at z0 z1 z2 z3 z4 z5 z6 hst
      have hbx := Blk.new wr #[.int .i64 sx, .int .i64 sy, .int .i64 sz, .bool fu, .bool di, .bool mk, .int .i64 pn] 94
      have hbE : Below wr.heap.size wr (wr.alloc (.cells #[.int .i64 sx, .int .i64 sy, .int .i64 sz, .bool fu, .bool di, .bool mk, .int .i64 pn] 94)) := (Below.refl _ _).alloc (Nat.le_refl _) _
      replace hX := Lib.hid hX
      replace hro := Lib.hid hro
      replace hb := Lib.hid hb
      replace hbx := Lib.hid hbx
      replace hbE := Lib.hid hbE
      cases fu with
      | false =>
        rw [if_neg (fun h => by cases h.1), List.append_nil] at hst
        replace hst := Lib.hid hst
        go_wp2_with fail
        go_round
        case rel => exact ⟨k + 1, by omega, by go_num, by rw [hst.out]; exact hro.out.keep hbE.out, hb.out.trans (hbE.out.mono hb.out.size)⟩
        case measure => simp [intOf]; omega
      | true =>
        cases di with
        | false =>
          rw [if_neg (fun h => by cases h.2), List.append_nil] at hst
          replace hst := Lib.hid hst
          go_wp2_with fail
          refine (hcl.out _ _ _ _ _ _ _ _).mono ?_
          rintro e V2 ⟨rfl, hb2⟩
          have hb02 := hbE.out.trans (hb2.mono hbE.out.size)
          have hro2 := Lib.hid (hro.out.keep hb02)
          have hbV2 := Lib.hid (hb.out.trans (hb02.mono hb.out.size))
          clear hb2 hb02 hbx hbE hro hb z0 z1 z2 z3 z4 z5 z6
          go_wp2_with fail
          go_round
          case rel => exact ⟨k + 1, by omega, by go_num, by rw [hst.out]; exact hro2.out, hbV2.out⟩
          case measure => simp [intOf]; omega
        | true =>
          replace hst := Lib.hid hst
          go_wp2_with fail
          refine (hcl.out _ _ _ _ _ _ _ _).mono ?_
          rintro e V2 ⟨rfl, hb2⟩
          have hbx2 := hbx.out.below hb2 hbx.out.lt
          have hb02 := hbE.out.trans (hb2.mono hbE.out.size)
          have hro2 := hro.out.keep hb02
          have hbV2 := hb.out.trans (hb02.mono hb.out.size)
          clear hb2 hbx hbE hro hb z0 z1 z2 z3 z4 z5 z6
          have d0 := hbx2.cell 0 rfl
          have d1 := hbx2.cell 1 rfl
          have d2 := hbx2.cell 2 rfl
          have hA3 : Below V2.heap.size V2 (V2.alloc (.cells #[.int .i64 sx, .int .i64 sy, .int .i64 sz] 23)) := (Below.refl _ _).alloc (Nat.le_refl _) _
          have hr3 := hro2.keep hA3
          have hbV3 := hbV2.trans (hA3.mono hbV2.size)
          obtain ⟨base, cap, e, _⟩ := hr3.open
          obtain ⟨ln, hln⟩ : ∃ ln, (List.map spL (SEL k)).length = ln := ⟨_, rfl⟩
          obtain ⟨v', w', hr, hr4, hgr, hloc⟩ := hr3.append (S := 24) 24 Try.underlying24 info_spot rfl (by omega) (Blk.new V2 #[.int .i64 sx, .int .i64 sy, .int .i64 sz] 23) rfl (spL_one (sx, sy, sz)) (by rw [List.length_map]; omega) (by omega) hbV3.size
          have hb4 := hr3.grew hbV3 hgr hbV3.size
          rw [hln] at e
          clear hln hr3 hgr hloc hbx2 hb02 hro2 hbV2 hbV3 hA3
          rw [e] at hr ⊢
          clear e
          replace hr4 := Lib.hid hr4
          replace hb4 := Lib.hid hb4
          have hst2 := hst.out
          rw [if_pos (by simp)] at hst2
          replace hst2 := Lib.hid hst2
          clear hst
          go_wp2_with (at_builtin; refine wpList_run_append rfl (.tmp 27) (.tmp 30) 24 rfl rfl rfl hr ?_)
          clear d0 d1 d2 hr
          go_wp2_with fail
          go_round
          case rel => exact ⟨k + 1, by omega, by go_num, by rw [hst2.out, List.map_append]; exact hr4.out, hb4.out⟩
          case measure => simp [intOf]; omega
    · obtain rfl : k = b.n := by omega
      have hs := hso.out wr _ hro
      obtain ⟨base, cap, e, _⟩ := hro.open
      obtain ⟨ln, hln⟩ : ∃ ln, (List.map spL (SEL b.n)).length = ln := ⟨_, rfl⟩
      rw [hln] at e
      rw [e] at hs ⊢
      clear hln e
      replace hs := Lib.hid hs
      replace hb := Lib.hid hb
      clear hro
      go_wp2_with fail
      refine hs.out.mono ?_
      rintro e2 V2 ⟨rfl, hr, hty, hb2⟩
      replace hty := Lib.hid hty
      have hbE := Lib.hid (hb.out.trans hb2)
      replace hr := Lib.hid hr
      clear hs hb2
      go_wp2_with fail
      go_ret
      exact ⟨_, rfl, hr.out, hty.out, hbE.out⟩
end
end Go.Proofs.Ytpdckjbknphelaa
