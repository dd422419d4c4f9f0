/-
  The cache: Unpin; caches that are none; what New refuses.
-/
import Derived.Test.YtpdckjbknphelaaMg33
namespace Go.Proofs.Ytpdckjbknphelaa
open Go.RowKit
set_option linter.unusedSimpArgs false
set_option linter.unusedVariables false
set_option linter.unusedSectionVars false

section
variable [Xs] {w W W' : World} {b : Bc} {c : Cs} {fail stop : Int}
def unpinS (c : Cs) (s : Sp) : Int × Cs := match c.wh s with
  | none => (5, c)
  | some i => if (c.sl i).pins = 0 then (12, c) else (0, { c with sl := updS c.sl i { c.sl i with pins := (c.sl i).pins - 1 } })
set_option maxRecDepth 100000 in
set_option maxHeartbeats 8000000 in
theorem unpin_calls (s : Sp) (W : World) (h : Cv w W b c fail stop) (hsk : spOk s) (hpn : ∀ i, 0 ≤ (c.sl i).pins ∧ (c.sl i).pins ≤ 1000000) :
    Calls Try.prog 24 #[.pointer (some ⟨b.cb, 0, none⟩), spV s] W fun e w' => e = .returned (.int .i64 (unpinS c s).1) ∧ Cv w w' b (unpinS c s).2 fail stop ∧ Chg w.heap.size chA W w' := by
  obtain ⟨sx, sy, sz⟩ := s
  have hA : Below W.heap.size W (W.alloc (.cells #[.int .i64 sx, .int .i64 sy, .int .i64 sz] 23)) := (Below.refl _ _).alloc (Nat.le_refl _) _
  have hs1 := Blk.new W #[.int .i64 sx, .int .i64 sy, .int .i64 sz] 23
  obtain ⟨W1, hW1⟩ : ∃ W1, W.alloc (.cells #[.int .i64 sx, .int .i64 sy, .int .i64 sz] 23) = W1 := ⟨_, rfl⟩
  rw [hW1] at hA hs1
  have hC1 := h.keep hA
  have hat := at_calls (sx, sy, sz) W1 hC1 hsk
  have z0 := hs1.cell 0 rfl
  have z1 := hs1.cell 1 rfl
  have z2 := hs1.cell 2 rfl
  have hn64 := hC1.n64
  unfold spV at *
  unfold unpinS
  replace hC1 := Lib.hid hC1
  replace hA := Lib.hid hA
  clear h hs1
  cases hwh : c.wh (sx, sy, sz) with
  | none =>
    rw [hwh] at hat
    unfold atV at hat
    replace hat := Lib.hid hat
    clear hwh
    go_enter Try.func24, Try.ntmps24
    go_wp2_with fail
    refine hat.out.mono ?_
    rintro e V ⟨rfl, hb⟩
    have hCE := Lib.hid (hC1.out.keep hb)
    have hGE := Lib.hid (Chg.of_below (B := w.heap.size) (S := chA) (hA.out.trans (hb.mono hA.out.size)))
    clear hb hat hW1 z0 z1 z2
    go_wp2_with fail
    go_ret
    exact ⟨rfl, hCE.out, hGE.out⟩
  | some i =>
    rw [hwh] at hat
    unfold atV at hat
    replace hat := Lib.hid hat
    have hi := ((hC1.out.whOk _ _).1 hwh).1
    obtain ⟨p1, p2⟩ := hpn i
    have hwr : IntKind.i64.wrap ((c.sl i).pins - 1) = (c.sl i).pins - 1 := IntWalk.i64_in _ (by omega)
    replace hwh := Lib.hid hwh
    simp only
    by_cases hp0 : (c.sl i).pins = 0
    · rw [if_pos hp0]
      replace hp0 := Lib.hid hp0
      go_enter Try.func24, Try.ntmps24
      go_wp2_with fail
      refine hat.out.mono ?_
      rintro e V ⟨rfl, hb⟩
      have hCE := hC1.out.keep hb
      have hGE := Lib.hid (Chg.of_below (B := w.heap.size) (S := chA) (hA.out.trans (hb.mono hA.out.size)))
      obtain ⟨a0, a1, a2, a3, a4, a5, a6⟩ := hCE.cells hi
      rw [hp0.out] at a6
      replace hCE := Lib.hid hCE
      clear hb hat hW1 z0 z1 z2 hC1 hA a0 a1 a2 a3 a4 a5 hwr p1 p2
      go_wp2_with fail
      go_ret
      exact ⟨rfl, hCE.out, hGE.out⟩
    · rw [if_neg hp0]
      have hp0' : ((c.sl i).pins == 0) = false := beq_eq_false_iff_ne.2 hp0
      clear hp0
      go_enter Try.func24, Try.ntmps24
      go_wp2_with fail
      refine hat.out.mono ?_
      rintro e V ⟨rfl, hb⟩
      have hCE := hC1.out.keep hb
      have hGE := Chg.of_below (B := w.heap.size) (S := chA) (hA.out.trans (hb.mono hA.out.size))
      obtain ⟨a0, a1, a2, a3, a4, a5, a6⟩ := hCE.cells hi
      have hfr := hCE.slots.frozen (i * 7 + 6)
      have hM := Lib.hid (hCE.setOne (i := i) (k := 6) (x := { c.sl i with pins := (c.sl i).pins - 1 }) (v := .int .i64 ((c.sl i).pins - 1)) hi (by omega) rfl rfl rfl)
      have hGM := Lib.hid (hGE.trans ((Chg.refl _ _ _).but (b := b.sb) ((But.refl _ _).setCell (w := V) (i * 7 + 6) (.int .i64 ((c.sl i).pins - 1))) hCE.ls fun o ho => hCE.chgA _ o ho (.inr (.inl rfl))))
      clear hb hat hW1 z0 z1 z2 hCE hGE hC1 hA a0 a1 a2 a3
      go_wp2_with fail
      go_ret
      exact ⟨rfl, hM.out, hGM.out⟩
end
/-- No cache: is says so. -/
def NoC (x : Value) (W : World) : Prop := ∀ V, Below W.heap.size W V → Calls Try.prog 33 #[x] V fun e w' => e = .returned (.bool false) ∧ w' = V
set_option maxRecDepth 100000 in
set_option maxHeartbeats 4000000 in
theorem noC_nil (W : World) : NoC (.pointer none) W := fun V _ => by
  go_enter Try.func33, Try.ntmps33
  go_wp2_with fail
  go_ret
  exact ⟨rfl, rfl⟩
set_option maxRecDepth 100000 in
set_option maxHeartbeats 4000000 in
theorem noC_empty {eb : Nat} {W : World} (h : W.cell? ⟨eb, 0, none⟩ = some (.pointer none)) : NoC (.pointer (some ⟨eb, 0, none⟩)) W := fun V hb => by
  have c0 : V.cell? ⟨eb, 0, none⟩ = some (.pointer none) := (hb.cell (p := ⟨eb, 0, none⟩) (World.block_lt_of_cell? _ _ h)).trans h
  clear h hb
  go_enter Try.func33, Try.ntmps33
  go_wp2_with fail
  go_ret
  exact ⟨rfl, rfl⟩
set_option maxRecDepth 100000 in
set_option maxHeartbeats 4000000 in
theorem get_no (x : Value) (s : Sp) (W : World) (h : NoC x W) : Calls Try.prog 13 #[x, spV s] W fun e w' => e = .returned (.tuple #[.int .i64 0, .int .i64 1]) ∧ Below W.heap.size W w' := by
  obtain ⟨sx, sy, sz⟩ := s
  unfold spV
  have hA : Below W.heap.size W (W.alloc (.cells #[.int .i64 sx, .int .i64 sy, .int .i64 sz] 23)) := (Below.refl _ _).alloc (Nat.le_refl _) _
  have his := h _ hA
  replace his := Lib.hid his
  replace hA := Lib.hid hA
  clear h
  go_enter Try.func13, Try.ntmps13
  go_wp2_with fail
  refine his.out.mono ?_
  rintro e V ⟨rfl, rfl⟩
  clear his
  go_wp2_with fail
  go_ret2
  exact ⟨rfl, hA.out⟩
set_option maxRecDepth 100000 in
set_option maxHeartbeats 4000000 in
theorem at_no (x : Value) (s : Sp) (W : World) (h : NoC x W) : Calls Try.prog 37 #[x, spV s] W fun e w' => e = .returned (.tuple #[.pointer none, .int .i64 1]) ∧ Below W.heap.size W w' := by
  obtain ⟨sx, sy, sz⟩ := s
  unfold spV
  have hA : Below W.heap.size W (W.alloc (.cells #[.int .i64 sx, .int .i64 sy, .int .i64 sz] 23)) := (Below.refl _ _).alloc (Nat.le_refl _) _
  have his := h _ hA
  replace his := Lib.hid his
  replace hA := Lib.hid hA
  clear h
  go_enter Try.func37, Try.ntmps37
  go_wp2_with fail
  refine his.out.mono ?_
  rintro e V ⟨rfl, rfl⟩
  clear his
  go_wp2_with fail
  go_ret2
  exact ⟨rfl, hA.out⟩
theorem NoC.keep {x : Value} {W V : World} (h : NoC x W) (hb : Below W.heap.size W V) : NoC x V := fun U hu => h U (hb.trans (hu.mono hb.size))
set_option maxRecDepth 100000 in
set_option maxHeartbeats 4000000 in
theorem pin_no (x : Value) (s : Sp) (W : World) (h : NoC x W) : Calls Try.prog 14 #[x, spV s] W fun e w' => e = .returned (.int .i64 1) ∧ Below W.heap.size W w' := by
  obtain ⟨sx, sy, sz⟩ := s
  have hA : Below W.heap.size W (W.alloc (.cells #[.int .i64 sx, .int .i64 sy, .int .i64 sz] 23)) := (Below.refl _ _).alloc (Nat.le_refl _) _
  have hs1 := Blk.new W #[.int .i64 sx, .int .i64 sy, .int .i64 sz] 23
  have hat := at_no x (sx, sy, sz) _ (h.keep hA)
  have z0 := hs1.cell 0 rfl
  have z1 := hs1.cell 1 rfl
  have z2 := hs1.cell 2 rfl
  unfold spV at *
  replace hat := Lib.hid hat
  replace hA := Lib.hid hA
  clear h hs1
  go_enter Try.func14, Try.ntmps14
  go_wp2_with fail
  refine hat.out.mono ?_
  rintro e V ⟨rfl, hb⟩
  have hE := Lib.hid (hA.out.trans (hb.mono hA.out.size))
  clear hat hb hA z0 z1 z2
  go_wp2_with fail
  go_ret
  exact ⟨rfl, hE.out⟩
set_option maxRecDepth 100000 in
set_option maxHeartbeats 4000000 in
theorem flush_no (x : Value) (W : World) (h : NoC x W) : Calls Try.prog 22 #[x] W fun e w' => e = .returned (.int .i64 1) ∧ w' = W := by
  have his := h _ (Below.refl _ _)
  replace his := Lib.hid his
  clear h
  go_enter Try.func22, Try.ntmps22
  go_wp2_with fail
  refine his.out.mono ?_
  rintro e V ⟨rfl, rfl⟩
  clear his
  go_wp2_with fail
  go_ret
  exact ⟨rfl, rfl⟩
set_option maxRecDepth 100000 in
set_option maxHeartbeats 4000000 in
theorem pool_no (x : Value) (W : World) (h : NoC x W) : Calls Try.prog 17 #[x] W fun e w' => e = .returned (.pointer none) ∧ w' = W := by
  have his := h _ (Below.refl _ _)
  replace his := Lib.hid his
  clear h
  go_enter Try.func17, Try.ntmps17
  go_wp2_with fail
  refine his.out.mono ?_
  rintro e V ⟨rfl, rfl⟩
  clear his
  go_wp2_with fail
  go_ret
  exact ⟨rfl, rfl⟩
set_option maxRecDepth 100000 in
set_option maxHeartbeats 4000000 in
theorem list_no (x f : Value) (W : World) (h : NoC x W) : Calls Try.prog 38 #[x, f] W fun e w' => e = .returned (.slice none 0 0) ∧ w' = W := by
  have his := h _ (Below.refl _ _)
  replace his := Lib.hid his
  clear h
  go_enter Try.func38, Try.ntmps38
  go_wp2_with fail
  refine his.out.mono ?_
  rintro e V ⟨rfl, rfl⟩
  clear his
  go_wp2_with fail
  go_ret
  exact ⟨rfl, rfl⟩
set_option maxRecDepth 100000 in
set_option maxHeartbeats 4000000 in
theorem spots_no (x : Value) (W : World) (h : NoC x W) : Calls Try.prog 15 #[x] W fun e w' => e = .returned (.slice none 0 0) ∧ w' = W := by
  have hl := list_no x (.func (.func 39) #[] #[]) W h
  replace hl := Lib.hid hl
  clear h
  go_enter Try.func15, Try.ntmps15
  go_wp2_with fail
  refine hl.out.mono ?_
  rintro e V ⟨rfl, rfl⟩
  clear hl
  go_wp2_with fail
  go_ret
  exact ⟨rfl, rfl⟩
set_option maxRecDepth 100000 in
set_option maxHeartbeats 4000000 in
theorem used_no (x : Value) (W : World) (h : NoC x W) : Calls Try.prog 16 #[x] W fun e w' => e = .returned (.int .i64 0) ∧ w' = W := by
  have hl := spots_no x W h
  replace hl := Lib.hid hl
  clear h
  go_enter Try.func16, Try.ntmps16
  go_wp2_with fail
  refine hl.out.mono ?_
  rintro e V ⟨rfl, rfl⟩
  clear hl
  go_wp2_with fail
  go_ret
  exact ⟨rfl, rfl⟩
set_option maxRecDepth 100000 in
set_option maxHeartbeats 4000000 in
theorem cnew_no (n : Int) (ld sv : Value) (W : World) (h : n < 1 ∨ 64 < n) : Calls Try.prog 8 #[.int .i64 n, ld, sv] W fun e w' => e = .returned (.tuple #[.pointer none, .int .i64 2]) ∧ w' = W := by
  by_cases h1 : n < 1
  · clear h
    go_enter Try.func8, Try.ntmps8
    go_wp2_with fail
    go_ret2
    exact ⟨rfl, rfl⟩
  · have g1 : decide (n < 1) = false := by simp; omega
    have g2 : 64 < n := by omega
    clear h h1
    go_enter Try.func8, Try.ntmps8
    go_wp2_with fail
    go_ret2
    exact ⟨rfl, rfl⟩
set_option maxRecDepth 100000 in
set_option maxHeartbeats 4000000 in
theorem cnew_noL (sv : Value) (W : World) : Calls Try.prog 8 #[.int .i64 2, .nilFunc, sv] W fun e w' => e = .returned (.tuple #[.pointer none, .int .i64 2]) ∧ w' = W := by
  have e1 : ∀ V : World, (binOp .eql 34 .nilFunc .nilFunc).run Try.prog V = .ok (.bool true) V := fun V => by kernel_rfl
  go_enter Try.func8, Try.ntmps8
  go_wp2_with fail
  go_ret2
  exact ⟨rfl, rfl⟩
set_option maxRecDepth 100000 in
set_option maxHeartbeats 4000000 in
theorem cnew_noS (fn : Fn) (caps : Array Value) (W : World) (e1 : ∀ V : World, (binOp .eql 34 (.func fn caps #[]) .nilFunc).run Try.prog V = .ok (.bool false) V) : Calls Try.prog 8 #[.int .i64 2, .func fn caps #[], .nilFunc] W fun e w' => e = .returned (.tuple #[.pointer none, .int .i64 2]) ∧ w' = W := by
  have e2 : ∀ V : World, (binOp .eql 35 .nilFunc .nilFunc).run Try.prog V = .ok (.bool true) V := fun V => by kernel_rfl
  go_enter Try.func8, Try.ntmps8
  go_wp2_with fail
  go_ret2
  exact ⟨rfl, rfl⟩
end Go.Proofs.Ytpdckjbknphelaa
