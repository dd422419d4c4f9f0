/-
  The cache: at, Dirty, Pin, Unpin, Pool.
-/
import Derived.Test.YtpdckjbknphelaaCpJ
namespace Go.Proofs.Ytpdckjbknphelaa
open Go.RowKit
set_option linter.unusedSimpArgs false
set_option linter.unusedVariables false
set_option linter.unusedSectionVars false

section
variable [Xs] {w W W' : World} {b : Bc} {c : Cs} {fail stop : Int}
def atV (b : Bc) : Option Nat → Value
  | some i => .tuple #[.pointer (some ⟨b.sb, i * 7, none⟩), .int .i64 0]
  | none => .tuple #[.pointer none, .int .i64 5]
set_option maxRecDepth 100000 in
set_option maxHeartbeats 8000000 in
theorem at_calls (s : Sp) (W : World) (h : Cv w W b c fail stop) (hsk : spOk s) :
    Calls Try.prog 37 #[.pointer (some ⟨b.cb, 0, none⟩), spV s] W fun e w' => e = .returned (atV b (c.wh s)) ∧ Below W.heap.size W w' := by
  obtain ⟨sx, sy, sz⟩ := s
  have hA : Below W.heap.size W (W.alloc (.cells #[.int .i64 sx, .int .i64 sy, .int .i64 sz] 23)) := (Below.refl _ _).alloc (Nat.le_refl _) _
  have hs1 := Blk.new W #[.int .i64 sx, .int .i64 sy, .int .i64 sz] 23
  obtain ⟨W1, hW1⟩ : ∃ W1, W.alloc (.cells #[.int .i64 sx, .int .i64 sy, .int .i64 sz] 23) = W1 := ⟨_, rfl⟩
  rw [hW1] at hA hs1
  have hC1 := h.keep hA
  have his := is_calls b.cb b.pb W1 (hC1.cache.cell 0 rfl)
  have c2 := hC1.cache.cell 2 rfl
  have hn64 := hC1.n64
  obtain ⟨K0, hK0, hmp⟩ := hC1.map
  have hlk := (hmp.keep (Below.refl _ _).drew).look2 hsk
  have z0 := hs1.cell 0 rfl
  have z1 := hs1.cell 1 rfl
  have z2 := hs1.cell 2 rfl
  unfold spV at *
  replace his := Lib.hid his
  replace hC1 := Lib.hid hC1
  replace hA := Lib.hid hA
  clear h hs1 hmp
  cases hwh : c.wh (sx, sy, sz) with
  | none =>
    rw [hwh] at hlk
    unfold wI at hlk
    unfold atV
    clear hwh
    go_enter Try.func37, Try.ntmps37
    go_wp2_with fail
    refine his.out.mono ?_
    rintro e V ⟨rfl, rfl⟩
    clear hW1 his
    go_upto_region 3 with fail
    obtain ⟨CC, hCC⟩ : ∃ C, C = zeroE V.drew := ⟨_, rfl⟩
    have hp0 : ∀ u (p : {w // AnyStage (CC u) 0 w}), p.val = V.drew := by rw [hCC]; exact fun u => zeroE_all
    replace hCC := Lib.hid hCC
    refine wp_region_stageN [0, 0, 0, 0, 0, 0, 0, 0, 0, 0, 0] (C := CC) (V := fun _ _ => True) (N := 0) (by kernel_rfl) (by kernel_rfl) (by kernel_rfl) (by kernel_rfl) (by kernel_rfl) (fun _ => ⟨undef, trivial⟩) (fun u u' s w h1 h2 => by rw [hCC.out] at *; exact h2) (fun _ => by rw [hCC.out]; rfl) ?_
    intro u hu
    have n0 : Nonempty {w // AnyStage (CC u) 0 w} := ⟨⟨V.drew, 0, by omega, by rw [hCC.out]; rfl⟩⟩
    have y2 : ∀ p : {w // AnyStage (CC u) 0 w}, p.val.cell? ⟨b.cb, 2, none⟩ = some (.map (some b.mb)) := fun p => by rw [hp0 u p]; exact c2
    have q0 : ∀ p : {w // AnyStage (CC u) 0 w}, p.val.cell? ⟨W.heap.size, 0, none⟩ = some (Value.int .i64 sx) := fun p => by rw [hp0 u p]; exact z0
    have q1 : ∀ p : {w // AnyStage (CC u) 0 w}, p.val.cell? ⟨W.heap.size, 1, none⟩ = some (Value.int .i64 sy) := fun p => by rw [hp0 u p]; exact z1
    have q2 : ∀ p : {w // AnyStage (CC u) 0 w}, p.val.cell? ⟨W.heap.size, 2, none⟩ = some (Value.int .i64 sz) := fun p => by rw [hp0 u p]; exact z2
    have ql : ∀ p : {w // AnyStage (CC u) 0 w}, (Instr.lookup 61 (.map (some b.mb)) (.agg #[.int .i64 sx, .int .i64 sy, .int .i64 sz]) true).run Try.prog p.val = .ok (.tuple #[.int .i64 (0), .bool false]) p.val := fun p => by rw [hp0 u p]; exact hlk
    clear hp0 c2 hlk z0 z1 z2
    repeat (refine wpStageN_step rfl rfl (fun K hK => ?_); go_simp; refine hK _ ?_; clear hK K)
    refine wpStageN_nil ?_
    intro Wx hx
    rw [hCC.out] at hx
    obtain rfl : Wx = V.drew := hx
    clear q0 q1 q2 ql y2 n0 hu hCC
    go_wp2_with fail
    go_ret2
    exact ⟨rfl, hA.out.drew⟩
  | some i =>
    rw [hwh] at hlk
    unfold wI at hlk
    unfold atV
    have hi := ((hC1.out.whOk _ _).1 hwh).1
    have hiz : (i : Int) < (b.n : Int) := by omega
    clear hwh
    go_enter Try.func37, Try.ntmps37
    go_wp2_with fail
    refine his.out.mono ?_
    rintro e V ⟨rfl, rfl⟩
    clear hW1 his
    go_upto_region 3 with fail
    obtain ⟨CC, hCC⟩ : ∃ C, C = zeroE V.drew := ⟨_, rfl⟩
    have hp0 : ∀ u (p : {w // AnyStage (CC u) 0 w}), p.val = V.drew := by rw [hCC]; exact fun u => zeroE_all
    replace hCC := Lib.hid hCC
    refine wp_region_stageN [0, 0, 0, 0, 0, 0, 0, 0, 0, 0, 0] (C := CC) (V := fun _ _ => True) (N := 0) (by kernel_rfl) (by kernel_rfl) (by kernel_rfl) (by kernel_rfl) (by kernel_rfl) (fun _ => ⟨undef, trivial⟩) (fun u u' s w h1 h2 => by rw [hCC.out] at *; exact h2) (fun _ => by rw [hCC.out]; rfl) ?_
    intro u hu
    have n0 : Nonempty {w // AnyStage (CC u) 0 w} := ⟨⟨V.drew, 0, by omega, by rw [hCC.out]; rfl⟩⟩
    have y2 : ∀ p : {w // AnyStage (CC u) 0 w}, p.val.cell? ⟨b.cb, 2, none⟩ = some (.map (some b.mb)) := fun p => by rw [hp0 u p]; exact c2
    have q0 : ∀ p : {w // AnyStage (CC u) 0 w}, p.val.cell? ⟨W.heap.size, 0, none⟩ = some (Value.int .i64 sx) := fun p => by rw [hp0 u p]; exact z0
    have q1 : ∀ p : {w // AnyStage (CC u) 0 w}, p.val.cell? ⟨W.heap.size, 1, none⟩ = some (Value.int .i64 sy) := fun p => by rw [hp0 u p]; exact z1
    have q2 : ∀ p : {w // AnyStage (CC u) 0 w}, p.val.cell? ⟨W.heap.size, 2, none⟩ = some (Value.int .i64 sz) := fun p => by rw [hp0 u p]; exact z2
    have ql : ∀ p : {w // AnyStage (CC u) 0 w}, (Instr.lookup 61 (.map (some b.mb)) (.agg #[.int .i64 sx, .int .i64 sy, .int .i64 sz]) true).run Try.prog p.val = .ok (.tuple #[.int .i64 ((i : Int)), .bool true]) p.val := fun p => by rw [hp0 u p]; exact hlk
    clear hp0 c2 hlk z0 z1 z2
    repeat (refine wpStageN_step rfl rfl (fun K hK => ?_); go_simp; refine hK _ ?_; clear hK K)
    refine wpStageN_nil ?_
    intro Wx hx
    rw [hCC.out] at hx
    obtain rfl : Wx = V.drew := hx
    clear q0 q1 q2 ql y2 n0 hu hCC
    have c1 := hC1.out.cache.cell 1 rfl
    go_wp2_with fail
    go_ret2
    exact ⟨rfl, hA.out.drew⟩
def dirtyS (c : Cs) (s : Sp) : Int × Cs := match c.wh s with
  | none => (5, c)
  | some i => (0, { c with sl := updS c.sl i { c.sl i with dirty := true } })
set_option maxRecDepth 100000 in
set_option maxHeartbeats 8000000 in
theorem dirty_calls (s : Sp) (W : World) (h : Cv w W b c fail stop) (hsk : spOk s) :
    Calls Try.prog 20 #[.pointer (some ⟨b.cb, 0, none⟩), spV s] W fun e w' => e = .returned (.int .i64 (dirtyS c s).1) ∧ Cv w w' b (dirtyS c s).2 fail stop ∧ Chg w.heap.size chA W w' := by
  obtain ⟨sx, sy, sz⟩ := s
  have hA : Below W.heap.size W (W.alloc (.cells #[.int .i64 sx, .int .i64 sy, .int .i64 sz] 23)) := (Below.refl _ _).alloc (Nat.le_refl _) _
  have hs1 := Blk.new W #[.int .i64 sx, .int .i64 sy, .int .i64 sz] 23
  obtain ⟨W1, hW1⟩ : ∃ W1, W.alloc (.cells #[.int .i64 sx, .int .i64 sy, .int .i64 sz] 23) = W1 := ⟨_, rfl⟩
  rw [hW1] at hA hs1
  have hC1 := h.keep hA
  have hat := at_calls (sx, sy, sz) W1 hC1 hsk
  have z0 := hs1.cell 0 rfl
  have z1 := hs1.cell 1 rfl
  have z2 := hs1.cell 2 rfl
  have hn64 := hC1.n64
  unfold spV at *
  unfold dirtyS
  replace hC1 := Lib.hid hC1
  replace hA := Lib.hid hA
  clear h hs1
  cases hwh : c.wh (sx, sy, sz) with
  | none =>
    rw [hwh] at hat
    unfold atV at hat
    replace hat := Lib.hid hat
    clear hwh
    go_enter Try.func20, Try.ntmps20
    go_wp2_with fail
    refine hat.out.mono ?_
    rintro e V ⟨rfl, hb⟩
    have hCE := Lib.hid (hC1.out.keep hb)
    have hGE := Lib.hid (Chg.of_below (B := w.heap.size) (S := chA) (hA.out.trans (hb.mono hA.out.size)))
    clear hb hat hW1 z0 z1 z2
    go_wp2_with fail
    go_ret
    exact ⟨rfl, hCE.out, hGE.out⟩
  | some i =>
    rw [hwh] at hat
    unfold atV at hat
    replace hat := Lib.hid hat
    have hi := ((hC1.out.whOk _ _).1 hwh).1
    replace hwh := Lib.hid hwh
    go_enter Try.func20, Try.ntmps20
    go_wp2_with fail
    refine hat.out.mono ?_
    rintro e V ⟨rfl, hb⟩
    have hCE := hC1.out.keep hb
    have hGE := Chg.of_below (B := w.heap.size) (S := chA) (hA.out.trans (hb.mono hA.out.size))
    obtain ⟨a0, a1, a2, a3, a4, a5, a6⟩ := hCE.cells hi
    have hfr := hCE.slots.frozen (i * 7 + 4)
    have hM := Lib.hid (hCE.setOne (i := i) (k := 4) (x := { c.sl i with dirty := true }) (v := .bool true) hi (by omega) rfl rfl rfl)
    have hGM := Lib.hid (hGE.trans ((Chg.refl _ _ _).but (b := b.sb) ((But.refl _ _).setCell (w := V) (i * 7 + 4) (.bool true)) hCE.ls fun o ho => hCE.chgA _ o ho (.inr (.inl rfl))))
    clear hb hat hW1 z0 z1 z2 hCE hGE hC1 hA a0 a1 a2 a3
    go_wp2_with fail
    go_ret
    exact ⟨rfl, hM.out, hGM.out⟩
def pinS (c : Cs) (s : Sp) : Int × Cs := match c.wh s with
  | none => (5, c)
  | some i => (0, { c with sl := updS c.sl i { c.sl i with pins := (c.sl i).pins + 1 } })
set_option maxRecDepth 100000 in
set_option maxHeartbeats 8000000 in
theorem pin_calls (s : Sp) (W : World) (h : Cv w W b c fail stop) (hsk : spOk s) (hpn : ∀ i, 0 ≤ (c.sl i).pins ∧ (c.sl i).pins ≤ 1000000) :
    Calls Try.prog 14 #[.pointer (some ⟨b.cb, 0, none⟩), spV s] W fun e w' => e = .returned (.int .i64 (pinS c s).1) ∧ Cv w w' b (pinS c s).2 fail stop ∧ Chg w.heap.size chA W w' := by
  obtain ⟨sx, sy, sz⟩ := s
  have hA : Below W.heap.size W (W.alloc (.cells #[.int .i64 sx, .int .i64 sy, .int .i64 sz] 23)) := (Below.refl _ _).alloc (Nat.le_refl _) _
  have hs1 := Blk.new W #[.int .i64 sx, .int .i64 sy, .int .i64 sz] 23
  obtain ⟨W1, hW1⟩ : ∃ W1, W.alloc (.cells #[.int .i64 sx, .int .i64 sy, .int .i64 sz] 23) = W1 := ⟨_, rfl⟩
  rw [hW1] at hA hs1
  have hC1 := h.keep hA
  have hat := at_calls (sx, sy, sz) W1 hC1 hsk
  have z0 := hs1.cell 0 rfl
  have z1 := hs1.cell 1 rfl
  have z2 := hs1.cell 2 rfl
  have hn64 := hC1.n64
  unfold spV at *
  unfold pinS
  replace hC1 := Lib.hid hC1
  replace hA := Lib.hid hA
  clear h hs1
  cases hwh : c.wh (sx, sy, sz) with
  | none =>
    rw [hwh] at hat
    unfold atV at hat
    replace hat := Lib.hid hat
    clear hwh
    go_enter Try.func14, Try.ntmps14
    go_wp2_with fail
    refine hat.out.mono ?_
    rintro e V ⟨rfl, hb⟩
    have hCE := Lib.hid (hC1.out.keep hb)
    have hGE := Lib.hid (Chg.of_below (B := w.heap.size) (S := chA) (hA.out.trans (hb.mono hA.out.size)))
    clear hb hat hW1 z0 z1 z2
    go_wp2_with fail
    go_ret
    exact ⟨rfl, hCE.out, hGE.out⟩
  | some i =>
    rw [hwh] at hat
    unfold atV at hat
    replace hat := Lib.hid hat
    have hi := ((hC1.out.whOk _ _).1 hwh).1
    obtain ⟨p1, p2⟩ := hpn i
    have hwr : IntKind.i64.wrap ((c.sl i).pins + 1) = (c.sl i).pins + 1 := wrap_i64 (by omega) (by omega)
    replace hwh := Lib.hid hwh
    go_enter Try.func14, Try.ntmps14
    go_wp2_with fail
    refine hat.out.mono ?_
    rintro e V ⟨rfl, hb⟩
    have hCE := hC1.out.keep hb
    have hGE := Chg.of_below (B := w.heap.size) (S := chA) (hA.out.trans (hb.mono hA.out.size))
    obtain ⟨a0, a1, a2, a3, a4, a5, a6⟩ := hCE.cells hi
    have hfr := hCE.slots.frozen (i * 7 + 6)
    have hM := Lib.hid (hCE.setOne (i := i) (k := 6) (x := { c.sl i with pins := (c.sl i).pins + 1 }) (v := .int .i64 ((c.sl i).pins + 1)) hi (by omega) rfl rfl rfl)
    have hGM := Lib.hid (hGE.trans ((Chg.refl _ _ _).but (b := b.sb) ((But.refl _ _).setCell (w := V) (i * 7 + 6) (.int .i64 ((c.sl i).pins + 1))) hCE.ls fun o ho => hCE.chgA _ o ho (.inr (.inl rfl))))
    clear hb hat hW1 z0 z1 z2 hCE hGE hC1 hA a0 a1 a2 a3
    go_wp2_with fail
    go_ret
    exact ⟨rfl, hM.out, hGM.out⟩
set_option maxRecDepth 100000 in
set_option maxHeartbeats 4000000 in
theorem pool_calls (W : World) (h : Cv w W b c fail stop) : Calls Try.prog 17 #[.pointer (some ⟨b.cb, 0, none⟩)] W fun e w' => e = .returned (.pointer (some ⟨b.pb, 0, none⟩)) ∧ w' = W := by
  have c0 := h.cache.cell 0 rfl
  have his := is_calls b.cb b.pb W c0
  replace his := Lib.hid his
  clear h
  go_enter Try.func17, Try.ntmps17
  go_wp2_with fail
  refine his.out.mono ?_
  rintro e V ⟨rfl, rfl⟩
  go_wp2_with fail
  go_ret
  exact ⟨rfl, rfl⟩
end
end Go.Proofs.Ytpdckjbknphelaa
