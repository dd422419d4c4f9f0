/-
  The walk of the cache's Get.
-/
import Derived.Test.YtpdckjbknphelaaCpI
namespace Go.Proofs.Ytpdckjbknphelaa
open Go.RowKit
set_option linter.unusedSimpArgs false
set_option linter.unusedVariables false
set_option linter.unusedSectionVars false

def getL (fail stop : Int) (c : Cs) (i : Nat) (s : Sp) : Int × Int × Cs :=
  if badB fail stop c.calls.length = true then (0, 7, { c with calls := c.calls ++ [(false, s, 0)] })
  else (i, 0, enterS (loadS { c with calls := c.calls ++ [(false, s, 0)] } i s) i s)
def getT (fail stop : Int) (p : Int × Cs) (i : Nat) (s : Sp) : Int × Int × Cs :=
  if p.1 = 0 then getL fail stop (if (p.2.sl i).full = true then evictS p.2 i else p.2) i s else (0, p.1, p.2)
def getS (fail stop : Int) (n : Nat) (c : Cs) (s : Sp) : Int × Int × Cs :=
  if mayS s.1 s.2.1 s.2.2 = false then (0, 10, c) else
  match c.wh s with
  | some i => (i, 0, { c with sl := updS c.sl i { c.sl i with mark := true } })
  | none => match findS n c.sl c.hand with
    | none => (0, 20, c)
    | some (i, g, k) => getT fail stop (cleanS fail stop { c with sl := g, hand := k } i (vOf c i)) i s
theorem emptyAt_lt {n i : Nat} {g : Nat → Sl} (h : emptyAt n g = some i) : i < n ∧ (g i).full = false := by
  unfold emptyAt at h
  have h1 := List.find?_some h
  have h2 := List.mem_of_find?_eq_some h
  exact ⟨List.mem_range.1 h2, by simpa using h1⟩
theorem findS_res {n : Nat} (hn : 0 < n) {g : Nat → Sl} {h i k : Nat} {g' : Nat → Sl} (hh : h < n) (e : findS n g h = some (i, g', k)) : i < n ∧ k < n ∧ SameBut g g' ∧ ((g' i).full = false ∨ ((∀ j, j < n → (g j).full = true) ∧ (g' i).pins ≤ 0)) := by
  unfold findS at e
  cases he : emptyAt n g with
  | some j =>
    rw [he] at e
    cases e
    exact ⟨(emptyAt_lt he).1, hh, SameBut.refl _, .inl (emptyAt_lt he).2⟩
  | none =>
    rw [he] at e
    simp only at e
    split at e
    · cases e
    · obtain ⟨h1, h2, h3, h4⟩ := findIt_res hn _ _ _ _ _ _ hh e
      refine ⟨h1, h4, h3, .inr ⟨fun j hj => ?_, h2⟩⟩
      unfold emptyAt at he
      have := List.find?_eq_none.1 he j (List.mem_range.2 hj)
      simpa using this
theorem wf_small {n : Nat} (h : n ≤ 1000000) : (Lit.int .i64 (n : Int)).wf = true := by
  simp [Lit.wf, IntKind.min, IntKind.max, IntKind.bits, IntKind.signed]
  omega
theorem drew_in (W : World) (a : Addr) (v : Value) : (W.setCell a v).drew = W.drew.setCell a v := rfl
/-- One world. -/
def zeroE (w0 : World) (u : Nat → Value) (s : Nat) (W : World) : Prop := W = w0
theorem zeroE_all {w0 : World} {u : Nat → Value} {N : Nat} (p : {w // AnyStage (zeroE w0 u) N w}) : p.val = w0 := p.property.elim fun s h => h.2
/-- The worlds of a call, and what it hands back. -/
def callE (w0 : World) (M : Value → World → Prop) (u : Nat → Value) (s : Nat) (W : World) : Prop := match s with
  | 0 => W = w0
  | _ => M (u 0) W
theorem callE_lo {w0 : World} {M : Value → World → Prop} {u : Nat → Value} (p : {w // AnyStage (callE w0 M u) 0 w}) : p.val = w0 := by
  obtain ⟨W, s, hs, h⟩ := p
  match s, hs, h with
  | 0, _, h => exact h
  | _ + 1, hs, _ => omega
theorem callE_cong {w0 : World} {M : Value → World → Prop} (u u' : Nat → Value) (s : Nat) (W : World) (hu : ∀ j, j < s → u j = u' j) (h : callE w0 M u s W) : callE w0 M u' s W := match s, h with
  | 0, h => h
  | _ + 1, h => by unfold callE at *; rw [← hu 0 (by omega)]; exact h
def callV (V0 : Value → Prop) (s : Nat) (v : Value) : Prop := match s with
  | 0 => V0 v
  | _ => True
theorem callV_some {V0 : Value → Prop} (h : ∃ v, V0 v) (s : Nat) : ∃ v, callV V0 s v := match s with
  | 0 => h
  | _ + 1 => ⟨undef, trivial⟩
section
variable [Xs] {w W W' : World} {b : Bc} {c : Cs} {fail stop : Int}
set_option maxRecDepth 100000 in
set_option maxHeartbeats 20000000 in
theorem get_calls (s : Sp) (W : World) (h : Cv w W b c fail stop) (hsk : spOk s) (hc : c.calls.length ≤ 90000) (hk : c.kept.length ≤ 90000) (hLd : b.ld = loadF b.wb) :
    Calls Try.prog 13 #[.pointer (some ⟨b.cb, 0, none⟩), spV s] W fun e w' => e = .returned (.tuple #[.int .i64 (getS fail stop b.n c s).1, .int .i64 (getS fail stop b.n c s).2.1]) ∧ Cv w w' b (getS fail stop b.n c s).2.2 fail stop ∧ Chg w.heap.size chA W w' := by
  obtain ⟨sx, sy, sz⟩ := s
  have hA : Below W.heap.size W (W.alloc (.cells #[.int .i64 sx, .int .i64 sy, .int .i64 sz] 23)) := (Below.refl _ _).alloc (Nat.le_refl _) _
  have hs1 := Blk.new W #[.int .i64 sx, .int .i64 sy, .int .i64 sz] 23
  obtain ⟨W1, hW1⟩ : ∃ W1, W.alloc (.cells #[.int .i64 sx, .int .i64 sy, .int .i64 sz] 23) = W1 := ⟨_, rfl⟩
  rw [hW1] at hA hs1
  have hC1 := h.keep hA
  have hn64 := h.n64
  have hbw := h.below.size
  have his := is_calls b.cb b.pb W1 (hC1.cache.cell 0 rfl)
  have hms := mayspot_calls sx sy sz W1
  have z0 := hs1.cell 0 rfl
  have z1 := hs1.cell 1 rfl
  have z2 := hs1.cell 2 rfl
  unfold spV
  obtain ⟨r, hr⟩ : ∃ r, getS fail stop b.n c (sx, sy, sz) = r := ⟨_, rfl⟩
  rw [hr]
  unfold getS at hr
  simp only at hr
  have hG1 := Lib.hid (Chg.of_below (B := w.heap.size) (S := chA) hA)
  replace his := Lib.hid his
  replace hs1 := Lib.hid hs1
  replace hC1 := Lib.hid hC1
  replace hLd := Lib.hid hLd
  clear h hA
  cases hmay : mayS sx sy sz with
  | false =>
    rw [hmay] at hms
    rw [hmay, if_pos rfl] at hr
    subst hr
    replace hms := Lib.hid hms
    clear hmay
    go_enter Try.func13, Try.ntmps13
    go_wp2_with fail
    refine his.out.mono ?_
    rintro e V ⟨rfl, rfl⟩
    clear hW1
    go_wp2_with fail
    refine hms.out.mono ?_
    rintro e V2 ⟨rfl, hb⟩
    have hC2 := Lib.hid (hC1.out.keep hb)
    have hG2 := Lib.hid (hG1.out.below hb)
    clear z0 z1 z2 hb
    go_wp2_with fail
    go_ret2
    exact ⟨rfl, hC2.out, hG2.out⟩
  | true =>
    rw [hmay] at hms
    rw [hmay, if_neg (by simp)] at hr
    replace hms := Lib.hid hms
    replace hr := Lib.hid hr
    clear hmay
    go_enter Try.func13, Try.ntmps13
    go_wp2_with fail
    refine his.out.mono ?_
    rintro e V ⟨rfl, rfl⟩
    clear hW1
    go_wp2_with fail
    refine hms.out.mono ?_
    rintro e V2 ⟨rfl, hb⟩
    have hbD : Below V.heap.size V V2.drew := hb.drew
    have hC2 := hC1.out.keep hbD
    have hG2 := Lib.hid (hG1.out.below hbD)
    have hs2 := hs1.out.below hbD hs1.out.lt
    clear z0 z1 z2 hb hbD his hms hC1 hG1 hs1
    have c2 := hC2.cache.cell 2 rfl
    obtain ⟨K0, hK0, hmp⟩ := hC2.map
    have hlk := hmp.look2 hsk
    unfold spV at hlk
    have z0 := hs2.cell 0 rfl
    have z1 := hs2.cell 1 rfl
    have z2 := hs2.cell 2 rfl
    replace hC2 := Lib.hid hC2
    replace hs2 := Lib.hid hs2
    clear hmp
    go_upto_region 5 with fail
    obtain ⟨CC, hCC⟩ : ∃ C, C = zeroE V2.drew := ⟨_, rfl⟩
    have hp0 : ∀ u (p : {w // AnyStage (CC u) 0 w}), p.val = V2.drew := by rw [hCC]; exact fun u => zeroE_all
    replace hCC := Lib.hid hCC
    refine wp_region_stageN [0, 0, 0, 0, 0, 0, 0, 0, 0, 0, 0] (C := CC) (V := fun _ _ => True) (N := 0) (by kernel_rfl) (by kernel_rfl) (by kernel_rfl) (by kernel_rfl) (by kernel_rfl) (fun _ => ⟨undef, trivial⟩) (fun u u' s w h1 h2 => by rw [hCC.out] at *; exact h2) (fun _ => by rw [hCC.out]; rfl) ?_
    intro u hu
    have n0 : Nonempty {w // AnyStage (CC u) 0 w} := ⟨⟨V2.drew, 0, by omega, by rw [hCC.out]; rfl⟩⟩
    have y2 : ∀ p : {w // AnyStage (CC u) 0 w}, p.val.cell? ⟨b.cb, 2, none⟩ = some (.map (some b.mb)) := fun p => by rw [hp0 u p]; exact c2
    have q0 : ∀ p : {w // AnyStage (CC u) 0 w}, p.val.cell? ⟨W.heap.size, 0, none⟩ = some (Value.int .i64 sx) := fun p => by rw [hp0 u p]; exact z0
    have q1 : ∀ p : {w // AnyStage (CC u) 0 w}, p.val.cell? ⟨W.heap.size, 1, none⟩ = some (Value.int .i64 sy) := fun p => by rw [hp0 u p]; exact z1
    have q2 : ∀ p : {w // AnyStage (CC u) 0 w}, p.val.cell? ⟨W.heap.size, 2, none⟩ = some (Value.int .i64 sz) := fun p => by rw [hp0 u p]; exact z2
    have ql : ∀ p : {w // AnyStage (CC u) 0 w}, (Instr.lookup 61 (.map (some b.mb)) (.agg #[.int .i64 sx, .int .i64 sy, .int .i64 sz]) true).run Try.prog p.val = .ok (.tuple #[.int .i64 (wI (c.wh (sx, sy, sz))), .bool (c.wh (sx, sy, sz)).isSome]) p.val := fun p => by rw [hp0 u p]; exact hlk
    clear hp0 c2 hlk z0 z1 z2
    cases hwh : c.wh (sx, sy, sz) with
    | some i =>
      rw [hwh] at ql
      obtain ⟨r1, hr1⟩ : ∃ r1, r = r1 ∧ r1 = ((i : Int), (0 : Int), ({ c with sl := updS c.sl i { c.sl i with mark := true } } : Cs)) := ⟨r, rfl, by have := hr.out; rw [hwh] at this; exact this.symm⟩
      obtain ⟨rfl, hr1⟩ := hr1
      subst hr1
      unfold wI at ql
      repeat (refine wpStageN_step rfl rfl (fun K hK => ?_); go_simp; refine hK _ ?_; clear hK K)
      refine wpStageN_nil ?_
      intro Wx hx
      rw [hCC.out] at hx
      obtain rfl : Wx = V2.drew := hx
      clear q0 q1 q2 ql y2 n0 hu hCC
      have hi := ((hC2.out.whOk _ _).1 hwh).1
      have hiz : (i : Int) < (b.n : Int) := by omega
      obtain ⟨a0, a1, a2, a3, a4, a5, a6⟩ := hC2.out.cells hi
      have c1 := hC2.out.cache.cell 1 rfl
      have hfr := hC2.out.slots.frozen (i * 7 + 5)
      have hM := Lib.hid (hC2.out.setOne (i := i) (k := 5) (x := { c.sl i with mark := true }) (v := .bool true) hi (by omega) rfl rfl rfl)
      have hgM := Lib.hid (hG2.out.trans ((Chg.refl _ _ _).but (b := b.sb) ((But.refl _ _).setCell (w := V2.drew) (i * 7 + 5) (.bool true)) hC2.out.ls fun o ho => hC2.out.chgA _ o ho (.inr (.inl rfl))))
      replace hwh := Lib.hid hwh
      go_wp2_with fail
      go_ret2
      exact ⟨rfl, hM.out, hgM.out⟩
    | none =>
      rw [hwh] at ql
      have hr2 := hr.out
      rw [hwh] at hr2
      simp only at hr2
      clear hr
      unfold wI at ql
      repeat (refine wpStageN_step rfl rfl (fun K hK => ?_); go_simp; refine hK _ ?_; clear hK K)
      refine wpStageN_nil ?_
      intro Wx hx
      rw [hCC.out] at hx
      obtain rfl : Wx = V2.drew := hx
      clear q0 q1 q2 ql y2 n0 hu hCC
      have hfd := find_calls _ hC2.out
      unfold findP at hfd
      replace hwh := Lib.hid hwh
      cases hfs : findS b.n c.sl c.hand with
      | none =>
        rw [hfs] at hfd hr2
        simp only at hfd hr2
        subst hr2
        replace hfd := Lib.hid hfd
        go_wp2_with fail
        refine hfd.out.mono ?_
        rintro e V4 ⟨⟨rfl, hcv⟩, hch⟩
        replace hcv := Lib.hid hcv
        have hG4 := Lib.hid (hG2.out.trans hch)
        clear hch
        go_wp2_with fail
        go_ret2
        exact ⟨rfl, hcv.out, hG4.out⟩
      | some r3 =>
        obtain ⟨i, g, k⟩ := r3
        rw [hfs] at hfd hr2
        simp only at hfd hr2
        obtain ⟨hi, hkn, hsb, hpin⟩ := findS_res (by have := hC2.out.n1; omega) hC2.out.hand hfs
        replace hfd := Lib.hid hfd
        replace hr2 := Lib.hid hr2
        replace hsb := Lib.hid hsb
        replace hpin := Lib.hid hpin
        have hiz : (i : Int) < (b.n : Int) := by omega
        have hi0 : decide ((i : Int) < 0) = false := by simp
        go_wp2_with fail
        refine hfd.out.mono ?_
        rintro e V4 ⟨⟨rfl, hcv⟩, hch⟩
        have hG4 := Lib.hid (hG2.out.trans hch)
        have hs4 := Lib.hid (hch.blk hs2.out (by simp [chA]))
        obtain ⟨hv1, hv2, hv3⟩ := hcv.vOf hi
        have hcl := clean_calls i (vOf c i) V4 hcv hi hv1 ⟨hv2, hv3⟩ (Nat.le_trans hc (by omega)) (Nat.le_trans hk (by omega))
        clear hch hcv hv1 hv2 hv3 hfs
        have hcw : (cleanS fail stop { c with sl := g, hand := k } i (vOf c i)).2.wh (sx, sy, sz) = none ∧ (cleanS fail stop { c with sl := g, hand := k } i (vOf c i)).2.calls.length ≤ 90001 ∧ (cleanS fail stop { c with sl := g, hand := k } i (vOf c i)).2.kept.length ≤ 90001 := by
          unfold cleanS
          split
          · refine ⟨hwh.out, by simp; omega, ?_⟩
            show (if badB fail stop c.calls.length = true then c.kept else c.kept ++ [((g i).sp, vOf c i)]).length ≤ 90001
            split
            · omega
            · simp; omega
          · exact ⟨hwh.out, by show c.calls.length ≤ 90001; omega, by show c.kept.length ≤ 90001; omega⟩
        have hr4 := hr2.out
        obtain ⟨⟨er, cE⟩, hcE⟩ : ∃ p, cleanS fail stop { c with sl := g, hand := k } i (vOf c i) = p := ⟨_, rfl⟩
        rw [hcE] at hcl hcw hr4
        simp only at hcl hcw
        obtain ⟨hw5, hl5, hk5⟩ := hcw
        unfold getT at hr4
        simp only at hr4
        clear hr2
        replace hcE := Lib.hid hcE
        replace hcl := Lib.hid hcl
        replace hw5 := Lib.hid hw5
        go_wp2_with fail
        refine hcl.out.mono ?_
        rintro e V5 ⟨rfl, hcv, hch⟩
        have hG5 := Lib.hid (hG4.out.trans hch)
        have hs5 := Lib.hid (hch.blk hs4.out (by simp [chA]))
        clear hch hcl hG4 hs4 hG2 hs2
        by_cases hz : er = 0
        · subst hz
          rw [if_pos rfl] at hr4
          have a := hcv.cells hi
          obtain ⟨a0, a1, a2, a3, a4, a5, a6⟩ := a
          have c1 := hcv.cache.cell 1 rfl
          cases hful : (cE.sl i).full with
          | false =>
            rw [hful, if_neg (by simp)] at hr4
            rw [hful] at a3
            have hT := Lib.hid hcv
            have hsT := hs5
            have hGT := hG5
            have hfT := Lib.hid hful
            have hwT := hw5
            clear a0 a1 a2 a4 a5 a6 hful hcv hs5 hG5
            obtain ⟨K0, hK0, hm0⟩ := hT.out.map
            have hc4 := hT.out.cache
            have c4 := hT.out.cache.cell 4 rfl
            have hbw5 := hT.out.below.size
            have hs6 := hsT.out.drew
            have z0 := hs6.cell 0 rfl
            have z1 := hs6.cell 1 rfl
            have z2 := hs6.cell 2 rfl
            have hwv := hT.out.world.keep (Below.refl V5.heap.size V5).drew
            unfold getL at hr4
            cases hbad : badB fail stop cE.calls.length with
            | true =>
              rw [hbad] at hr4
              simp only [if_true, Bool.false_eq_true, if_false] at hr4
              subst hr4
              have hld := wload_bad (sx, sy, sz) V5.drew hwv hbw5 (by omega) hbad
              unfold spV at hld
              replace hld := Lib.hid hld
              replace hbad := Lib.hid hbad
              replace hs6 := Lib.hid hs6
              clear hwv
              go_upto_region 18 with fail
              obtain ⟨CC, hCC⟩ : ∃ C, C = callE V5.drew (fun v V => Wv V w.heap.size b.wb cE.kept (cE.calls ++ [(false, (sx, sy, sz), 0)]) fail stop ∧ Chg w.heap.size chW V5.drew V) := ⟨_, rfl⟩
              have hp0 : ∀ u (p : {w // AnyStage (CC u) 0 w}), p.val = V5.drew := by rw [hCC]; exact fun u => callE_lo
              replace hCC := Lib.hid hCC
              refine wp_region_stageN [1, 1, 1, 0, 0, 1, 1, 1, 1, 1, 1] (C := CC) (V := callV (fun v => v = .tuple #[.pointer none, .int .i64 7])) (N := 1) (by kernel_rfl) (by kernel_rfl) (by kernel_rfl) (by kernel_rfl) (by kernel_rfl) (callV_some ⟨_, rfl⟩) (fun u u' s w h1 h2 => by rw [hCC.out] at *; exact callE_cong u u' s w h1 h2) (fun _ => by rw [hCC.out]; rfl) ?_
              intro u hu
              have e0 : u 0 = .tuple #[.pointer none, .int .i64 7] := hu 0
              have n0 : Nonempty {w // AnyStage (CC u) 0 w} := ⟨⟨V5.drew, 0, by omega, by rw [hCC.out]; rfl⟩⟩
              have n1 : Nonempty {w // AnyStage (CC u) 1 w} := ⟨⟨V5.drew, 0, by omega, by rw [hCC.out]; rfl⟩⟩
              have y4 : ∀ p : {w // AnyStage (CC u) 0 w}, p.val.cell? ⟨b.cb, 4, none⟩ = some (loadF b.wb) := fun p => by rw [hp0 u p, ← hLd.out]; exact c4
              unfold loadF at y4
              have q0 : ∀ p : {w // AnyStage (CC u) 0 w}, p.val.cell? ⟨W.heap.size, 0, none⟩ = some (Value.int .i64 sx) := fun p => by rw [hp0 u p]; exact z0
              have q1 : ∀ p : {w // AnyStage (CC u) 0 w}, p.val.cell? ⟨W.heap.size, 1, none⟩ = some (Value.int .i64 sy) := fun p => by rw [hp0 u p]; exact z1
              have q2 : ∀ p : {w // AnyStage (CC u) 0 w}, p.val.cell? ⟨W.heap.size, 2, none⟩ = some (Value.int .i64 sz) := fun p => by rw [hp0 u p]; exact z2
              clear hp0 c4 z0 z1 z2
              repeat (refine wpStageN_step rfl rfl (fun K hK => ?_); go_simp; refine hK _ ?_; clear hK K)
              refine wpStageN_call rfl rfl (fun Wx hx => ?_) ?_
              · rw [hCC.out] at hx
                obtain rfl : Wx = V5.drew := hx
                unfold callAtU
                go_simp
                refine hld.out.mono ?_
                rintro e V7 ⟨rfl, hwv, hch⟩
                rw [hCC.out]
                exact ⟨_, rfl, rfl, hwv, hch⟩
              rw [e0]
              repeat (refine wpStageN_step rfl rfl (fun K hK => ?_); go_simp; refine hK _ ?_; clear hK K)
              refine wpStageN_nil ?_
              intro V7 hx
              rw [hCC.out] at hx
              obtain ⟨hwv, hch⟩ : _ ∧ Chg w.heap.size chW V5.drew V7 := hx
              have hch0 := (Chg.of_below (B := w.heap.size) (S := chW) (Below.refl V5.heap.size V5).drew).trans hch
              have hC7 := hT.out.chgW hch0 hwv (by simp) hT.out.keptv
              have hG7 := Lib.hid (hGT.out.trans (hch0.mono fun _ _ => chW_A))
              have hs7 := Lib.hid (hch.blk hs6.out (by simp [chW]))
              have hm7 := Lib.hid (hch0.mp hm0 (fun _ _ => by simp [chW]))
              clear hm0 hc4
              clear q0 q1 q2 y4 n0 n1 e0 hu hCC hld hs6 hch hch0 hwv hT hsT hGT
              replace hC7 := Lib.hid hC7
              go_wp2_with fail
              go_ret2
              exact ⟨rfl, hC7.out, hG7.out⟩
            | false =>
              rw [hbad] at hr4
              simp only [if_true, Bool.false_eq_true, if_false] at hr4
              subst hr4
              have hld := wload_ok (sx, sy, sz) V5.drew hwv hbw5 (by omega) (by omega) (fun p hp => by have := hT.out.keptv p hp; omega) hbad
              unfold spV at hld
              replace hld := Lib.hid hld
              replace hbad := Lib.hid hbad
              replace hs6 := Lib.hid hs6
              clear hwv
              go_upto_region 18 with fail
              obtain ⟨CC, hCC⟩ : ∃ C, C = callE V5.drew (fun v V => (∃ xb, v = .tuple #[.pointer (some ⟨xb, 0, none⟩), .int .i64 0] ∧ Ck V xb (updP zeroP 5 (cellV (valK cE.kept (sx, sy, sz)))) zeroP (.slice none 0 0)) ∧ Wv V w.heap.size b.wb cE.kept (cE.calls ++ [(false, (sx, sy, sz), 0)]) fail stop ∧ Chg w.heap.size chW V5.drew V) := ⟨_, rfl⟩
              have hp0 : ∀ u (p : {w // AnyStage (CC u) 0 w}), p.val = V5.drew := by rw [hCC]; exact fun u => callE_lo
              replace hCC := Lib.hid hCC
              refine wp_region_stageN [1, 1, 1, 0, 0, 1, 1, 1, 1, 1, 1] (C := CC) (V := callV (fun v => ∃ xb, v = .tuple #[.pointer (some ⟨xb, 0, none⟩), .int .i64 0])) (N := 1) (by kernel_rfl) (by kernel_rfl) (by kernel_rfl) (by kernel_rfl) (by kernel_rfl) (callV_some ⟨_, 0, rfl⟩) (fun u u' s w h1 h2 => by rw [hCC.out] at *; exact callE_cong u u' s w h1 h2) (fun _ => by rw [hCC.out]; rfl) ?_
              intro u hu
              obtain ⟨xb, e0⟩ : ∃ xb, u 0 = .tuple #[.pointer (some ⟨xb, 0, none⟩), .int .i64 0] := hu 0
              have n0 : Nonempty {w // AnyStage (CC u) 0 w} := ⟨⟨V5.drew, 0, by omega, by rw [hCC.out]; rfl⟩⟩
              have n1 : Nonempty {w // AnyStage (CC u) 1 w} := ⟨⟨V5.drew, 0, by omega, by rw [hCC.out]; rfl⟩⟩
              have y4 : ∀ p : {w // AnyStage (CC u) 0 w}, p.val.cell? ⟨b.cb, 4, none⟩ = some (loadF b.wb) := fun p => by rw [hp0 u p, ← hLd.out]; exact c4
              unfold loadF at y4
              have q0 : ∀ p : {w // AnyStage (CC u) 0 w}, p.val.cell? ⟨W.heap.size, 0, none⟩ = some (Value.int .i64 sx) := fun p => by rw [hp0 u p]; exact z0
              have q1 : ∀ p : {w // AnyStage (CC u) 0 w}, p.val.cell? ⟨W.heap.size, 1, none⟩ = some (Value.int .i64 sy) := fun p => by rw [hp0 u p]; exact z1
              have q2 : ∀ p : {w // AnyStage (CC u) 0 w}, p.val.cell? ⟨W.heap.size, 2, none⟩ = some (Value.int .i64 sz) := fun p => by rw [hp0 u p]; exact z2
              clear hp0 c4 z0 z1 z2
              repeat (refine wpStageN_step rfl rfl (fun K hK => ?_); go_simp; refine hK _ ?_; clear hK K)
              refine wpStageN_call rfl rfl (fun Wx hx => ?_) ?_
              · rw [hCC.out] at hx
                obtain rfl : Wx = V5.drew := hx
                unfold callAtU
                go_simp
                refine hld.out.mono ?_
                rintro e V7 ⟨⟨xb, rfl, _, hck⟩, hwv, hch⟩
                rw [hCC.out]
                exact ⟨_, rfl, ⟨xb, rfl⟩, ⟨xb, rfl, hck⟩, hwv, hch⟩
              rw [e0]
              repeat (refine wpStageN_step rfl rfl (fun K hK => ?_); go_simp; refine hK _ ?_; clear hK K)
              refine wpStageN_nil ?_
              intro V7 hx
              rw [hCC.out] at hx
              obtain ⟨⟨xb', ex, hck⟩, hwv, hch⟩ : (∃ xb', u 0 = .tuple #[.pointer (some ⟨xb', 0, none⟩), .int .i64 0] ∧ Ck V7 xb' (updP zeroP 5 (cellV (valK cE.kept (sx, sy, sz)))) zeroP (.slice none 0 0)) ∧ Wv V7 w.heap.size b.wb cE.kept (cE.calls ++ [(false, (sx, sy, sz), 0)]) fail stop ∧ Chg w.heap.size chW V5.drew V7 := hx
              rw [e0] at ex
              simp at ex
              subst ex
              have hch0 := (Chg.of_below (B := w.heap.size) (S := chW) (Below.refl V5.heap.size V5).drew).trans hch
              have hC7 := hT.out.chgW hch0 hwv (by simp) hT.out.keptv
              have hG7 := Lib.hid (hGT.out.trans (hch0.mono fun _ _ => chW_A))
              have hs7 := Lib.hid (hch.blk hs6.out (by simp [chW]))
              have hm7 := Lib.hid (hch0.mp hm0 (fun _ _ => by simp [chW]))
              clear hm0 hc4
              clear q0 q1 q2 y4 n0 n1 e0 hu hCC hld hs6 hch hch0 hwv hT hsT hGT
              have hpl := hC7.load hi hck
              have c0 := hC7.cache.cell 0 rfl
              have hsl := hC7.chgA
              have hlsl : w.heap.size ≤ b.slab := hC7.pool.elim fun _ h => h.elim fun _ h => h.elim fun _ h => h.2.2.1
              replace hpl := Lib.hid hpl
              replace hsl := Lib.hid hsl
              replace hC7 := Lib.hid hC7
              clear hck
              go_wp2_with fail
              refine hpl.out.mono ?_
              rintro e V8 ⟨rfl, hC8, hbs⟩
              have hG8 := Lib.hid (hG7.out.trans ((Chg.refl _ _ _).but hbs hlsl fun o ho => hsl.out _ o ho (.inr (.inr (.inr rfl)))))
              have hs8 := Lib.hid (((Chg.refl w.heap.size chA V7).but hbs hlsl fun o ho => hsl.out _ o ho (.inr (.inr (.inr rfl)))).blk hs7.out (by simp [chA]))
              have hm8 := Lib.hid (hm7.out.but hbs (hC7.out.pool.elim fun _ h => h.elim fun _ h => h.elim fun _ h => h.1.slab.lt'.elim fun _ k => hm7.out.neB k))
              clear hbs hpl hsl c0 hG7 hs7 hC7 hm7
              have hC9 := hC8.keep (Below.refl V8.heap.size V8).drew
              have c1 := hC9.cache.cell 1 rfl
              obtain ⟨a0, a1, a2, a3, a4, a5, a6⟩ := hC8.cells hi
              have fr := hC8.slots.frozen
              have hsbl := hC8.slots.lt
              clear hC8
              have hs9 := hs8.out.drew
              obtain ⟨csl, ksl⟩ := hC9.slots.lt'
              have hbu9 := set7_but V8.drew b.sb (i * 7) ⟨(sx, sy, sz), true, false, true, 0⟩
              have hs9' := hs9.but hbu9 (hs9.neT ksl (by decide))
              have ca9 := hC9.cache.but hbu9 (hC9.cache.neT ksl (by decide))
              have c1' := ca9.cell 1 rfl
              have hG9 := Lib.hid ((hG8.out.below (Below.refl V8.heap.size V8).drew).trans ((Chg.refl _ _ _).but hbu9 hC9.ls fun o ho => hC9.chgA _ o ho (.inr (.inl rfl))))
              have fr0 := fr (i * 7)
              have fr1 := fr (i * 7 + 1)
              have fr2 := fr (i * 7 + 2)
              have fr3 := fr (i * 7 + 3)
              have fr4 := fr (i * 7 + 4)
              have fr5 := fr (i * 7 + 5)
              have fr6 := fr (i * 7 + 6)
              clear fr ksl
              obtain ⟨V9, hV9⟩ : ∃ V9, set7 V8.drew b.sb (i * 7) ⟨(sx, sy, sz), true, false, true, 0⟩ = V9 := ⟨_, rfl⟩
              have hV9' := hV9
              unfold set7 at hV9'
              simp only at hV9'
              rw [hV9] at hs9' ca9 c1' hG9 hbu9
              have hE : Hid (Cv w V8.drew b (loadS { cE with calls := cE.calls ++ [(false, (sx, sy, sz), 0)] } i (sx, sy, sz)) fail stop) := hC9
              clear hC9
              replace hs9 := Lib.hid hs9
              replace ca9 := Lib.hid ca9
              replace hs9' := Lib.hid hs9'
              replace hV9 := Lib.hid hV9
              replace hbu9 := Lib.hid hbu9
              go_upto_region 24 with fail
              obtain ⟨CC, hCC⟩ : ∃ C, C = oneE V8.drew V9 := ⟨_, rfl⟩
              have y1 : ∀ u (p : {w // AnyStage (CC u) 1 w}), p.val.cell? ⟨b.cb, 1, none⟩ = some (Value.slice (some ⟨b.sb, 0, none⟩) b.n b.n) := by rw [hCC]; exact fun u => oneE_all (I := fun W => W.cell? ⟨b.cb, 1, none⟩ = some (Value.slice (some ⟨b.sb, 0, none⟩) b.n b.n)) (w0 := V8.drew) c1 c1'
              have ys : ∀ u (p : {w // AnyStage (CC u) 1 w}), Blk p.val W.heap.size [.int .i64 sx, .int .i64 sy, .int .i64 sz] 23 := by rw [hCC]; exact fun u => oneE_all (I := fun V => Blk V W.heap.size [.int .i64 sx, .int .i64 sy, .int .i64 sz] 23) (w0 := V8.drew) hs9.out hs9'.out
              replace hCC := Lib.hid hCC
              replace ys := Lib.hid ys
              clear c1 c1'
              refine wp_region_stageN [1, 1, 1, 1, 1, 1, 1, 1, 1] (C := CC) (V := fun _ _ => True) (N := 1) (by kernel_rfl) (by kernel_rfl) (by kernel_rfl) (by kernel_rfl) (by kernel_rfl) (fun _ => ⟨undef, trivial⟩) (fun u u' s w h1 h2 => by rw [hCC.out] at *; exact h2) (fun _ => by rw [hCC.out]; rfl) ?_
              intro u hu
              have n1 : Nonempty {w // AnyStage (CC u) 1 w} := ⟨⟨V8.drew, 0, by omega, by rw [hCC.out]; rfl⟩⟩
              have y1' := y1 u
              clear y1
              have q0 : ∀ p : {w // AnyStage (CC u) 1 w}, p.val.cell? ⟨W.heap.size, 0, none⟩ = some (Value.int .i64 sx) := fun p => (ys.out u p).cell 0 rfl
              have q1 : ∀ p : {w // AnyStage (CC u) 1 w}, p.val.cell? ⟨W.heap.size, 1, none⟩ = some (Value.int .i64 sy) := fun p => (ys.out u p).cell 1 rfl
              have q2 : ∀ p : {w // AnyStage (CC u) 1 w}, p.val.cell? ⟨W.heap.size, 2, none⟩ = some (Value.int .i64 sz) := fun p => (ys.out u p).cell 2 rfl
              repeat (refine wpStageN_step rfl rfl (fun K hK => ?_); go_simp; refine hK _ ?_; clear hK K)
              refine wpStageN_call rfl rfl (fun Wx hx => ?_) ?_
              · rw [hCC.out] at hx
                obtain rfl : Wx = V8.drew := hx
                unfold callAtU
                go_simp
                rw [hCC.out]
                show _ = V9
                simp only [drew_in]
                exact hV9'
              refine wpStageN_nil ?_
              intro Wx hx
              rw [hCC.out] at hx
              obtain rfl : Wx = V9 := hx
              clear q0 q1 q2 y1' n1 hu hCC ys a0 a1 a2 a3 a4 a5 a6 fr0 fr1 fr2 fr3 fr4 fr5 fr6 hsbl hV9' hs9 hG8 hs8
              have hs10 := hs9'.out.drew
              have ca10 := ca9.out.drew
              have c2 := ca10.cell 2 rfl
              obtain ⟨csl, ksl⟩ := hE.out.slots.lt'
              have hm8d := hm8.out.keep (Below.refl V8.heap.size V8).drew
              have hmp9 := (hm8d.but hbu9.out (hm8d.neB ksl)).keep (Below.refl Wx.heap.size Wx).drew
              obtain ⟨V10, hrun, hmp10, hbu10⟩ := hmp9.put (by unfold maxLen; omega) hsk (i := i) (wf_small (by omega))
              unfold spV at hrun
              have hs10' := hs10.but hbu10 (fun e => hmp9.neB hs10 e.symm)
              have ca10' := ca10.but hbu10 (fun e => hmp9.neB ca10 e.symm)
              have c2' := ca10'.cell 2 rfl
              have hbuX := (But.of_below (b := b.mb) (Below.refl Wx.heap.size Wx).drew).trans hbu10
              have hFin := hE.out.enter (s := (sx, sy, sz)) (V := V10) hi hfT.out hwT.out hsk (by rw [hV9.out]; exact hbuX) (K := K0 + 1) (by show K0 + 1 ≤ (cE.calls ++ [(false, (sx, sy, sz), (0 : Int))]).length; simp; omega) hmp10
              have hGF := Lib.hid ((hG9.out.below (Below.refl Wx.heap.size Wx).drew).trans ((Chg.refl _ _ _).but hbu10 hE.out.lm fun o ho => by
                obtain ⟨D, ⟨es, cl, hb, _⟩, _⟩ := hmp9
                rw [hb] at ho
                cases ho
                simp [chA, hE.out.nx.2.2.1]))
              replace hFin := Lib.hid hFin
              clear ksl hm8d hmp9 hmp10 hbuX hm8
              replace hs10 := Lib.hid hs10
              replace hs10' := Lib.hid hs10'
              replace ca10 := Lib.hid ca10
              replace ca10' := Lib.hid ca10'
              replace hbu10 := Lib.hid hbu10
              go_upto_region 25 with fail
              obtain ⟨CC, hCC⟩ : ∃ C, C = oneE Wx.drew V10 := ⟨_, rfl⟩
              have y2 : ∀ u (p : {w // AnyStage (CC u) 1 w}), p.val.cell? ⟨b.cb, 2, none⟩ = some (Value.map (some b.mb)) := by rw [hCC]; exact fun u => oneE_all (I := fun W => W.cell? ⟨b.cb, 2, none⟩ = some (Value.map (some b.mb))) (w0 := Wx.drew) c2 c2'
              have ys : ∀ u (p : {w // AnyStage (CC u) 1 w}), Blk p.val W.heap.size [.int .i64 sx, .int .i64 sy, .int .i64 sz] 23 := by rw [hCC]; exact fun u => oneE_all (I := fun V => Blk V W.heap.size [.int .i64 sx, .int .i64 sy, .int .i64 sz] 23) (w0 := Wx.drew) hs10.out hs10'.out
              replace hCC := Lib.hid hCC
              replace ys := Lib.hid ys
              clear c2 c2'
              refine wp_region_stageN [1, 1, 1, 1, 1, 1, 1] (C := CC) (V := fun _ _ => True) (N := 1) (by kernel_rfl) (by kernel_rfl) (by kernel_rfl) (by kernel_rfl) (by kernel_rfl) (fun _ => ⟨undef, trivial⟩) (fun u u' s w h1 h2 => by rw [hCC.out] at *; exact h2) (fun _ => by rw [hCC.out]; rfl) ?_
              intro u hu
              have n1 : Nonempty {w // AnyStage (CC u) 1 w} := ⟨⟨Wx.drew, 0, by omega, by rw [hCC.out]; rfl⟩⟩
              have y2' := y2 u
              clear y2
              have q0 : ∀ p : {w // AnyStage (CC u) 1 w}, p.val.cell? ⟨W.heap.size, 0, none⟩ = some (Value.int .i64 sx) := fun p => (ys.out u p).cell 0 rfl
              have q1 : ∀ p : {w // AnyStage (CC u) 1 w}, p.val.cell? ⟨W.heap.size, 1, none⟩ = some (Value.int .i64 sy) := fun p => (ys.out u p).cell 1 rfl
              have q2 : ∀ p : {w // AnyStage (CC u) 1 w}, p.val.cell? ⟨W.heap.size, 2, none⟩ = some (Value.int .i64 sz) := fun p => (ys.out u p).cell 2 rfl
              repeat (refine wpStageN_step rfl rfl (fun K hK => ?_); go_simp; refine hK _ ?_; clear hK K)
              refine wpStageN_call rfl rfl (fun Wy hy => ?_) ?_
              · rw [hCC.out] at hy
                obtain rfl : Wy = Wx.drew := hy
                refine callAtU_put (.tmp 107) (.tmp 108) (.tmp 109) 61 rfl rfl rfl rfl hrun ?_
                rw [hCC.out]
                exact ⟨trivial, rfl⟩
              refine wpStageN_nil ?_
              intro Wy hy
              rw [hCC.out] at hy
              obtain rfl : Wy = V10 := hy
              clear q0 q1 q2 y2' n1 hu hCC ys hrun
              go_wp2_with fail
              go_ret2
              exact ⟨rfl, hFin.out, hGF.out⟩
          | true =>
            rw [hful, if_pos rfl] at hr4
            rw [hful] at a3
            have hspk := hcv.spOk i hful
            have hcvD := hcv.keep (Below.refl V5.heap.size V5).drew
            obtain ⟨K0, hK0, hm0⟩ := hcvD.map
            have hm0' := hm0
            obtain ⟨Vd, hrun, hmd, hbd⟩ := hm0.drop hspk 0
            have hE := hcvD.evict hi hful hbd hK0 hmd
            obtain ⟨csl, ksl⟩ := hcvD.slots.lt'
            have hmsb := hm0'.neB ksl
            have hmcb := hm0'.neB hcvD.cache
            have hsB := hs5.out.drew
            have hms := hm0'.neB hsB
            have hfro := (hcvD.slots.but hbd hmsb.symm).frozen
            have hltd := (hcvD.slots.but hbd hmsb.symm).lt
            have hbu7 := set7_but Vd b.sb (i * 7) slZ
            have hsd := hsB.but hbd (fun e => hms e.symm)
            have hksd : ∃ cs, Blk Vd b.sb cs 94 := (hcvD.slots.but hbd hmsb.symm).lt'
            have hsT := Lib.hid (hsd.but hbu7 (hksd.elim fun _ k => hsd.neT k (by decide)))
            have hGT := Lib.hid (((hG5.out.below (Below.refl V5.heap.size V5).drew).trans ((Chg.refl _ _ _).but hbd hcvD.lm fun o ho => hcvD.chgA _ o ho (.inr (.inr (.inl rfl))))).trans ((Chg.refl _ _ _).but hbu7 hcvD.ls fun o ho => by
              obtain ⟨cs, k⟩ := hksd
              unfold Blk at k
              rw [k] at ho
              cases ho
              simp [chA, hcvD.nx.2.1]))
            obtain ⟨⟨px, py, pz⟩, hsp⟩ : ∃ s, (cE.sl i).sp = s := ⟨_, rfl⟩
            rw [hsp] at hrun a0 a1 a2
            simp only at a0 a1 a2
            unfold spV at hrun
            have c2 := hcv.cache.cell 2 rfl
            have hcell : ∀ V, But b.mb V5.drew V → V.cell? ⟨b.cb, 1, none⟩ = some (.slice (some ⟨b.sb, 0, none⟩) b.n b.n) ∧ V.cell? ⟨b.cb, 2, none⟩ = some (.map (some b.mb)) ∧ V.cell? ⟨b.sb, i * 7, none⟩ = some (.int .i64 px) ∧ V.cell? ⟨b.sb, i * 7 + 1, none⟩ = some (.int .i64 py) ∧ V.cell? ⟨b.sb, i * 7 + 2, none⟩ = some (.int .i64 pz) ∧ V.cell? ⟨b.sb, i * 7 + 3, none⟩ = some (.bool true) ∧ V.cell? ⟨b.sb, i * 7 + 4, none⟩ = some (.bool (cE.sl i).dirty) ∧ V.cell? ⟨b.sb, i * 7 + 5, none⟩ = some (.bool (cE.sl i).mark) ∧ V.cell? ⟨b.sb, i * 7 + 6, none⟩ = some (.int .i64 (cE.sl i).pins) := fun V hb => by
              have k1 : ∀ o v, V5.cell? ⟨b.cb, o, none⟩ = some v → V.cell? ⟨b.cb, o, none⟩ = some v := fun o v h => (World.cell?_of_block (a := ⟨b.cb, o, none⟩) (hb.block b.cb (World.block_lt_of_cell? V5.drew _ h) hmcb.symm)).trans h
              have k2 : ∀ o v, V5.cell? ⟨b.sb, o, none⟩ = some v → V.cell? ⟨b.sb, o, none⟩ = some v := fun o v h => (World.cell?_of_block (a := ⟨b.sb, o, none⟩) (hb.block b.sb (World.block_lt_of_cell? V5.drew _ h) hmsb.symm)).trans h
              exact ⟨k1 _ _ c1, k1 _ _ c2, k2 _ _ a0, k2 _ _ a1, k2 _ _ a2, k2 _ _ a3, k2 _ _ a4, k2 _ _ a5, k2 _ _ a6⟩
            have hfT : Hid (((evictS cE i).sl i).full = false) := Lib.hid (by unfold evictS; simp only; rw [updS_same]; rfl)
            have hwT : Hid ((evictS cE i).wh (sx, sy, sz) = none) := Lib.hid (by unfold evictS setM; simp only; split <;> first | rfl | exact hw5.out)
            have hl6 : (evictS cE i).calls.length ≤ 90001 := hl5
            have hk6 : (evictS cE i).kept.length ≤ 90001 := hk5
            replace hcell := Lib.hid hcell
            replace hbd := Lib.hid hbd
            replace hE := Lib.hid hE
            clear hcv hcvD hm0 hm0' hmd hmsb hmcb hsB hms hbu7 hsd hksd ksl hspk hsp hful hs5 hG5 c2 a0 a1 a2 a4 a5 a6
            go_upto_region 16 with fail
            obtain ⟨CC, hCC⟩ : ∃ C, C = oneE V5.drew Vd := ⟨_, rfl⟩
            have hbt : ∀ u (p : {w // AnyStage (CC u) 1 w}), But b.mb V5.drew p.val := by rw [hCC]; exact fun u => oneE_all (I := fun W => But b.mb V5.drew W) (w0 := V5.drew) (But.refl _ _) hbd.out
            replace hCC := Lib.hid hCC
            clear c1 a3
            refine wp_region_stageN [1, 1, 1, 1, 1, 1, 1, 1, 1, 1, 1, 1, 1] (C := CC) (V := fun _ _ => True) (N := 1) (by kernel_rfl) (by kernel_rfl) (by kernel_rfl) (by kernel_rfl) (by kernel_rfl) (fun _ => ⟨undef, trivial⟩) (fun u u' s w h1 h2 => by rw [hCC.out] at *; exact h2) (fun _ => by rw [hCC.out]; rfl) ?_
            intro u hu
            have n1 : Nonempty {w // AnyStage (CC u) 1 w} := ⟨⟨V5.drew, 0, by omega, by rw [hCC.out]; rfl⟩⟩
            have y1 : ∀ p : {w // AnyStage (CC u) 1 w}, p.val.cell? ⟨b.cb, 1, none⟩ = some (.slice (some ⟨b.sb, 0, none⟩) b.n b.n) := fun p => (hcell.out _ (hbt u p)).1
            have y2 : ∀ p : {w // AnyStage (CC u) 1 w}, p.val.cell? ⟨b.cb, 2, none⟩ = some (.map (some b.mb)) := fun p => (hcell.out _ (hbt u p)).2.1
            have q0 : ∀ p : {w // AnyStage (CC u) 1 w}, p.val.cell? ⟨b.sb, i * 7, none⟩ = some (.int .i64 px) := fun p => (hcell.out _ (hbt u p)).2.2.1
            have q1 : ∀ p : {w // AnyStage (CC u) 1 w}, p.val.cell? ⟨b.sb, i * 7 + 1, none⟩ = some (.int .i64 py) := fun p => (hcell.out _ (hbt u p)).2.2.2.1
            have q2 : ∀ p : {w // AnyStage (CC u) 1 w}, p.val.cell? ⟨b.sb, i * 7 + 2, none⟩ = some (.int .i64 pz) := fun p => (hcell.out _ (hbt u p)).2.2.2.2.1
            clear hbt
            repeat (refine wpStageN_step rfl rfl (fun K hK => ?_); go_simp; refine hK _ ?_; clear hK K)
            refine wpStageN_call rfl rfl (fun Wx hx => ?_) ?_
            · rw [hCC.out] at hx
              obtain rfl : Wx = V5.drew := hx
              refine callAtU_delete (.tmp 58) (.tmp 66) 61 23 rfl rfl rfl hrun ?_
              rw [hCC.out]
              exact ⟨trivial, rfl⟩
            refine wpStageN_nil ?_
            intro Wx hx
            rw [hCC.out] at hx
            obtain rfl : Wx = Vd := hx
            clear q0 q1 q2 y1 y2 n1 hu hCC hrun
            obtain ⟨c1, _, a0, a1, a2, a3, a4, a5, a6⟩ := hcell.out _ hbd.out
            have fr0 := hfro (i * 7)
            have fr1 := hfro (i * 7 + 1)
            have fr2 := hfro (i * 7 + 2)
            have fr3 := hfro (i * 7 + 3)
            have fr4 := hfro (i * 7 + 4)
            have fr5 := hfro (i * 7 + 5)
            have fr6 := hfro (i * 7 + 6)
            obtain ⟨V6, hV6⟩ : ∃ V6, set7 Wx b.sb (i * 7) slZ = V6 := ⟨_, rfl⟩
            rw [hV6] at hE hsT hGT
            unfold set7 slZ at hV6
            simp only at hV6
            have hT : Hid (Cv w V6 b (evictS cE i) fail stop) := hE
            clear hE hfro hcell hbd
            replace hV6 := Lib.hid hV6
            go_upto_region 18 with fail
            rw [hV6.out]
            clear c1 a0 a1 a2 a3 a4 a5 a6 fr0 fr1 fr2 fr3 fr4 fr5 fr6 hltd hV6
            obtain ⟨K0, hK0, hm0⟩ := hT.out.map
            have hc4 := hT.out.cache
            have c4 := hT.out.cache.cell 4 rfl
            have hbw5 := hT.out.below.size
            have hs6 := hsT.out.drew
            have z0 := hs6.cell 0 rfl
            have z1 := hs6.cell 1 rfl
            have z2 := hs6.cell 2 rfl
            have hwv := hT.out.world.keep (Below.refl V6.heap.size V6).drew
            unfold getL at hr4
            cases hbad : badB fail stop (evictS cE i).calls.length with
            | true =>
              rw [hbad] at hr4
              simp only [if_true, Bool.false_eq_true, if_false] at hr4
              subst hr4
              have hld := wload_bad (sx, sy, sz) V6.drew hwv hbw5 (by omega) hbad
              unfold spV at hld
              replace hld := Lib.hid hld
              replace hbad := Lib.hid hbad
              replace hs6 := Lib.hid hs6
              clear hwv
              go_upto_region 18 with fail
              obtain ⟨CC, hCC⟩ : ∃ C, C = callE V6.drew (fun v V => Wv V w.heap.size b.wb (evictS cE i).kept ((evictS cE i).calls ++ [(false, (sx, sy, sz), 0)]) fail stop ∧ Chg w.heap.size chW V6.drew V) := ⟨_, rfl⟩
              have hp0 : ∀ u (p : {w // AnyStage (CC u) 0 w}), p.val = V6.drew := by rw [hCC]; exact fun u => callE_lo
              replace hCC := Lib.hid hCC
              refine wp_region_stageN [1, 1, 1, 0, 0, 1, 1, 1, 1, 1, 1] (C := CC) (V := callV (fun v => v = .tuple #[.pointer none, .int .i64 7])) (N := 1) (by kernel_rfl) (by kernel_rfl) (by kernel_rfl) (by kernel_rfl) (by kernel_rfl) (callV_some ⟨_, rfl⟩) (fun u u' s w h1 h2 => by rw [hCC.out] at *; exact callE_cong u u' s w h1 h2) (fun _ => by rw [hCC.out]; rfl) ?_
              intro u hu
              have e0 : u 0 = .tuple #[.pointer none, .int .i64 7] := hu 0
              have n0 : Nonempty {w // AnyStage (CC u) 0 w} := ⟨⟨V6.drew, 0, by omega, by rw [hCC.out]; rfl⟩⟩
              have n1 : Nonempty {w // AnyStage (CC u) 1 w} := ⟨⟨V6.drew, 0, by omega, by rw [hCC.out]; rfl⟩⟩
              have y4 : ∀ p : {w // AnyStage (CC u) 0 w}, p.val.cell? ⟨b.cb, 4, none⟩ = some (loadF b.wb) := fun p => by rw [hp0 u p, ← hLd.out]; exact c4
              unfold loadF at y4
              have q0 : ∀ p : {w // AnyStage (CC u) 0 w}, p.val.cell? ⟨W.heap.size, 0, none⟩ = some (Value.int .i64 sx) := fun p => by rw [hp0 u p]; exact z0
              have q1 : ∀ p : {w // AnyStage (CC u) 0 w}, p.val.cell? ⟨W.heap.size, 1, none⟩ = some (Value.int .i64 sy) := fun p => by rw [hp0 u p]; exact z1
              have q2 : ∀ p : {w // AnyStage (CC u) 0 w}, p.val.cell? ⟨W.heap.size, 2, none⟩ = some (Value.int .i64 sz) := fun p => by rw [hp0 u p]; exact z2
              clear hp0 c4 z0 z1 z2
              repeat (refine wpStageN_step rfl rfl (fun K hK => ?_); go_simp; refine hK _ ?_; clear hK K)
              refine wpStageN_call rfl rfl (fun Wx hx => ?_) ?_
              · rw [hCC.out] at hx
                obtain rfl : Wx = V6.drew := hx
                unfold callAtU
                go_simp
                refine hld.out.mono ?_
                rintro e V7 ⟨rfl, hwv, hch⟩
                rw [hCC.out]
                exact ⟨_, rfl, rfl, hwv, hch⟩
              rw [e0]
              repeat (refine wpStageN_step rfl rfl (fun K hK => ?_); go_simp; refine hK _ ?_; clear hK K)
              refine wpStageN_nil ?_
              intro V7 hx
              rw [hCC.out] at hx
              obtain ⟨hwv, hch⟩ : _ ∧ Chg w.heap.size chW V6.drew V7 := hx
              have hch0 := (Chg.of_below (B := w.heap.size) (S := chW) (Below.refl V6.heap.size V6).drew).trans hch
              have hC7 := hT.out.chgW hch0 hwv (by simp) hT.out.keptv
              have hG7 := Lib.hid (hGT.out.trans (hch0.mono fun _ _ => chW_A))
              have hs7 := Lib.hid (hch.blk hs6.out (by simp [chW]))
              have hm7 := Lib.hid (hch0.mp hm0 (fun _ _ => by simp [chW]))
              clear hm0 hc4
              clear q0 q1 q2 y4 n0 n1 e0 hu hCC hld hs6 hch hch0 hwv hT hsT hGT
              replace hC7 := Lib.hid hC7
              go_wp2_with fail
              go_ret2
              exact ⟨rfl, hC7.out, hG7.out⟩
            | false =>
              rw [hbad] at hr4
              simp only [if_true, Bool.false_eq_true, if_false] at hr4
              subst hr4
              have hld := wload_ok (sx, sy, sz) V6.drew hwv hbw5 (by omega) (by omega) (fun p hp => by have := hT.out.keptv p hp; omega) hbad
              unfold spV at hld
              replace hld := Lib.hid hld
              replace hbad := Lib.hid hbad
              replace hs6 := Lib.hid hs6
              clear hwv
              go_upto_region 18 with fail
              obtain ⟨CC, hCC⟩ : ∃ C, C = callE V6.drew (fun v V => (∃ xb, v = .tuple #[.pointer (some ⟨xb, 0, none⟩), .int .i64 0] ∧ Ck V xb (updP zeroP 5 (cellV (valK (evictS cE i).kept (sx, sy, sz)))) zeroP (.slice none 0 0)) ∧ Wv V w.heap.size b.wb (evictS cE i).kept ((evictS cE i).calls ++ [(false, (sx, sy, sz), 0)]) fail stop ∧ Chg w.heap.size chW V6.drew V) := ⟨_, rfl⟩
              have hp0 : ∀ u (p : {w // AnyStage (CC u) 0 w}), p.val = V6.drew := by rw [hCC]; exact fun u => callE_lo
              replace hCC := Lib.hid hCC
              refine wp_region_stageN [1, 1, 1, 0, 0, 1, 1, 1, 1, 1, 1] (C := CC) (V := callV (fun v => ∃ xb, v = .tuple #[.pointer (some ⟨xb, 0, none⟩), .int .i64 0])) (N := 1) (by kernel_rfl) (by kernel_rfl) (by kernel_rfl) (by kernel_rfl) (by kernel_rfl) (callV_some ⟨_, 0, rfl⟩) (fun u u' s w h1 h2 => by rw [hCC.out] at *; exact callE_cong u u' s w h1 h2) (fun _ => by rw [hCC.out]; rfl) ?_
              intro u hu
              obtain ⟨xb, e0⟩ : ∃ xb, u 0 = .tuple #[.pointer (some ⟨xb, 0, none⟩), .int .i64 0] := hu 0
              have n0 : Nonempty {w // AnyStage (CC u) 0 w} := ⟨⟨V6.drew, 0, by omega, by rw [hCC.out]; rfl⟩⟩
              have n1 : Nonempty {w // AnyStage (CC u) 1 w} := ⟨⟨V6.drew, 0, by omega, by rw [hCC.out]; rfl⟩⟩
              have y4 : ∀ p : {w // AnyStage (CC u) 0 w}, p.val.cell? ⟨b.cb, 4, none⟩ = some (loadF b.wb) := fun p => by rw [hp0 u p, ← hLd.out]; exact c4
              unfold loadF at y4
              have q0 : ∀ p : {w // AnyStage (CC u) 0 w}, p.val.cell? ⟨W.heap.size, 0, none⟩ = some (Value.int .i64 sx) := fun p => by rw [hp0 u p]; exact z0
              have q1 : ∀ p : {w // AnyStage (CC u) 0 w}, p.val.cell? ⟨W.heap.size, 1, none⟩ = some (Value.int .i64 sy) := fun p => by rw [hp0 u p]; exact z1
              have q2 : ∀ p : {w // AnyStage (CC u) 0 w}, p.val.cell? ⟨W.heap.size, 2, none⟩ = some (Value.int .i64 sz) := fun p => by rw [hp0 u p]; exact z2
              clear hp0 c4 z0 z1 z2
              repeat (refine wpStageN_step rfl rfl (fun K hK => ?_); go_simp; refine hK _ ?_; clear hK K)
              refine wpStageN_call rfl rfl (fun Wx hx => ?_) ?_
              · rw [hCC.out] at hx
                obtain rfl : Wx = V6.drew := hx
                unfold callAtU
                go_simp
                refine hld.out.mono ?_
                rintro e V7 ⟨⟨xb, rfl, _, hck⟩, hwv, hch⟩
                rw [hCC.out]
                exact ⟨_, rfl, ⟨xb, rfl⟩, ⟨xb, rfl, hck⟩, hwv, hch⟩
              rw [e0]
              repeat (refine wpStageN_step rfl rfl (fun K hK => ?_); go_simp; refine hK _ ?_; clear hK K)
              refine wpStageN_nil ?_
              intro V7 hx
              rw [hCC.out] at hx
              obtain ⟨⟨xb', ex, hck⟩, hwv, hch⟩ : (∃ xb', u 0 = .tuple #[.pointer (some ⟨xb', 0, none⟩), .int .i64 0] ∧ Ck V7 xb' (updP zeroP 5 (cellV (valK (evictS cE i).kept (sx, sy, sz)))) zeroP (.slice none 0 0)) ∧ Wv V7 w.heap.size b.wb (evictS cE i).kept ((evictS cE i).calls ++ [(false, (sx, sy, sz), 0)]) fail stop ∧ Chg w.heap.size chW V6.drew V7 := hx
              rw [e0] at ex
              simp at ex
              subst ex
              have hch0 := (Chg.of_below (B := w.heap.size) (S := chW) (Below.refl V6.heap.size V6).drew).trans hch
              have hC7 := hT.out.chgW hch0 hwv (by simp) hT.out.keptv
              have hG7 := Lib.hid (hGT.out.trans (hch0.mono fun _ _ => chW_A))
              have hs7 := Lib.hid (hch.blk hs6.out (by simp [chW]))
              have hm7 := Lib.hid (hch0.mp hm0 (fun _ _ => by simp [chW]))
              clear hm0 hc4
              clear q0 q1 q2 y4 n0 n1 e0 hu hCC hld hs6 hch hch0 hwv hT hsT hGT
              have hpl := hC7.load hi hck
              have c0 := hC7.cache.cell 0 rfl
              have hsl := hC7.chgA
              have hlsl : w.heap.size ≤ b.slab := hC7.pool.elim fun _ h => h.elim fun _ h => h.elim fun _ h => h.2.2.1
              replace hpl := Lib.hid hpl
              replace hsl := Lib.hid hsl
              replace hC7 := Lib.hid hC7
              clear hck
              go_wp2_with fail
              refine hpl.out.mono ?_
              rintro e V8 ⟨rfl, hC8, hbs⟩
              have hG8 := Lib.hid (hG7.out.trans ((Chg.refl _ _ _).but hbs hlsl fun o ho => hsl.out _ o ho (.inr (.inr (.inr rfl)))))
              have hs8 := Lib.hid (((Chg.refl w.heap.size chA V7).but hbs hlsl fun o ho => hsl.out _ o ho (.inr (.inr (.inr rfl)))).blk hs7.out (by simp [chA]))
              have hm8 := Lib.hid (hm7.out.but hbs (hC7.out.pool.elim fun _ h => h.elim fun _ h => h.elim fun _ h => h.1.slab.lt'.elim fun _ k => hm7.out.neB k))
              clear hbs hpl hsl c0 hG7 hs7 hC7 hm7
              have hC9 := hC8.keep (Below.refl V8.heap.size V8).drew
              have c1 := hC9.cache.cell 1 rfl
              obtain ⟨a0, a1, a2, a3, a4, a5, a6⟩ := hC8.cells hi
              have fr := hC8.slots.frozen
              have hsbl := hC8.slots.lt
              clear hC8
              have hs9 := hs8.out.drew
              obtain ⟨csl, ksl⟩ := hC9.slots.lt'
              have hbu9 := set7_but V8.drew b.sb (i * 7) ⟨(sx, sy, sz), true, false, true, 0⟩
              have hs9' := hs9.but hbu9 (hs9.neT ksl (by decide))
              have ca9 := hC9.cache.but hbu9 (hC9.cache.neT ksl (by decide))
              have c1' := ca9.cell 1 rfl
              have hG9 := Lib.hid ((hG8.out.below (Below.refl V8.heap.size V8).drew).trans ((Chg.refl _ _ _).but hbu9 hC9.ls fun o ho => hC9.chgA _ o ho (.inr (.inl rfl))))
              have fr0 := fr (i * 7)
              have fr1 := fr (i * 7 + 1)
              have fr2 := fr (i * 7 + 2)
              have fr3 := fr (i * 7 + 3)
              have fr4 := fr (i * 7 + 4)
              have fr5 := fr (i * 7 + 5)
              have fr6 := fr (i * 7 + 6)
              clear fr ksl
              obtain ⟨V9, hV9⟩ : ∃ V9, set7 V8.drew b.sb (i * 7) ⟨(sx, sy, sz), true, false, true, 0⟩ = V9 := ⟨_, rfl⟩
              have hV9' := hV9
              unfold set7 at hV9'
              simp only at hV9'
              rw [hV9] at hs9' ca9 c1' hG9 hbu9
              have hE : Hid (Cv w V8.drew b (loadS { (evictS cE i) with calls := (evictS cE i).calls ++ [(false, (sx, sy, sz), 0)] } i (sx, sy, sz)) fail stop) := hC9
              clear hC9
              replace hs9 := Lib.hid hs9
              replace ca9 := Lib.hid ca9
              replace hs9' := Lib.hid hs9'
              replace hV9 := Lib.hid hV9
              replace hbu9 := Lib.hid hbu9
              go_upto_region 24 with fail
              obtain ⟨CC, hCC⟩ : ∃ C, C = oneE V8.drew V9 := ⟨_, rfl⟩
              have y1 : ∀ u (p : {w // AnyStage (CC u) 1 w}), p.val.cell? ⟨b.cb, 1, none⟩ = some (Value.slice (some ⟨b.sb, 0, none⟩) b.n b.n) := by rw [hCC]; exact fun u => oneE_all (I := fun W => W.cell? ⟨b.cb, 1, none⟩ = some (Value.slice (some ⟨b.sb, 0, none⟩) b.n b.n)) (w0 := V8.drew) c1 c1'
              have ys : ∀ u (p : {w // AnyStage (CC u) 1 w}), Blk p.val W.heap.size [.int .i64 sx, .int .i64 sy, .int .i64 sz] 23 := by rw [hCC]; exact fun u => oneE_all (I := fun V => Blk V W.heap.size [.int .i64 sx, .int .i64 sy, .int .i64 sz] 23) (w0 := V8.drew) hs9.out hs9'.out
              replace hCC := Lib.hid hCC
              replace ys := Lib.hid ys
              clear c1 c1'
              refine wp_region_stageN [1, 1, 1, 1, 1, 1, 1, 1, 1] (C := CC) (V := fun _ _ => True) (N := 1) (by kernel_rfl) (by kernel_rfl) (by kernel_rfl) (by kernel_rfl) (by kernel_rfl) (fun _ => ⟨undef, trivial⟩) (fun u u' s w h1 h2 => by rw [hCC.out] at *; exact h2) (fun _ => by rw [hCC.out]; rfl) ?_
              intro u hu
              have n1 : Nonempty {w // AnyStage (CC u) 1 w} := ⟨⟨V8.drew, 0, by omega, by rw [hCC.out]; rfl⟩⟩
              have y1' := y1 u
              clear y1
              have q0 : ∀ p : {w // AnyStage (CC u) 1 w}, p.val.cell? ⟨W.heap.size, 0, none⟩ = some (Value.int .i64 sx) := fun p => (ys.out u p).cell 0 rfl
              have q1 : ∀ p : {w // AnyStage (CC u) 1 w}, p.val.cell? ⟨W.heap.size, 1, none⟩ = some (Value.int .i64 sy) := fun p => (ys.out u p).cell 1 rfl
              have q2 : ∀ p : {w // AnyStage (CC u) 1 w}, p.val.cell? ⟨W.heap.size, 2, none⟩ = some (Value.int .i64 sz) := fun p => (ys.out u p).cell 2 rfl
              repeat (refine wpStageN_step rfl rfl (fun K hK => ?_); go_simp; refine hK _ ?_; clear hK K)
              refine wpStageN_call rfl rfl (fun Wx hx => ?_) ?_
              · rw [hCC.out] at hx
                obtain rfl : Wx = V8.drew := hx
                unfold callAtU
                go_simp
                rw [hCC.out]
                show _ = V9
                simp only [drew_in]
                exact hV9'
              refine wpStageN_nil ?_
              intro Wx hx
              rw [hCC.out] at hx
              obtain rfl : Wx = V9 := hx
              clear q0 q1 q2 y1' n1 hu hCC ys a0 a1 a2 a3 a4 a5 a6 fr0 fr1 fr2 fr3 fr4 fr5 fr6 hsbl hV9' hs9 hG8 hs8
              have hs10 := hs9'.out.drew
              have ca10 := ca9.out.drew
              have c2 := ca10.cell 2 rfl
              obtain ⟨csl, ksl⟩ := hE.out.slots.lt'
              have hm8d := hm8.out.keep (Below.refl V8.heap.size V8).drew
              have hmp9 := (hm8d.but hbu9.out (hm8d.neB ksl)).keep (Below.refl Wx.heap.size Wx).drew
              obtain ⟨V10, hrun, hmp10, hbu10⟩ := hmp9.put (by unfold maxLen; omega) hsk (i := i) (wf_small (by omega))
              unfold spV at hrun
              have hs10' := hs10.but hbu10 (fun e => hmp9.neB hs10 e.symm)
              have ca10' := ca10.but hbu10 (fun e => hmp9.neB ca10 e.symm)
              have c2' := ca10'.cell 2 rfl
              have hbuX := (But.of_below (b := b.mb) (Below.refl Wx.heap.size Wx).drew).trans hbu10
              have hFin := hE.out.enter (s := (sx, sy, sz)) (V := V10) hi hfT.out hwT.out hsk (by rw [hV9.out]; exact hbuX) (K := K0 + 1) (by show K0 + 1 ≤ ((evictS cE i).calls ++ [(false, (sx, sy, sz), (0 : Int))]).length; simp; omega) hmp10
              have hGF := Lib.hid ((hG9.out.below (Below.refl Wx.heap.size Wx).drew).trans ((Chg.refl _ _ _).but hbu10 hE.out.lm fun o ho => by
                obtain ⟨D, ⟨es, cl, hb, _⟩, _⟩ := hmp9
                rw [hb] at ho
                cases ho
                simp [chA, hE.out.nx.2.2.1]))
              replace hFin := Lib.hid hFin
              clear ksl hm8d hmp9 hmp10 hbuX hm8
              replace hs10 := Lib.hid hs10
              replace hs10' := Lib.hid hs10'
              replace ca10 := Lib.hid ca10
              replace ca10' := Lib.hid ca10'
              replace hbu10 := Lib.hid hbu10
              go_upto_region 25 with fail
              obtain ⟨CC, hCC⟩ : ∃ C, C = oneE Wx.drew V10 := ⟨_, rfl⟩
              have y2 : ∀ u (p : {w // AnyStage (CC u) 1 w}), p.val.cell? ⟨b.cb, 2, none⟩ = some (Value.map (some b.mb)) := by rw [hCC]; exact fun u => oneE_all (I := fun W => W.cell? ⟨b.cb, 2, none⟩ = some (Value.map (some b.mb))) (w0 := Wx.drew) c2 c2'
              have ys : ∀ u (p : {w // AnyStage (CC u) 1 w}), Blk p.val W.heap.size [.int .i64 sx, .int .i64 sy, .int .i64 sz] 23 := by rw [hCC]; exact fun u => oneE_all (I := fun V => Blk V W.heap.size [.int .i64 sx, .int .i64 sy, .int .i64 sz] 23) (w0 := Wx.drew) hs10.out hs10'.out
              replace hCC := Lib.hid hCC
              replace ys := Lib.hid ys
              clear c2 c2'
              refine wp_region_stageN [1, 1, 1, 1, 1, 1, 1] (C := CC) (V := fun _ _ => True) (N := 1) (by kernel_rfl) (by kernel_rfl) (by kernel_rfl) (by kernel_rfl) (by kernel_rfl) (fun _ => ⟨undef, trivial⟩) (fun u u' s w h1 h2 => by rw [hCC.out] at *; exact h2) (fun _ => by rw [hCC.out]; rfl) ?_
              intro u hu
              have n1 : Nonempty {w // AnyStage (CC u) 1 w} := ⟨⟨Wx.drew, 0, by omega, by rw [hCC.out]; rfl⟩⟩
              have y2' := y2 u
              clear y2
              have q0 : ∀ p : {w // AnyStage (CC u) 1 w}, p.val.cell? ⟨W.heap.size, 0, none⟩ = some (Value.int .i64 sx) := fun p => (ys.out u p).cell 0 rfl
              have q1 : ∀ p : {w // AnyStage (CC u) 1 w}, p.val.cell? ⟨W.heap.size, 1, none⟩ = some (Value.int .i64 sy) := fun p => (ys.out u p).cell 1 rfl
              have q2 : ∀ p : {w // AnyStage (CC u) 1 w}, p.val.cell? ⟨W.heap.size, 2, none⟩ = some (Value.int .i64 sz) := fun p => (ys.out u p).cell 2 rfl
              repeat (refine wpStageN_step rfl rfl (fun K hK => ?_); go_simp; refine hK _ ?_; clear hK K)
              refine wpStageN_call rfl rfl (fun Wy hy => ?_) ?_
              · rw [hCC.out] at hy
                obtain rfl : Wy = Wx.drew := hy
                refine callAtU_put (.tmp 107) (.tmp 108) (.tmp 109) 61 rfl rfl rfl rfl hrun ?_
                rw [hCC.out]
                exact ⟨trivial, rfl⟩
              refine wpStageN_nil ?_
              intro Wy hy
              rw [hCC.out] at hy
              obtain rfl : Wy = V10 := hy
              clear q0 q1 q2 y2' n1 hu hCC ys hrun
              go_wp2_with fail
              go_ret2
              exact ⟨rfl, hFin.out, hGF.out⟩
        · rw [if_neg hz] at hr4
          subst hr4
          have hne : (er != 0) = true := by simp [hz]
          replace hcv := Lib.hid hcv
          clear hz
          go_wp2_with fail
          go_ret2
          exact ⟨rfl, hcv.out, hG5.out⟩
end
end Go.Proofs.Ytpdckjbknphelaa
