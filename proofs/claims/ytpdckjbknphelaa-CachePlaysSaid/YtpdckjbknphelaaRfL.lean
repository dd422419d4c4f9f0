/-
  One call of both caches.
-/
import Derived.Test.YtpdckjbknphelaaMg46
namespace Go.Proofs.Ytpdckjbknphelaa
open Go.RowKit
set_option linter.unusedSimpArgs false
set_option linter.unusedVariables false
section
variable {w W W' : World} {b : Bc} {r : Rb} {c c1 c2 : Cs} {fail stop : Int}
theorem dirt_same {i : Nat} {s : Sp} {v : Int} (h : c.wh s = some i) : dirtyS (setV c i v) s = dirtV c s v := by
  unfold dirtyS dirtV
  rw [show (setV c i v).wh s = some i from h, h]
  rfl
theorem dirt_was {i : Nat} {s : Sp} (h : c.wh s = some i) (hv : c.ce (i * 4096 + 5) = cellV (vOf c i)) : dirtyS c s = dirtV c s (vOf c i) := by
  have : setV c i (vOf c i) = c := by
    unfold setV
    rw [← hv]
    have : updP c.ce (i * 4096 + 5) (c.ce (i * 4096 + 5)) = c.ce := by
      funext j
      unfold updP
      split
      · rename_i e; rw [e]
      · rfl
    rw [this]
  rw [← dirt_same h, this]
theorem dirt_none {s : Sp} {v : Int} (h : c.wh s = none) : dirtyS c s = dirtV c s v := by
  unfold dirtyS dirtV
  rw [h]
theorem pl_dirt {n k : Nat} {s : Sp} {v : Int} (hw : Wl n c) (h : Pl k c) : Pl (k + 1) (dirtV c s v).2 := by
  have hc := h.calls
  have hk := h.kept
  unfold dirtV
  cases hwh : c.wh s with
  | none => exact h.mono (by omega)
  | some i =>
    refine ⟨emp_upd h.emp (fun hf => ?_), pins_upd (fun j => by have := h.pins j; omega) (by have := h.pins i; simp; omega), ?_, ?_⟩
    · have : (c.sl i).full = false := hf
      rw [((hw.wh s i).1 hwh).2.1] at this; cases this
    · show c.calls.length ≤ _; omega
    · show c.kept.length ≤ _; omega
theorem pl_pin {n k : Nat} {s : Sp} (hw : Wl n c) (h : Pl k c) : Pl (k + 1) (pinS c s).2 := by
  have hc := h.calls
  have hk := h.kept
  unfold pinS
  cases hwh : c.wh s with
  | none => exact h.mono (by omega)
  | some i =>
    refine ⟨emp_upd h.emp (fun hf => ?_), pins_upd (fun j => by have := h.pins j; omega) (by have := h.pins i; simp; omega), ?_, ?_⟩
    · have : (c.sl i).full = false := hf
      rw [((hw.wh s i).1 hwh).2.1] at this; cases this
    · show c.calls.length ≤ _; omega
    · show c.kept.length ≤ _; omega
theorem pl_unpin {n k : Nat} {s : Sp} (hw : Wl n c) (h : Pl k c) : Pl (k + 1) (unpinS c s).2 := by
  have hc := h.calls
  have hk := h.kept
  unfold unpinS
  cases hwh : c.wh s with
  | none => exact h.mono (by omega)
  | some i =>
    simp only
    split
    · exact h.mono (by omega)
    · rename_i hne
      refine ⟨emp_upd h.emp (fun hf => ?_), pins_upd (fun j => by have := h.pins j; omega) (by have := h.pins i; simp; omega), ?_, ?_⟩
      · have : (c.sl i).full = false := hf
        rw [((hw.wh s i).1 hwh).2.1] at this; cases this
      · show c.calls.length ≤ _; omega
      · show c.kept.length ≤ _; omega
theorem pl_flushL {k : Nat} : ∀ (l : List Sp) (c : Cs), Emp c → (∀ j, 0 ≤ (c.sl j).pins ∧ (c.sl j).pins ≤ (k : Int)) → Emp (flushL fail stop l c).2 ∧ (∀ j, 0 ≤ ((flushL fail stop l c).2.sl j).pins ∧ ((flushL fail stop l c).2.sl j).pins ≤ (k : Int)) ∧ (flushL fail stop l c).2.calls.length ≤ c.calls.length + l.length ∧ (flushL fail stop l c).2.kept.length ≤ c.kept.length + l.length
  | [], c, he, hp => ⟨he, hp, by simp [flushL], by simp [flushL]⟩
  | s :: l, c, he, hp => by
    cases hwh : c.wh s with
    | none =>
      have : flushL fail stop (s :: l) c = (0, c) := by
        show (match c.wh s with | some i => _ | none => _) = _
        rw [hwh]
      rw [this]
      exact ⟨he, hp, by simp, by simp⟩
    | some i =>
      rw [flushL_cons hwh]
      obtain ⟨c1e, c1p⟩ := pl_clean (fail := fail) (stop := stop) (i := i) (v := vOf c i) he hp
      have c1l := cleanS_len fail stop c i (vOf c i)
      split
      · obtain ⟨q1, q2, q3, q4⟩ := pl_flushL (k := k) l _ c1e c1p
        refine ⟨q1, q2, ?_, ?_⟩
        · rw [List.length_cons]; omega
        · rw [List.length_cons]; omega
      · refine ⟨c1e, c1p, ?_, ?_⟩
        · rw [List.length_cons]; omega
        · rw [List.length_cons]; omega
theorem pl_flush {n k : Nat} (hn : n ≤ 64) (h : Pl k c) : Pl (k + 1) (flushS fail stop n c).2 := by
  have hc := h.calls
  have hk := h.kept
  have hd : (dirts n c).length ≤ 64 := by rw [dirts_len]; exact Nat.le_trans (selN_len _ _ _) hn
  obtain ⟨q1, q2, q3, q4⟩ := pl_flushL (fail := fail) (stop := stop) (k := k) (dirts n c) c h.emp h.pins
  unfold flushS
  exact ⟨q1, fun j => by have := q2 j; omega, by omega, by omega⟩
/-- The worlds of two calls. -/
def twoC (w0 : World) (M E : World → Prop) (_ : Nat → Value) (s : Nat) (W : World) : Prop := match s with
  | 0 => W = w0
  | 1 => M W
  | _ => E W
def twoV (v0 v1 : Value) (s : Nat) (v : Value) : Prop := match s with
  | 0 => v = v0
  | 1 => v = v1
  | _ => True
theorem twoV_some (v0 v1 : Value) (s : Nat) : ∃ v, twoV v0 v1 s v := match s with
  | 0 => ⟨_, rfl⟩
  | 1 => ⟨_, rfl⟩
  | _ + 2 => ⟨undef, trivial⟩
theorem twoC_all {I : World → Prop} {w0 : World} {M E : World → Prop} (h0 : I w0) (h1 : ∀ W, M W → I W) (h2 : ∀ W, E W → I W) {u : Nat → Value} {N : Nat} (p : {w // AnyStage (twoC w0 M E u) N w}) : I p.val := by
  obtain ⟨W, s, _, h⟩ := p
  match s, h with
  | 0, h => cases h; exact h0
  | 1, h => exact h1 _ h
  | _ + 2, h => exact h2 _ h
set_option maxRecDepth 100000 in
set_option maxHeartbeats 16000000 in
theorem one_calls (what n8 : Int) (s : Sp) (k : Nat) (W : World) (h : Md w W b r c c fail stop) (hp : Pl k c) (hk : k ≤ 1000) (hs : spOk s) (hn8 : 0 ≤ n8 ∧ n8 ≤ 255) :
    Calls Try.prog 27 #[.pointer (some ⟨b.cb, 0, none⟩), .pointer (some ⟨r.q, 0, none⟩), .agg #[.int .i64 what, .int .i64 s.1, .int .i64 s.2.1, .int .i64 s.2.2, .int .u8 n8]] W fun e w' => e = .returned (.bool true) ∧ ∃ c', Md w w' b r c' c' fail stop ∧ Pl (k + 2) c' := by
  obtain ⟨sx, sy, sz⟩ := s
  have hA : Below W.heap.size W (W.alloc (.cells #[.int .i64 what, .int .i64 sx, .int .i64 sy, .int .i64 sz, .int .u8 n8] 71)) := (Below.refl _ _).alloc (Nat.le_refl _) _
  have hx := Blk.new W #[.int .i64 what, .int .i64 sx, .int .i64 sy, .int .i64 sz, .int .u8 n8] 71
  have h1 := h.keep hA
  obtain ⟨V, hV⟩ : ∃ V, W.alloc (.cells #[.int .i64 what, .int .i64 sx, .int .i64 sy, .int .i64 sz, .int .u8 n8] 71) = V := ⟨_, rfl⟩
  obtain ⟨xb, hxb⟩ : ∃ x, W.heap.size = x := ⟨_, rfl⟩
  rw [hV] at h1
  rw [hV, hxb] at hx
  have hn := h.n64
  have hwl := h.wl
  have hcl := hp.calls
  have hkl := hp.kept
  have hpn : ∀ i, 0 ≤ (c.sl i).pins ∧ (c.sl i).pins ≤ 1000000 := fun i => by have := hp.pins i; omega
  obtain ⟨vv, hvv⟩ : ∃ vv : Int, n8 % 8 = vv := ⟨_, rfl⟩
  have hv07 : 0 ≤ vv ∧ vv ≤ 7 := by omega
  have hvt : Int.tmod n8 8 = vv := by rw [Int.tmod_eq_emod_of_nonneg hn8.1]; exact hvv
  have hwr : IntKind.i64.wrap vv = vv := IntWalk.i64_in _ (by omega)
  obtain ⟨m, hm⟩ : ∃ m, Int.tmod what 6 = m := ⟨_, rfl⟩
  have x0 := hx.cell 0 rfl
  have x1 := hx.cell 1 rfl
  have x2 := hx.cell 2 rfl
  have x3 := hx.cell 3 rfl
  have x4 := hx.cell 4 rfl
  obtain ⟨hrn, hrf, hrs⟩ : Hid (r.n = b.n) ∧ Hid (r.fail = fail) ∧ Hid (r.stop = stop) := ⟨Lib.hid h.rn, Lib.hid h.rf, Lib.hid h.rs⟩
  have hld := Lib.hid h.ld
  have hwr' : Wl r.n c := by rw [hrn.out]; exact hwl
  replace hx := Lib.hid hx
  replace hvv := Lib.hid hvv
  replace hwl := Lib.hid hwl
  replace hwr' := Lib.hid hwr'
  replace hp := Lib.hid hp
  have hM := h1
  clear h h1 hA
  by_cases m0 : m = 0
  · subst m0
    have hg := hM.our (c2 := (getS fail stop b.n c (sx, sy, sz)).2.2) (fun X hC => get_calls (sx, sy, sz) V hC hs (by omega) (by omega) hld.out)
    have hg2 := fun WW (hMM : Md w WW b r c (getS fail stop b.n c (sx, sy, sz)).2.2 fail stop) => hMM.ref (c2 := (getS r.fail r.stop r.n c (sx, sy, sz)).2.2) (fun W0 Y0 hR => rget_calls (sx, sy, sz) WW hR hwr'.out hp.out.emp (by omega) (by omega))
    rw [hrn.out, hrf.out, hrs.out] at hg2
    have hpg := pl_get (fail := fail) (stop := stop) (s := (sx, sy, sz)) hwl.out hp.out
    obtain ⟨⟨a, er, cg⟩, hR⟩ : ∃ R, getS fail stop b.n c (sx, sy, sz) = R := ⟨_, rfl⟩
    rw [hR] at hg hg2 hpg
    simp only at hg hg2 hpg
    obtain ⟨hPg, hig⟩ := hpg
    unfold spV at hg hg2
    replace hg := Lib.hid hg
    replace hg2 := Lib.hid hg2
    replace hPg := Lib.hid hPg
    replace hig := Lib.hid hig
    clear hR hM hp hpn
    go_enter Try.func27, Try.ntmps27
    go_wp2_with fail
    refine hg.out.mono ?_
    rintro e W2 ⟨rfl, hM2, hK2⟩
    have hx2 := hK2 _ _ hx.out
    clear x0 x1 x2 x3 x4 hK2 hg hx hV
    have x1 := hx2.cell 1 rfl
    have x2 := hx2.cell 2 rfl
    have x3 := hx2.cell 3 rfl
    replace hx2 := Lib.hid hx2
    go_wp2_with fail
    refine (hg2.out _ hM2).mono ?_
    rintro e W3 ⟨rfl, hM3, hK3⟩
    have hx3 := Lib.hid (hK3 _ _ hx2.out)
    clear x1 x2 x3 hx2 hK3 hg2 hM2
    replace hM3 := Lib.hid hM3
    clear hx3
    go_wp2_with fail
    go_ret
    exact ⟨rfl, _, hM3.out, hPg.out.mono (by omega)⟩
  by_cases m1 : m = 1
  · subst m1
    have hg := hM.our (c2 := (getS fail stop b.n c (sx, sy, sz)).2.2) (fun X hC => get_calls (sx, sy, sz) V hC hs (by omega) (by omega) hld.out)
    have hg2 := fun WW (hMM : Md w WW b r c (getS fail stop b.n c (sx, sy, sz)).2.2 fail stop) => hMM.ref (c2 := (getS r.fail r.stop r.n c (sx, sy, sz)).2.2) (fun W0 Y0 hR => rget_calls (sx, sy, sz) WW hR hwr'.out hp.out.emp (by omega) (by omega))
    rw [hrn.out, hrf.out, hrs.out] at hg2
    have hpg := pl_get (fail := fail) (stop := stop) (s := (sx, sy, sz)) hwl.out hp.out
    obtain ⟨⟨a, er, cg⟩, hR⟩ : ∃ R, getS fail stop b.n c (sx, sy, sz) = R := ⟨_, rfl⟩
    rw [hR] at hg hg2 hpg
    simp only at hg hg2 hpg
    obtain ⟨hPg, hig⟩ := hpg
    unfold spV at hg hg2
    replace hg := Lib.hid hg
    replace hg2 := Lib.hid hg2
    replace hPg := Lib.hid hPg
    replace hig := Lib.hid hig
    clear hR hM hp hpn
    go_enter Try.func27, Try.ntmps27
    go_wp2_with fail
    refine hg.out.mono ?_
    rintro e W2 ⟨rfl, hM2, hK2⟩
    have hx2 := hK2 _ _ hx.out
    clear x0 x1 x2 x3 x4 hK2 hg hx hV
    have x1 := hx2.cell 1 rfl
    have x2 := hx2.cell 2 rfl
    have x3 := hx2.cell 3 rfl
    replace hx2 := Lib.hid hx2
    go_wp2_with fail
    refine (hg2.out _ hM2).mono ?_
    rintro e W3 ⟨rfl, hM3, hK3⟩
    have hx3 := Lib.hid (hK3 _ _ hx2.out)
    clear x1 x2 x3 hx2 hK3 hg2 hM2
    by_cases he : er = 0
    · subst he
      obtain ⟨i, rfl, hwi⟩ := hig.out rfl
      have hwlg := hM3.wl
      have hib := ((hwlg.wh _ _).1 hwi).1
      have hpl : Calls Try.prog 17 #[.pointer (some ⟨b.cb, 0, none⟩)] W3 fun e w' => e = .returned (.pointer (some ⟨b.pb, 0, none⟩)) ∧ w' = W3 := by
        obtain ⟨kv, cv, hC, _⟩ := hM3.ex
        exact @pool_calls ⟨rX r kv cv⟩ _ _ _ _ _ W3 hC
      have hcc := cell_calls vv W3 ⟨hv07.1, by omega⟩
      have hsc := fun WW (hMM : Md w WW b r cg cg fail stop) => hMM.our (c2 := setV cg i vv) (fun X hC => @Cv.setVal X _ _ _ _ _ _ hC i vv hib hv07)
      have hPl := Lib.hid (pl_dirt (s := (sx, sy, sz)) (v := vv) hwlg hPg.out)
      have hsame := dirt_same (v := vv) hwi
      replace hpl := Lib.hid hpl
      replace hcc := Lib.hid hcc
      replace hsc := Lib.hid hsc
      replace hM3 := Lib.hid hM3
      replace hsame := Lib.hid hsame
      replace hwlg := Lib.hid hwlg
      replace hwi := Lib.hid hwi
      clear hig
      go_wp2_with fail
      refine hpl.out.mono ?_
      rintro e W4 ⟨rfl, rfl⟩
      go_wp2_with fail
      refine hcc.out.mono ?_
      rintro e W5 ⟨rfl, hb⟩
      have hM5 := hM3.out.keep hb
      have hx5 := hx3.out.below hb hx3.out.lt
      clear hpl hcc hb hM3 hx3
      go_wp2_with fail
      refine (hsc.out _ hM5).mono ?_
      rintro e V ⟨rfl, hM, hK⟩
      have hx := Lib.hid (hK _ _ hx5)
      clear hsc hM5 hK hx5
      have hMd := hM.keep (Below.refl V.heap.size V).drew
      have hxd := hx.out.drew
      replace hM := Lib.hid hM
      have ho : Hid (∀ WW, Md w WW b r cg (setV cg i vv) fail stop → Calls Try.prog _ _ WW fun e W' => e = .returned (.int .i64 (dirtV cg (sx, sy, sz) vv).1) ∧ Md w W' b r cg (dirtV cg (sx, sy, sz) vv).2 fail stop ∧ KeepD WW W') := Lib.hid (fun WW hMM => hMM.our (fun X hC => (by rw [← hsame.out]; exact dirty_calls (sx, sy, sz) WW hC hs)))
      have hr : Hid (∀ WW, Md w WW b r cg (dirtV cg (sx, sy, sz) vv).2 fail stop → Calls Try.prog _ _ WW fun e W' => e = .returned (.int .i64 (dirtV cg (sx, sy, sz) vv).1) ∧ Md w W' b r (dirtV cg (sx, sy, sz) vv).2 (dirtV cg (sx, sy, sz) vv).2 fail stop ∧ KeepD WW W') := Lib.hid (fun WW hMM => hMM.ref (fun W0 Y0 hR => rdirty_calls (sx, sy, sz) vv WW hR (by rw [hrn.out]; exact hwlg.out)))
      go_upto_region 15 with fail
      obtain ⟨CC, hCC⟩ : ∃ C, C = twoC V.drew (fun X => Md w X b r cg (dirtV cg (sx, sy, sz) vv).2 fail stop ∧ Blk X xb [.int .i64 what, .int .i64 sx, .int .i64 sy, .int .i64 sz, .int .u8 n8] 71) (fun X => Md w X b r (dirtV cg (sx, sy, sz) vv).2 (dirtV cg (sx, sy, sz) vv).2 fail stop ∧ Blk X xb [.int .i64 what, .int .i64 sx, .int .i64 sy, .int .i64 sz, .int .u8 n8] 71) := ⟨_, rfl⟩
      have ys : ∀ u (p : {w // AnyStage (CC u) 2 w}), Blk p.val xb [.int .i64 what, .int .i64 sx, .int .i64 sy, .int .i64 sz, .int .u8 n8] 71 := by rw [hCC]; exact fun u => twoC_all (I := fun V => Blk V xb [.int .i64 what, .int .i64 sx, .int .i64 sy, .int .i64 sz, .int .u8 n8] 71) hxd (fun W h => h.2) (fun W h => h.2)
      replace hCC := Lib.hid hCC
      replace ys := Lib.hid ys
      replace hMd := Lib.hid hMd
      replace hxd := Lib.hid hxd
      refine wp_region_stageN [2, 2, 2, 2, 2, 2, 2, 2, 2, 2, 2] (C := CC) (V := twoV (.int .i64 (dirtV cg (sx, sy, sz) vv).1) (.int .i64 (dirtV cg (sx, sy, sz) vv).1)) (N := 2) (by kernel_rfl) (by kernel_rfl) (by kernel_rfl) (by kernel_rfl) (by kernel_rfl) (twoV_some _ _) (fun u u' s w h1 h2 => by rw [hCC.out] at *; exact h2) (fun _ => by rw [hCC.out]; rfl) ?_
      intro u hu
      have e0 : u 0 = .int .i64 (dirtV cg (sx, sy, sz) vv).1 := hu 0
      have e1 : u 1 = .int .i64 (dirtV cg (sx, sy, sz) vv).1 := hu 1
      have n2 : Nonempty {w // AnyStage (CC u) 2 w} := ⟨⟨V.drew, 0, by omega, by rw [hCC.out]; rfl⟩⟩
      have q1 : ∀ p : {w // AnyStage (CC u) 2 w}, p.val.cell? ⟨xb, 1, none⟩ = some (Value.int .i64 sx) := fun p => (ys.out u p).cell 1 rfl
      have q2 : ∀ p : {w // AnyStage (CC u) 2 w}, p.val.cell? ⟨xb, 2, none⟩ = some (Value.int .i64 sy) := fun p => (ys.out u p).cell 2 rfl
      have q3 : ∀ p : {w // AnyStage (CC u) 2 w}, p.val.cell? ⟨xb, 3, none⟩ = some (Value.int .i64 sz) := fun p => (ys.out u p).cell 3 rfl
      repeat (refine wpStageN_step rfl rfl (fun K hK => ?_); go_simp; refine hK _ ?_; clear hK K)
      refine wpStageN_call rfl rfl (fun Wx hx => ?_) ?_
      · rw [hCC.out] at hx
        obtain rfl : Wx = V.drew := hx
        have hc := ho.out _ hMd.out
        replace hc := Lib.hid hc
        unfold callAtU
        go_simp
        refine hc.out.mono ?_
        rintro e V2 ⟨rfl, hM2, hK⟩
        rw [hCC.out]
        exact ⟨_, rfl, rfl, hM2, hK _ _ hxd.out⟩
      rw [e0]
      repeat (refine wpStageN_step rfl rfl (fun K hK => ?_); go_simp; refine hK _ ?_; clear hK K)
      refine wpStageN_call rfl rfl (fun Wx hx => ?_) ?_
      · rw [hCC.out] at hx
        obtain ⟨hMx, hxx⟩ : Md w Wx b r cg (dirtV cg (sx, sy, sz) vv).2 fail stop ∧ Blk Wx xb [.int .i64 what, .int .i64 sx, .int .i64 sy, .int .i64 sz, .int .u8 n8] 71 := hx
        have hc := hr.out _ hMx
        replace hc := Lib.hid hc
        unfold callAtU
        go_simp
        refine hc.out.mono ?_
        rintro e V2 ⟨rfl, hM2, hK⟩
        rw [hCC.out]
        exact ⟨_, rfl, rfl, hM2, hK _ _ hxx⟩
      rw [e1]
      repeat (refine wpStageN_step rfl rfl (fun K hK => ?_); go_simp; refine hK _ ?_; clear hK K)
      refine wpStageN_nil ?_
      intro Wx hx
      rw [hCC.out] at hx
      have hMF := Lib.hid hx.1
      clear q1 q2 q3 n2 e0 e1 hu ys hCC hx hMd hxd hM ho hr
      go_wp2_with fail
      go_ret
      exact ⟨rfl, _, hMF.out, hPl.out.mono (by omega)⟩
    · have hne : (er != 0) = true := by rw [bne_iff_ne]; exact he
      replace hM3 := Lib.hid hM3
      clear hx3
      go_wp2_with fail
      go_ret
      exact ⟨rfl, _, hM3.out, hPg.out.mono (by omega)⟩
  have f0 : (m == 0) = false := beq_eq_false_iff_ne.2 m0
  have f1 : (m == 1) = false := beq_eq_false_iff_ne.2 m1
  by_cases m2 : m = 2
  · subst m2
    have hPl := Lib.hid (pl_pin (s := (sx, sy, sz)) hwl.out hp.out)
    replace hpn := Lib.hid hpn
    go_enter Try.func27, Try.ntmps27
    go_wp2_with fail
    clear x0 x1 x2 x3 x4 hV
    have hMd := hM.keep (Below.refl V.heap.size V).drew
    have hxd := hx.out.drew
    replace hM := Lib.hid hM
    have ho : Hid (∀ WW, Md w WW b r c c fail stop → Calls Try.prog _ _ WW fun e W' => e = .returned (.int .i64 (pinS c (sx, sy, sz)).1) ∧ Md w W' b r c (pinS c (sx, sy, sz)).2 fail stop ∧ KeepD WW W') := Lib.hid (fun WW hMM => hMM.our (fun X hC => pin_calls (sx, sy, sz) WW hC hs hpn.out))
    have hr : Hid (∀ WW, Md w WW b r c (pinS c (sx, sy, sz)).2 fail stop → Calls Try.prog _ _ WW fun e W' => e = .returned (.int .i64 (pinS c (sx, sy, sz)).1) ∧ Md w W' b r (pinS c (sx, sy, sz)).2 (pinS c (sx, sy, sz)).2 fail stop ∧ KeepD WW W') := Lib.hid (fun WW hMM => hMM.ref (fun W0 Y0 hR => rpin_calls (sx, sy, sz) WW hR hwr'.out hpn.out))
    go_upto_region 18 with fail
    obtain ⟨CC, hCC⟩ : ∃ C, C = twoC V.drew (fun X => Md w X b r c (pinS c (sx, sy, sz)).2 fail stop ∧ Blk X xb [.int .i64 what, .int .i64 sx, .int .i64 sy, .int .i64 sz, .int .u8 n8] 71) (fun X => Md w X b r (pinS c (sx, sy, sz)).2 (pinS c (sx, sy, sz)).2 fail stop ∧ Blk X xb [.int .i64 what, .int .i64 sx, .int .i64 sy, .int .i64 sz, .int .u8 n8] 71) := ⟨_, rfl⟩
    have ys : ∀ u (p : {w // AnyStage (CC u) 2 w}), Blk p.val xb [.int .i64 what, .int .i64 sx, .int .i64 sy, .int .i64 sz, .int .u8 n8] 71 := by rw [hCC]; exact fun u => twoC_all (I := fun V => Blk V xb [.int .i64 what, .int .i64 sx, .int .i64 sy, .int .i64 sz, .int .u8 n8] 71) hxd (fun W h => h.2) (fun W h => h.2)
    replace hCC := Lib.hid hCC
    replace ys := Lib.hid ys
    replace hMd := Lib.hid hMd
    replace hxd := Lib.hid hxd
    refine wp_region_stageN [2, 2, 2, 2, 2, 2, 2, 2, 2, 2] (C := CC) (V := twoV (.int .i64 (pinS c (sx, sy, sz)).1) (.int .i64 (pinS c (sx, sy, sz)).1)) (N := 2) (by kernel_rfl) (by kernel_rfl) (by kernel_rfl) (by kernel_rfl) (by kernel_rfl) (twoV_some _ _) (fun u u' s w h1 h2 => by rw [hCC.out] at *; exact h2) (fun _ => by rw [hCC.out]; rfl) ?_
    intro u hu
    have e0 : u 0 = .int .i64 (pinS c (sx, sy, sz)).1 := hu 0
    have e1 : u 1 = .int .i64 (pinS c (sx, sy, sz)).1 := hu 1
    have n2 : Nonempty {w // AnyStage (CC u) 2 w} := ⟨⟨V.drew, 0, by omega, by rw [hCC.out]; rfl⟩⟩
    have q1 : ∀ p : {w // AnyStage (CC u) 2 w}, p.val.cell? ⟨xb, 1, none⟩ = some (Value.int .i64 sx) := fun p => (ys.out u p).cell 1 rfl
    have q2 : ∀ p : {w // AnyStage (CC u) 2 w}, p.val.cell? ⟨xb, 2, none⟩ = some (Value.int .i64 sy) := fun p => (ys.out u p).cell 2 rfl
    have q3 : ∀ p : {w // AnyStage (CC u) 2 w}, p.val.cell? ⟨xb, 3, none⟩ = some (Value.int .i64 sz) := fun p => (ys.out u p).cell 3 rfl
    repeat (refine wpStageN_step rfl rfl (fun K hK => ?_); go_simp; refine hK _ ?_; clear hK K)
    refine wpStageN_call rfl rfl (fun Wx hx => ?_) ?_
    · rw [hCC.out] at hx
      obtain rfl : Wx = V.drew := hx
      have hc := ho.out _ hMd.out
      replace hc := Lib.hid hc
      unfold callAtU
      go_simp
      refine hc.out.mono ?_
      rintro e V2 ⟨rfl, hM2, hK⟩
      rw [hCC.out]
      exact ⟨_, rfl, rfl, hM2, hK _ _ hxd.out⟩
    rw [e0]
    repeat (refine wpStageN_step rfl rfl (fun K hK => ?_); go_simp; refine hK _ ?_; clear hK K)
    refine wpStageN_call rfl rfl (fun Wx hx => ?_) ?_
    · rw [hCC.out] at hx
      obtain ⟨hMx, hxx⟩ : Md w Wx b r c (pinS c (sx, sy, sz)).2 fail stop ∧ Blk Wx xb [.int .i64 what, .int .i64 sx, .int .i64 sy, .int .i64 sz, .int .u8 n8] 71 := hx
      have hc := hr.out _ hMx
      replace hc := Lib.hid hc
      unfold callAtU
      go_simp
      refine hc.out.mono ?_
      rintro e V2 ⟨rfl, hM2, hK⟩
      rw [hCC.out]
      exact ⟨_, rfl, rfl, hM2, hK _ _ hxx⟩
    rw [e1]
    repeat (refine wpStageN_step rfl rfl (fun K hK => ?_); go_simp; refine hK _ ?_; clear hK K)
    refine wpStageN_nil ?_
    intro Wx hx
    rw [hCC.out] at hx
    have hMF := Lib.hid hx.1
    clear q1 q2 q3 n2 e0 e1 hu ys hCC hx hMd hxd hM ho hr
    go_wp2_with fail
    go_ret
    exact ⟨rfl, _, hMF.out, hPl.out.mono (by omega)⟩
  by_cases m3 : m = 3
  · subst m3
    have hPl := Lib.hid (pl_unpin (s := (sx, sy, sz)) hwl.out hp.out)
    replace hpn := Lib.hid hpn
    go_enter Try.func27, Try.ntmps27
    go_wp2_with fail
    clear x0 x1 x2 x3 x4 hV
    have hMd := hM.keep (Below.refl V.heap.size V).drew
    have hxd := hx.out.drew
    replace hM := Lib.hid hM
    have ho : Hid (∀ WW, Md w WW b r c c fail stop → Calls Try.prog _ _ WW fun e W' => e = .returned (.int .i64 (unpinS c (sx, sy, sz)).1) ∧ Md w W' b r c (unpinS c (sx, sy, sz)).2 fail stop ∧ KeepD WW W') := Lib.hid (fun WW hMM => hMM.our (fun X hC => unpin_calls (sx, sy, sz) WW hC hs hpn.out))
    have hr : Hid (∀ WW, Md w WW b r c (unpinS c (sx, sy, sz)).2 fail stop → Calls Try.prog _ _ WW fun e W' => e = .returned (.int .i64 (unpinS c (sx, sy, sz)).1) ∧ Md w W' b r (unpinS c (sx, sy, sz)).2 (unpinS c (sx, sy, sz)).2 fail stop ∧ KeepD WW W') := Lib.hid (fun WW hMM => hMM.ref (fun W0 Y0 hR => runpin_calls (sx, sy, sz) WW hR hwr'.out hpn.out))
    go_upto_region 21 with fail
    obtain ⟨CC, hCC⟩ : ∃ C, C = twoC V.drew (fun X => Md w X b r c (unpinS c (sx, sy, sz)).2 fail stop ∧ Blk X xb [.int .i64 what, .int .i64 sx, .int .i64 sy, .int .i64 sz, .int .u8 n8] 71) (fun X => Md w X b r (unpinS c (sx, sy, sz)).2 (unpinS c (sx, sy, sz)).2 fail stop ∧ Blk X xb [.int .i64 what, .int .i64 sx, .int .i64 sy, .int .i64 sz, .int .u8 n8] 71) := ⟨_, rfl⟩
    have ys : ∀ u (p : {w // AnyStage (CC u) 2 w}), Blk p.val xb [.int .i64 what, .int .i64 sx, .int .i64 sy, .int .i64 sz, .int .u8 n8] 71 := by rw [hCC]; exact fun u => twoC_all (I := fun V => Blk V xb [.int .i64 what, .int .i64 sx, .int .i64 sy, .int .i64 sz, .int .u8 n8] 71) hxd (fun W h => h.2) (fun W h => h.2)
    replace hCC := Lib.hid hCC
    replace ys := Lib.hid ys
    replace hMd := Lib.hid hMd
    replace hxd := Lib.hid hxd
    refine wp_region_stageN [2, 2, 2, 2, 2, 2, 2, 2, 2, 2] (C := CC) (V := twoV (.int .i64 (unpinS c (sx, sy, sz)).1) (.int .i64 (unpinS c (sx, sy, sz)).1)) (N := 2) (by kernel_rfl) (by kernel_rfl) (by kernel_rfl) (by kernel_rfl) (by kernel_rfl) (twoV_some _ _) (fun u u' s w h1 h2 => by rw [hCC.out] at *; exact h2) (fun _ => by rw [hCC.out]; rfl) ?_
    intro u hu
    have e0 : u 0 = .int .i64 (unpinS c (sx, sy, sz)).1 := hu 0
    have e1 : u 1 = .int .i64 (unpinS c (sx, sy, sz)).1 := hu 1
    have n2 : Nonempty {w // AnyStage (CC u) 2 w} := ⟨⟨V.drew, 0, by omega, by rw [hCC.out]; rfl⟩⟩
    have q1 : ∀ p : {w // AnyStage (CC u) 2 w}, p.val.cell? ⟨xb, 1, none⟩ = some (Value.int .i64 sx) := fun p => (ys.out u p).cell 1 rfl
    have q2 : ∀ p : {w // AnyStage (CC u) 2 w}, p.val.cell? ⟨xb, 2, none⟩ = some (Value.int .i64 sy) := fun p => (ys.out u p).cell 2 rfl
    have q3 : ∀ p : {w // AnyStage (CC u) 2 w}, p.val.cell? ⟨xb, 3, none⟩ = some (Value.int .i64 sz) := fun p => (ys.out u p).cell 3 rfl
    repeat (refine wpStageN_step rfl rfl (fun K hK => ?_); go_simp; refine hK _ ?_; clear hK K)
    refine wpStageN_call rfl rfl (fun Wx hx => ?_) ?_
    · rw [hCC.out] at hx
      obtain rfl : Wx = V.drew := hx
      have hc := ho.out _ hMd.out
      replace hc := Lib.hid hc
      unfold callAtU
      go_simp
      refine hc.out.mono ?_
      rintro e V2 ⟨rfl, hM2, hK⟩
      rw [hCC.out]
      exact ⟨_, rfl, rfl, hM2, hK _ _ hxd.out⟩
    rw [e0]
    repeat (refine wpStageN_step rfl rfl (fun K hK => ?_); go_simp; refine hK _ ?_; clear hK K)
    refine wpStageN_call rfl rfl (fun Wx hx => ?_) ?_
    · rw [hCC.out] at hx
      obtain ⟨hMx, hxx⟩ : Md w Wx b r c (unpinS c (sx, sy, sz)).2 fail stop ∧ Blk Wx xb [.int .i64 what, .int .i64 sx, .int .i64 sy, .int .i64 sz, .int .u8 n8] 71 := hx
      have hc := hr.out _ hMx
      replace hc := Lib.hid hc
      unfold callAtU
      go_simp
      refine hc.out.mono ?_
      rintro e V2 ⟨rfl, hM2, hK⟩
      rw [hCC.out]
      exact ⟨_, rfl, rfl, hM2, hK _ _ hxx⟩
    rw [e1]
    repeat (refine wpStageN_step rfl rfl (fun K hK => ?_); go_simp; refine hK _ ?_; clear hK K)
    refine wpStageN_nil ?_
    intro Wx hx
    rw [hCC.out] at hx
    have hMF := Lib.hid hx.1
    clear q1 q2 q3 n2 e0 e1 hu ys hCC hx hMd hxd hM ho hr
    go_wp2_with fail
    go_ret
    exact ⟨rfl, _, hMF.out, hPl.out.mono (by omega)⟩
  by_cases m4 : m = 4
  · subst m4
    have hg := hM.our (c2 := (flushS fail stop b.n c).2) (fun X hC => flush_calls V hC (by omega) (by omega))
    have hg2 := fun WW (hMM : Md w WW b r c (flushS fail stop b.n c).2 fail stop) => hMM.ref (c2 := (flushS r.fail r.stop r.n c).2) (fun W0 Y0 hR => rflush_calls WW hR hwr'.out (by omega) (by omega))
    rw [hrn.out, hrf.out, hrs.out] at hg2
    have hPl := Lib.hid (pl_flush (fail := fail) (stop := stop) hn.2 hp.out)
    obtain ⟨⟨er, cg⟩, hR⟩ : ∃ R, flushS fail stop b.n c = R := ⟨_, rfl⟩
    rw [hR] at hg hg2 hPl
    simp only at hg hg2 hPl
    replace hg := Lib.hid hg
    replace hg2 := Lib.hid hg2
    clear hR hM hp hpn
    go_enter Try.func27, Try.ntmps27
    go_wp2_with fail
    refine hg.out.mono ?_
    rintro e W2 ⟨rfl, hM2, hK2⟩
    clear x0 x1 x2 x3 x4 hK2 hg hx hV
    go_wp2_with fail
    refine (hg2.out _ hM2).mono ?_
    rintro e W3 ⟨rfl, hM3, hK3⟩
    replace hM3 := Lib.hid hM3
    clear hK3 hg2 hM2
    go_wp2_with fail
    go_ret
    exact ⟨rfl, _, hM3.out, hPl.out.mono (by omega)⟩
  have f2 : (m == 2) = false := beq_eq_false_iff_ne.2 m2
  have f3 : (m == 3) = false := beq_eq_false_iff_ne.2 m3
  have f4 : (m == 4) = false := beq_eq_false_iff_ne.2 m4
  obtain ⟨Y, hRw⟩ := hM.rw
  have hat := rat_calls (sx, sy, sz) V hRw hwr'.out
  unfold spV at hat
  cases hwh : c.wh (sx, sy, sz) with
  | none =>
    rw [hwh] at hat
    unfold atI at hat
    have hsame := Lib.hid (dirt_none (v := 0) hwh)
    have hPl := Lib.hid (pl_dirt (s := (sx, sy, sz)) (v := 0) hwl.out hp.out)
    replace hat := Lib.hid hat
    replace hwh := Lib.hid hwh
    clear hRw hpn
    go_enter Try.func27, Try.ntmps27
    go_wp2_with fail
    refine hat.out.mono ?_
    rintro e V1 ⟨rfl, hb⟩
    have hM1 := hM.keep hb
    have hx1 := Lib.hid (hx.out.below hb hx.out.lt)
    clear x0 x1 x2 x3 x4 hb hat hM hx hV
    have hM := hM1
    have hx := hx1
    clear hM1 hx1
    go_wp2_with fail
    have hMd := hM.keep (Below.refl V1.heap.size V1).drew
    have hxd := hx.out.drew
    replace hM := Lib.hid hM
    have ho : Hid (∀ WW, Md w WW b r c c fail stop → Calls Try.prog _ _ WW fun e W' => e = .returned (.int .i64 (dirtV c (sx, sy, sz) 0).1) ∧ Md w W' b r c (dirtV c (sx, sy, sz) 0).2 fail stop ∧ KeepD WW W') := Lib.hid (fun WW hMM => hMM.our (fun X hC => (by rw [← hsame.out]; exact dirty_calls (sx, sy, sz) WW hC hs)))
    have hr : Hid (∀ WW, Md w WW b r c (dirtV c (sx, sy, sz) 0).2 fail stop → Calls Try.prog _ _ WW fun e W' => e = .returned (.int .i64 (dirtV c (sx, sy, sz) 0).1) ∧ Md w W' b r (dirtV c (sx, sy, sz) 0).2 (dirtV c (sx, sy, sz) 0).2 fail stop ∧ KeepD WW W') := Lib.hid (fun WW hMM => hMM.ref (fun W0 Y0 hR => rdirty_calls (sx, sy, sz) 0 WW hR hwr'.out))
    go_upto_region 30 with fail
    obtain ⟨CC, hCC⟩ : ∃ C, C = twoC V1.drew (fun X => Md w X b r c (dirtV c (sx, sy, sz) 0).2 fail stop ∧ Blk X xb [.int .i64 what, .int .i64 sx, .int .i64 sy, .int .i64 sz, .int .u8 n8] 71) (fun X => Md w X b r (dirtV c (sx, sy, sz) 0).2 (dirtV c (sx, sy, sz) 0).2 fail stop ∧ Blk X xb [.int .i64 what, .int .i64 sx, .int .i64 sy, .int .i64 sz, .int .u8 n8] 71) := ⟨_, rfl⟩
    have ys : ∀ u (p : {w // AnyStage (CC u) 2 w}), Blk p.val xb [.int .i64 what, .int .i64 sx, .int .i64 sy, .int .i64 sz, .int .u8 n8] 71 := by rw [hCC]; exact fun u => twoC_all (I := fun V1 => Blk V1 xb [.int .i64 what, .int .i64 sx, .int .i64 sy, .int .i64 sz, .int .u8 n8] 71) hxd (fun W h => h.2) (fun W h => h.2)
    replace hCC := Lib.hid hCC
    replace ys := Lib.hid ys
    replace hMd := Lib.hid hMd
    replace hxd := Lib.hid hxd
    refine wp_region_stageN [2, 2, 2, 2, 2, 2, 2, 2, 2, 2, 2] (C := CC) (V := twoV (.int .i64 (dirtV c (sx, sy, sz) 0).1) (.int .i64 (dirtV c (sx, sy, sz) 0).1)) (N := 2) (by kernel_rfl) (by kernel_rfl) (by kernel_rfl) (by kernel_rfl) (by kernel_rfl) (twoV_some _ _) (fun u u' s w h1 h2 => by rw [hCC.out] at *; exact h2) (fun _ => by rw [hCC.out]; rfl) ?_
    intro u hu
    have e0 : u 0 = .int .i64 (dirtV c (sx, sy, sz) 0).1 := hu 0
    have e1 : u 1 = .int .i64 (dirtV c (sx, sy, sz) 0).1 := hu 1
    have n2 : Nonempty {w // AnyStage (CC u) 2 w} := ⟨⟨V1.drew, 0, by omega, by rw [hCC.out]; rfl⟩⟩
    have q1 : ∀ p : {w // AnyStage (CC u) 2 w}, p.val.cell? ⟨xb, 1, none⟩ = some (Value.int .i64 sx) := fun p => (ys.out u p).cell 1 rfl
    have q2 : ∀ p : {w // AnyStage (CC u) 2 w}, p.val.cell? ⟨xb, 2, none⟩ = some (Value.int .i64 sy) := fun p => (ys.out u p).cell 2 rfl
    have q3 : ∀ p : {w // AnyStage (CC u) 2 w}, p.val.cell? ⟨xb, 3, none⟩ = some (Value.int .i64 sz) := fun p => (ys.out u p).cell 3 rfl
    repeat (refine wpStageN_step rfl rfl (fun K hK => ?_); go_simp; refine hK _ ?_; clear hK K)
    refine wpStageN_call rfl rfl (fun Wx hx => ?_) ?_
    · rw [hCC.out] at hx
      obtain rfl : Wx = V1.drew := hx
      have hc := ho.out _ hMd.out
      replace hc := Lib.hid hc
      unfold callAtU
      go_simp
      refine hc.out.mono ?_
      rintro e V2 ⟨rfl, hM2, hK⟩
      rw [hCC.out]
      exact ⟨_, rfl, rfl, hM2, hK _ _ hxd.out⟩
    rw [e0]
    repeat (refine wpStageN_step rfl rfl (fun K hK => ?_); go_simp; refine hK _ ?_; clear hK K)
    refine wpStageN_call rfl rfl (fun Wx hx => ?_) ?_
    · rw [hCC.out] at hx
      obtain ⟨hMx, hxx⟩ : Md w Wx b r c (dirtV c (sx, sy, sz) 0).2 fail stop ∧ Blk Wx xb [.int .i64 what, .int .i64 sx, .int .i64 sy, .int .i64 sz, .int .u8 n8] 71 := hx
      have hc := hr.out _ hMx
      replace hc := Lib.hid hc
      unfold callAtU
      go_simp
      refine hc.out.mono ?_
      rintro e V2 ⟨rfl, hM2, hK⟩
      rw [hCC.out]
      exact ⟨_, rfl, rfl, hM2, hK _ _ hxx⟩
    rw [e1]
    repeat (refine wpStageN_step rfl rfl (fun K hK => ?_); go_simp; refine hK _ ?_; clear hK K)
    refine wpStageN_nil ?_
    intro Wx hx
    rw [hCC.out] at hx
    have hMF := Lib.hid hx.1
    clear q1 q2 q3 n2 e0 e1 hu ys hCC hx hMd hxd hM ho hr
    go_wp2_with fail
    go_ret
    exact ⟨rfl, _, hMF.out, hPl.out.mono (by omega)⟩
  | some i =>
    rw [hwh] at hat
    unfold atI at hat
    have hib := ((hwl.out.wh _ _).1 hwh).1
    have hful := ((hwl.out.wh _ _).1 hwh).2.1
    have hsame := Lib.hid (dirt_was hwh (hM.vOf hib).1)
    have hPl := Lib.hid (pl_dirt (s := (sx, sy, sz)) (v := vOf c i) hwl.out hp.out)
    obtain ⟨va, hva⟩ : ∃ va, vOf c i = va := ⟨_, rfl⟩
    rw [hva] at hsame hPl
    have hrd := fun WW (hb : Below V.heap.size V WW) => (hRw.keep hb)
    have hir : i < r.n := by rw [hrn.out]; exact hib
    have hiz : (i : Int) < (r.n : Int) := by omega
    have hn1 := hn.1
    have hn2 := hn.2
    have hrn64 : r.n ≤ 64 := by rw [hrn.out]; exact hn2
    replace hat := Lib.hid hat
    replace hwh := Lib.hid hwh
    replace hful := Lib.hid hful
    replace hva := Lib.hid hva
    replace hrd := Lib.hid hrd
    clear hRw hpn
    go_enter Try.func27, Try.ntmps27
    go_wp2_with fail
    refine hat.out.mono ?_
    rintro e V1 ⟨rfl, hb⟩
    have hM1 := hM.keep hb
    have hx1 := Lib.hid (hx.out.below hb hx.out.lt)
    have hR1 := hrd.out _ hb
    obtain ⟨q0, _⟩ := hR1.qcells
    obtain ⟨_, _, _, _, _, _, _, v7, z7, hz7⟩ := hR1.cells hir
    have hv7 := hz7 hful.out
    rw [hva.out] at hv7
    subst hv7
    clear x0 x1 x2 x3 x4 hb hat hM hx hR1 hrd hz7 hV
    have hM := hM1
    have hx := hx1
    clear hM1 hx1
    go_wp2_with fail
    have hMd := hM.keep (Below.refl V1.heap.size V1).drew
    have hxd := hx.out.drew
    replace hM := Lib.hid hM
    have ho : Hid (∀ WW, Md w WW b r c c fail stop → Calls Try.prog _ _ WW fun e W' => e = .returned (.int .i64 (dirtV c (sx, sy, sz) v7).1) ∧ Md w W' b r c (dirtV c (sx, sy, sz) v7).2 fail stop ∧ KeepD WW W') := Lib.hid (fun WW hMM => hMM.our (fun X hC => (by rw [← hsame.out]; exact dirty_calls (sx, sy, sz) WW hC hs)))
    have hr : Hid (∀ WW, Md w WW b r c (dirtV c (sx, sy, sz) v7).2 fail stop → Calls Try.prog _ _ WW fun e W' => e = .returned (.int .i64 (dirtV c (sx, sy, sz) v7).1) ∧ Md w W' b r (dirtV c (sx, sy, sz) v7).2 (dirtV c (sx, sy, sz) v7).2 fail stop ∧ KeepD WW W') := Lib.hid (fun WW hMM => hMM.ref (fun W0 Y0 hR => rdirty_calls (sx, sy, sz) v7 WW hR hwr'.out))
    go_upto_region 30 with fail
    obtain ⟨CC, hCC⟩ : ∃ C, C = twoC V1.drew (fun X => Md w X b r c (dirtV c (sx, sy, sz) v7).2 fail stop ∧ Blk X xb [.int .i64 what, .int .i64 sx, .int .i64 sy, .int .i64 sz, .int .u8 n8] 71) (fun X => Md w X b r (dirtV c (sx, sy, sz) v7).2 (dirtV c (sx, sy, sz) v7).2 fail stop ∧ Blk X xb [.int .i64 what, .int .i64 sx, .int .i64 sy, .int .i64 sz, .int .u8 n8] 71) := ⟨_, rfl⟩
    have ys : ∀ u (p : {w // AnyStage (CC u) 2 w}), Blk p.val xb [.int .i64 what, .int .i64 sx, .int .i64 sy, .int .i64 sz, .int .u8 n8] 71 := by rw [hCC]; exact fun u => twoC_all (I := fun V1 => Blk V1 xb [.int .i64 what, .int .i64 sx, .int .i64 sy, .int .i64 sz, .int .u8 n8] 71) hxd (fun W h => h.2) (fun W h => h.2)
    replace hCC := Lib.hid hCC
    replace ys := Lib.hid ys
    replace hMd := Lib.hid hMd
    replace hxd := Lib.hid hxd
    refine wp_region_stageN [2, 2, 2, 2, 2, 2, 2, 2, 2, 2, 2] (C := CC) (V := twoV (.int .i64 (dirtV c (sx, sy, sz) v7).1) (.int .i64 (dirtV c (sx, sy, sz) v7).1)) (N := 2) (by kernel_rfl) (by kernel_rfl) (by kernel_rfl) (by kernel_rfl) (by kernel_rfl) (twoV_some _ _) (fun u u' s w h1 h2 => by rw [hCC.out] at *; exact h2) (fun _ => by rw [hCC.out]; rfl) ?_
    intro u hu
    have e0 : u 0 = .int .i64 (dirtV c (sx, sy, sz) v7).1 := hu 0
    have e1 : u 1 = .int .i64 (dirtV c (sx, sy, sz) v7).1 := hu 1
    have n2 : Nonempty {w // AnyStage (CC u) 2 w} := ⟨⟨V1.drew, 0, by omega, by rw [hCC.out]; rfl⟩⟩
    have q1 : ∀ p : {w // AnyStage (CC u) 2 w}, p.val.cell? ⟨xb, 1, none⟩ = some (Value.int .i64 sx) := fun p => (ys.out u p).cell 1 rfl
    have q2 : ∀ p : {w // AnyStage (CC u) 2 w}, p.val.cell? ⟨xb, 2, none⟩ = some (Value.int .i64 sy) := fun p => (ys.out u p).cell 2 rfl
    have q3 : ∀ p : {w // AnyStage (CC u) 2 w}, p.val.cell? ⟨xb, 3, none⟩ = some (Value.int .i64 sz) := fun p => (ys.out u p).cell 3 rfl
    repeat (refine wpStageN_step rfl rfl (fun K hK => ?_); go_simp; refine hK _ ?_; clear hK K)
    refine wpStageN_call rfl rfl (fun Wx hx => ?_) ?_
    · rw [hCC.out] at hx
      obtain rfl : Wx = V1.drew := hx
      have hc := ho.out _ hMd.out
      replace hc := Lib.hid hc
      unfold callAtU
      go_simp
      refine hc.out.mono ?_
      rintro e V2 ⟨rfl, hM2, hK⟩
      rw [hCC.out]
      exact ⟨_, rfl, rfl, hM2, hK _ _ hxd.out⟩
    rw [e0]
    repeat (refine wpStageN_step rfl rfl (fun K hK => ?_); go_simp; refine hK _ ?_; clear hK K)
    refine wpStageN_call rfl rfl (fun Wx hx => ?_) ?_
    · rw [hCC.out] at hx
      obtain ⟨hMx, hxx⟩ : Md w Wx b r c (dirtV c (sx, sy, sz) v7).2 fail stop ∧ Blk Wx xb [.int .i64 what, .int .i64 sx, .int .i64 sy, .int .i64 sz, .int .u8 n8] 71 := hx
      have hc := hr.out _ hMx
      replace hc := Lib.hid hc
      unfold callAtU
      go_simp
      refine hc.out.mono ?_
      rintro e V2 ⟨rfl, hM2, hK⟩
      rw [hCC.out]
      exact ⟨_, rfl, rfl, hM2, hK _ _ hxx⟩
    rw [e1]
    repeat (refine wpStageN_step rfl rfl (fun K hK => ?_); go_simp; refine hK _ ?_; clear hK K)
    refine wpStageN_nil ?_
    intro Wx hx
    rw [hCC.out] at hx
    have hMF := Lib.hid hx.1
    clear q1 q2 q3 n2 e0 e1 hu ys hCC hx hMd hxd hM ho hr
    go_wp2_with fail
    go_ret
    exact ⟨rfl, _, hMF.out, hPl.out.mono (by omega)⟩
end
end Go.Proofs.Ytpdckjbknphelaa
