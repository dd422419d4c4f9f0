/-
  The cache's Flush.
-/
import Derived.Test.YtpdckjbknphelaaMg33
namespace Go.Proofs.Ytpdckjbknphelaa
open Go.RowKit
set_option linter.unusedSimpArgs false
set_option linter.unusedVariables false
set_option linter.unusedSectionVars false

/-- What is dirty is saved, spot by spot. -/
def flushL (fail stop : Int) : List Sp → Cs → Int × Cs
  | [], c => (0, c)
  | s :: l, c => match c.wh s with
    | some i => if (cleanS fail stop c i (vOf c i)).1 = 0 then flushL fail stop l (cleanS fail stop c i (vOf c i)).2 else cleanS fail stop c i (vOf c i)
    | none => (0, c)
def flushS (fail stop : Int) (n : Nat) (c : Cs) : Int × Cs := flushL fail stop (dirts n c) c
theorem cleanS_wh (fail stop : Int) (c : Cs) (i : Nat) (v : Int) : (cleanS fail stop c i v).2.wh = c.wh := by unfold cleanS; split <;> rfl
theorem cleanS_e (fail stop : Int) (c : Cs) (i : Nat) (v : Int) : (cleanS fail stop c i v).1 = 0 ∨ (cleanS fail stop c i v).1 = 7 := by
  unfold cleanS errB
  split
  · simp only
    split
    · exact .inr rfl
    · exact .inl rfl
  · exact .inl rfl
theorem cleanS_len (fail stop : Int) (c : Cs) (i : Nat) (v : Int) : (cleanS fail stop c i v).2.calls.length ≤ c.calls.length + 1 ∧ (cleanS fail stop c i v).2.kept.length ≤ c.kept.length + 1 := by
  unfold cleanS
  split
  · simp only
    split <;> simp
  · simp
theorem dirts_len (n : Nat) (c : Cs) : (dirts n c).length = (selN c.sl (fun x => x.dirty) n).length := (sortSp_perm _).length_eq
theorem mem_dirts {n : Nat} {c : Cs} {s : Sp} (hw : Wl n c) (h : s ∈ dirts n c) : ∃ i, c.wh s = some i ∧ i < n ∧ (c.sl i).full = true ∧ (c.sl i).dirty = true ∧ (c.sl i).sp = s := by
  obtain ⟨i, h1, h2, h4, h3⟩ := mem_selN ((sortSp_perm _).mem_iff.1 h)
  exact ⟨i, (hw.wh s i).2 ⟨h1, h2, h3⟩, h1, h2, h4, h3⟩
theorem flushL_cons {fail stop : Int} {c : Cs} {s : Sp} {l : List Sp} {i : Nat} (h : c.wh s = some i) : flushL fail stop (s :: l) c = if (cleanS fail stop c i (vOf c i)).1 = 0 then flushL fail stop l (cleanS fail stop c i (vOf c i)).2 else cleanS fail stop c i (vOf c i) := by
  show (match c.wh s with | some i => _ | none => _) = _
  rw [h]
section
variable [Xs] {w W W' : World} {b : Bc} {c : Cs} {fail stop : Int}
set_option maxRecDepth 100000 in
set_option maxHeartbeats 8000000 in
theorem flush_calls (W : World) (h : Cv w W b c fail stop) (hc : c.calls.length ≤ 90000) (hk : c.kept.length ≤ 90000) :
    Calls Try.prog 22 #[.pointer (some ⟨b.cb, 0, none⟩)] W fun e w' => e = .returned (.int .i64 (flushS fail stop b.n c).1) ∧ Cv w w' b (flushS fail stop b.n c).2 fail stop ∧ Chg w.heap.size chA W w' := by
  have c0 := h.cache.cell 0 rfl
  have his := is_calls b.cb b.pb W c0
  have hun := unsaved_calls W h
  have hn64 := h.n64
  have hlen : (dirts b.n c).length ≤ 64 := by rw [dirts_len]; exact Nat.le_trans (selN_len _ _ _) hn64
  have hmem := fun s => mem_dirts (n := b.n) (c := c) (s := s) h.wl
  unfold flushS
  obtain ⟨A, hA⟩ : ∃ A, dirts b.n c = A := ⟨_, rfl⟩
  rw [hA] at hun hlen hmem ⊢
  obtain ⟨F, hF⟩ : ∃ F, flushL fail stop A c = F := ⟨_, rfl⟩
  rw [hF]
  have h0 := Lib.hid h
  replace hA := Lib.hid hA
  replace his := Lib.hid his
  replace hun := Lib.hid hun
  replace hmem := Lib.hid hmem
  replace hF := Lib.hid hF
  clear h c0
  go_enter Try.func22, Try.ntmps22
  go_wp2_with fail
  refine his.out.mono ?_
  rintro e V ⟨rfl, rfl⟩
  clear his
  go_wp2_with fail
  refine hun.out.mono ?_
  rintro e V5 ⟨va, rfl, hr5, hty5, hb⟩
  have hC5 := h0.out.keep hb
  have hg5 : Chg w.heap.size chA V V5 := Chg.of_below hb
  obtain ⟨N, hN⟩ : ∃ N, A.length = N := ⟨_, rfl⟩
  obtain ⟨ab, ac, rfl, ham, _⟩ := hr5.sp
  rw [hN] at hr5 hty5 hlen ⊢
  unfold maxLen at ham
  replace hN := Lib.hid hN
  replace hC5 := Lib.hid hC5
  replace hg5 := Lib.hid hg5
  replace hr5 := Lib.hid hr5
  replace hty5 := Lib.hid hty5
  clear hb hun
  go_wp2_with fail
  go_loopw [12] (fun i X => ∃ (j : Nat) (c' : Cs), j ≤ N ∧ i = .int .i64 j ∧ Cv w X b c' fail stop ∧ c'.wh = c.wh ∧ flushL fail stop (A.drop j) c' = F ∧ c'.calls.length ≤ 90000 + j ∧ c'.kept.length ≤ 90000 + j ∧ Chg w.heap.size chA V X ∧ SRow X 3 (.slice ab N ac) (A.map spL) ∧ TyB X (.slice ab N ac)) (fun i _ => N + 1 - (intOf i).toNat)
  case atStart => exact ⟨0, c, by omega, rfl, hC5.out, rfl, hF.out, by omega, by omega, hg5.out, hr5.out, hty5.out⟩
  case round =>
    obtain ⟨j, c', hjN, rfl, hCj, hwh, hfl, hcl, hkl, hgj, hrj, htj⟩ := hrel
    clear hC5 hg5 hr5 hty5
    by_cases hjlt : j < N
    · have g3 : (j : Int) < (N : Int) := by omega
      have hjA : j < A.length := by rw [hN.out]; exact hjlt
      obtain ⟨u, hu⟩ : ∃ u, A[j]? = some u := ⟨_, List.getElem?_eq_getElem hjA⟩
      obtain ⟨iu, hiu, hib, _⟩ := hmem.out u (List.mem_of_getElem? hu)
      have hiu' : c'.wh u = some iu := by rw [hwh]; exact hiu
      have hdrop : A.drop j = u :: A.drop (j + 1) := by
        rw [List.drop_eq_getElem_cons hjA]
        rw [List.getElem?_eq_getElem hjA] at hu
        rw [Option.some.inj hu]
      rw [hdrop, flushL_cons hiu'] at hfl
      have huo : spOk u := by
        obtain ⟨_, k2, k3⟩ := (hCj.whOk u iu).1 hiu'
        rw [← k3]; exact hCj.spOk iu k2
      obtain ⟨base2, cap2, e3, _, hcell⟩ := hrj.sp
      obtain ⟨rb, ro, e4, hcell2⟩ := hcell (fun e => by rw [e] at hjA; simp at hjA)
      injection e3 with e3 e5 e6
      subst e3 e4
      clear e5 e6
      obtain ⟨d0, d1, d2⟩ := hcell2 j u hu
      obtain ⟨ux, uy, uz⟩ := u
      simp only at d0 d1 d2
      have hbx := Blk.new wr #[.int .i64 ux, .int .i64 uy, .int .i64 uz] 23
      have hbE : Below wr.heap.size wr (wr.alloc (.cells #[.int .i64 ux, .int .i64 uy, .int .i64 uz] 23)) := (Below.refl _ _).alloc (Nat.le_refl _) _
      obtain ⟨X6, hX6⟩ : ∃ X6, wr.alloc (.cells #[.int .i64 ux, .int .i64 uy, .int .i64 uz] 23) = X6 := ⟨_, rfl⟩
      rw [hX6] at hbx hbE
      have hs6 := hbx.below (Below.refl X6.heap.size X6).drew hbx.lt
      have hC6 := hCj.keep hbE.drew
      have hg6 : Chg w.heap.size chA V X6.drew := hgj.trans (Chg.of_below hbE.drew)
      have hr6 := SRow.chg (Chg.of_below hbE.drew) hrj htj (S := chA) (B := w.heap.size) (fun _ _ => by simp [chA])
      have ht6 := TyB.chg (Chg.of_below hbE.drew) htj (S := chA) (B := w.heap.size) (fun _ _ => by simp [chA])
      have hcc := clean_calls iu (vOf c' iu) X6.drew hC6 hib (hC6.vOf hib).1 (hC6.vOf hib).2 (by omega) (by omega)
      have hwh2 := cleanS_wh fail stop c' iu (vOf c' iu)
      have hlen2 := cleanS_len fail stop c' iu (vOf c' iu)
      have her7 := cleanS_e fail stop c' iu (vOf c' iu)
      rw [hwh] at hwh2
      obtain ⟨⟨er, c2⟩, hR⟩ : ∃ R, cleanS fail stop c' iu (vOf c' iu) = R := ⟨_, rfl⟩
      rw [hR] at hcc hwh2 hlen2 her7 hfl
      simp only at hcc hwh2 hlen2 her7 hfl
      have c2' := hC6.cache.cell 2 rfl
      obtain ⟨K0, hK0, hmp⟩ := hC6.map
      have hlk := hmp.look1 huo hiu'
      unfold spV at hlk
      have hX6' := Lib.hid hX6
      replace hcc := Lib.hid hcc
      replace hlk := Lib.hid hlk
      replace hs6 := Lib.hid hs6
      replace hg6 := Lib.hid hg6
      replace hr6 := Lib.hid hr6
      replace ht6 := Lib.hid ht6
      replace hfl := Lib.hid hfl
      replace hwh2 := Lib.hid hwh2
      clear hcell hcell2 hu hiu hiu' huo hdrop hrj htj hbx hbE hgj hCj hC6 hmp hR hwh hX6
      go_upto_region 6 with fail
      rw [hX6'.out]
      obtain ⟨CC, hCC⟩ : ∃ C, C = callE X6.drew (fun _ V => Cv w V b c2 fail stop ∧ Chg w.heap.size chA X6.drew V) := ⟨_, rfl⟩
      have hp0 : ∀ u (p : {w // AnyStage (CC u) 0 w}), p.val = X6.drew := by rw [hCC]; exact fun u => callE_lo
      have hp1 : ∀ u (p : {w // AnyStage (CC u) 1 w}), p.val.cell? ⟨b.cb, 2, none⟩ = some (.map (some b.mb)) ∧ Blk p.val wr.heap.size [.int .i64 ux, .int .i64 uy, .int .i64 uz] 23 := by
        rw [hCC]
        intro u ⟨V, s, hs, h⟩
        match s, hs, h with
        | 0, _, h => cases h; exact ⟨c2', hs6.out⟩
        | 1, _, h => exact ⟨h.1.cache.cell 2 rfl, h.2.blk hs6.out (by simp [chA])⟩
        | _ + 2, hs, _ => omega
      replace hCC := Lib.hid hCC
      replace hp0 := Lib.hid hp0
      replace hp1 := Lib.hid hp1
      clear d0 d1 d2 c2'
      refine wp_region_stageN [1, 1, 1, 1, 1, 1, 0, 1, 1] (C := CC) (V := callV (fun v => v = .int .i64 er)) (N := 1) (by kernel_rfl) (by kernel_rfl) (by kernel_rfl) (by kernel_rfl) (by kernel_rfl) (callV_some ⟨_, rfl⟩) (fun u u' s w h1 h2 => by rw [hCC.out] at *; exact callE_cong u u' s w h1 h2) (fun _ => by rw [hCC.out]; rfl) ?_
      intro u hu
      have e0 : u 0 = .int .i64 er := hu 0
      have n0 : Nonempty {w // AnyStage (CC u) 0 w} := ⟨⟨X6.drew, 0, by omega, by rw [hCC.out]; rfl⟩⟩
      have n1 : Nonempty {w // AnyStage (CC u) 1 w} := ⟨⟨X6.drew, 0, by omega, by rw [hCC.out]; rfl⟩⟩
      have y2 : ∀ p : {w // AnyStage (CC u) 1 w}, p.val.cell? ⟨b.cb, 2, none⟩ = some (.map (some b.mb)) := fun p => (hp1.out u p).1
      have q0 : ∀ p : {w // AnyStage (CC u) 1 w}, p.val.cell? ⟨wr.heap.size, 0, none⟩ = some (Value.int .i64 ux) := fun p => (hp1.out u p).2.cell 0 rfl
      have q1 : ∀ p : {w // AnyStage (CC u) 1 w}, p.val.cell? ⟨wr.heap.size, 1, none⟩ = some (Value.int .i64 uy) := fun p => (hp1.out u p).2.cell 1 rfl
      have q2 : ∀ p : {w // AnyStage (CC u) 1 w}, p.val.cell? ⟨wr.heap.size, 2, none⟩ = some (Value.int .i64 uz) := fun p => (hp1.out u p).2.cell 2 rfl
      have ql : ∀ p : {w // AnyStage (CC u) 0 w}, (Instr.lookup 61 (.map (some b.mb)) (.agg #[.int .i64 ux, .int .i64 uy, .int .i64 uz]) false).run Try.prog p.val = .ok (.int .i64 iu) p.val := fun p => by rw [hp0.out u p]; exact hlk.out
      repeat (refine wpStageN_step rfl rfl (fun K hK => ?_); go_simp; refine hK _ ?_; clear hK K)
      refine wpStageN_call rfl rfl (fun Wx hx => ?_) ?_
      · rw [hCC.out] at hx
        obtain rfl : Wx = X6.drew := hx
        unfold callAtU
        go_simp
        refine hcc.out.mono ?_
        rintro e V7 ⟨rfl, hcv, hch⟩
        rw [hCC.out]
        exact ⟨_, rfl, rfl, hcv, hch⟩
      rw [e0]
      repeat (refine wpStageN_step rfl rfl (fun K hK => ?_); go_simp; refine hK _ ?_; clear hK K)
      refine wpStageN_nil ?_
      intro V7 hx
      rw [hCC.out] at hx
      obtain ⟨hC7, hch⟩ : Cv w V7 b c2 fail stop ∧ Chg w.heap.size chA X6.drew V7 := hx
      have hr7 := Lib.hid (SRow.chg hch hr6.out ht6.out (fun _ _ => by simp [chA]))
      have ht7 := Lib.hid (TyB.chg hch ht6.out (fun _ _ => by simp [chA]))
      have hg7 := Lib.hid (hg6.out.trans hch)
      replace hC7 := Lib.hid hC7
      clear hch hr6 ht6 hg6 hcc hlk hs6 y2 q0 q1 q2 ql n0 n1 e0 hu hp0 hp1 hCC hX6'
      rcases her7 with rfl | rfl
      · have hf2 := hfl.out
        rw [if_pos rfl] at hf2
        replace hf2 := Lib.hid hf2
        clear hfl
        go_wp2_with fail
        go_round
        case rel => exact ⟨j + 1, c2, by omega, by go_num, hC7.out, hwh2.out, hf2.out, by omega, by omega, hg7.out, hr7.out, ht7.out⟩
        case measure => simp [intOf]; omega
      · have hf2 := hfl.out
        rw [if_neg (by decide)] at hf2
        subst hf2
        clear hfl hr7 ht7
        go_wp2_with fail
        go_ret
        exact ⟨rfl, hC7.out, hg7.out⟩
    · obtain rfl : j = N := by omega
      rw [List.drop_of_length_le (by rw [hN.out]; exact Nat.le_refl _)] at hfl
      obtain rfl : (0, c') = F := hfl
      replace hCj := Lib.hid hCj
      replace hgj := Lib.hid hgj
      clear hrj htj
      go_wp2_with fail
      go_ret
      exact ⟨rfl, hCj.out, hgj.out⟩
end
end Go.Proofs.Ytpdckjbknphelaa
