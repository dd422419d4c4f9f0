/-
  The cache: is, clean.
-/
import Derived.Test.YtpdckjbknphelaaCpG
namespace Go.Proofs.Ytpdckjbknphelaa
open Go.RowKit
set_option linter.unusedSimpArgs false
set_option linter.unusedVariables false
set_option linter.unusedSectionVars false

theorem cellV_snd {v : Int} : (cellV v).2 = v := by
  unfold cellV
  split
  · rename_i h; rw [h]
  · rfl
section
variable [Xs] {w W W' : World} {b : Bc} {c : Cs} {fail stop : Int}
theorem Fp.chg {S : Nat → Obj → Prop} {B pb sb tb n : Nat} {ce li : Nat → Int × Int} {du : Nat → Int} {tk : Nat → Bool} (h : Fp w W pb sb tb n ce li du tk) (k : Chg w.heap.size S W W') (h1 : ∀ c cs, ¬ S c (.cells cs 111 (0, 0))) (h2 : ∀ c cs, ¬ S c (.cells cs 5 (0, 0))) (h3 : ∀ c cs, ¬ S c (.cells cs 4 (0, 0))) : Fp w W' pb sb tb n ce li du tk :=
  ⟨{ h.1 with pool := k.blk h.1.pool (h1 _ _), slab := k.row1 h.1.slab (h2 _), take := k.row1 h.1.take (h3 _) }, h.2.1, h.2.2.1, h.2.2.2.1, h.below.trans (k.belowB h.below.size)⟩
/-- Load and save were called. -/
theorem Cv.chgW (h : Cv w W b c fail stop) (k : Chg w.heap.size chW W W') {kept : List (Sp × Int)} {calls : List (Bool × Sp × Int)} (hw : Wv W' w.heap.size b.wb kept calls fail stop) (hl : c.calls.length ≤ calls.length) (hk : ∀ p ∈ kept, 0 ≤ p.2 ∧ p.2 ≤ 7) : Cv w W' b { c with kept := kept, calls := calls } fail stop := by
  obtain ⟨K, hK, hm⟩ := h.map
  obtain ⟨li, du, tk, hp⟩ := h.pool
  exact { h with cache := k.blk h.cache (by simp [chW]), slots := k.row1 h.slots (fun _ => by simp [chW]), map := ⟨K, Nat.le_trans hK hl, k.mp hm (fun _ _ => by simp [chW])⟩, pool := ⟨li, du, tk, hp.chg (B := 0) k (fun _ _ => by simp [chW]) (fun _ _ => by simp [chW]) (fun _ _ => by simp [chW])⟩, world := hw, keptv := hk }
theorem Cv.chgA (h : Cv w W b c fail stop) : ∀ c0 o, W.heap[c0]? = some o → (c0 = b.cb ∨ c0 = b.sb ∨ c0 = b.mb ∨ c0 = b.slab) → chA c0 o := by
  intro c0 o ho hc
  obtain ⟨n1, n2, n3, n4, n5, n6⟩ := h.nx
  rcases hc with rfl | rfl | rfl | rfl
  · have hb := h.cache
    unfold Blk at hb
    rw [hb] at ho; cases ho; simp [chA, n1]
  · obtain ⟨cs, hb⟩ := h.slots.lt'
    unfold Blk at hb
    rw [hb] at ho; cases ho; simp [chA, n2]
  · obtain ⟨K, _, D, ⟨es, cl, hb, _⟩, _⟩ := h.map
    rw [hb] at ho; cases ho; simp [chA, n3]
  · obtain ⟨li, du, tk, hp⟩ := h.pool
    obtain ⟨cs, hb⟩ := hp.1.slab.lt'
    unfold Blk at hb
    rw [hb] at ho; cases ho; simp [chA, n5]
set_option maxRecDepth 100000 in
set_option maxHeartbeats 4000000 in
theorem is_calls (cb pb : Nat) (W : World) (h : W.cell? ⟨cb, 0, none⟩ = some (.pointer (some ⟨pb, 0, none⟩))) : Calls Try.prog 33 #[.pointer (some ⟨cb, 0, none⟩)] W fun e w' => e = .returned (.bool true) ∧ w' = W := by
  go_enter Try.func33, Try.ntmps33
  go_wp2_with fail
  go_ret
  exact ⟨rfl, rfl⟩
/-- What a save answers, what it keeps. -/
def errB (bad : Bool) : Int := if bad then 7 else 0
theorem wsave_calls (s : Sp) (xb : Nat) (ce li : Nat → Int × Int) (tv : Value) (v : Int) {B wb : Nat} {kept : List (Sp × Int)} {calls : List (Bool × Sp × Int)} (W : World) (h : Wv W B wb kept calls fail stop) (hB : B ≤ W.heap.size) (hc : calls.length ≤ 100000) (hk : kept.length ≤ 100000) (hx : Ck W xb ce li tv) (hv : (ce 5).2 = v) (h0 : 0 ≤ v ∧ v ≤ 255) :
    Calls Try.prog 10 #[.pointer (some ⟨wb, 0, none⟩), spV s, .pointer (some ⟨xb, 0, none⟩)] W fun e w' => e = .returned (.int .i64 (errB (badB fail stop calls.length))) ∧ Wv w' B wb (if badB fail stop calls.length then kept else kept ++ [(s, v)]) (calls ++ [(true, s, v)]) fail stop ∧ Chg B chW W w' := by
  cases hbad : badB fail stop calls.length with
  | true => exact wsave_bad s xb ce li tv v W h hB hc hk hx hv h0 hbad
  | false => exact wsave_ok s xb ce li tv v W h hB hc hk hx hv h0 hbad
end
/-- The worlds of clean's calls. -/
def cleanC (w0 : World) (E : World → Prop) (M : Value → World → Prop) (u : Nat → Value) (s : Nat) (W : World) : Prop := match s with
  | 0 => W = w0.drew
  | 1 => M (u 0) W
  | _ => E W
def cleanV (v1 : Value) (s : Nat) (v : Value) : Prop := match s with
  | 0 => ∃ x, v = .pointer (some ⟨x, 0, none⟩)
  | 1 => v = v1
  | _ => True
theorem cleanV_some (v1 : Value) (s : Nat) : ∃ v, cleanV v1 s v := match s with
  | 0 => ⟨_, 0, rfl⟩
  | 1 => ⟨_, rfl⟩
  | _ + 2 => ⟨undef, trivial⟩
theorem cleanC_cong {w0 : World} {E : World → Prop} {M : Value → World → Prop} (u u' : Nat → Value) (s : Nat) (W : World) (hu : ∀ j, j < s → u j = u' j) (h : cleanC w0 E M u s W) : cleanC w0 E M u' s W := match s, h with
  | 0, h => h
  | 1, h => by unfold cleanC at *; rw [← hu 0 (by omega)]; exact h
  | _ + 2, h => h
section
variable [Xs] {w W W' : World} {b : Bc} {c : Cs} {fail stop : Int}
def cleanS (fail stop : Int) (c : Cs) (i : Nat) (v : Int) : Int × Cs :=
  if (c.sl i).full = true ∧ (c.sl i).dirty = true then
    (errB (badB fail stop c.calls.length), { c with calls := c.calls ++ [(true, (c.sl i).sp, v)], kept := if badB fail stop c.calls.length then c.kept else c.kept ++ [((c.sl i).sp, v)], sl := if badB fail stop c.calls.length then c.sl else updS c.sl i { c.sl i with dirty := false } })
  else (0, c)
set_option maxRecDepth 100000 in
set_option maxHeartbeats 8000000 in
theorem clean_calls (i : Nat) (v : Int) (W : World) (h : Cv w W b c fail stop) (hi : i < b.n) (hv : c.ce (i * 4096 + 5) = cellV v) (hv0 : 0 ≤ v ∧ v ≤ 7) (hc : c.calls.length ≤ 100000) (hk : c.kept.length ≤ 100000) :
    Calls Try.prog 35 #[.pointer (some ⟨b.cb, 0, none⟩), .int .i64 i] W fun e w' => e = .returned (.int .i64 (cleanS fail stop c i v).1) ∧ Cv w w' b (cleanS fail stop c i v).2 fail stop ∧ Chg w.heap.size chA W w' := by
  have c0 := h.cache.cell 0 rfl
  have c1 := h.cache.cell 1 rfl
  have c5 := h.cache.cell 5 rfl
  obtain ⟨z0, z1, z2, z3, z4, z5, z6⟩ := h.cells hi
  have hn64 := h.n64
  have hiz : (i : Int) < (b.n : Int) := by omega
  unfold cleanS
  have h0 := Lib.hid h
  clear z5 z6
  cases hf : (c.sl i).full with
  | false =>
    rw [hf] at z3
    rw [if_neg (fun k => by cases k.1)]
    clear h hf
    go_enter Try.func35, Try.ntmps35
    go_wp2_with fail
    go_ret
    exact ⟨rfl, h0.out, Chg.refl _ _ _⟩
  | true =>
    rw [hf] at z3
    cases hd : (c.sl i).dirty with
    | false =>
      rw [hd] at z4
      rw [if_neg (fun k => by cases k.2)]
      clear h hf hd
      go_enter Try.func35, Try.ntmps35
      go_wp2_with fail
      go_ret
      exact ⟨rfl, h0.out, Chg.refl _ _ _⟩
    | true =>
      rw [hd] at z4
      rw [if_pos ⟨rfl, rfl⟩]
      obtain ⟨li, du, tk, hp⟩ := h.pool
      have hst := fun W' (hb : Below W.heap.size W W') => (hp.keep hb).store hi
      have hsv := fun (V : World) (xb : Nat) (tv : Value) LI (hwv : Wv V w.heap.size b.wb c.kept c.calls fail stop) (hB : w.heap.size ≤ V.heap.size) (hx : Ck V xb (partP 4096 (shP i c.ce)) LI tv) => wsave_calls (c.sl i).sp xb (partP 4096 (shP i c.ce)) LI tv v V hwv hB hc hk hx (by
        unfold partP shP
        rw [if_pos (by omega), hv]
        exact cellV_snd) ⟨hv0.1, by omega⟩
      have hcE := hk
      obtain ⟨er, her⟩ : ∃ er, errB (badB fail stop c.calls.length) = er := ⟨_, rfl⟩
      obtain ⟨kE, hkE⟩ : ∃ k, (if badB fail stop c.calls.length then c.kept else c.kept ++ [((c.sl i).sp, v)]) = k := ⟨_, rfl⟩
      have hkv : ∀ p ∈ kE, 0 ≤ p.2 ∧ p.2 ≤ 7 := by
        rw [← hkE]
        split
        · exact h.keptv
        · intro p hp
          rcases List.mem_append.1 hp with hp | hp
          · exact h.keptv p hp
          · obtain rfl : p = _ := by simpa using hp
            exact hv0
      rw [her, hkE] at hsv ⊢
      obtain ⟨⟨sx, sy, sz⟩, hsp⟩ : ∃ s, (c.sl i).sp = s := ⟨_, rfl⟩
      rw [hsp] at z0 z1 z2 hsv ⊢
      simp only at z0 z1 z2
      unfold spV at hsv
      replace hst := Lib.hid hst
      replace hsv := Lib.hid hsv
      replace hkv := Lib.hid hkv
      clear h hp
      go_enter Try.func35, Try.ntmps35
      go_upto_region 4 with fail
      have hK1 : ∀ V, Below W.heap.size W V → V.cell? ⟨b.cb, 0, none⟩ = some (.pointer (some ⟨b.pb, 0, none⟩)) ∧ V.cell? ⟨b.cb, 5, none⟩ = some (saveF b.wb) ∧ V.cell? ⟨b.sb, i * 7, none⟩ = some (.int .i64 sx) ∧ V.cell? ⟨b.sb, i * 7 + 1, none⟩ = some (.int .i64 sy) ∧ V.cell? ⟨b.sb, i * 7 + 2, none⟩ = some (.int .i64 sz) := fun V hb => ⟨(hb.cell (World.block_lt_of_cell? _ _ c0)).trans c0, (hb.cell (World.block_lt_of_cell? _ _ c5)).trans c5, (hb.cell (World.block_lt_of_cell? _ _ z0)).trans z0, (hb.cell (World.block_lt_of_cell? _ _ z1)).trans z1, (hb.cell (World.block_lt_of_cell? _ _ z2)).trans z2⟩
      replace hK1 := Lib.hid hK1
      obtain ⟨CC, hCC⟩ : ∃ C, C = cleanC W (fun V => Wv V w.heap.size b.wb kE (c.calls ++ [(true, (sx, sy, sz), v)]) fail stop ∧ Chg w.heap.size chW W V) (fun y V => ∃ xb tv LI, y = .pointer (some ⟨xb, 0, none⟩) ∧ Ck V xb (partP 4096 (shP i c.ce)) LI tv ∧ Below W.heap.size W V) := ⟨_, rfl⟩
      have hlo : ∀ u (p : {w // AnyStage (CC u) 1 w}), Below W.heap.size W p.val := by
        rw [hCC]
        intro u ⟨V, s, hs, h⟩
        match s, hs, h with
        | 0, _, h => cases h; exact (Below.refl _ _).drew
        | 1, _, h => obtain ⟨_, _, _, _, _, h⟩ := h; exact h
        | _ + 2, hs, _ => omega
      replace hCC := Lib.hid hCC
      replace hlo := Lib.hid hlo
      clear c0 c1 c5 z0 z1 z2 z3 z4
      refine wp_region_stageN [2, 2, 2, 1, 2, 2, 2, 1, 2, 2, 2, 1, 2, 2, 2, 2] (C := CC) (V := cleanV (.int .i64 er)) (N := 2) (by kernel_rfl) (by kernel_rfl) (by kernel_rfl) (by kernel_rfl) (by kernel_rfl) (cleanV_some _) (fun u u' s w h1 h2 => by rw [hCC.out] at *; exact cleanC_cong u u' s w h1 h2) (fun _ => by rw [hCC.out]; rfl) ?_
      intro u hu
      obtain ⟨xb, e0⟩ : ∃ x, u 0 = .pointer (some ⟨x, 0, none⟩) := hu 0
      have e1 : u 1 = .int .i64 er := hu 1
      have n1 : Nonempty {w // AnyStage (CC u) 1 w} := ⟨⟨W.drew, 0, by omega, by rw [hCC.out]; rfl⟩⟩
      have n2 : Nonempty {w // AnyStage (CC u) 2 w} := ⟨⟨W.drew, 0, by omega, by rw [hCC.out]; rfl⟩⟩
      have y0 : ∀ p : {w // AnyStage (CC u) 1 w}, p.val.cell? ⟨b.cb, 0, none⟩ = some (.pointer (some ⟨b.pb, 0, none⟩)) := fun p => (hK1.out _ (hlo.out u p)).1
      have y5 : ∀ p : {w // AnyStage (CC u) 1 w}, p.val.cell? ⟨b.cb, 5, none⟩ = some (saveF b.wb) := fun p => (hK1.out _ (hlo.out u p)).2.1
      have z0 : ∀ p : {w // AnyStage (CC u) 1 w}, p.val.cell? ⟨b.sb, i * 7, none⟩ = some (Value.int .i64 sx) := fun p => (hK1.out _ (hlo.out u p)).2.2.1
      have z1 : ∀ p : {w // AnyStage (CC u) 1 w}, p.val.cell? ⟨b.sb, i * 7 + 1, none⟩ = some (Value.int .i64 sy) := fun p => (hK1.out _ (hlo.out u p)).2.2.2.1
      have z2 : ∀ p : {w // AnyStage (CC u) 1 w}, p.val.cell? ⟨b.sb, i * 7 + 2, none⟩ = some (Value.int .i64 sz) := fun p => (hK1.out _ (hlo.out u p)).2.2.2.2
      unfold saveF at y5
      repeat (refine wpStageN_step rfl rfl (fun K hK => ?_); go_simp; refine hK _ ?_; clear hK K)
      refine wpStageN_call rfl rfl (fun Wx hx => ?_) ?_
      · rw [hCC.out] at hx
        obtain rfl : Wx = W.drew := hx
        unfold callAtU
        go_simp
        refine (hst.out _ (Below.refl _ _).drew).mono ?_
        rintro e V ⟨x, tv, rfl, _, hk2, _, _, hb⟩
        rw [hCC.out]
        exact ⟨_, rfl, ⟨x, rfl⟩, x, tv, _, rfl, hk2, (Below.refl _ _).drew.trans hb⟩
      rw [e0]
      repeat (refine wpStageN_step rfl rfl (fun K hK => ?_); go_simp; refine hK _ ?_; clear hK K)
      refine wpStageN_call rfl rfl (fun Wx hx => ?_) ?_
      · rw [hCC.out] at hx
        obtain ⟨x, tv, LI, ex, hk2, hb⟩ := hx
        rw [e0] at ex
        injection ex with ex; injection ex with ex; injection ex with ex
        subst ex
        have hc2 := hsv.out Wx xb tv LI (h0.out.world.keep hb) (Nat.le_trans h0.out.below.size hb.size) hk2
        replace hc2 := Lib.hid hc2
        replace hb := Lib.hid hb
        unfold callAtU
        go_simp
        refine hc2.out.mono ?_
        rintro e V ⟨rfl, hwv, hch⟩
        rw [hCC.out]
        exact ⟨_, rfl, rfl, hwv, (Chg.of_below hb.out).trans hch⟩
      rw [e1]
      repeat (refine wpStageN_step rfl rfl (fun K hK => ?_); go_simp; refine hK _ ?_; clear hK K)
      refine wpStageN_nil ?_
      intro Wx hx
      rw [hCC.out] at hx
      obtain ⟨hwv, hch⟩ : Wv Wx w.heap.size b.wb kE (c.calls ++ [(true, (sx, sy, sz), v)]) fail stop ∧ Chg w.heap.size chW W Wx := hx
      have hE := h0.out.chgW hch hwv (by simp) hkv.out
      have hfr := hE.slots.frozen (i * 7 + 4)
      obtain ⟨z0', z1', z2', z3', z4', z5', z6'⟩ := hE.cells hi
      simp only at z4'
      replace hE := Lib.hid hE
      replace hch := Lib.hid (hch.mono (fun _ _ => chW_A))
      replace hkE := Lib.hid hkE
      replace hsp := Lib.hid hsp
      clear y0 y5 z0 z1 z2 n1 n2 e0 e1 hu z0' z1' z2' z3' z5' z6' hwv
      cases hbad : badB fail stop c.calls.length with
      | true =>
        rw [hbad] at her
        obtain rfl : 7 = er := her
        go_wp2_with fail
        go_ret
        exact ⟨rfl, hE.out, hch.out⟩
      | false =>
        rw [hbad] at her
        obtain rfl : 0 = er := her
        have hM := hE.out.setOne (i := i) (k := 4) (x := { c.sl i with dirty := false }) (v := .bool false) hi (by omega) rfl rfl rfl
        have hchM := hch.out.but (b := b.sb) ((But.refl _ _).setCell (w := Wx) (i * 7 + 4) (.bool false)) h0.out.ls fun o ho => h0.out.chgA _ o ho (.inr (.inl rfl))
        rw [show ({ c.sl i with dirty := false } : Sl) = ⟨(c.sl i).sp, true, false, (c.sl i).mark, (c.sl i).pins⟩ by rw [← hf]] at hM
        replace hM := Lib.hid hM
        replace hchM := Lib.hid hchM
        go_wp2_with fail
        go_ret
        exact ⟨rfl, hM.out, hchM.out⟩
end
end Go.Proofs.Ytpdckjbknphelaa
