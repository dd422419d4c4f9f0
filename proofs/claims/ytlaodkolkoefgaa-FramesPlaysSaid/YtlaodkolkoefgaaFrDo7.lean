/-
  The law's do: another frame's chunk is loaded.
-/
import Derived.Test.YtlaodkolkoefgaaFrDo1
namespace Go.Proofs.Ytlaodkolkoefgaa
open Go.RowKit
set_option linter.unusedSimpArgs false
set_option linter.unusedVariables false

/-- The worlds of three calls, one behind the other. -/
def triC (w1 : World) (ab : Nat) (cs : List Value) (M : Value → World → Prop) (M' : World → Prop) (E : World → Prop) (u : Nat → Value) (s : Nat) (W : World) : Prop := match s with
  | 0 => W = w1.drew
  | 1 => M (u 0) W ∧ Blk W ab cs 67
  | 2 => M' W ∧ Blk W ab cs 67
  | _ => E W ∧ Blk W ab cs 67
def triV (V0 V1 V2 : Value → Prop) (s : Nat) (v : Value) : Prop := match s with
  | 0 => V0 v
  | 1 => V1 v
  | 2 => V2 v
  | _ => True
theorem triV_some {V0 V1 V2 : Value → Prop} (h0 : ∃ v, V0 v) (h1 : ∃ v, V1 v) (h2 : ∃ v, V2 v) (s : Nat) : ∃ v, triV V0 V1 V2 s v := match s with
  | 0 => h0
  | 1 => h1
  | 2 => h2
  | _ + 3 => ⟨undef, trivial⟩
theorem triC_cong {w1 : World} {ab : Nat} {cs : List Value} {M : Value → World → Prop} {M' E : World → Prop} (u u' : Nat → Value) (s : Nat) (W : World) (hu : ∀ j, j < s → u j = u' j) (h : triC w1 ab cs M M' E u s W) : triC w1 ab cs M M' E u' s W := match s, h with
  | 0, h => h
  | 1, h => by unfold triC at *; rw [← hu 0 (by omega)]; exact h
  | 2, h => h
  | _ + 3, h => h
theorem triC_blk {w1 : World} {ab : Nat} {cs : List Value} {M : Value → World → Prop} {M' E : World → Prop} (hb : Blk w1 ab cs 67) {u : Nat → Value} {N : Nat} {W : World} (h : AnyStage (triC w1 ab cs M M' E u) N W) : Blk W ab cs 67 := by
  obtain ⟨s, hs, h⟩ := h
  match s, h with
  | 0, h => cases h; exact hb
  | 1, h => exact h.2
  | 2, h => exact h.2
  | _ + 3, h => exact h.2
theorem partP_sh {m i : Nat} {g : Nat → Int × Int} (hi : i < 4096) : partP 4096 (shP m g) i = g (m * 4096 + i) := by
  unfold partP shP
  rw [if_pos hi]
section
variable {w W : World} {B : Bx} {s : FS} {r : RS}
set_option maxRecDepth 100000 in
set_option maxHeartbeats 8000000 in
theorem do_otherIn (k f a c0 c1 l0 l1 d : Int) (se st : Value) (W : World) (h : Pr w W B s r) (hl : Ld B.n s r) (hk : k % 8 = 7) (ha : 0 ≤ a ∧ a < B.n)
    (hse : ∃ b n c, se = .slice b n c) (hst : ∃ b n c, st = .slice b n c) :
    Calls Try.prog 26 #[.pointer (some ⟨B.pb, 0, none⟩), .pointer (some ⟨B.qb, 0, none⟩), .agg (actC k f a c0 c1 l0 l1 d se st).toArray] W fun e w' => e = .returned (.bool true) ∧ ∃ s' r', Pr w w' B s' r' ∧ Ld B.n s' r' := by
  have hand := i64_and7' hk
  obtain ⟨eb, en, ec, rfl⟩ := hse
  obtain ⟨tb', tn, tc, rfl⟩ := hst
  have hbk := Blk.new W (actC k f a c0 c1 l0 l1 d (.slice eb en ec) (.slice tb' tn tc)).toArray 67
  rw [List.toList_toArray] at hbk
  have h1 := h.keep ((Below.refl W.heap.size W).alloc (Nat.le_refl _) (.cells (actC k f a c0 c1 l0 l1 d (.slice eb en ec) (.slice tb' tn tc)).toArray 67))
  obtain ⟨ab, hab⟩ : ∃ ab, W.heap.size = ab := ⟨_, rfl⟩
  obtain ⟨m, rfl⟩ : ∃ m : Nat, a = (m : Int) := ⟨a.toNat, by omega⟩
  have hm : m < B.n := by omega
  obtain ⟨hc, hli, htl⟩ : (∀ i, i < 4096 → r.CE m i = partP 4096 (shP m s.ce) i) ∧ (∀ i, i < 4096 → r.LI m i = partP 4096 (shP m s.li) i) ∧ (r.T m).length ≤ 100000 := ⟨fun i hi => (hl.l.c m hm i hi).trans (partP_sh hi).symm, fun i hi => (hl.l.l m hm i hi).trans (partP_sh hi).symm, h.R.tl m⟩
  have hst := fun W (h : Pr w W B s r) => h.store hl hm
  have htwo := two_load (w := w) hl f (cce := partP 4096 (shP m s.ce)) (cli := partP 4096 (shP m s.li)) (dce := r.CE m) (dli := r.LI m) (ts := r.T m) hc hli (U8.part (g := shP m s.ce) (fun i => h.F.1.uc _) _) (U8.part (g := shP m s.li) (fun i => h.F.1.ul _) _) (h.R.u8 m).1 (h.R.u8 m).2 htl
  generalize partP 4096 (shP m s.ce) = XE at *
  generalize partP 4096 (shP m s.li) = XL at *
  clear hc hli htl
  have hmz : (m : Int) < (B.n : Int) := by omega
  replace hst := Lib.hid hst
  rw [hab] at hbk
  unfold actC at *
  obtain ⟨W1, hW1⟩ : ∃ W1, W.alloc (.cells #[.int .i64 k, .int .i64 f, .int .i64 (m : Int), .int .u8 c0, .int .u8 c1, .int .u8 l0, .int .u8 l1, .int .i64 d, .slice eb en ec, .slice tb' tn tc] 67) = W1 := ⟨_, rfl⟩
  rw [hW1] at hbk h1
  have x0 := hbk.cell 0 rfl
  have x2 := hbk.cell 2 rfl
  have q0 := h1.R.c0
  have n64 := h1.R.n64
  have p0 := h1.R.ptr hm
  have p1 : decide ((m : Int) < (B.n : Int)) = true := decide_eq_true hmz
  replace htwo := Lib.hid htwo
  replace hbk := Lib.hid hbk
  replace h1 := Lib.hid h1
  clear h hl
  go_enter Try.func26, Try.ntmps26
  go_wp2_with fail
  go_quiet (fail)
  have hb2 := below_drewN (Below.refl W1.heap.size W1) nq
  obtain ⟨W2, hW2⟩ : ∃ W2, W1.drewN nq = W2 := ⟨_, rfl⟩
  rw [hW2] at hb2 ⊢
  clear hW2 nq
  have x2 := (hbk.out.below hb2 hbk.out.lt).cell 2 rfl
  have q0 := (h1.out.keep hb2).R.c0
  have p0 := (h1.out.keep hb2).R.ptr hm
  go_wp2_with fail
  go_quiet (fail)
  replace hb2 := below_drewN hb2 nq
  obtain ⟨W3, hW3⟩ : ∃ W3, W2.drewN nq = W3 := ⟨_, rfl⟩
  rw [hW3] at hb2 ⊢
  clear hW3 nq
  have hbk3 := hbk.out.below hb2 hbk.out.lt
  have h3 := h1.out.keep hb2
  clear hbk h1 hb2 x0 x2 q0 n64 hW1 p0 p1 hmz
  have hbk := Lib.hid hbk3
  have h1 := Lib.hid h3
  clear hbk3 h3
  go_upto_region 5 with fail
  obtain ⟨bv, s', r', hld, hP, hQ⟩ := htwo.out
  replace hP := Lib.hid hP
  replace hQ := Lib.hid hQ
  obtain ⟨CC, hCC⟩ : ∃ C, C = triC W3 ab [.int .i64 k, .int .i64 f, .int .i64 (m : Int), .int .u8 c0, .int .u8 c1, .int .u8 l0, .int .u8 l1, .int .i64 d, .slice eb en ec, .slice tb' tn tc] (fun v W => ∃ b, v = .pointer (some ⟨b, 0, none⟩) ∧ Pr w W B s r ∧ Ch W b XE XL (r.T m)) (fun W => Pr w W B s' r) (fun W => ∃ x, Pr w W B s' { r' with x := x }) := ⟨_, rfl⟩
  have hblk : ∀ u N W, AnyStage (CC u) N W → Blk W ab [.int .i64 k, .int .i64 f, .int .i64 (m : Int), .int .u8 c0, .int .u8 c1, .int .u8 l0, .int .u8 l1, .int .i64 d, .slice eb en ec, .slice tb' tn tc] 67 := by
    rw [hCC]; exact fun u N W h => triC_blk hbk.out h
  replace hCC := Lib.hid hCC
  replace hblk := Lib.hid hblk
  refine wp_region_stageM [3, 3, 3, 3, 3, 3, 3, 3, 3, 3, 3, 3, 3, 3, 3] (C := CC) (V := triV (fun v => ∃ b, v = .pointer (some ⟨b, 0, none⟩)) (fun v => v = .int .i64 bv) (fun v => v = .int .i64 bv)) (N := 3) (by kernel_rfl) (by kernel_rfl) (by kernel_rfl) (by kernel_rfl) (by kernel_rfl) (triV_some ⟨_, 0, rfl⟩ ⟨_, rfl⟩ ⟨_, rfl⟩) (fun u u' s w h1 h2 => by rw [hCC.out] at *; exact triC_cong u u' s w h1 h2) (fun _ => by rw [hCC.out]; rfl) ?_
  intro u hu
  obtain ⟨cb, e0⟩ : ∃ b, u 0 = .pointer (some ⟨b, 0, none⟩) := hu 0
  have e1 : u 1 = .int .i64 bv := hu 1
  have e2 : u 2 = .int .i64 bv := hu 2
  have y1 : ∀ p : {w // AnyStage (CC u) 3 w}, p.val.cell? ⟨ab, 1, none⟩ = some (Value.int .i64 f) := fun p => (hblk.out _ _ _ p.property).cell 1 rfl
  have y2 : ∀ p : {w // AnyStage (CC u) 3 w}, p.val.cell? ⟨ab, 2, none⟩ = some (Value.int .i64 (m : Int)) := fun p => (hblk.out _ _ _ p.property).cell 2 rfl
  have n2 : Nonempty {w // AnyStage (CC u) 3 w} := ⟨⟨W3.drew, 0, by omega, by rw [hCC.out]; rfl⟩⟩
  repeat (refine wpStageM_step rfl (fun K hK => ?_); go_simp; refine hK _ ?_; clear hK K)
  refine wpStageM_call rfl (fun w' hw' => ?_) ?_
  · have e : w' = W3.drew := by rw [hCC.out] at hw'; exact hw'
    subst e
    unfold callAtU
    go_simp
    refine (hst.out _ (h1.out.keep (Below.refl _ _).drew)).mono ?_
    rintro e W2 ⟨b, rfl, hc, hb⟩
    rw [hCC.out]
    exact ⟨_, rfl, ⟨b, rfl⟩, ⟨b, rfl, (h1.out.keep (Below.refl _ _).drew).keep hb, hc⟩, hbk.out.below ((Below.refl _ _).drew.trans hb) hbk.out.lt⟩
  rw [e0]
  repeat (refine wpStageM_step rfl (fun K hK => ?_); go_simp; refine hK _ ?_; clear hK K)
  refine wpStageM_call rfl (fun w' hw' => ?_) ?_
  · rw [hCC.out] at hw'
    obtain ⟨⟨b, eb', hp, hc⟩, hb⟩ := hw'
    rw [e0] at eb'
    injection eb' with eb'; injection eb' with eb'; injection eb' with eb'
    subst eb'
    replace hp := Lib.hid hp
    replace hc := Lib.hid hc
    replace hb := Lib.hid hb
    unfold callAtU
    go_simp
    refine (hP.out _ _ hp.out hc.out).mono ?_
    rintro e W2 ⟨rfl, hp2, hn⟩
    rw [hCC.out]
    exact ⟨_, rfl, rfl, hp2, hp.out.nearP (But2.left hn _) _ hb.out⟩
  rw [e1]
  repeat (refine wpStageM_step rfl (fun K hK => ?_); go_simp; refine hK _ ?_; clear hK K)
  refine wpStageM_call rfl (fun w' hw' => ?_) ?_
  · rw [hCC.out] at hw'
    obtain ⟨hp, hb⟩ := hw'
    replace hp := Lib.hid hp
    replace hb := Lib.hid hb
    unfold callAtU
    go_simp
    refine (hQ.out _ _ hp.out (hp.out.R.ch m hm)).mono ?_
    rintro e W2 ⟨rfl, hp2, hn⟩
    rw [hCC.out]
    exact ⟨_, rfl, rfl, hp2, hp.out.nearQ (But2.left hn _) (.inl rfl) (.inl rfl) _ hb.out⟩
  rw [e2]
  repeat (refine wpStageM_step rfl (fun K hK => ?_); go_simp; refine hK _ ?_; clear hK K)
  refine wpStageM_nil ?_
  intro w' hw'
  rw [hCC.out] at hw'
  obtain ⟨⟨x', hp⟩, _⟩ := hw'
  replace hp := Lib.hid hp
  clear y1 y2 n2
  go_wp2_with fail
  go_ret
  exact ⟨rfl, s', _, hp.out, hld.l, hld.tk⟩
theorem two_none (hl : Ld B.n s r) (ab : Nat) (f : Int) : ∃ v, Two w B ab s r 9 #[.pointer (some ⟨B.pb, 0, none⟩), .int .i64 f, .pointer none] 42 #[.pointer (some ⟨B.qb, 0, none⟩), .int .i64 f, .pointer none] (.int .i64 v) (.int .i64 v) := by
  obtain ⟨v, hP, hQ⟩ := two_loadNil (w := w) hl f
  exact ⟨v, s, r, hl, (fun W h => (hP W h).mono fun _ _ ⟨he, hp, hb⟩ => ⟨he, hp, h.nearP (But2.left hb _)⟩), fun W h => (hQ W h).mono fun _ _ ⟨he, hp, hb⟩ => ⟨he, hp, h.nearQ (But2.left hb _) (.inl rfl) (.inl rfl)⟩⟩
set_option maxRecDepth 100000 in
set_option maxHeartbeats 8000000 in
theorem do_otherLow (k f a c0 c1 l0 l1 d : Int) (se st : Value) (W : World) (h : Pr w W B s r) (hl : Ld B.n s r) (hk : k % 8 = 7) (ha : a < 0)
    (hse : ∃ b n c, se = .slice b n c) (hst : ∃ b n c, st = .slice b n c) :
    Calls Try.prog 26 #[.pointer (some ⟨B.pb, 0, none⟩), .pointer (some ⟨B.qb, 0, none⟩), .agg (actC k f a c0 c1 l0 l1 d se st).toArray] W fun e w' => e = .returned (.bool true) ∧ ∃ s' r', Pr w w' B s' r' ∧ Ld B.n s' r' := by
  have hand := i64_and7' hk
  obtain ⟨eb, en, ec, rfl⟩ := hse
  obtain ⟨tb', tn, tc, rfl⟩ := hst
  have hbk := Blk.new W (actC k f a c0 c1 l0 l1 d (.slice eb en ec) (.slice tb' tn tc)).toArray 67
  rw [List.toList_toArray] at hbk
  have h1 := h.keep ((Below.refl W.heap.size W).alloc (Nat.le_refl _) (.cells (actC k f a c0 c1 l0 l1 d (.slice eb en ec) (.slice tb' tn tc)).toArray 67))
  obtain ⟨ab, hab⟩ : ∃ ab, W.heap.size = ab := ⟨_, rfl⟩
  have hst := fun W (h : Pr w W B s r) => h.F.storeOut (f := a) (by omega)
  have htwo : ∃ v, Two w B ab s r 9 #[.pointer (some ⟨B.pb, 0, none⟩), .int .i64 f, .pointer none] 42 #[.pointer (some ⟨B.qb, 0, none⟩), .int .i64 f, .pointer none] (.int .i64 v) (.int .i64 v) := two_none hl ab f
  replace hst := Lib.hid hst
  rw [hab] at hbk
  unfold actC at *
  obtain ⟨W1, hW1⟩ : ∃ W1, W.alloc (.cells #[.int .i64 k, .int .i64 f, .int .i64 a, .int .u8 c0, .int .u8 c1, .int .u8 l0, .int .u8 l1, .int .i64 d, .slice eb en ec, .slice tb' tn tc] 67) = W1 := ⟨_, rfl⟩
  rw [hW1] at hbk h1
  have x0 := hbk.cell 0 rfl
  have x2 := hbk.cell 2 rfl
  have q0 := h1.R.c0
  have n64 := h1.R.n64
  have p1 : decide (0 ≤ a) = false := by simp; omega
  replace htwo := Lib.hid htwo
  replace hbk := Lib.hid hbk
  replace h1 := Lib.hid h1
  clear h hl
  go_enter Try.func26, Try.ntmps26
  go_wp2_with fail
  go_quiet (fail)
  have hb2 := below_drewN (Below.refl W1.heap.size W1) nq
  obtain ⟨W2, hW2⟩ : ∃ W2, W1.drewN nq = W2 := ⟨_, rfl⟩
  rw [hW2] at hb2 ⊢
  clear hW2 nq
  have hbk3 := hbk.out.below hb2 hbk.out.lt
  have h3 := h1.out.keep hb2
  clear hbk h1 hb2 x0 x2 q0 n64 hW1 p1
  have hbk := Lib.hid hbk3
  have h1 := Lib.hid h3
  clear hbk3 h3
  go_upto_region 5 with fail
  obtain ⟨bv, s', r', hld, hP, hQ⟩ := htwo.out
  replace hP := Lib.hid hP
  replace hQ := Lib.hid hQ
  obtain ⟨CC, hCC⟩ : ∃ C, C = triC W2 ab [.int .i64 k, .int .i64 f, .int .i64 a, .int .u8 c0, .int .u8 c1, .int .u8 l0, .int .u8 l1, .int .i64 d, .slice eb en ec, .slice tb' tn tc] (fun v W => v = .pointer none ∧ Pr w W B s r) (fun W => Pr w W B s' r) (fun W => ∃ x, Pr w W B s' { r' with x := x }) := ⟨_, rfl⟩
  have hblk : ∀ u N W, AnyStage (CC u) N W → Blk W ab [.int .i64 k, .int .i64 f, .int .i64 a, .int .u8 c0, .int .u8 c1, .int .u8 l0, .int .u8 l1, .int .i64 d, .slice eb en ec, .slice tb' tn tc] 67 := by
    rw [hCC]; exact fun u N W h => triC_blk hbk.out h
  replace hCC := Lib.hid hCC
  replace hblk := Lib.hid hblk
  refine wp_region_stageM [3, 3, 3, 3, 3, 3, 3, 3, 3, 3, 3, 3, 3, 3, 3] (C := CC) (V := triV (fun v => v = .pointer none) (fun v => v = .int .i64 bv) (fun v => v = .int .i64 bv)) (N := 3) (by kernel_rfl) (by kernel_rfl) (by kernel_rfl) (by kernel_rfl) (by kernel_rfl) (triV_some ⟨_, rfl⟩ ⟨_, rfl⟩ ⟨_, rfl⟩) (fun u u' s w h1 h2 => by rw [hCC.out] at *; exact triC_cong u u' s w h1 h2) (fun _ => by rw [hCC.out]; rfl) ?_
  intro u hu
  have e0 : u 0 = .pointer none := hu 0
  have e1 : u 1 = .int .i64 bv := hu 1
  have e2 : u 2 = .int .i64 bv := hu 2
  have y1 : ∀ p : {w // AnyStage (CC u) 3 w}, p.val.cell? ⟨ab, 1, none⟩ = some (Value.int .i64 f) := fun p => (hblk.out _ _ _ p.property).cell 1 rfl
  have y2 : ∀ p : {w // AnyStage (CC u) 3 w}, p.val.cell? ⟨ab, 2, none⟩ = some (Value.int .i64 a) := fun p => (hblk.out _ _ _ p.property).cell 2 rfl
  have n2 : Nonempty {w // AnyStage (CC u) 3 w} := ⟨⟨W2.drew, 0, by omega, by rw [hCC.out]; rfl⟩⟩
  repeat (refine wpStageM_step rfl (fun K hK => ?_); go_simp; refine hK _ ?_; clear hK K)
  refine wpStageM_call rfl (fun w' hw' => ?_) ?_
  · have e : w' = W2.drew := by rw [hCC.out] at hw'; exact hw'
    subst e
    unfold callAtU
    go_simp
    refine (hst.out _ (h1.out.keep (Below.refl _ _).drew)).mono ?_
    rintro e W2 ⟨rfl, hF, hb⟩
    rw [hCC.out]
    exact ⟨_, rfl, rfl, ⟨rfl, (h1.out.keep (Below.refl _ _).drew).keep hb⟩, hbk.out.below ((Below.refl _ _).drew.trans hb) hbk.out.lt⟩
  rw [e0]
  repeat (refine wpStageM_step rfl (fun K hK => ?_); go_simp; refine hK _ ?_; clear hK K)
  refine wpStageM_call rfl (fun w' hw' => ?_) ?_
  · rw [hCC.out] at hw'
    obtain ⟨⟨_, hp⟩, hb⟩ := hw'
    replace hp := Lib.hid hp
    replace hb := Lib.hid hb
    unfold callAtU
    go_simp
    refine (hP.out _ hp.out).mono ?_
    rintro e W2 ⟨rfl, hp2, hn⟩
    rw [hCC.out]
    exact ⟨_, rfl, rfl, hp2, hn _ hb.out⟩
  rw [e1]
  repeat (refine wpStageM_step rfl (fun K hK => ?_); go_simp; refine hK _ ?_; clear hK K)
  refine wpStageM_call rfl (fun w' hw' => ?_) ?_
  · rw [hCC.out] at hw'
    obtain ⟨hp, hb⟩ := hw'
    replace hp := Lib.hid hp
    replace hb := Lib.hid hb
    unfold callAtU
    go_simp
    refine (hQ.out _ hp.out).mono ?_
    rintro e W2 ⟨rfl, hp2, hn⟩
    rw [hCC.out]
    exact ⟨_, rfl, rfl, hp2, hn _ hb.out⟩
  rw [e2]
  repeat (refine wpStageM_step rfl (fun K hK => ?_); go_simp; refine hK _ ?_; clear hK K)
  refine wpStageM_nil ?_
  intro w' hw'
  rw [hCC.out] at hw'
  obtain ⟨⟨x', hp⟩, _⟩ := hw'
  replace hp := Lib.hid hp
  clear y1 y2 n2
  go_wp2_with fail
  go_ret
  exact ⟨rfl, s', _, hp.out, hld.l, hld.tk⟩
set_option maxRecDepth 100000 in
set_option maxHeartbeats 8000000 in
theorem do_otherHigh (k f a c0 c1 l0 l1 d : Int) (se st : Value) (W : World) (h : Pr w W B s r) (hl : Ld B.n s r) (hk : k % 8 = 7) (ha : 0 ≤ a ∧ B.n ≤ a)
    (hse : ∃ b n c, se = .slice b n c) (hst : ∃ b n c, st = .slice b n c) :
    Calls Try.prog 26 #[.pointer (some ⟨B.pb, 0, none⟩), .pointer (some ⟨B.qb, 0, none⟩), .agg (actC k f a c0 c1 l0 l1 d se st).toArray] W fun e w' => e = .returned (.bool true) ∧ ∃ s' r', Pr w w' B s' r' ∧ Ld B.n s' r' := by
  have hand := i64_and7' hk
  obtain ⟨eb, en, ec, rfl⟩ := hse
  obtain ⟨tb', tn, tc, rfl⟩ := hst
  have hbk := Blk.new W (actC k f a c0 c1 l0 l1 d (.slice eb en ec) (.slice tb' tn tc)).toArray 67
  rw [List.toList_toArray] at hbk
  have h1 := h.keep ((Below.refl W.heap.size W).alloc (Nat.le_refl _) (.cells (actC k f a c0 c1 l0 l1 d (.slice eb en ec) (.slice tb' tn tc)).toArray 67))
  obtain ⟨ab, hab⟩ : ∃ ab, W.heap.size = ab := ⟨_, rfl⟩
  have hst := fun W (h : Pr w W B s r) => h.F.storeOut (f := a) (by omega)
  have htwo : ∃ v, Two w B ab s r 9 #[.pointer (some ⟨B.pb, 0, none⟩), .int .i64 f, .pointer none] 42 #[.pointer (some ⟨B.qb, 0, none⟩), .int .i64 f, .pointer none] (.int .i64 v) (.int .i64 v) := two_none hl ab f
  replace hst := Lib.hid hst
  rw [hab] at hbk
  unfold actC at *
  obtain ⟨W1, hW1⟩ : ∃ W1, W.alloc (.cells #[.int .i64 k, .int .i64 f, .int .i64 a, .int .u8 c0, .int .u8 c1, .int .u8 l0, .int .u8 l1, .int .i64 d, .slice eb en ec, .slice tb' tn tc] 67) = W1 := ⟨_, rfl⟩
  rw [hW1] at hbk h1
  have x0 := hbk.cell 0 rfl
  have x2 := hbk.cell 2 rfl
  have q0 := h1.R.c0
  have n64 := h1.R.n64
  have p1 : decide (0 ≤ a) = true := decide_eq_true ha.1
  have p2 : decide (a < (B.n : Int)) = false := by simp; omega
  replace htwo := Lib.hid htwo
  replace hbk := Lib.hid hbk
  replace h1 := Lib.hid h1
  clear h hl
  go_enter Try.func26, Try.ntmps26
  go_wp2_with fail
  go_quiet (fail)
  have hb2 := below_drewN (Below.refl W1.heap.size W1) nq
  obtain ⟨W2, hW2⟩ : ∃ W2, W1.drewN nq = W2 := ⟨_, rfl⟩
  rw [hW2] at hb2 ⊢
  clear hW2 nq
  have hbk3 := hbk.out.below hb2 hbk.out.lt
  have h3 := h1.out.keep hb2
  clear hbk h1 hb2 x0 x2 q0 n64 hW1 p1
  have hbk := Lib.hid hbk3
  have h1 := Lib.hid h3
  clear hbk3 h3
  go_upto_region 5 with fail
  obtain ⟨bv, s', r', hld, hP, hQ⟩ := htwo.out
  replace hP := Lib.hid hP
  replace hQ := Lib.hid hQ
  obtain ⟨CC, hCC⟩ : ∃ C, C = triC W2 ab [.int .i64 k, .int .i64 f, .int .i64 a, .int .u8 c0, .int .u8 c1, .int .u8 l0, .int .u8 l1, .int .i64 d, .slice eb en ec, .slice tb' tn tc] (fun v W => v = .pointer none ∧ Pr w W B s r) (fun W => Pr w W B s' r) (fun W => ∃ x, Pr w W B s' { r' with x := x }) := ⟨_, rfl⟩
  have hblk : ∀ u N W, AnyStage (CC u) N W → Blk W ab [.int .i64 k, .int .i64 f, .int .i64 a, .int .u8 c0, .int .u8 c1, .int .u8 l0, .int .u8 l1, .int .i64 d, .slice eb en ec, .slice tb' tn tc] 67 := by
    rw [hCC]; exact fun u N W h => triC_blk hbk.out h
  replace hCC := Lib.hid hCC
  replace hblk := Lib.hid hblk
  refine wp_region_stageM [3, 3, 3, 3, 3, 3, 3, 3, 3, 3, 3, 3, 3, 3, 3] (C := CC) (V := triV (fun v => v = .pointer none) (fun v => v = .int .i64 bv) (fun v => v = .int .i64 bv)) (N := 3) (by kernel_rfl) (by kernel_rfl) (by kernel_rfl) (by kernel_rfl) (by kernel_rfl) (triV_some ⟨_, rfl⟩ ⟨_, rfl⟩ ⟨_, rfl⟩) (fun u u' s w h1 h2 => by rw [hCC.out] at *; exact triC_cong u u' s w h1 h2) (fun _ => by rw [hCC.out]; rfl) ?_
  intro u hu
  have e0 : u 0 = .pointer none := hu 0
  have e1 : u 1 = .int .i64 bv := hu 1
  have e2 : u 2 = .int .i64 bv := hu 2
  have y1 : ∀ p : {w // AnyStage (CC u) 3 w}, p.val.cell? ⟨ab, 1, none⟩ = some (Value.int .i64 f) := fun p => (hblk.out _ _ _ p.property).cell 1 rfl
  have y2 : ∀ p : {w // AnyStage (CC u) 3 w}, p.val.cell? ⟨ab, 2, none⟩ = some (Value.int .i64 a) := fun p => (hblk.out _ _ _ p.property).cell 2 rfl
  have n2 : Nonempty {w // AnyStage (CC u) 3 w} := ⟨⟨W2.drew, 0, by omega, by rw [hCC.out]; rfl⟩⟩
  repeat (refine wpStageM_step rfl (fun K hK => ?_); go_simp; refine hK _ ?_; clear hK K)
  refine wpStageM_call rfl (fun w' hw' => ?_) ?_
  · have e : w' = W2.drew := by rw [hCC.out] at hw'; exact hw'
    subst e
    unfold callAtU
    go_simp
    refine (hst.out _ (h1.out.keep (Below.refl _ _).drew)).mono ?_
    rintro e W2 ⟨rfl, hF, hb⟩
    rw [hCC.out]
    exact ⟨_, rfl, rfl, ⟨rfl, (h1.out.keep (Below.refl _ _).drew).keep hb⟩, hbk.out.below ((Below.refl _ _).drew.trans hb) hbk.out.lt⟩
  rw [e0]
  repeat (refine wpStageM_step rfl (fun K hK => ?_); go_simp; refine hK _ ?_; clear hK K)
  refine wpStageM_call rfl (fun w' hw' => ?_) ?_
  · rw [hCC.out] at hw'
    obtain ⟨⟨_, hp⟩, hb⟩ := hw'
    replace hp := Lib.hid hp
    replace hb := Lib.hid hb
    unfold callAtU
    go_simp
    refine (hP.out _ hp.out).mono ?_
    rintro e W2 ⟨rfl, hp2, hn⟩
    rw [hCC.out]
    exact ⟨_, rfl, rfl, hp2, hn _ hb.out⟩
  rw [e1]
  repeat (refine wpStageM_step rfl (fun K hK => ?_); go_simp; refine hK _ ?_; clear hK K)
  refine wpStageM_call rfl (fun w' hw' => ?_) ?_
  · rw [hCC.out] at hw'
    obtain ⟨hp, hb⟩ := hw'
    replace hp := Lib.hid hp
    replace hb := Lib.hid hb
    unfold callAtU
    go_simp
    refine (hQ.out _ hp.out).mono ?_
    rintro e W2 ⟨rfl, hp2, hn⟩
    rw [hCC.out]
    exact ⟨_, rfl, rfl, hp2, hn _ hb.out⟩
  rw [e2]
  repeat (refine wpStageM_step rfl (fun K hK => ?_); go_simp; refine hK _ ?_; clear hK K)
  refine wpStageM_nil ?_
  intro w' hw'
  rw [hCC.out] at hw'
  obtain ⟨⟨x', hp⟩, _⟩ := hw'
  replace hp := Lib.hid hp
  clear y1 y2 n2
  go_wp2_with fail
  go_ret
  exact ⟨rfl, s', _, hp.out, hld.l, hld.tk⟩
end
end Go.Proofs.Ytlaodkolkoefgaa
