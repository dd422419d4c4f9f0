/-
  The law's do: a chunk of edits and ticks is loaded.
-/
import Derived.Test.YtlaodkolkoefgaaFrDo1
namespace Go.Proofs.Ytlaodkolkoefgaa
open Go.RowKit
set_option linter.unusedSimpArgs false
set_option linter.unusedVariables false

theorem of_ch {se st : Value} {es : List Ed} {ts : List Tk} (W : World) (he : ERow W se es) (ht : TRow W st ts) (hlen : ts.length ≤ 100000) :
    Calls Try.prog 8 #[se, st] W fun e w' => ∃ b, e = .returned (.pointer (some ⟨b, 0, none⟩)) ∧ Ch w' b (edCe es) (edLi es) ts ∧ Below W.heap.size W w' :=
  (ofe_calls se st es ts W he ht (by omega)).mono fun _ _ ⟨he, hb, _, v, hk, ho⟩ => ⟨_, he, ⟨v, hk, ho.row⟩, hb⟩
section
variable {w W : World} {B : Bx} {s : FS} {r : RS}
set_option maxRecDepth 100000 in
set_option maxHeartbeats 8000000 in
theorem do_load (k f a c0 c1 l0 l1 d : Int) (se st : Value) (W : World) (h : Pr w W B s r) (hl : Ld B.n s r) (hk : k % 8 = 0) (hc0 : 0 ≤ c0 ∧ c0 ≤ 255) (hc1 : 0 ≤ c1 ∧ c1 ≤ 255) (hl0 : 0 ≤ l0 ∧ l0 ≤ 255) (hl1 : 0 ≤ l1 ∧ l1 ≤ 255)
    {es : List Ed} {ts : List Tk} (hE : ERow w se es) (hT : TRow w st ts) (hok : EdOk es) (hlen : ts.length ≤ 100000) :
    Calls Try.prog 26 #[.pointer (some ⟨B.pb, 0, none⟩), .pointer (some ⟨B.qb, 0, none⟩), .agg (actC k f a c0 c1 l0 l1 d se st).toArray] W fun e w' => e = .returned (.bool true) ∧ ∃ s' r', Pr w w' B s' r' ∧ Ld B.n s' r' := by
  have hand := i64_and7' hk
  have hof := fun W (h : Pr w W B s r) => of_ch W (hE.keep h.F.below) (TRow.keep hT h.F.below) hlen
  obtain ⟨eb, ec, rfl, _⟩ := hE.open
  obtain ⟨tb', tc, rfl, _⟩ := hT.open
  have hlen0 := hlen
  generalize es.length = en at *
  clear hlen
  obtain ⟨tn, htn⟩ : ∃ tn, ts.length = tn := ⟨_, rfl⟩
  rw [htn] at hof ⊢
  clear htn
  have hlen := hlen0
  clear hlen0
  obtain ⟨uc, ul⟩ := ed_U8 hok
  have hbk := Blk.new W (actC k f a c0 c1 l0 l1 d (.slice eb en ec) (.slice tb' tn tc)).toArray 67
  rw [List.toList_toArray] at hbk
  have h1 := h.keep ((Below.refl W.heap.size W).alloc (Nat.le_refl _) (.cells (actC k f a c0 c1 l0 l1 d (.slice eb en ec) (.slice tb' tn tc)).toArray 67))
  obtain ⟨ab, hab⟩ : ∃ ab, W.heap.size = ab := ⟨_, rfl⟩
  have htwo := two_load (w := w) hl f (cce := edCe es) (cli := edLi es) (dce := edCe es) (dli := edLi es) (ts := ts) (fun _ _ => rfl) (fun _ _ => rfl) uc ul uc ul hlen
  generalize edCe es = XE at *
  generalize edLi es = XL at *
  replace hof := Lib.hid hof
  rw [hab] at hbk
  unfold actC at *
  obtain ⟨W1, hW1⟩ : ∃ W1, W.alloc (.cells #[.int .i64 k, .int .i64 f, .int .i64 a, .int .u8 c0, .int .u8 c1, .int .u8 l0, .int .u8 l1, .int .i64 d, .slice eb en ec, .slice tb' tn tc] 67) = W1 := ⟨_, rfl⟩
  rw [hW1] at hbk h1
  have x0 := hbk.cell 0 rfl
  replace htwo := Lib.hid htwo
  replace hbk := Lib.hid hbk
  replace h1 := Lib.hid h1
  clear h hl hE hT hlen hok uc ul
  go_enter Try.func26, Try.ntmps26
  go_upto_region 8 with fail
  obtain ⟨C8, hC8⟩ : ∃ C, C = twoC W1 ab [.int .i64 k, .int .i64 f, .int .i64 a, .int .u8 c0, .int .u8 c1, .int .u8 l0, .int .u8 l1, .int .i64 d, .slice eb en ec, .slice tb' tn tc] (fun v W => ∃ b, v = .pointer (some ⟨b, 0, none⟩) ∧ Pr w W B s r ∧ Ch W b XE XL ts) (fun v v' W => ∃ b b', v = .pointer (some ⟨b, 0, none⟩) ∧ v' = .pointer (some ⟨b', 0, none⟩) ∧ Pr w W B s r ∧ Ch W b XE XL ts ∧ Ch W b' XE XL ts) := ⟨_, rfl⟩
  have hblk8 : ∀ u N W, AnyStage (C8 u) N W → Blk W ab [.int .i64 k, .int .i64 f, .int .i64 a, .int .u8 c0, .int .u8 c1, .int .u8 l0, .int .u8 l1, .int .i64 d, .slice eb en ec, .slice tb' tn tc] 67 := by
    rw [hC8]; exact fun u N W h => twoC_blk hbk.out h
  replace hC8 := Lib.hid hC8
  replace hblk8 := Lib.hid hblk8
  refine wp_region_stageM [2, 2, 2, 2, 2, 2, 2, 2, 2, 2, 2, 2] (C := C8) (V := twoV (fun v => ∃ b, v = .pointer (some ⟨b, 0, none⟩)) (fun v => ∃ b, v = .pointer (some ⟨b, 0, none⟩))) (N := 2) (by kernel_rfl) (by kernel_rfl) (by kernel_rfl) (by kernel_rfl) (by kernel_rfl) (twoV_some ⟨_, 0, rfl⟩ ⟨_, 0, rfl⟩) (fun u u' s w h1 h2 => by rw [hC8.out] at *; exact twoC_cong u u' s w h1 h2) (fun _ => by rw [hC8.out]; rfl) ?_
  intro u hu
  obtain ⟨cb, e0⟩ : ∃ b, u 0 = .pointer (some ⟨b, 0, none⟩) := hu 0
  obtain ⟨db, e1⟩ : ∃ b, u 1 = .pointer (some ⟨b, 0, none⟩) := hu 1
  have y8 : ∀ p : {w // AnyStage (C8 u) 2 w}, p.val.cell? ⟨ab, 8, none⟩ = some (Value.slice eb en ec) := fun p => (hblk8.out _ _ _ p.property).cell 8 rfl
  have y9 : ∀ p : {w // AnyStage (C8 u) 2 w}, p.val.cell? ⟨ab, 9, none⟩ = some (Value.slice tb' tn tc) := fun p => (hblk8.out _ _ _ p.property).cell 9 rfl
  have n2 : Nonempty {w // AnyStage (C8 u) 2 w} := ⟨⟨W1.drew, 0, by omega, by rw [hC8.out]; rfl⟩⟩
  repeat (refine wpStageM_step rfl (fun K hK => ?_); go_simp; refine hK _ ?_; clear hK K)
  refine wpStageM_call rfl (fun w' hw' => ?_) ?_
  · have e : w' = W1.drew := by rw [hC8.out] at hw'; exact hw'
    subst e
    unfold callAtU
    go_simp
    refine (hof.out _ (h1.out.keep (Below.refl _ _).drew)).mono ?_
    rintro e W2 ⟨b, rfl, hc, hb⟩
    rw [hC8.out]
    exact ⟨_, rfl, ⟨b, rfl⟩, ⟨b, rfl, (h1.out.keep (Below.refl _ _).drew).keep hb, hc⟩, hbk.out.below ((Below.refl _ _).drew.trans hb) hbk.out.lt⟩
  rw [e0]
  repeat (refine wpStageM_step rfl (fun K hK => ?_); go_simp; refine hK _ ?_; clear hK K)
  refine wpStageM_call rfl (fun w' hw' => ?_) ?_
  · rw [hC8.out] at hw'
    obtain ⟨⟨b, eb', hp, hc⟩, hb⟩ := hw'
    replace hp := Lib.hid hp
    replace hc := Lib.hid hc
    replace hb := Lib.hid hb
    clear e0 e1
    replace eb' := Lib.hid eb'
    unfold callAtU
    go_simp
    refine (hof.out _ hp.out).mono ?_
    rintro e W2 ⟨b', rfl, hc', hb'⟩
    rw [hC8.out]
    exact ⟨_, rfl, ⟨b', rfl⟩, ⟨b, b', eb'.out, rfl, hp.out.keep hb', hc.out.keep hb', hc'⟩, hb.out.below hb' hb.out.lt⟩
  rw [e1]
  repeat (refine wpStageM_step rfl (fun K hK => ?_); go_simp; refine hK _ ?_; clear hK K)
  refine wpStageM_nil ?_
  intro w' hw'
  rw [hC8.out] at hw'
  obtain ⟨⟨b, b', eb1, eb2, hp, hc, hc'⟩, hbk2⟩ := hw'
  rw [e0] at eb1
  rw [e1] at eb2
  injection eb1 with eb1; injection eb1 with eb1; injection eb1 with eb1
  injection eb2 with eb2; injection eb2 with eb2; injection eb2 with eb2
  subst eb1 eb2
  replace hp := Lib.hid hp
  replace hc := Lib.hid hc
  replace hc' := Lib.hid hc'
  clear hbk h1 x0 e0 e1
  have hbk := Lib.hid hbk2
  clear hbk2
  clear y8 y9 n2
  obtain ⟨bv, s', r', hld, hP, hQ⟩ := htwo.out
  replace hP := Lib.hid hP
  replace hQ := Lib.hid hQ
  go_upto_region 9 with fail
  obtain ⟨C9, hC9⟩ : ∃ C, C = twoC w' ab [.int .i64 k, .int .i64 f, .int .i64 a, .int .u8 c0, .int .u8 c1, .int .u8 l0, .int .u8 l1, .int .i64 d, .slice eb en ec, .slice tb' tn tc] (fun _ W => Pr w W B s' r ∧ Ch W cb XE XL ts ∧ Ch W db XE XL ts) (fun _ _ W => (∃ x, Pr w W B s' { r' with x := x }) ∧ Ch W cb XE XL ts ∧ Ch W db XE XL ts) := ⟨_, rfl⟩
  have hblk9 : ∀ u N W, AnyStage (C9 u) N W → Blk W ab [.int .i64 k, .int .i64 f, .int .i64 a, .int .u8 c0, .int .u8 c1, .int .u8 l0, .int .u8 l1, .int .i64 d, .slice eb en ec, .slice tb' tn tc] 67 := by
    rw [hC9]; exact fun u N W h => twoC_blk hbk.out h
  replace hC9 := Lib.hid hC9
  replace hblk9 := Lib.hid hblk9
  refine wp_region_stageM [2, 2, 2, 2, 2, 2, 2, 2, 2, 2, 2, 2] (C := C9) (V := twoV (fun v => v = .int .i64 bv) (fun v => v = .int .i64 bv)) (N := 2) (by kernel_rfl) (by kernel_rfl) (by kernel_rfl) (by kernel_rfl) (by kernel_rfl) (twoV_some ⟨_, rfl⟩ ⟨_, rfl⟩) (fun u u' s w h1 h2 => by rw [hC9.out] at *; exact twoC_cong u u' s w h1 h2) (fun _ => by rw [hC9.out]; rfl) ?_
  intro u hu
  have e0 : u 0 = .int .i64 bv := hu 0
  have e1 : u 1 = .int .i64 bv := hu 1
  have y1 : ∀ p : {w // AnyStage (C9 u) 2 w}, p.val.cell? ⟨ab, 1, none⟩ = some (Value.int .i64 f) := fun p => (hblk9.out _ _ _ p.property).cell 1 rfl
  have n2 : Nonempty {w // AnyStage (C9 u) 2 w} := ⟨⟨w'.drew, 0, by omega, by rw [hC9.out]; rfl⟩⟩
  repeat (refine wpStageM_step rfl (fun K hK => ?_); go_simp; refine hK _ ?_; clear hK K)
  refine wpStageM_call rfl (fun w4 hw' => ?_) ?_
  · have e : w4 = w'.drew := by rw [hC9.out] at hw'; exact hw'
    subst e
    unfold callAtU
    go_simp
    refine (hP.out _ _ (hp.out.keep (Below.refl _ _).drew) (hc.out.keep (Below.refl _ _).drew)).mono ?_
    rintro e W2 ⟨rfl, hp2, hb2⟩
    rw [hC9.out]
    have hp1 := hp.out.keep (Below.refl _ _).drew
    exact ⟨_, rfl, rfl, ⟨hp2, (hc.out.keep (Below.refl _ _).drew).p hp1 hb2, (hc'.out.keep (Below.refl _ _).drew).p hp1 hb2⟩, hp1.nearP (But2.left hb2 _) _ (hbk.out.below (Below.refl _ _).drew hbk.out.lt)⟩
  rw [e0]
  repeat (refine wpStageM_step rfl (fun K hK => ?_); go_simp; refine hK _ ?_; clear hK K)
  refine wpStageM_call rfl (fun w4 hw' => ?_) ?_
  · rw [hC9.out] at hw'
    obtain ⟨⟨hp2, hc2, hd2⟩, hb⟩ := hw'
    replace hp2 := Lib.hid hp2
    replace hc2 := Lib.hid hc2
    replace hd2 := Lib.hid hd2
    replace hb := Lib.hid hb
    unfold callAtU
    go_simp
    refine (hQ.out _ _ hp2.out hd2.out).mono ?_
    rintro e W2 ⟨rfl, hp3, hb3⟩
    rw [hC9.out]
    exact ⟨_, rfl, rfl, ⟨hp3, hc2.out.q hp2.out hb3, hd2.out.q hp2.out hb3⟩, hp2.out.nearQ (But2.left hb3 _) (.inl rfl) (.inl rfl) _ hb.out⟩
  rw [e1]
  repeat (refine wpStageM_step rfl (fun K hK => ?_); go_simp; refine hK _ ?_; clear hK K)
  refine wpStageM_nil ?_
  intro w3 hw3
  have hw' := hw3
  clear hw3
  rw [hC9.out] at hw'
  obtain ⟨⟨⟨x', hp2⟩, ⟨v1, hk1, ht1⟩, ⟨v2, hk2, ht2⟩⟩, _⟩ := hw'
  have hq := rsame_calls _ _ _ _ _ _ _ _ _ _ _ hk1 hk2 ht1 ht2
  rw [sameB_of (fun _ _ => rfl) (fun _ _ => rfl)] at hq
  replace hq := Lib.hid hq
  replace hp2 := Lib.hid hp2
  clear hk1 hk2 ht1 ht2 hp hc hc' hbk
  clear y1 n2
  go_wp2_with fail
  refine hq.out.mono ?_
  rintro e W5 ⟨rfl, q, rfl⟩
  have hp5 := hp2.out.keep (below_drewN (Below.refl _ _) q)
  replace hp5 := Lib.hid hp5
  go_wp2_with fail
  go_ret
  exact ⟨rfl, s', _, hp5.out, hld.l, hld.tk⟩
end
end Go.Proofs.Ytlaodkolkoefgaa
