/-
  The walk of CacheSaves.
-/
import Derived.Test.YtpdckjbknphelaaCaE
import Derived.Test.YtpdckjbknphelaaCaPu
namespace Go.Proofs.Ytpdckjbknphelaa
open Go.RowKit
set_option linter.unusedSimpArgs false
set_option linter.unusedVariables false

theorem Wv.keptCell {W : World} {B wb : Nat} {kept : List (Sp × Int)} {calls : List (Bool × Sp × Int)} {fail stop : Int} (h : Wv W B wb kept calls fail stop) : ∃ base cap, W.cell? ⟨wb, 0, none⟩ = some (.slice base kept.length cap) := by
  obtain ⟨hBw, kv, cv, hb, hkr, hcr⟩ := h
  obtain ⟨base, cap, rfl, hnc, hcap, hrow⟩ := hkr.open
  have x0 := hb.cell 0 rfl
  rw [List.length_map] at x0
  exact ⟨base, cap, x0⟩
set_option maxRecDepth 100000 in
set_option maxHeartbeats 20000000 in
theorem saves_walk (n : Int) (va : Value) (la : List Sp) (v : Value) (l : List (Sp × Int)) (W : World) (hn : 0 ≤ n ∧ n ≤ 255) (hla : SRow W 3 va (la.map spL)) (hlka : ∀ t ∈ la, spOk t) (hl : SRow W 4 v (l.map putL)) (hlk : ∀ p ∈ l, putOk p) :
    Calls Try.prog 5 #[.int .u8 n, va, v] W fun e w' => e = .returned (.bool true) ∧ Below W.heap.size W w' := by
  obtain ⟨r, hr⟩ : ∃ r : Nat, n % 12 = (r : Int) := ⟨(n % 12).toNat, by omega⟩
  have hr10 : r ≤ 11 := by omega
  have hrt : Int.tmod n 12 = (r : Int) := by rw [Int.tmod_eq_emod_of_nonneg hn.1]; exact hr
  have hA2 : Below W.heap.size W (W.alloc (.cells #[.slice none 0 0, .slice none 0 0, .int .i64 (-1), .int .i64 0] 29)) := (Below.refl _ _).alloc (Nat.le_refl _) _
  have hw1 : Wv (W.alloc (.cells #[.slice none 0 0, .slice none 0 0, .int .i64 (-1), .int .i64 0] 29)) W.heap.size W.heap.size [] [] (-1) 0 := ⟨Nat.le_refl _, _, _, Blk.new W _ _, ROwn.nil _ _ _ _, ROwn.nil _ _ _ _⟩
  obtain ⟨W1, hW1⟩ : ∃ W1, W.alloc (.cells #[.slice none 0 0, .slice none 0 0, .int .i64 (-1), .int .i64 0] 29) = W1 := ⟨_, rfl⟩
  rw [hW1] at hA2 hw1
  have hnew := cnew_calls (w := W) (1 + r) W.heap.size W1 (by omega) (by omega) hw1 hA2
  rw [show ((1 + r : Nat) : Int) = 1 + (r : Int) by omega] at hnew
  unfold loadF saveF at hnew
  have hwk := fun V => works_calls V
  obtain ⟨m, hm⟩ : ∃ m, 1 + r = m := ⟨_, rfl⟩
  rw [hm] at hnew
  obtain ⟨basea, capa, rfl, hcma, hrowa⟩ := hla.sp
  obtain ⟨base, cap, rfl, hcm, hrow⟩ := hl.puts
  obtain ⟨M, hM⟩ : ∃ M, la.length = M := ⟨_, rfl⟩
  obtain ⟨L, hL⟩ : ∃ L, l.length = L := ⟨_, rfl⟩
  rw [hL, hM]
  unfold maxLen at hcm hcma
  replace hrow := Lib.hid hrow
  replace hlk := Lib.hid hlk
  replace hL := Lib.hid hL
  replace hrowa := Lib.hid hrowa
  replace hlka := Lib.hid hlka
  replace hM := Lib.hid hM
  replace hm := Lib.hid hm
  replace hnew := Lib.hid hnew
  replace hwk := Lib.hid hwk
  clear hl hla hw1
  go_enter Try.func5, Try.ntmps5
  go_wp2_with fail
  refine hnew.out.mono ?_
  rintro e V ⟨b, rfl, hbn, hbw, hC, hb⟩
  replace hbn := Lib.hid hbn
  replace hbw := Lib.hid hbw
  replace hC := Lib.hid hC
  clear hb hW1 hnew hA2
  go_wp2_with fail
  go_loopw [10] (fun i X => ∃ (k : Nat) (c : Cs), k ≤ M ∧ k ≤ 60 ∧ i = .int .i64 k ∧ Cv W X b c (-1) 0 ∧ Vl m c ∧ Nd c ∧ c.kept = [] ∧ c.calls.length ≤ 10 + 4 * k) (fun i _ => 61 - (intOf i).toNat)
  case atStart => exact ⟨0, cs0, by omega, by omega, rfl, hC.out, Vl.start m, fun _ => rfl, rfl, by simp [cs0]⟩
  case round =>
    obtain ⟨k, c, hkL, hk60, rfl, hC, hP, hN, hkn, hcl5⟩ := hrel
    go_upto_region 6 with fail
    go_cut [39] (fun q X => q = .bool (decide (k < M ∧ k < 60)) ∧ wr = X)
    case first => as_aux_lemma =>
      clear hrow hlk hrowa hlka hwk hC hP hN
      by_cases h1 : k < M
      · have q1 : (k : Int) < (M : Int) := by omega
        by_cases h2 : k < 60
        · have q2 : (k : Int) < 60 := by omega
          go_wp2_with fail
          go_meet
          exact ⟨by simp [h1, h2], rfl⟩
        · have q2 : ¬ (k : Int) < 60 := by omega
          go_wp2_with fail
          go_meet
          exact ⟨by simp [h2], rfl⟩
      · have q1 : ¬ (k : Int) < (M : Int) := by omega
        go_wp2_with fail
        go_meet
        exact ⟨by simp [h1], rfl⟩
    case rest =>
    obtain ⟨hcv, hcw⟩ := hcut
    subst hcw
    by_cases hgo : k < M ∧ k < 60
    · rw [decide_eq_true hgo] at hcv
      subst hcv
      obtain ⟨hk1, hk2⟩ := hgo
      have g1 : (k : Int) < (M : Int) := by omega
      have g2 : (k : Int) < 60 := by omega
      have hne : la ≠ [] := fun e => by have := hM.out; rw [e] at this; simp at this; omega
      obtain ⟨rb, ro, rfl, hcell⟩ := hrowa.out hne
      obtain ⟨t, ht⟩ : ∃ t, la[k]? = some t := ⟨_, List.getElem?_eq_getElem (by rw [hM.out]; exact hk1)⟩
      have hto := hlka.out t (List.mem_of_getElem? ht)
      obtain ⟨d0, d1, d2⟩ := hcell k t ht
      obtain ⟨tx, ty, tz⟩ := t
      simp only at d0 d1 d2
      have hrb : rb < W.heap.size := World.block_lt_of_cell? _ _ d0
      have e0 : wr.cell? ⟨rb, ro + k * 3, none⟩ = some _ := (hC.below.cell (p := ⟨rb, _, none⟩) hrb).trans d0
      have e1 : wr.cell? ⟨rb, ro + k * 3 + 1, none⟩ = some _ := (hC.below.cell (p := ⟨rb, _, none⟩) hrb).trans d1
      have e2 : wr.cell? ⟨rb, ro + k * 3 + 2, none⟩ = some _ := (hC.below.cell (p := ⟨rb, _, none⟩) hrb).trans d2
      have hkl0 : c.kept.length = 0 := by rw [hkn]; rfl
      have hgt := get_calls (tx, ty, tz) wr hC hto (by omega) (by omega)
      have hwl : Wl m c := by rw [← hbn.out]; exact hC.wl
      obtain ⟨hn5, hk5⟩ := get_nd (stop := 0) (t := (tx, ty, tz)) hwl hP hN
      obtain ⟨hv5, hl5, _⟩ := get_vl (stop := 0) (t := (tx, ty, tz)) hwl hP
      rw [hbn.out] at hgt
      obtain ⟨⟨gi, gf, c5⟩, hR⟩ : ∃ R, getS (-1) 0 m c (tx, ty, tz) = R := ⟨_, rfl⟩
      rw [hR] at hgt hn5 hk5 hv5 hl5
      simp only at hgt hn5 hk5 hv5 hl5
      rw [hkn] at hk5
      unfold spV at hgt
      replace hgt := Lib.hid hgt
      replace hn5 := Lib.hid hn5
      replace hk5 := Lib.hid hk5
      replace hv5 := Lib.hid hv5
      clear hcell ht d0 d1 d2 hwl hR hC hP hN hkn
      go_wp2_with fail
      refine hgt.out.mono ?_
      rintro e V5 ⟨rfl, hC5, hch⟩
      replace hC5 := Lib.hid hC5
      clear hch hgt e0 e1 e2
      go_wp2_with fail
      go_round
      case rel => exact ⟨k + 1, c5, by omega, by omega, by go_num, hC5.out, hv5.out, hn5.out, hk5.out, by omega⟩
      case measure => simp [intOf]; omega
    · rw [decide_eq_false hgo] at hcv
      subst hcv
      have hd0 : dirts m c = [] := dirts_none fun j _ _ => hN j
      have hkl0 : c.kept.length = 0 := by rw [hkn]; rfl
      have hflu := flush_calls wr hC (by omega) (by omega)
      rw [hbn.out, flush_none hd0] at hflu
      simp only at hflu
      replace hflu := Lib.hid hflu
      replace hd0 := Lib.hid hd0
      replace hP := Lib.hid hP
      clear hC hN hkn hlka hrowa hgo
      go_wp2_with fail
      refine hflu.out.mono ?_
      rintro e V5 ⟨rfl, hC5, hch⟩
      obtain ⟨kb, kc, hkc⟩ := hC5.world.keptCell
      rw [hbw.out, hkl0] at hkc
      have hun := unsaved_calls V5 hC5
      rw [hbn.out, hd0.out] at hun
      replace hun := Lib.hid hun
      replace hC5 := Lib.hid hC5
      clear hch hflu
      go_wp2_with fail
      refine hun.out.mono ?_
      rintro e V6 ⟨vu, rfl, hr6, _, hb⟩
      have hC6 := Lib.hid (hC5.out.keep hb)
      obtain ⟨ub, uc, rfl, hum, _⟩ := hr6.sp
      rw [List.length_nil]
      unfold maxLen at hum
      clear hb hun hC5 hr6 hkc hd0
      go_wp2_with fail
      go_loopw [11] (fun i X => ∃ (k : Nat) (c : Cs), k ≤ L ∧ k ≤ 60 ∧ i = .int .i64 k ∧ Cv W X b c (-1) 0 ∧ Vl m c ∧ c.calls.length ≤ 300 + 4 * k ∧ c.kept.length ≤ 300 + 4 * k) (fun i _ => 61 - (intOf i).toNat)
      case atStart => exact ⟨0, c, by omega, by omega, rfl, hC6.out, hP.out, by omega, by omega⟩
      case round =>
        clear hC6 hP hcl5 hkl0 hkL hk60
        obtain ⟨k, c, hkL, hk60, rfl, hC, hP, hcl5, hkl5⟩ := hrel
        go_upto_region 12 with fail
        go_cut [72] (fun q X => q = .bool (decide (k < L ∧ k < 60)) ∧ wr = X)
        case first => as_aux_lemma =>
          clear hrow hlk hwk hC hP
          by_cases h1 : k < L
          · have q1 : (k : Int) < (L : Int) := by omega
            by_cases h2 : k < 60
            · have q2 : (k : Int) < 60 := by omega
              go_wp2_with fail
              go_meet
              exact ⟨by simp [h1, h2], rfl⟩
            · have q2 : ¬ (k : Int) < 60 := by omega
              go_wp2_with fail
              go_meet
              exact ⟨by simp [h2], rfl⟩
          · have q1 : ¬ (k : Int) < (L : Int) := by omega
            go_wp2_with fail
            go_meet
            exact ⟨by simp [h1], rfl⟩
        case rest =>
        obtain ⟨hcv, hcw⟩ := hcut
        subst hcw
        by_cases hgo : k < L ∧ k < 60
        · rw [decide_eq_true hgo] at hcv
          subst hcv
          obtain ⟨hk1, hk2⟩ := hgo
          have g1 : (k : Int) < (L : Int) := by omega
          have g2 : (k : Int) < 60 := by omega
          have hne : l ≠ [] := fun e => by have := hL.out; rw [e] at this; simp at this; omega
          obtain ⟨rb, ro, rfl, hcell⟩ := hrow.out hne
          obtain ⟨t, ht⟩ : ∃ t, l[k]? = some t := ⟨_, List.getElem?_eq_getElem (by rw [hL.out]; exact hk1)⟩
          have hto := hlk.out t (List.mem_of_getElem? ht)
          obtain ⟨d0, d1, d2, d3⟩ := hcell k t ht
          obtain ⟨⟨tx, ty, tz⟩, tn⟩ := t
          simp only at d0 d1 d2 d3
          obtain ⟨hto, hn0, hn255⟩ := hto
          simp only at hto hn0 hn255
          obtain ⟨vv, hvv⟩ : ∃ vv : Int, tn % 8 = vv := ⟨_, rfl⟩
          have hv07 : 0 ≤ vv ∧ vv ≤ 7 := by omega
          have hvt : Int.tmod tn 8 = vv := by rw [Int.tmod_eq_emod_of_nonneg hn0]; exact hvv
          have hwr : IntKind.i64.wrap vv = vv := IntWalk.i64_in _ (by omega)
          have hrb : rb < W.heap.size := World.block_lt_of_cell? _ _ d0
          have hall : ∀ X, Below W.heap.size W X → X.cell? ⟨rb, ro + k * 4, none⟩ = some (.int .i64 tx) ∧ X.cell? ⟨rb, ro + k * 4 + 1, none⟩ = some (.int .i64 ty) ∧ X.cell? ⟨rb, ro + k * 4 + 2, none⟩ = some (.int .i64 tz) ∧ X.cell? ⟨rb, ro + k * 4 + 3, none⟩ = some (.int .u8 tn) := fun X hb => ⟨(hb.cell (p := ⟨rb, _, none⟩) hrb).trans d0, (hb.cell (p := ⟨rb, _, none⟩) hrb).trans d1, (hb.cell (p := ⟨rb, _, none⟩) hrb).trans d2, (hb.cell (p := ⟨rb, _, none⟩) hrb).trans d3⟩
          replace hall := Lib.hid hall
          replace hvv := Lib.hid hvv
          obtain ⟨e0, e1, e2, e3⟩ := hall.out wr hC.below
          have hgt := get_calls (tx, ty, tz) wr hC hto (by omega) (by omega)
          rw [hbn.out] at hgt
          unfold spV at hgt
          clear hcell ht d0 d1 d2 d3
          cases hm2 : mayS tx ty tz with
          | false =>
            rw [getS_not hm2] at hgt
            simp only at hgt
            replace hgt := Lib.hid hgt
            replace hP := Lib.hid hP
            clear hm2 hC hto
            go_wp2_with fail
            refine hgt.out.mono ?_
            rintro e V5 ⟨rfl, hC5, hch⟩
            clear e0 e1 e2 e3
            replace hC5 := Lib.hid hC5
            clear hch hgt hall
            go_wp2_with fail
            go_round
            case rel => exact ⟨k + 1, c, by omega, by omega, by go_num, hC5.out, hP.out, by omega, by omega⟩
            case measure => simp [intOf]; omega
          | true =>
            obtain ⟨i, c5, hg5, hin, hwh5, hP5, hv5, hl5, hk5⟩ := get_val (stop := 0) (t := (tx, ty, tz)) (by rw [← hbn.out]; exact hC.wl) hP hm2
            rw [hg5] at hgt
            simp only at hgt
            replace hgt := Lib.hid hgt
            replace hP5 := Lib.hid hP5
            replace hwh5 := Lib.hid hwh5
            replace hto := Lib.hid hto
            clear hm2 hg5 hP hC hv5
            go_wp2_with fail
            refine hgt.out.mono ?_
            rintro e V7 ⟨rfl, hC5, hch⟩
            have hC7 := hC5.keep (Below.refl V7.heap.size V7).drew
            have hw5 : Wl m c5 := by rw [← hbn.out]; exact hC7.wl
            replace hw5 := Lib.hid hw5
            clear e0 e1 e2 e3 hch hC5 hgt
            -- the frame's cell
            have hpl := pool_calls V7.drew hC7
            have hcc := cell_calls vv V7.drew ⟨hv07.1, by omega⟩
            have hib : i < b.n := by rw [hbn.out]; exact hin
            have hsc := fun X (hb : Below V7.drew.heap.size V7.drew X) => (hC7.keep hb).setVal (i := i) (v := vv) hib hv07
            replace hpl := Lib.hid hpl
            replace hcc := Lib.hid hcc
            replace hsc := Lib.hid hsc
            replace hC7 := Lib.hid hC7
            go_upto_region 16 with fail
            obtain ⟨CC, hCC⟩ : ∃ C, C = putC V7.drew (fun X => Cv W X b (setV c5 i vv) (-1) 0 ∧ Chg W.heap.size chA V7.drew X) := ⟨_, rfl⟩
            have hlo : ∀ u (p : {w // AnyStage (CC u) 3 w}), Below W.heap.size W p.val := by
              rw [hCC]
              exact fun u p => hC7.out.below.trans (putC_below hC7.out.below.size (fun X h => h.2.belowB hC7.out.below.size) u p)
            replace hCC := Lib.hid hCC
            replace hlo := Lib.hid hlo
            refine wp_region_stageN [3, 3, 3, 3, 3, 3, 3, 3, 3, 3, 3, 3] (C := CC) (V := putV (.pointer (some ⟨b.pb, 0, none⟩)) (.agg #[.int .u8 (cellV vv).1, .int .u8 (cellV vv).2]) (.bool true)) (N := 3) (by kernel_rfl) (by kernel_rfl) (by kernel_rfl) (by kernel_rfl) (by kernel_rfl) (putV_some _ _ _) (fun u u' s w h1 h2 => by rw [hCC.out] at *; exact h2) (fun _ => by rw [hCC.out]; rfl) ?_
            intro u hu
            have u0 : u 0 = .pointer (some ⟨b.pb, 0, none⟩) := hu 0
            have u1 : u 1 = .agg #[.int .u8 (cellV vv).1, .int .u8 (cellV vv).2] := hu 1
            have u2 : u 2 = .bool true := hu 2
            have n3 : Nonempty {w // AnyStage (CC u) 3 w} := ⟨⟨V7.drew, 0, by omega, by rw [hCC.out]; rfl⟩⟩
            have y3 : ∀ p : {w // AnyStage (CC u) 3 w}, p.val.cell? ⟨rb, ro + k * 4 + 3, none⟩ = some (Value.int .u8 tn) := fun p => (hall.out _ (hlo.out u p)).2.2.2
            repeat (refine wpStageN_step rfl rfl (fun K hK => ?_); go_simp; refine hK _ ?_; clear hK K)
            refine wpStageN_call rfl rfl (fun Wx hx => ?_) ?_
            · rw [hCC.out] at hx
              obtain rfl : Wx = V7.drew := hx
              unfold callAtU
              go_simp
              refine hpl.out.mono ?_
              rintro e V ⟨rfl, rfl⟩
              rw [hCC.out]
              exact ⟨_, rfl, rfl, rfl⟩
            rw [u0]
            repeat (refine wpStageN_step rfl rfl (fun K hK => ?_); go_simp; refine hK _ ?_; clear hK K)
            refine wpStageN_call rfl rfl (fun Wx hx => ?_) ?_
            · rw [hCC.out] at hx
              obtain rfl : Wx = V7.drew := hx
              unfold callAtU
              go_simp
              refine hcc.out.mono ?_
              rintro e V ⟨rfl, hb⟩
              rw [hCC.out]
              exact ⟨_, rfl, rfl, hb⟩
            rw [u1]
            repeat (refine wpStageN_step rfl rfl (fun K hK => ?_); go_simp; refine hK _ ?_; clear hK K)
            refine wpStageN_call rfl rfl (fun Wx hx => ?_) ?_
            · rw [hCC.out] at hx
              have hb : Below V7.drew.heap.size V7.drew Wx := hx
              have h3 := hsc.out Wx hb
              replace h3 := Lib.hid h3
              replace hb := Lib.hid hb
              unfold callAtU
              go_simp
              refine h3.out.mono ?_
              rintro e V ⟨rfl, hcv, hch⟩
              rw [hCC.out]
              exact ⟨_, rfl, rfl, hcv, (Chg.of_below hb.out).trans hch⟩
            rw [u2]
            repeat (refine wpStageN_step rfl rfl (fun K hK => ?_); go_simp; refine hK _ ?_; clear hK K)
            refine wpStageN_nil ?_
            intro V8 hx
            rw [hCC.out] at hx
            obtain ⟨hC8, hch⟩ : Cv W V8 b (setV c5 i vv) (-1) 0 ∧ Chg W.heap.size chA V7.drew V8 := hx
            obtain ⟨e0, e1, e2, e3⟩ := hall.out V8 hC8.below
            have hdc := dirty_calls (tx, ty, tz) V8 hC8 hto.out
            obtain ⟨p1, p2, p3, p4, p5⟩ := put_val (v := vv) hw5.out hP5.out hwh5.out
            rw [p1] at hdc
            unfold spV at hdc
            obtain ⟨c9, hc9⟩ : ∃ c9, (dirtyS (setV c5 i vv) (tx, ty, tz)).2 = c9 := ⟨_, rfl⟩
            rw [hc9] at hdc p2 p4 p5
            have hlen : c9.calls.length ≤ 300 + 4 * (k + 1) ∧ c9.kept.length ≤ 300 + 4 * (k + 1) := by rw [p4, p5]; omega
            replace hdc := Lib.hid hdc
            replace p2 := Lib.hid p2
            clear hch hC8 hC7 y3 n3 u0 u1 u2 hu hlo hCC hpl hcc hsc hc9 p1 p3 p4 p5 hwh5 hP5 hk5 hl5 hcl5 hkl5
            go_wp2_with fail
            refine hdc.out.mono ?_
            rintro e V9 ⟨rfl, hC9, hch⟩
            replace hC9 := Lib.hid hC9
            clear hch hdc e0 e1 e2 e3 hall
            go_wp2_with fail
            go_round
            case rel => exact ⟨k + 1, c9, by omega, by omega, by go_num, hC9.out, p2.out, hlen.1, hlen.2⟩
            case measure => simp [intOf]; omega
        · rw [decide_eq_false hgo] at hcv
          subst hcv
          have hwl : Wl m c := by rw [← hbn.out]; exact hC.wl
          obtain ⟨c9, hf9, hk9, hl9, hd9⟩ := flush_all (stop := 0) hwl
          have hun := unsaved_calls wr hC
          rw [hbn.out] at hun
          have hD64 : (dirts m c).length ≤ m := by rw [dirts_len]; exact selN_len _ _ _
          obtain ⟨A, hA⟩ : ∃ A, dirts m c = A := ⟨_, rfl⟩
          rw [hA] at hun hk9 hD64
          obtain ⟨D, hD⟩ : ∃ D, A.length = D := ⟨_, rfl⟩
          obtain ⟨K, hK⟩ : ∃ K, c.kept.length = K := ⟨_, rfl⟩
          rw [hD] at hk9 hD64
          rw [hK] at hk9 hkl5
          have hm12 : m ≤ 12 := by have := hm.out; omega
          have hflu := fun V (hC : Cv W V b c (-1) 0) => flush_calls V hC (by omega) (by omega)
          rw [hbn.out, hf9] at hflu
          simp only at hflu
          have hflu2 := fun V (hC : Cv W V b c9 (-1) 0) => flush_calls V hC (by omega) (by omega)
          rw [hbn.out, flush_none hd9] at hflu2
          simp only at hflu2
          have hun2 := fun V (hC : Cv W V b c9 (-1) 0) => unsaved_calls V hC
          rw [hbn.out, hd9] at hun2
          replace hC := Lib.hid hC
          replace hun := Lib.hid hun
          replace hun2 := Lib.hid hun2
          replace hflu := Lib.hid hflu
          replace hflu2 := Lib.hid hflu2
          replace hD := Lib.hid hD
          replace hK := Lib.hid hK
          replace hk9 := Lib.hid hk9
          clear hP hA hwl hf9 hd9 hl9 hlk hrow hgo
          go_wp2_with fail
          refine hun.out.mono ?_
          rintro e V7 ⟨vu, rfl, hr7, _, hb⟩
          have hC7 := hC.out.keep hb
          obtain ⟨db, dc, rfl, hdm, _⟩ := hr7.sp
          rw [hD.out]
          unfold maxLen at hdm
          obtain ⟨kb7, kc7, hkc⟩ := hC7.world.keptCell
          rw [hbw.out, hK.out] at hkc
          have hfl := hflu.out V7 hC7
          replace hfl := Lib.hid hfl
          clear hb hun hC hr7 hC7 hflu
          go_wp2_with fail
          refine hfl.out.mono ?_
          rintro e V8 ⟨rfl, hC8, hch⟩
          clear hkc hch hfl
          obtain ⟨kb8, kc8, hkc⟩ := hC8.world.keptCell
          rw [hbw.out, hk9.out] at hkc
          have hu2 := hun2.out V8 hC8
          replace hu2 := Lib.hid hu2
          replace hC8 := Lib.hid hC8
          go_wp2_with fail
          refine hu2.out.mono ?_
          rintro e V9 ⟨vu, rfl, hr9, _, hb⟩
          have hC9 := hC8.out.keep hb
          obtain ⟨ub9, uc9, rfl, hum9, _⟩ := hr9.sp
          rw [List.length_nil]
          unfold maxLen at hum9
          have hf2 := hflu2.out V9 hC9
          replace hf2 := Lib.hid hf2
          clear hb hu2 hC8 hr9 hkc hC9 hun2 hflu2
          go_wp2_with fail
          refine hf2.out.mono ?_
          rintro e V10 ⟨rfl, hC10, hch⟩
          clear hch hf2
          obtain ⟨kb10, kc10, hkc⟩ := hC10.world.keptCell
          rw [hbw.out, hk9.out] at hkc
          have hE10 := Lib.hid hC10.below
          clear hC10
          go_wp2_with fail
          refine (hwk.out _).mono ?_
          rintro e V11 ⟨rfl, hb⟩
          have hE11 := Lib.hid (hE10.out.trans (hb.mono hE10.out.size))
          clear hb hE10
          go_wp2_with fail
          go_ret
          exact ⟨rfl, hE11.out⟩
end Go.Proofs.Ytpdckjbknphelaa
