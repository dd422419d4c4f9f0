/-
  The walk of CacheHolds.
-/
import Derived.Test.YtpdckjbknphelaaCaT
namespace Go.Proofs.Ytpdckjbknphelaa
open Go.RowKit
set_option linter.unusedSimpArgs false
set_option linter.unusedVariables false

/-- A put, as cells. -/
def putL (p : Sp × Int) : List Value := [.int .i64 p.1.1, .int .i64 p.1.2.1, .int .i64 p.1.2.2, .int .u8 p.2]
def putOk (p : Sp × Int) : Prop := spOk p.1 ∧ 0 ≤ p.2 ∧ p.2 ≤ 255
theorem SRow.puts {W : World} {v : Value} {l : List (Sp × Int)} (h : SRow W 4 v (l.map putL)) : ∃ base cap, v = .slice base l.length cap ∧ cap ≤ maxLen ∧ (l ≠ [] → ∃ b off, base = some ⟨b, off, none⟩ ∧ ∀ j p, l[j]? = some p → W.cell? ⟨b, off + j * 4, none⟩ = some (.int .i64 p.1.1) ∧ W.cell? ⟨b, off + j * 4 + 1, none⟩ = some (.int .i64 p.1.2.1) ∧ W.cell? ⟨b, off + j * 4 + 2, none⟩ = some (.int .i64 p.1.2.2) ∧ W.cell? ⟨b, off + j * 4 + 3, none⟩ = some (.int .u8 p.2)) := by
  obtain ⟨base, cap, e, h1, h2, h3⟩ := h
  rw [List.length_map] at e
  refine ⟨base, cap, e, h2, fun hne => ?_⟩
  obtain ⟨b, off, hb, hc⟩ := h3 (fun e => hne (List.map_eq_nil_iff.1 e))
  refine ⟨b, off, hb, fun j s hs => ?_⟩
  have hx : (l.map putL)[j]? = some (putL s) := by rw [List.getElem?_map, hs]; rfl
  exact ⟨hc j _ hx 0 _ rfl, hc j _ hx 1 _ rfl, hc j _ hx 2 _ rfl, hc j _ hx 3 _ rfl⟩
/-- The stages of a frame's cell being set. -/
def putC (w0 : World) (E : World → Prop) (_ : Nat → Value) (s : Nat) (W : World) : Prop := match s with
  | 0 => W = w0
  | 1 => W = w0
  | 2 => Below w0.heap.size w0 W
  | _ => E W
def putV (v0 v1 v2 : Value) (s : Nat) (v : Value) : Prop := match s with
  | 0 => v = v0
  | 1 => v = v1
  | 2 => v = v2
  | _ => True
theorem putV_some (v0 v1 v2 : Value) (s : Nat) : ∃ v, putV v0 v1 v2 s v := match s with
  | 0 => ⟨_, rfl⟩
  | 1 => ⟨_, rfl⟩
  | 2 => ⟨_, rfl⟩
  | _ + 3 => ⟨undef, trivial⟩
theorem putC_below {w0 : World} {E : World → Prop} {B : Nat} (hB : B ≤ w0.heap.size) (hE : ∀ W, E W → Below B w0 W) (u : Nat → Value) : ∀ p : {w // AnyStage (putC w0 E u) 3 w}, Below B w0 p.val := fun ⟨V, s, hs, h⟩ => by
  match s, hs, h with
  | 0, _, h => cases h; exact Below.refl _ _
  | 1, _, h => cases h; exact Below.refl _ _
  | 2, _, h => exact Below.mono h hB
  | 3, _, h => exact hE _ h
  | _ + 4, hs, _ => omega
theorem valC_le {w W : World} {b : Bc} {c : Cs} {fail stop : Int} (h : Cv w W b c fail stop) (s : Sp) : 0 ≤ valC c s ∧ valC c s ≤ 7 := by
  unfold valC
  cases hw : c.wh s with
  | some i => exact (h.vOf ((h.whOk s i).1 hw).1).2
  | none => exact valK_ok h.keptv s
set_option maxRecDepth 100000 in
set_option maxHeartbeats 20000000 in
theorem holds_walk (n : Int) (v : Value) (l : List (Sp × Int)) (s : Sp) (W : World) (hn : 0 ≤ n ∧ n ≤ 255) (hs : spOk s) (hl : SRow W 4 v (l.map putL)) (hlk : ∀ p ∈ l, putOk p) :
    Calls Try.prog 4 #[.int .u8 n, v, spV s] W fun e w' => e = .returned (.bool true) ∧ Below W.heap.size W w' := by
  obtain ⟨sx, sy, sz⟩ := s
  obtain ⟨r, hr⟩ : ∃ r : Nat, n % 12 = (r : Int) := ⟨(n % 12).toNat, by omega⟩
  have hr10 : r ≤ 11 := by omega
  have hrt : Int.tmod n 12 = (r : Int) := by rw [Int.tmod_eq_emod_of_nonneg hn.1]; exact hr
  have hA1 : Below W.heap.size W (W.alloc (.cells #[.int .i64 sx, .int .i64 sy, .int .i64 sz] 23)) := (Below.refl _ _).alloc (Nat.le_refl _) _
  have hb1 := Blk.new W #[.int .i64 sx, .int .i64 sy, .int .i64 sz] 23
  have hz1 : (W.alloc (.cells #[.int .i64 sx, .int .i64 sy, .int .i64 sz] 23)).heap.size = W.heap.size + 1 := by simp
  have hA2 := hA1.alloc (by rw [hz1]; omega) (.cells #[.slice none 0 0, .slice none 0 0, .int .i64 (-1), .int .i64 0] 29)
  have hb2 := hb1.alloc (.cells #[.slice none 0 0, .slice none 0 0, .int .i64 (-1), .int .i64 0] 29)
  have hk2 := Blk.new_at (w := W.alloc (.cells #[.int .i64 sx, .int .i64 sy, .int .i64 sz] 23)) (n := W.heap.size + 1) #[.slice none 0 0, .slice none 0 0, .int .i64 (-1), .int .i64 0] 29 hz1.symm
  obtain ⟨W1, hW1⟩ : ∃ W1, (W.alloc (.cells #[.int .i64 sx, .int .i64 sy, .int .i64 sz] 23)).alloc (.cells #[.slice none 0 0, .slice none 0 0, .int .i64 (-1), .int .i64 0] 29) = W1 := ⟨_, rfl⟩
  rw [hW1] at hA2 hb2 hk2
  have hw1 : Wv W1 W.heap.size (W.heap.size + 1) [] [] (-1) 0 := ⟨by omega, _, _, hk2, ROwn.nil _ _ _ _, ROwn.nil _ _ _ _⟩
  have hnew := cnew_calls (w := W) (1 + r) (W.heap.size + 1) W1 (by omega) (by omega) hw1 hA2
  rw [show ((1 + r : Nat) : Int) = 1 + (r : Int) by omega] at hnew
  unfold loadF saveF at hnew
  have hwk := fun V => works_calls V
  obtain ⟨m, hm⟩ : ∃ m, 1 + r = m := ⟨_, rfl⟩
  rw [hm] at hnew
  obtain ⟨base, cap, rfl, hcm, hrow⟩ := hl.puts
  obtain ⟨L, hL⟩ : ∃ L, l.length = L := ⟨_, rfl⟩
  rw [hL]
  unfold maxLen at hcm
  replace hrow := Lib.hid hrow
  replace hlk := Lib.hid hlk
  replace hL := Lib.hid hL
  replace hm := Lib.hid hm
  replace hnew := Lib.hid hnew
  replace hwk := Lib.hid hwk
  replace hA2 := Lib.hid hA2
  replace hb2 := Lib.hid hb2
  clear hl hw1 hk2 hA1 hb1 hz1
  unfold spV
  go_enter Try.func4, Try.ntmps4
  go_wp2_with fail
  refine hnew.out.mono ?_
  rintro e V ⟨b, rfl, hbn, hbw, hC, hb⟩
  have hs3 := hb2.out.below hb hb2.out.lt
  replace hbn := Lib.hid hbn
  replace hC := Lib.hid hC
  replace hs3 := Lib.hid hs3
  clear hb hW1 hnew hbw
  go_wp2_with fail
  go_loopw [11, 12] (fun a i X => ∃ (k : Nat) (c : Cs) (wv : Int), k ≤ L ∧ k ≤ 100 ∧ a = .int .i64 wv ∧ i = .int .i64 k ∧ Cv W X b c (-1) 0 ∧ Vl m c ∧ valC c (sx, sy, sz) = wv ∧ c.calls.length ≤ 10 + 4 * k ∧ c.kept.length ≤ 10 + 4 * k ∧ Blk X W.heap.size [.int .i64 sx, .int .i64 sy, .int .i64 sz] 23) (fun _ i _ => 101 - (intOf i).toNat)
  case atStart => exact ⟨0, cs0, 0, by omega, by omega, rfl, rfl, hC.out, Vl.start m, rfl, by simp [cs0], by simp [cs0], hs3.out⟩
  case round =>
    obtain ⟨k, c, wv, hkL, hk60, rfl, rfl, hC, hP, hval, hcl5, hkl5, hsb⟩ := hrel
    clear hs3
    have hwv := valC_le hC (sx, sy, sz)
    rw [hval] at hwv
    replace hval := Lib.hid hval
    by_cases hgo : k < L ∧ k < 100
    · obtain ⟨hk1, hk2⟩ := hgo
      have g1 : (k : Int) < (L : Int) := by omega
      have g2 : (k : Int) < 100 := by omega
      have hne : l ≠ [] := fun e => by have := hL.out; rw [e] at this; simp at this; omega
      obtain ⟨rb, ro, rfl, hcell⟩ := hrow.out hne
      obtain ⟨t, ht⟩ : ∃ t, l[k]? = some t := ⟨_, List.getElem?_eq_getElem (by rw [hL.out]; exact hk1)⟩
      have hto := hlk.out t (List.mem_of_getElem? ht)
      obtain ⟨d0, d1, d2, d3⟩ := hcell k t ht
      obtain ⟨⟨tx, ty, tz⟩, tn⟩ := t
      simp only at d0 d1 d2 d3
      obtain ⟨hto, hn0, hn255⟩ := hto
      simp only at hto hn0 hn255
      obtain ⟨vv, hvv⟩ : ∃ vv : Int, tn % 8 = vv := ⟨_, rfl⟩
      have hv07 : 0 ≤ vv ∧ vv ≤ 7 := by omega
      have hvt : Int.tmod tn 8 = vv := by rw [Int.tmod_eq_emod_of_nonneg hn0]; exact hvv
      have hwr : IntKind.i64.wrap vv = vv := IntWalk.i64_in _ (by omega)
      have hrb : rb < W.heap.size := World.block_lt_of_cell? _ _ d0
      have hall : ∀ X, Below W.heap.size W X → X.cell? ⟨rb, ro + k * 4, none⟩ = some (.int .i64 tx) ∧ X.cell? ⟨rb, ro + k * 4 + 1, none⟩ = some (.int .i64 ty) ∧ X.cell? ⟨rb, ro + k * 4 + 2, none⟩ = some (.int .i64 tz) ∧ X.cell? ⟨rb, ro + k * 4 + 3, none⟩ = some (.int .u8 tn) := fun X hb => ⟨(hb.cell (p := ⟨rb, _, none⟩) hrb).trans d0, (hb.cell (p := ⟨rb, _, none⟩) hrb).trans d1, (hb.cell (p := ⟨rb, _, none⟩) hrb).trans d2, (hb.cell (p := ⟨rb, _, none⟩) hrb).trans d3⟩
      replace hall := Lib.hid hall
      replace hvv := Lib.hid hvv
      obtain ⟨e0, e1, e2, e3⟩ := hall.out wr hC.below
      have hgt := get_calls (tx, ty, tz) wr hC hto (by omega) (by omega)
      have hmt := fun X => mayspot_calls tx ty tz X
      rw [hbn.out] at hgt
      unfold spV at hgt
      clear hcell ht d0 d1 d2 d3
      cases hm2 : mayS tx ty tz with
      | false =>
        rw [getS_not hm2] at hgt
        simp only at hgt
        rw [hm2] at hmt
        replace hgt := Lib.hid hgt
        replace hmt := Lib.hid hmt
        replace hsb := Lib.hid hsb
        replace hC := Lib.hid hC
        replace hP := Lib.hid hP
        replace hto := Lib.hid hto
        clear hm2
        go_wp2_with fail
        refine hgt.out.mono ?_
        rintro e V5 ⟨rfl, hC5, hch⟩
        have hs7 := Lib.hid (hch.blk hsb.out (by simp [chA]))
        clear e0 e1 e2 e3
        obtain ⟨e0, e1, e2, e3⟩ := hall.out V5 hC5.below
        replace hC5 := Lib.hid hC5
        clear hch hgt hC hsb
        go_wp2_with fail
        refine (hmt.out _).mono ?_
        rintro e V6 ⟨rfl, hb⟩
        have hC6 := Lib.hid (hC5.out.keep hb)
        have hs8 := Lib.hid (hs7.out.below hb hs7.out.lt)
        clear hb e0 e1 e2 e3 hC5 hs7 hmt
        have hus := used_calls V6 hC6.out
        rw [hbn.out] at hus
        have hul : (spots m c).length ≤ m := by rw [spots_len]; exact selN_len _ _ _
        obtain ⟨ul, hule⟩ : ∃ ul, (spots m c).length = ul := ⟨_, rfl⟩
        rw [hule] at hus hul
        have hgu : decide ((1 : Int) + (r : Int) < (ul : Int)) = false := by have := hm.out; simp; omega
        replace hus := Lib.hid hus
        clear hule
        go_wp2_with fail
        refine hus.out.mono ?_
        rintro e V7 ⟨rfl, hb⟩
        have hC7 := Lib.hid (hC6.out.keep hb)
        have hs9 := Lib.hid (hs8.out.below hb hs8.out.lt)
        clear hb hus hC6 hs8
        go_wp2_with fail
        go_round
        case rel => exact ⟨k + 1, c, wv, by omega, by omega, rfl, by go_num, hC7.out, hP.out, hval.out, by omega, by omega, hs9.out⟩
        case measure => simp [intOf]; omega
      | true =>
        obtain ⟨i, c5, hg5, hin, hwh5, hP5, hv5, hl5, hk5⟩ := get_val (stop := 0) (t := (tx, ty, tz)) (by rw [← hbn.out]; exact hC.wl) hP hm2
        rw [hg5] at hgt
        simp only at hgt
        rw [hm2] at hmt
        replace hgt := Lib.hid hgt
        replace hmt := Lib.hid hmt
        replace hsb := Lib.hid hsb
        replace hC := Lib.hid hC
        replace hP5 := Lib.hid hP5
        replace hv5 := Lib.hid hv5
        replace hwh5 := Lib.hid hwh5
        replace hto := Lib.hid hto
        clear hm2 hg5 hP
        go_wp2_with fail
        refine hgt.out.mono ?_
        rintro e V5 ⟨rfl, hC5, hch⟩
        have hs7 := Lib.hid (hch.blk hsb.out (by simp [chA]))
        clear e0 e1 e2 e3
        obtain ⟨e0, e1, e2, e3⟩ := hall.out V5 hC5.below
        replace hC5 := Lib.hid hC5
        clear hch hgt hC hsb
        go_wp2_with fail
        refine (hmt.out _).mono ?_
        rintro e V6 ⟨rfl, hb⟩
        have hC6 := Lib.hid (hC5.out.keep hb)
        have hs8 := Lib.hid (hs7.out.below hb hs7.out.lt)
        clear hb e0 e1 e2 e3 hC5 hs7 hmt
        have hus := used_calls V6 hC6.out
        rw [hbn.out] at hus
        have hul : (spots m c5).length ≤ m := by rw [spots_len]; exact selN_len _ _ _
        obtain ⟨ul, hule⟩ : ∃ ul, (spots m c5).length = ul := ⟨_, rfl⟩
        rw [hule] at hus hul
        have hgu : decide ((1 : Int) + (r : Int) < (ul : Int)) = false := by have := hm.out; simp; omega
        replace hus := Lib.hid hus
        clear hule
        go_wp2_with fail
        refine hus.out.mono ?_
        rintro e V7 ⟨rfl, hb⟩
        have hC7 := hC6.out.keep hb.drew
        have hw5 : Wl m c5 := by rw [← hbn.out]; exact hC7.wl
        replace hw5 := Lib.hid hw5
        have hs9 := Lib.hid (hs8.out.below hb.drew hs8.out.lt)
        clear hb hus hC6 hs8
        -- the frame's cell
        have hpl := pool_calls V7.drew hC7
        have hcc := cell_calls vv V7.drew ⟨hv07.1, by omega⟩
        have hib : i < b.n := by rw [hbn.out]; exact hin
        have hsc := fun X (hb : Below V7.drew.heap.size V7.drew X) => (hC7.keep hb).setVal (i := i) (v := vv) hib hv07
        have hrw := hall.out
        replace hpl := Lib.hid hpl
        replace hcc := Lib.hid hcc
        replace hsc := Lib.hid hsc
        replace hC7 := Lib.hid hC7
        go_upto_region 14 with fail
        obtain ⟨CC, hCC⟩ : ∃ C, C = putC V7.drew (fun X => Cv W X b (setV c5 i vv) (-1) 0 ∧ Chg W.heap.size chA V7.drew X) := ⟨_, rfl⟩
        have hlo : ∀ u (p : {w // AnyStage (CC u) 3 w}), Below W.heap.size W p.val := by
          rw [hCC]
          exact fun u p => hC7.out.below.trans (putC_below hC7.out.below.size (fun X h => h.2.belowB hC7.out.below.size) u p)
        replace hCC := Lib.hid hCC
        replace hlo := Lib.hid hlo
        refine wp_region_stageN [3, 3, 3, 3, 3, 3, 3, 3, 3, 3, 3, 3] (C := CC) (V := putV (.pointer (some ⟨b.pb, 0, none⟩)) (.agg #[.int .u8 (cellV vv).1, .int .u8 (cellV vv).2]) (.bool true)) (N := 3) (by kernel_rfl) (by kernel_rfl) (by kernel_rfl) (by kernel_rfl) (by kernel_rfl) (putV_some _ _ _) (fun u u' s w h1 h2 => by rw [hCC.out] at *; exact h2) (fun _ => by rw [hCC.out]; rfl) ?_
        intro u hu
        have u0 : u 0 = .pointer (some ⟨b.pb, 0, none⟩) := hu 0
        have u1 : u 1 = .agg #[.int .u8 (cellV vv).1, .int .u8 (cellV vv).2] := hu 1
        have u2 : u 2 = .bool true := hu 2
        have n3 : Nonempty {w // AnyStage (CC u) 3 w} := ⟨⟨V7.drew, 0, by omega, by rw [hCC.out]; rfl⟩⟩
        have y3 : ∀ p : {w // AnyStage (CC u) 3 w}, p.val.cell? ⟨rb, ro + k * 4 + 3, none⟩ = some (Value.int .u8 tn) := fun p => (hall.out _ (hlo.out u p)).2.2.2
        repeat (refine wpStageN_step rfl rfl (fun K hK => ?_); go_simp; refine hK _ ?_; clear hK K)
        refine wpStageN_call rfl rfl (fun Wx hx => ?_) ?_
        · rw [hCC.out] at hx
          obtain rfl : Wx = V7.drew := hx
          unfold callAtU
          go_simp
          refine hpl.out.mono ?_
          rintro e V ⟨rfl, rfl⟩
          rw [hCC.out]
          exact ⟨_, rfl, rfl, rfl⟩
        rw [u0]
        repeat (refine wpStageN_step rfl rfl (fun K hK => ?_); go_simp; refine hK _ ?_; clear hK K)
        refine wpStageN_call rfl rfl (fun Wx hx => ?_) ?_
        · rw [hCC.out] at hx
          obtain rfl : Wx = V7.drew := hx
          unfold callAtU
          go_simp
          refine hcc.out.mono ?_
          rintro e V ⟨rfl, hb⟩
          rw [hCC.out]
          exact ⟨_, rfl, rfl, hb⟩
        rw [u1]
        repeat (refine wpStageN_step rfl rfl (fun K hK => ?_); go_simp; refine hK _ ?_; clear hK K)
        refine wpStageN_call rfl rfl (fun Wx hx => ?_) ?_
        · rw [hCC.out] at hx
          have hb : Below V7.drew.heap.size V7.drew Wx := hx
          have h3 := hsc.out Wx hb
          replace h3 := Lib.hid h3
          replace hb := Lib.hid hb
          unfold callAtU
          go_simp
          refine h3.out.mono ?_
          rintro e V ⟨rfl, hcv, hch⟩
          rw [hCC.out]
          exact ⟨_, rfl, rfl, hcv, (Chg.of_below hb.out).trans hch⟩
        rw [u2]
        repeat (refine wpStageN_step rfl rfl (fun K hK => ?_); go_simp; refine hK _ ?_; clear hK K)
        refine wpStageN_nil ?_
        intro V8 hx
        rw [hCC.out] at hx
        obtain ⟨hC8, hch⟩ : Cv W V8 b (setV c5 i vv) (-1) 0 ∧ Chg W.heap.size chA V7.drew V8 := hx
        have hs10 := Lib.hid (hch.blk hs9.out (by simp [chA]))
        obtain ⟨e0, e1, e2, e3⟩ := hall.out V8 hC8.below
        have hdc := dirty_calls (tx, ty, tz) V8 hC8 hto.out
        obtain ⟨p1, p2, p3, p4, p5⟩ := put_val (v := vv) hw5.out hP5.out hwh5.out
        rw [p1] at hdc
        unfold spV at hdc
        obtain ⟨c9, hc9⟩ : ∃ c9, (dirtyS (setV c5 i vv) (tx, ty, tz)).2 = c9 := ⟨_, rfl⟩
        rw [hc9] at hdc p2 p3 p4 p5
        replace hdc := Lib.hid hdc
        replace p2 := Lib.hid p2
        replace p3 := Lib.hid p3
        replace p4 := Lib.hid p4
        replace p5 := Lib.hid p5
        clear hch hC8 hC7 hs9 y3 n3 u0 u1 u2 hu hlo hCC hpl hcc hsc hc9 p1
        go_wp2_with fail
        refine hdc.out.mono ?_
        rintro e V9 ⟨rfl, hC9, hch⟩
        have hs11 := hch.blk hs10.out (by simp [chA])
        clear e0 e1 e2 e3
        obtain ⟨e0, e1, e2, e3⟩ := hall.out V9 hC9.below
        have z0 := hs11.cell 0 rfl
        have z1 := hs11.cell 1 rfl
        have z2 := hs11.cell 2 rfl
        have hst := p3.out (sx, sy, sz)
        rw [hv5.out, hval.out] at hst
        have hlen : c9.calls.length ≤ 10 + 4 * (k + 1) ∧ c9.kept.length ≤ 10 + 4 * (k + 1) := by rw [p4.out, p5.out]; omega
        replace hC9 := Lib.hid hC9
        replace hs11 := Lib.hid hs11
        clear hch hdc hs10 hwh5 hP5 hv5 hval p3 p4 p5 hk5 hl5 hcl5 hkl5
        by_cases e : (tx, ty, tz) = (sx, sy, sz)
        · rw [if_pos e.symm] at hst
          injection e with e4 e
          injection e with e5 e6
          subst e4 e5 e6
          replace hst := Lib.hid hst
          go_wp2_with fail
          go_quiet (fail)
          have hbb := below_drewN (Below.refl V9.heap.size V9) nq
          have hCE := hC9.out.keep hbb
          have hsE := Lib.hid (hs11.out.below hbb hs11.out.lt)
          clear hbb e0 e1 e2 e3
          generalize V9.drewN nq = V10 at *
          obtain ⟨e0, e1, e2, e3⟩ := hall.out V10 hCE.below
          replace hCE := Lib.hid hCE
          clear z0 z1 z2 hC9 hs11
          go_wp2_with fail
          go_round
          case rel => exact ⟨k + 1, c9, vv, by omega, by omega, rfl, by go_num, hCE.out, p2.out, hst.out, hlen.1, hlen.2, hsE.out⟩
          case measure => simp [intOf]; omega
        · rw [if_neg (fun h => e h.symm)] at hst
          by_cases e4 : tx = sx
          · subst e4
            by_cases e5 : ty = sy
            · subst e5
              have h0 : (tz == sz) = false := beq_eq_false_iff_ne.2 fun h => e (by rw [h])
              replace hst := Lib.hid hst
              clear e
              go_wp2_with fail
              go_quiet (fail)
              have hbb := below_drewN (Below.refl V9.heap.size V9) nq
              have hCE := Lib.hid (hC9.out.keep hbb)
              have hsE := Lib.hid (hs11.out.below hbb hs11.out.lt)
              clear hbb e0 e1 e2 e3
              generalize V9.drewN nq = V10 at *
              clear z0 z1 z2 hC9 hs11
              go_wp2_with fail
              go_round
              case rel => exact ⟨k + 1, c9, wv, by omega, by omega, rfl, by go_num, hCE.out, p2.out, hst.out, hlen.1, hlen.2, hsE.out⟩
              case measure => simp [intOf]; omega
            · have h0 : (ty == sy) = false := beq_eq_false_iff_ne.2 e5
              replace hst := Lib.hid hst
              clear e
              go_wp2_with fail
              go_quiet (fail)
              have hbb := below_drewN (Below.refl V9.heap.size V9) nq
              have hCE := Lib.hid (hC9.out.keep hbb)
              have hsE := Lib.hid (hs11.out.below hbb hs11.out.lt)
              clear hbb e0 e1 e2 e3
              generalize V9.drewN nq = V10 at *
              clear z0 z1 z2 hC9 hs11
              go_wp2_with fail
              go_round
              case rel => exact ⟨k + 1, c9, wv, by omega, by omega, rfl, by go_num, hCE.out, p2.out, hst.out, hlen.1, hlen.2, hsE.out⟩
              case measure => simp [intOf]; omega
          · have h0 : (tx == sx) = false := beq_eq_false_iff_ne.2 e4
            replace hst := Lib.hid hst
            clear e
            go_wp2_with fail
            go_quiet (fail)
            have hbb := below_drewN (Below.refl V9.heap.size V9) nq
            have hCE := Lib.hid (hC9.out.keep hbb)
            have hsE := Lib.hid (hs11.out.below hbb hs11.out.lt)
            clear hbb e0 e1 e2 e3
            generalize V9.drewN nq = V10 at *
            clear z0 z1 z2 hC9 hs11
            go_wp2_with fail
            go_round
            case rel => exact ⟨k + 1, c9, wv, by omega, by omega, rfl, by go_num, hCE.out, p2.out, hst.out, hlen.1, hlen.2, hsE.out⟩
            case measure => simp [intOf]; omega
    · have hgt := get_calls (sx, sy, sz) wr hC hs (by omega) (by omega)
      have hmt := fun X => mayspot_calls sx sy sz X
      have z0 := hsb.cell 0 rfl
      have z1 := hsb.cell 1 rfl
      have z2 := hsb.cell 2 rfl
      rw [hbn.out] at hgt
      unfold spV at hgt
      replace hsb := Lib.hid hsb
      clear hlk hrow
      by_cases hq : k < L
      · have g1 : decide ((k : Int) < (L : Int)) = true := by simp; omega
        have g2 : decide ((k : Int) < 100) = false := by simp; omega
        cases hmay : mayS sx sy sz with
        | false =>
          rw [getS_not hmay] at hgt
          simp only at hgt
          rw [hmay] at hmt
          replace hgt := Lib.hid hgt
          replace hmt := Lib.hid hmt
          clear hmay hC hP
          go_wp2_with fail
          refine hgt.out.mono ?_
          rintro e V5 ⟨rfl, hC5, hch⟩
          have hs7 := hch.blk hsb.out (by simp [chA])
          have z0 := hs7.cell 0 rfl
          have z1 := hs7.cell 1 rfl
          have z2 := hs7.cell 2 rfl
          have hE5 := Lib.hid hC5.below
          clear hch hgt hC5 hsb hs7
          go_wp2_with fail
          refine (hmt.out _).mono ?_
          rintro e V6 ⟨rfl, hb⟩
          have hE6 := Lib.hid (hE5.out.trans (hb.mono hE5.out.size))
          clear hb hE5 z0 z1 z2
          go_wp2_with fail
          refine (hwk.out _).mono ?_
          rintro e V7 ⟨rfl, hb⟩
          have hE7 := Lib.hid (hE6.out.trans (hb.mono hE6.out.size))
          clear hb hE6
          go_wp2_with fail
          go_ret
          exact ⟨rfl, hE7.out⟩
        | true =>
          obtain ⟨i, c5, hg5, hin, hwh5, hP5, hv5, hl5, hk5⟩ := get_val (stop := 0) (t := (sx, sy, sz)) (by rw [← hbn.out]; exact hC.wl) hP hmay
          rw [hg5] at hgt
          simp only at hgt
          rw [hmay] at hmt
          have hvf : vOf c5 i = wv := by
            have := hv5 (sx, sy, sz)
            unfold valC at this
            rw [hwh5] at this
            simp only at this
            rw [this]
            exact hval.out
          replace hgt := Lib.hid hgt
          replace hmt := Lib.hid hmt
          replace hvf := Lib.hid hvf
          clear hmay hC hP hP5 hv5 hwh5 hg5
          go_wp2_with fail
          refine hgt.out.mono ?_
          rintro e V5 ⟨rfl, hC5, hch⟩
          have hs7 := hch.blk hsb.out (by simp [chA])
          have z0 := hs7.cell 0 rfl
          have z1 := hs7.cell 1 rfl
          have z2 := hs7.cell 2 rfl
          replace hC5 := Lib.hid hC5
          clear hch hgt hsb hs7
          go_wp2_with fail
          refine (hmt.out _).mono ?_
          rintro e V6 ⟨rfl, hb⟩
          have hC6 := hC5.out.keep hb
          have hpl := pool_calls V6 hC6
          have hce := hC6.cellAt (i := i) (by rw [hbn.out]; exact hin)
          rw [hvf.out] at hce
          replace hpl := Lib.hid hpl
          replace hce := Lib.hid hce
          replace hC6 := Lib.hid hC6
          clear hb hC5 z0 z1 z2
          go_wp2_with fail
          refine hpl.out.mono ?_
          rintro e V7 ⟨rfl, rfl⟩
          go_wp2_with fail
          refine hce.out.mono ?_
          rintro e V8 ⟨rfl, hb⟩
          have hE8 := Lib.hid (hC6.out.below.trans (hb.mono hC6.out.below.size))
          have hcc := Lib.hid (cell_calls wv V8 ⟨hwv.1, by omega⟩)
          clear hb hpl hce hC6
          go_wp2_with fail
          refine hcc.out.mono ?_
          rintro e V9 ⟨rfl, hb⟩
          have hE9 := Lib.hid (hE8.out.trans (hb.mono hE8.out.size))
          clear hb hcc hE8
          go_wp2_with fail
          refine (hwk.out _).mono ?_
          rintro e V10 ⟨rfl, hb⟩
          have hE10 := Lib.hid (hE9.out.trans (hb.mono hE9.out.size))
          clear hb hE9
          go_wp2_with fail
          go_ret
          exact ⟨rfl, hE10.out⟩
      · have g1 : decide ((k : Int) < (L : Int)) = false := by simp; omega
        cases hmay : mayS sx sy sz with
        | false =>
          rw [getS_not hmay] at hgt
          simp only at hgt
          rw [hmay] at hmt
          replace hgt := Lib.hid hgt
          replace hmt := Lib.hid hmt
          clear hmay hC hP
          go_wp2_with fail
          refine hgt.out.mono ?_
          rintro e V5 ⟨rfl, hC5, hch⟩
          have hs7 := hch.blk hsb.out (by simp [chA])
          have z0 := hs7.cell 0 rfl
          have z1 := hs7.cell 1 rfl
          have z2 := hs7.cell 2 rfl
          have hE5 := Lib.hid hC5.below
          clear hch hgt hC5 hsb hs7
          go_wp2_with fail
          refine (hmt.out _).mono ?_
          rintro e V6 ⟨rfl, hb⟩
          have hE6 := Lib.hid (hE5.out.trans (hb.mono hE5.out.size))
          clear hb hE5 z0 z1 z2
          go_wp2_with fail
          refine (hwk.out _).mono ?_
          rintro e V7 ⟨rfl, hb⟩
          have hE7 := Lib.hid (hE6.out.trans (hb.mono hE6.out.size))
          clear hb hE6
          go_wp2_with fail
          go_ret
          exact ⟨rfl, hE7.out⟩
        | true =>
          obtain ⟨i, c5, hg5, hin, hwh5, hP5, hv5, hl5, hk5⟩ := get_val (stop := 0) (t := (sx, sy, sz)) (by rw [← hbn.out]; exact hC.wl) hP hmay
          rw [hg5] at hgt
          simp only at hgt
          rw [hmay] at hmt
          have hvf : vOf c5 i = wv := by
            have := hv5 (sx, sy, sz)
            unfold valC at this
            rw [hwh5] at this
            simp only at this
            rw [this]
            exact hval.out
          replace hgt := Lib.hid hgt
          replace hmt := Lib.hid hmt
          replace hvf := Lib.hid hvf
          clear hmay hC hP hP5 hv5 hwh5 hg5
          go_wp2_with fail
          refine hgt.out.mono ?_
          rintro e V5 ⟨rfl, hC5, hch⟩
          have hs7 := hch.blk hsb.out (by simp [chA])
          have z0 := hs7.cell 0 rfl
          have z1 := hs7.cell 1 rfl
          have z2 := hs7.cell 2 rfl
          replace hC5 := Lib.hid hC5
          clear hch hgt hsb hs7
          go_wp2_with fail
          refine (hmt.out _).mono ?_
          rintro e V6 ⟨rfl, hb⟩
          have hC6 := hC5.out.keep hb
          have hpl := pool_calls V6 hC6
          have hce := hC6.cellAt (i := i) (by rw [hbn.out]; exact hin)
          rw [hvf.out] at hce
          replace hpl := Lib.hid hpl
          replace hce := Lib.hid hce
          replace hC6 := Lib.hid hC6
          clear hb hC5 z0 z1 z2
          go_wp2_with fail
          refine hpl.out.mono ?_
          rintro e V7 ⟨rfl, rfl⟩
          go_wp2_with fail
          refine hce.out.mono ?_
          rintro e V8 ⟨rfl, hb⟩
          have hE8 := Lib.hid (hC6.out.below.trans (hb.mono hC6.out.below.size))
          have hcc := Lib.hid (cell_calls wv V8 ⟨hwv.1, by omega⟩)
          clear hb hpl hce hC6
          go_wp2_with fail
          refine hcc.out.mono ?_
          rintro e V9 ⟨rfl, hb⟩
          have hE9 := Lib.hid (hE8.out.trans (hb.mono hE8.out.size))
          clear hb hcc hE8
          go_wp2_with fail
          refine (hwk.out _).mono ?_
          rintro e V10 ⟨rfl, hb⟩
          have hE10 := Lib.hid (hE9.out.trans (hb.mono hE9.out.size))
          clear hb hE9
          go_wp2_with fail
          go_ret
          exact ⟨rfl, hE10.out⟩
end Go.Proofs.Ytpdckjbknphelaa
