/-
  The walk of CachePinned.
-/
import Derived.Test.YtpdckjbknphelaaCaP
namespace Go.Proofs.Ytpdckjbknphelaa
open Go.RowKit
set_option linter.unusedSimpArgs false
set_option linter.unusedVariables false

theorem first_pin {stop : Int} {n : Nat} (hn : 1 ≤ n) {s : Sp} (hm : mayS s.1 s.2.1 s.2.2 = true) : ∃ c', getS (-1) stop n cs0 s = ((0 : Int), (0 : Int), c') ∧ (pinS c' s).1 = 0 ∧ Pn n (pinS c' s).2 s 0 ∧ (pinS c' s).2.calls.length ≤ 2 ∧ (pinS c' s).2.kept.length ≤ 1 ∧ c'.wh s = some 0 ∧ (∀ i, 0 ≤ (c'.sl i).pins ∧ (c'.sl i).pins ≤ 1000000) ∧ c'.calls.length ≤ 2 ∧ c'.kept.length ≤ 1 := by
  have hf : findS n cs0.sl cs0.hand = some (0, cs0.sl, cs0.hand) := by
    unfold findS
    rw [emptyAt_some (k := 0) (fun j hj => absurd hj (Nat.not_lt_zero _)) (by omega) rfl]
  obtain ⟨c', he, h1, h2, h3, h4, h5, _⟩ := getS_miss (stop := stop) hm (show cs0.wh s = none from rfl) hf
  have hw : c'.wh s = some 0 := by rw [h3, if_pos rfl]
  have hk : c'.kept.length ≤ 1 := by rw [h5, if_neg (fun h => by cases h.1)]; simp [cs0]
  have hp0 : ∀ j, (c'.sl j).pins = 0 := fun j => by
    by_cases e : j = 0
    · rw [e, h2]
    · rw [h1 j e]; rfl
  have hps : pinS c' s = (0, { c' with sl := updS c'.sl 0 { c'.sl 0 with pins := (c'.sl 0).pins + 1 } }) := by
    unfold pinS
    rw [hw]
  refine ⟨c', he, ?_⟩
  rw [hps]
  refine ⟨rfl, ⟨hw, ?_, fun j hj => ?_⟩, h4, hk, hw, fun i => by rw [hp0]; omega, h4, hk⟩
  · show (updS c'.sl 0 _ 0).pins = 1
    rw [updS_same]
    show (c'.sl 0).pins + 1 = 1
    rw [hp0]; rfl
  · show (updS c'.sl 0 _ j).pins = 0
    rw [updS_other hj, hp0]
theorem TyB.chg {B : Nat} {S : Obj → Prop} {u v : World} {x : Value} (h : Chg B S u v) (k : TyB u x) (hS : ∀ cs, ¬ S (.cells cs 23 (0, 0))) : TyB v x := fun a n cp e => (k a n cp e).elim fun cs kb => ⟨cs, h.blk kb (hS _)⟩
theorem SRow.chg {B : Nat} {S : Obj → Prop} {u v : World} {x : Value} {xs : List (List Value)} (h : Chg B S u v) (r : SRow u 3 x xs) (k : TyB u x) (hS : ∀ cs, ¬ S (.cells cs 23 (0, 0))) : SRow v 3 x xs := by
  obtain ⟨base, cap, e, h1, h2, h3⟩ := r
  refine ⟨base, cap, e, h1, h2, fun hne => ?_⟩
  obtain ⟨b, off, rfl, hc⟩ := h3 hne
  obtain ⟨cs, kb⟩ := k ⟨b, off, none⟩ _ _ e
  have kb' := h.blk kb (hS _)
  unfold Blk at kb kb'
  simp only at kb kb'
  refine ⟨b, off, rfl, fun j z hz i y hy => ?_⟩
  rw [World.cell?_of_block (w := u) (a := ⟨b, off + j * 3 + i, none⟩) (by simp only; rw [kb, kb'])]
  exact hc j z hz i y hy
theorem SRow.sp {W : World} {v : Value} {l : List Sp} (h : SRow W 3 v (l.map spL)) : ∃ base cap, v = .slice base l.length cap ∧ cap ≤ maxLen ∧ (l ≠ [] → ∃ b off, base = some ⟨b, off, none⟩ ∧ ∀ j s, l[j]? = some s → W.cell? ⟨b, off + j * 3, none⟩ = some (.int .i64 s.1) ∧ W.cell? ⟨b, off + j * 3 + 1, none⟩ = some (.int .i64 s.2.1) ∧ W.cell? ⟨b, off + j * 3 + 2, none⟩ = some (.int .i64 s.2.2)) := by
  obtain ⟨base, cap, e, h1, h2, h3⟩ := h
  rw [List.length_map] at e
  refine ⟨base, cap, e, h2, fun hne => ?_⟩
  obtain ⟨b, off, hb, hc⟩ := h3 (fun e => hne (List.map_eq_nil_iff.1 e))
  refine ⟨b, off, hb, fun j s hs => ?_⟩
  have hx : (l.map spL)[j]? = some (spL s) := by rw [List.getElem?_map, hs]; rfl
  exact ⟨hc j _ hx 0 _ rfl, hc j _ hx 1 _ rfl, hc j _ hx 2 _ rfl⟩
theorem Pk.start {n : Nat} {c : Cs} {s : Sp} {a : Nat} (h : Pn n c s a) (all : List Sp) : Pk c c 0 all :=
  ⟨rfl, fun i => ⟨rfl, rfl⟩, fun i => by
    by_cases e : i = a
    · rw [e, h.one]; omega
    · rw [h.rest i e]; omega, fun j hj => absurd hj (Nat.not_lt_zero _), rfl, rfl⟩
set_option maxRecDepth 100000 in
set_option maxHeartbeats 20000000 in
theorem pinned_walk (n : Int) (s : Sp) (v : Value) (l : List Sp) (W : World) (hn : 0 ≤ n ∧ n ≤ 255) (hs : spOk s) (hl : SRow W 3 v (l.map spL)) (hlk : ∀ t ∈ l, spOk t) :
    Calls Try.prog 3 #[.int .u8 n, spV s, v] W fun e w' => e = .returned (.bool true) ∧ Below W.heap.size W w' := by
  obtain ⟨sx, sy, sz⟩ := s
  obtain ⟨r, hr⟩ : ∃ r : Nat, n % 11 = (r : Int) := ⟨(n % 11).toNat, by omega⟩
  have hr10 : r ≤ 10 := by omega
  have hrt : Int.tmod n 11 = (r : Int) := by rw [Int.tmod_eq_emod_of_nonneg hn.1]; exact hr
  have hA1 : Below W.heap.size W (W.alloc (.cells #[.int .i64 sx, .int .i64 sy, .int .i64 sz] 23)) := (Below.refl _ _).alloc (Nat.le_refl _) _
  have hb1 := Blk.new W #[.int .i64 sx, .int .i64 sy, .int .i64 sz] 23
  have hz1 : (W.alloc (.cells #[.int .i64 sx, .int .i64 sy, .int .i64 sz] 23)).heap.size = W.heap.size + 1 := by simp
  have hA2 := hA1.alloc (by rw [hz1]; omega) (.cells #[.slice none 0 0, .slice none 0 0, .int .i64 (-1), .int .i64 0] 29)
  have hb2 := hb1.alloc (.cells #[.slice none 0 0, .slice none 0 0, .int .i64 (-1), .int .i64 0] 29)
  have hk2 := Blk.new_at (w := W.alloc (.cells #[.int .i64 sx, .int .i64 sy, .int .i64 sz] 23)) (n := W.heap.size + 1) #[.slice none 0 0, .slice none 0 0, .int .i64 (-1), .int .i64 0] 29 hz1.symm
  obtain ⟨W1, hW1⟩ : ∃ W1, (W.alloc (.cells #[.int .i64 sx, .int .i64 sy, .int .i64 sz] 23)).alloc (.cells #[.slice none 0 0, .slice none 0 0, .int .i64 (-1), .int .i64 0] 29) = W1 := ⟨_, rfl⟩
  rw [hW1] at hA2 hb2 hk2
  have hw1 : Wv W1 W.heap.size (W.heap.size + 1) [] [] (-1) 0 := ⟨by omega, _, _, hk2, ROwn.nil _ _ _ _, ROwn.nil _ _ _ _⟩
  have hnew := cnew_calls (w := W) (2 + r) (W.heap.size + 1) W1 (by omega) (by omega) hw1 hA2
  rw [show ((2 + r : Nat) : Int) = 2 + (r : Int) by omega] at hnew
  unfold loadF saveF at hnew
  have hms := fun V => mayspot_calls sx sy sz V
  have hwk := fun V => works_calls V
  obtain ⟨m, hm⟩ : ∃ m, 2 + r = m := ⟨_, rfl⟩
  rw [hm] at hnew
  obtain ⟨base, cap, rfl, hcm, hrow⟩ := hl.sp
  obtain ⟨L, hL⟩ : ∃ L, l.length = L := ⟨_, rfl⟩
  rw [hL]
  unfold maxLen at hcm
  replace hrow := Lib.hid hrow
  replace hlk := Lib.hid hlk
  replace hL := Lib.hid hL
  replace hm := Lib.hid hm
  replace hnew := Lib.hid hnew
  replace hwk := Lib.hid hwk
  replace hA2 := Lib.hid hA2
  replace hb2 := Lib.hid hb2
  clear hl hw1 hk2 hA1 hb1 hz1
  unfold spV
  cases hmay : mayS sx sy sz with
  | false =>
    rw [hmay] at hms
    replace hms := Lib.hid hms
    clear hmay
    go_enter Try.func3, Try.ntmps3
    go_wp2_with fail
    refine hnew.out.mono ?_
    rintro e V ⟨b, rfl, hbn, hbw, hld, hC, hb⟩
    replace hld := Lib.hid hld
    have hs3 := hb2.out.below hb hb2.out.lt
    have z0 := hs3.cell 0 rfl
    have z1 := hs3.cell 1 rfl
    have z2 := hs3.cell 2 rfl
    have hE := Lib.hid hC.below
    clear hC hb hs3 hW1 hnew hbn hbw
    go_wp2_with fail
    refine (hms.out _).mono ?_
    rintro e V2 ⟨rfl, hb⟩
    have hE2 := Lib.hid (hE.out.trans (hb.mono hE.out.size))
    clear hb z0 z1 z2
    go_wp2_with fail
    refine (hwk.out _).mono ?_
    rintro e V3 ⟨rfl, hb⟩
    have hE3 := Lib.hid (hE2.out.trans (hb.mono hE2.out.size))
    clear hb
    go_wp2_with fail
    go_ret
    exact ⟨rfl, hE3.out⟩
  | true =>
    rw [hmay] at hms
    replace hms := Lib.hid hms
    obtain ⟨c1, hg1, hp1, hPn, hcl, hkl, hwh1, hpn1, hcl1, hkl1⟩ := first_pin (stop := 0) (n := m) (by have := hm.out; omega) (s := (sx, sy, sz)) hmay
    replace hmay := Lib.hid hmay
    replace hg1 := Lib.hid hg1
    replace hp1 := Lib.hid hp1
    replace hPn := Lib.hid hPn
    replace hwh1 := Lib.hid hwh1
    replace hpn1 := Lib.hid hpn1
    go_enter Try.func3, Try.ntmps3
    go_wp2_with fail
    refine hnew.out.mono ?_
    rintro e V ⟨b, rfl, hbn, hbw, hld, hC, hb⟩
    replace hld := Lib.hid hld
    have hs3 := hb2.out.below hb hb2.out.lt
    have z0 := hs3.cell 0 rfl
    have z1 := hs3.cell 1 rfl
    have z2 := hs3.cell 2 rfl
    replace hbn := Lib.hid hbn
    replace hC := Lib.hid hC
    replace hs3 := Lib.hid hs3
    clear hb hW1 hnew hbw
    go_wp2_with fail
    refine (hms.out _).mono ?_
    rintro e V2 ⟨rfl, hb⟩
    have hC2 := hC.out.keep hb
    have hs4 := hs3.out.below hb hs3.out.lt
    have hgt := get_calls (sx, sy, sz) V2 hC2 hs (Nat.zero_le _) (Nat.zero_le _) hld.out
    rw [hbn.out, hg1.out] at hgt
    unfold spV at hgt
    simp only at hgt
    replace hgt := Lib.hid hgt
    replace hs4 := Lib.hid hs4
    clear hb z0 z1 z2 hC hs3 hC2
    have z0 := hs4.out.cell 0 rfl
    have z1 := hs4.out.cell 1 rfl
    have z2 := hs4.out.cell 2 rfl
    go_wp2_with fail
    refine hgt.out.mono ?_
    rintro e V3 ⟨rfl, hC3, hch⟩
    have hs5 := hch.blk hs4.out (by simp [chA])
    have hpc := pin_calls (sx, sy, sz) V3 hC3 hs hpn1.out
    rw [hp1.out] at hpc
    unfold spV at hpc
    replace hpc := Lib.hid hpc
    replace hs5 := Lib.hid hs5
    clear hch z0 z1 z2 hs4 hC3 hgt
    have z0 := hs5.out.cell 0 rfl
    have z1 := hs5.out.cell 1 rfl
    have z2 := hs5.out.cell 2 rfl
    go_wp2_with fail
    refine hpc.out.mono ?_
    rintro e V4 ⟨rfl, hC4, hch⟩
    have hs6 := Lib.hid (hch.blk hs5.out (by simp [chA]))
    replace hC4 := Lib.hid hC4
    obtain ⟨c4, hc4⟩ : ∃ c, (pinS c1 (sx, sy, sz)).2 = c := ⟨_, rfl⟩
    rw [hc4] at hC4 hPn hcl hkl
    clear hch z0 z1 z2 hs5 hpc hc4 hg1 hp1 hwh1 hpn1 hcl1 hkl1
    go_wp2_with fail
    go_loopw [12] (fun i X => ∃ (k : Nat) (c : Cs), k ≤ L ∧ k ≤ 60 ∧ i = .int .i64 k ∧ Cv W X b c (-1) 0 ∧ Pn m c (sx, sy, sz) 0 ∧ c.calls.length ≤ 10 + 4 * k ∧ c.kept.length ≤ 10 + 4 * k ∧ Blk X W.heap.size [.int .i64 sx, .int .i64 sy, .int .i64 sz] 23) (fun i _ => 61 - (intOf i).toNat)
    case atStart => exact ⟨0, c4, by omega, by omega, rfl, hC4.out, hPn.out, by omega, by omega, hs6.out⟩
    case round =>
      obtain ⟨k, c, hkL, hk60, rfl, hC, hP, hcl5, hkl5, hsb⟩ := hrel
      clear hC4 hPn hcl hkl hs6 c4
      by_cases hgo : k < L ∧ k < 60
      · obtain ⟨hk1, hk2⟩ := hgo
        have g1 : (k : Int) < (L : Int) := by omega
        have g2 : (k : Int) < 60 := by omega
        have hne : l ≠ [] := fun e => by have := hL.out; rw [e] at this; simp at this; omega
        obtain ⟨rb, ro, rfl, hcell⟩ := hrow.out hne
        obtain ⟨t, ht⟩ : ∃ t, l[k]? = some t := ⟨_, List.getElem?_eq_getElem (by rw [hL.out]; exact hk1)⟩
        have hto := hlk.out t (List.mem_of_getElem? ht)
        obtain ⟨d0, d1, d2⟩ := hcell k t ht
        obtain ⟨tx, ty, tz⟩ := t
        simp only at d0 d1 d2
        have hrb : rb < W.heap.size := World.block_lt_of_cell? _ _ d0
        have e0 : wr.cell? ⟨rb, ro + k * 3, none⟩ = some _ := (hC.below.cell (p := ⟨rb, _, none⟩) hrb).trans d0
        have e1 : wr.cell? ⟨rb, ro + k * 3 + 1, none⟩ = some _ := (hC.below.cell (p := ⟨rb, _, none⟩) hrb).trans d1
        have e2 : wr.cell? ⟨rb, ro + k * 3 + 2, none⟩ = some _ := (hC.below.cell (p := ⟨rb, _, none⟩) hrb).trans d2
        have hgt := get_calls (tx, ty, tz) wr hC hto (by omega) (by omega) hld.out
        have hmt := fun X => mayspot_calls tx ty tz X
        rw [hbn.out] at hgt
        unfold spV at hgt
        clear hcell ht
        -- what the first Get gives
        have hres : ∃ (i : Int) (f : Int) (c' : Cs), getS (-1) 0 m c (tx, ty, tz) = (i, f, c') ∧ ((mayS tx ty tz = true ∧ f = 0) ∨ (mayS tx ty tz = false ∧ f = 10)) ∧ Pn m c' (sx, sy, sz) 0 ∧ c'.calls.length ≤ c.calls.length + 2 ∧ c'.kept.length ≤ c.kept.length + 1 := by
          cases hm2 : mayS tx ty tz with
          | true =>
            obtain ⟨i, c', h1, h2, h3, h4, _⟩ := get_pin (stop := 0) (t := (tx, ty, tz)) (by rw [← hbn.out]; exact hC.wl) hP (by have := hm.out; omega) hm2
            exact ⟨i, 0, c', h1, .inl ⟨rfl, rfl⟩, h2, h3, h4⟩
          | false => exact ⟨0, 10, c, getS_not hm2, .inr ⟨rfl, rfl⟩, hP, Nat.le_add_right _ _, Nat.le_add_right _ _⟩
        obtain ⟨i1, f1, c5, hg5, hmf, hP5, hl5, hk5⟩ := hres
        rw [hg5] at hgt
        simp only at hgt
        replace hgt := Lib.hid hgt
        replace hsb := Lib.hid hsb
        replace hC := Lib.hid hC
        replace hP5 := Lib.hid hP5
        replace hg5 := Lib.hid hg5
        replace hmf := Lib.hid hmf
        replace hto := Lib.hid hto
        clear hP
        go_wp2_with fail
        refine hgt.out.mono ?_
        rintro e V5 ⟨rfl, hC5, hch⟩
        have hs7 := Lib.hid (hch.blk hsb.out (by simp [chA]))
        have e0 : V5.cell? ⟨rb, ro + k * 3, none⟩ = some _ := (hC5.below.cell (p := ⟨rb, _, none⟩) hrb).trans d0
        have e1 : V5.cell? ⟨rb, ro + k * 3 + 1, none⟩ = some _ := (hC5.below.cell (p := ⟨rb, _, none⟩) hrb).trans d1
        have e2 : V5.cell? ⟨rb, ro + k * 3 + 2, none⟩ = some _ := (hC5.below.cell (p := ⟨rb, _, none⟩) hrb).trans d2
        replace hC5 := Lib.hid hC5
        clear hch hgt hC hsb
        rcases hmf.out with ⟨hm2, rfl⟩ | ⟨hm2, rfl⟩
        · rw [hm2] at hmt
          replace hmt := Lib.hid hmt
          clear hm2 hmf
          go_wp2_with fail
          refine (hmt.out _).mono ?_
          rintro e V6 ⟨rfl, hb⟩
          have hC6 := hC5.out.keep hb
          have hs8 := hs7.out.below hb hs7.out.lt
          obtain ⟨i2, c6, hg6, hP6, hl6, hk6, hi2⟩ := get_pin (stop := 0) (t := (sx, sy, sz)) (by rw [← hbn.out]; exact hC6.wl) hP5.out (by have := hm.out; omega) hmay.out
          have hgt := get_calls (sx, sy, sz) V6 hC6 hs (by omega) (by omega) hld.out
          obtain rfl : i2 = 0 := hi2 rfl
          rw [hbn.out, hg6] at hgt
          unfold spV at hgt
          simp only at hgt
          have z0 := hs8.cell 0 rfl
          have z1 := hs8.cell 1 rfl
          have z2 := hs8.cell 2 rfl
          replace hgt := Lib.hid hgt
          replace hs8 := Lib.hid hs8
          replace hP6 := Lib.hid hP6
          clear hb e0 e1 e2 hC5 hs7 hC6 hg6 hi2 hmt
          go_wp2_with fail
          refine hgt.out.mono ?_
          rintro e V7 ⟨rfl, hC7, hch⟩
          have hs9 := Lib.hid (hch.blk hs8.out (by simp [chA]))
          replace hC7 := Lib.hid hC7
          clear hch z0 z1 z2 hs8 hgt
          go_wp2_with fail
          go_round
          case rel => exact ⟨k + 1, c6, by omega, by omega, by go_num, hC7.out, hP6.out, by omega, by omega, hs9.out⟩
          case measure => simp [intOf]; omega
        · rw [hm2] at hmt
          replace hmt := Lib.hid hmt
          clear hm2 hmf
          go_wp2_with fail
          refine (hmt.out _).mono ?_
          rintro e V6 ⟨rfl, hb⟩
          have hC6 := hC5.out.keep hb
          have hs8 := hs7.out.below hb hs7.out.lt
          obtain ⟨i2, c6, hg6, hP6, hl6, hk6, hi2⟩ := get_pin (stop := 0) (t := (sx, sy, sz)) (by rw [← hbn.out]; exact hC6.wl) hP5.out (by have := hm.out; omega) hmay.out
          have hgt := get_calls (sx, sy, sz) V6 hC6 hs (by omega) (by omega) hld.out
          obtain rfl : i2 = 0 := hi2 rfl
          rw [hbn.out, hg6] at hgt
          unfold spV at hgt
          simp only at hgt
          have z0 := hs8.cell 0 rfl
          have z1 := hs8.cell 1 rfl
          have z2 := hs8.cell 2 rfl
          replace hgt := Lib.hid hgt
          replace hs8 := Lib.hid hs8
          replace hP6 := Lib.hid hP6
          clear hb e0 e1 e2 hC5 hs7 hC6 hg6 hi2 hmt
          go_wp2_with fail
          refine hgt.out.mono ?_
          rintro e V7 ⟨rfl, hC7, hch⟩
          have hs9 := Lib.hid (hch.blk hs8.out (by simp [chA]))
          replace hC7 := Lib.hid hC7
          clear hch z0 z1 z2 hs8 hgt
          go_wp2_with fail
          go_round
          case rel => exact ⟨k + 1, c6, by omega, by omega, by go_num, hC7.out, hP6.out, by omega, by omega, hs9.out⟩
          case measure => simp [intOf]; omega
      · have hgf : ((decide ((k : Int) < (L : Int))) && decide ((k : Int) < 60)) = false := by simp; omega
        have hsp := spots_calls wr hC
        rw [hbn.out] at hsp
        have hlen12 : (spots m c).length ≤ 12 := by
          rw [spots_len]
          have := selN_len c.sl (fun _ => true) m
          have := hm.out
          omega
        obtain ⟨A, hA⟩ : ∃ A, spots m c = A := ⟨_, rfl⟩
        rw [hA] at hsp hlen12
        replace hsp := Lib.hid hsp
        replace hA := Lib.hid hA
        replace hP := Lib.hid hP
        replace hC := Lib.hid hC
        by_cases hq : k < L
        · have g1 : decide ((k : Int) < (L : Int)) = true := by simp; omega
          have g2 : decide ((k : Int) < 60) = false := by simp; omega
          go_wp2_with fail
          refine hsp.out.mono ?_
          rintro e V5 ⟨va, rfl, hr5, hty5, hb⟩
          have hC5 := hC.out.keep hb
          obtain ⟨N, hN⟩ : ∃ N, A.length = N := ⟨_, rfl⟩
          obtain ⟨ab, ac, rfl, ham, _⟩ := hr5.sp
          rw [hN] at hlen12
          have hPk := Pk.start hP.out A
          have hwc : Wl m c := by rw [← hbn.out]; exact hC.out.wl
          have hspo := hC.out.spOk
          rw [hN] at hr5 hty5 ⊢
          unfold maxLen at ham
          replace hN := Lib.hid hN
          replace hC5 := Lib.hid hC5
          replace hr5 := Lib.hid hr5
          replace hty5 := Lib.hid hty5
          replace hPk := Lib.hid hPk
          replace hwc := Lib.hid hwc
          replace hspo := Lib.hid hspo
          clear hb hsp hC hP hrow hlk
          go_wp2_with fail
          go_loopw [18] (fun i X => ∃ (j : Nat) (c' : Cs), j ≤ N ∧ i = .int .i64 j ∧ Cv W X b c' (-1) 0 ∧ Pk c c' j A ∧ SRow X 3 (.slice ab N ac) (A.map spL) ∧ TyB X (.slice ab N ac)) (fun i _ => N + 1 - (intOf i).toNat)
          case atStart => exact ⟨0, c, by omega, rfl, hC5.out, hPk.out, hr5.out, hty5.out⟩
          case round =>
            obtain ⟨j, c', hjN, rfl, hCj, hPj, hrj, htj⟩ := hrel
            clear hC5 hPk hr5 hty5
            by_cases hjlt : j < N
            · have g3 : (j : Int) < (N : Int) := by omega
              obtain ⟨u, hu⟩ : ∃ u, A[j]? = some u := ⟨_, List.getElem?_eq_getElem (by rw [hN.out]; exact hjlt)⟩
              obtain ⟨iu, hiu⟩ := mem_spots hwc.out (show u ∈ spots m c from by rw [hA.out]; exact List.mem_of_getElem? hu)
              obtain ⟨_, hfu, hsu⟩ := (hwc.out.wh u iu).1 hiu
              have huo : spOk u := by rw [← hsu]; exact hspo.out iu hfu
              obtain ⟨hp1, hp2⟩ := hPj.step hu hiu
              obtain ⟨base2, cap2, e3, _, hcell⟩ := hrj.sp
              obtain ⟨rb, ro, e4, hcell2⟩ := hcell (fun e => by have := hN.out; rw [e] at this; simp at this; omega)
              injection e3 with e3 e5 e6
              subst e3 e4
              clear e5 e6
              obtain ⟨d0, d1, d2⟩ := hcell2 j u hu
              have hpc := pin_calls u wr hCj huo (fun i => by have := hPj.lo i; omega)
              rw [hp1] at hpc
              obtain ⟨ux, uy, uz⟩ := u
              simp only at d0 d1 d2
              unfold spV at hpc
              replace hpc := Lib.hid hpc
              replace hp2 := Lib.hid hp2
              replace hrj := Lib.hid hrj
              replace htj := Lib.hid htj
              clear hcell hcell2 hu hiu hfu hsu huo hp1 hPj hCj
              go_wp2_with fail
              refine hpc.out.mono ?_
              rintro e V6 ⟨rfl, hC6, hch⟩
              have hr6 := Lib.hid (SRow.chg hch hrj.out htj.out (fun _ => by simp [chA]))
              have ht6 := Lib.hid (TyB.chg hch htj.out (fun _ => by simp [chA]))
              replace hC6 := Lib.hid hC6
              clear hch hpc d0 d1 d2 hrj htj
              go_wp2_with fail
              go_round
              case rel => exact ⟨j + 1, _, by omega, by go_num, hC6.out, hp2.out, hr6.out, ht6.out⟩
              case measure => simp [intOf]; omega
            · obtain rfl : j = N := by omega
              have hmB : mayS 65535 3 65535 = true := by decide
              have hcc : c'.calls.length ≤ 90000 ∧ c'.kept.length ≤ 90000 := by rw [hPj.calls, hPj.kept]; omega
              have hgb := get_calls (65535, 3, 65535) wr hCj (by refine ⟨?_, ?_, ?_⟩ <;> decide) hcc.1 hcc.2 hld.out
              rw [hbn.out] at hgb
              have hlast := get_last (stop := 0) (t := (65535, 3, 65535)) hwc.out (by rw [← hbn.out]; exact hCj.wl) (by rw [hA.out, hN.out]; exact hPj) hmB
              rw [hA.out, hN.out] at hlast
              clear hrj htj hPj hCj hcc hmB
              rcases hlast with ⟨i9, c9, h9⟩ | ⟨hNm, c9, h9⟩
              · rw [h9] at hgb
                unfold spV at hgb
                simp only at hgb
                replace hgb := Lib.hid hgb
                clear h9
                by_cases hNm : j = m
                · have g5 : ((j : Int) == 2 + (r : Int)) = true := by rw [beq_iff_eq]; have := hm.out; omega
                  replace hNm := Lib.hid hNm
                  go_wp2_with fail
                  refine hgb.out.mono ?_
                  rintro e V8 ⟨rfl, hC8, hch⟩
                  have hE8 := Lib.hid hC8.below
                  clear hch hC8 hgb
                  go_wp2_with fail
                  refine (hwk.out _).mono ?_
                  rintro e V9 ⟨rfl, hb⟩
                  have hE9 := Lib.hid (hE8.out.trans (hb.mono hE8.out.size))
                  clear hb hE8
                  go_wp2_with fail
                  go_ret
                  exact ⟨rfl, hE9.out⟩
                · have g5 : ((j : Int) == 2 + (r : Int)) = false := beq_eq_false_iff_ne.2 (by have := hm.out; omega)
                  replace hNm := Lib.hid hNm
                  go_wp2_with fail
                  refine hgb.out.mono ?_
                  rintro e V8 ⟨rfl, hC8, hch⟩
                  have hE8 := Lib.hid hC8.below
                  clear hch hC8 hgb
                  go_wp2_with fail
                  refine (hwk.out _).mono ?_
                  rintro e V9 ⟨rfl, hb⟩
                  have hE9 := Lib.hid (hE8.out.trans (hb.mono hE8.out.size))
                  clear hb hE8
                  go_wp2_with fail
                  go_ret
                  exact ⟨rfl, hE9.out⟩
              · rw [h9] at hgb
                unfold spV at hgb
                simp only at hgb
                replace hgb := Lib.hid hgb
                clear h9
                have g5 : ((j : Int) == 2 + (r : Int)) = true := by rw [beq_iff_eq]; have := hm.out; omega
                replace hNm := Lib.hid hNm
                go_wp2_with fail
                refine hgb.out.mono ?_
                rintro e V8 ⟨rfl, hC8, hch⟩
                have hE8 := Lib.hid hC8.below
                clear hch hC8 hgb
                go_wp2_with fail
                refine (hwk.out _).mono ?_
                rintro e V9 ⟨rfl, hb⟩
                have hE9 := Lib.hid (hE8.out.trans (hb.mono hE8.out.size))
                clear hb hE8
                go_wp2_with fail
                go_ret
                exact ⟨rfl, hE9.out⟩
        · have g1 : decide ((k : Int) < (L : Int)) = false := by simp; omega
          go_wp2_with fail
          refine hsp.out.mono ?_
          rintro e V5 ⟨va, rfl, hr5, hty5, hb⟩
          have hC5 := hC.out.keep hb
          obtain ⟨N, hN⟩ : ∃ N, A.length = N := ⟨_, rfl⟩
          obtain ⟨ab, ac, rfl, ham, _⟩ := hr5.sp
          rw [hN] at hlen12
          have hPk := Pk.start hP.out A
          have hwc : Wl m c := by rw [← hbn.out]; exact hC.out.wl
          have hspo := hC.out.spOk
          rw [hN] at hr5 hty5 ⊢
          unfold maxLen at ham
          replace hN := Lib.hid hN
          replace hC5 := Lib.hid hC5
          replace hr5 := Lib.hid hr5
          replace hty5 := Lib.hid hty5
          replace hPk := Lib.hid hPk
          replace hwc := Lib.hid hwc
          replace hspo := Lib.hid hspo
          clear hb hsp hC hP hrow hlk
          go_wp2_with fail
          go_loopw [18] (fun i X => ∃ (j : Nat) (c' : Cs), j ≤ N ∧ i = .int .i64 j ∧ Cv W X b c' (-1) 0 ∧ Pk c c' j A ∧ SRow X 3 (.slice ab N ac) (A.map spL) ∧ TyB X (.slice ab N ac)) (fun i _ => N + 1 - (intOf i).toNat)
          case atStart => exact ⟨0, c, by omega, rfl, hC5.out, hPk.out, hr5.out, hty5.out⟩
          case round =>
            obtain ⟨j, c', hjN, rfl, hCj, hPj, hrj, htj⟩ := hrel
            clear hC5 hPk hr5 hty5
            by_cases hjlt : j < N
            · have g3 : (j : Int) < (N : Int) := by omega
              obtain ⟨u, hu⟩ : ∃ u, A[j]? = some u := ⟨_, List.getElem?_eq_getElem (by rw [hN.out]; exact hjlt)⟩
              obtain ⟨iu, hiu⟩ := mem_spots hwc.out (show u ∈ spots m c from by rw [hA.out]; exact List.mem_of_getElem? hu)
              obtain ⟨_, hfu, hsu⟩ := (hwc.out.wh u iu).1 hiu
              have huo : spOk u := by rw [← hsu]; exact hspo.out iu hfu
              obtain ⟨hp1, hp2⟩ := hPj.step hu hiu
              obtain ⟨base2, cap2, e3, _, hcell⟩ := hrj.sp
              obtain ⟨rb, ro, e4, hcell2⟩ := hcell (fun e => by have := hN.out; rw [e] at this; simp at this; omega)
              injection e3 with e3 e5 e6
              subst e3 e4
              clear e5 e6
              obtain ⟨d0, d1, d2⟩ := hcell2 j u hu
              have hpc := pin_calls u wr hCj huo (fun i => by have := hPj.lo i; omega)
              rw [hp1] at hpc
              obtain ⟨ux, uy, uz⟩ := u
              simp only at d0 d1 d2
              unfold spV at hpc
              replace hpc := Lib.hid hpc
              replace hp2 := Lib.hid hp2
              replace hrj := Lib.hid hrj
              replace htj := Lib.hid htj
              clear hcell hcell2 hu hiu hfu hsu huo hp1 hPj hCj
              go_wp2_with fail
              refine hpc.out.mono ?_
              rintro e V6 ⟨rfl, hC6, hch⟩
              have hr6 := Lib.hid (SRow.chg hch hrj.out htj.out (fun _ => by simp [chA]))
              have ht6 := Lib.hid (TyB.chg hch htj.out (fun _ => by simp [chA]))
              replace hC6 := Lib.hid hC6
              clear hch hpc d0 d1 d2 hrj htj
              go_wp2_with fail
              go_round
              case rel => exact ⟨j + 1, _, by omega, by go_num, hC6.out, hp2.out, hr6.out, ht6.out⟩
              case measure => simp [intOf]; omega
            · obtain rfl : j = N := by omega
              have hmB : mayS 65535 3 65535 = true := by decide
              have hcc : c'.calls.length ≤ 90000 ∧ c'.kept.length ≤ 90000 := by rw [hPj.calls, hPj.kept]; omega
              have hgb := get_calls (65535, 3, 65535) wr hCj (by refine ⟨?_, ?_, ?_⟩ <;> decide) hcc.1 hcc.2 hld.out
              rw [hbn.out] at hgb
              have hlast := get_last (stop := 0) (t := (65535, 3, 65535)) hwc.out (by rw [← hbn.out]; exact hCj.wl) (by rw [hA.out, hN.out]; exact hPj) hmB
              rw [hA.out, hN.out] at hlast
              clear hrj htj hPj hCj hcc hmB
              rcases hlast with ⟨i9, c9, h9⟩ | ⟨hNm, c9, h9⟩
              · rw [h9] at hgb
                unfold spV at hgb
                simp only at hgb
                replace hgb := Lib.hid hgb
                clear h9
                by_cases hNm : j = m
                · have g5 : ((j : Int) == 2 + (r : Int)) = true := by rw [beq_iff_eq]; have := hm.out; omega
                  replace hNm := Lib.hid hNm
                  go_wp2_with fail
                  refine hgb.out.mono ?_
                  rintro e V8 ⟨rfl, hC8, hch⟩
                  have hE8 := Lib.hid hC8.below
                  clear hch hC8 hgb
                  go_wp2_with fail
                  refine (hwk.out _).mono ?_
                  rintro e V9 ⟨rfl, hb⟩
                  have hE9 := Lib.hid (hE8.out.trans (hb.mono hE8.out.size))
                  clear hb hE8
                  go_wp2_with fail
                  go_ret
                  exact ⟨rfl, hE9.out⟩
                · have g5 : ((j : Int) == 2 + (r : Int)) = false := beq_eq_false_iff_ne.2 (by have := hm.out; omega)
                  replace hNm := Lib.hid hNm
                  go_wp2_with fail
                  refine hgb.out.mono ?_
                  rintro e V8 ⟨rfl, hC8, hch⟩
                  have hE8 := Lib.hid hC8.below
                  clear hch hC8 hgb
                  go_wp2_with fail
                  refine (hwk.out _).mono ?_
                  rintro e V9 ⟨rfl, hb⟩
                  have hE9 := Lib.hid (hE8.out.trans (hb.mono hE8.out.size))
                  clear hb hE8
                  go_wp2_with fail
                  go_ret
                  exact ⟨rfl, hE9.out⟩
              · rw [h9] at hgb
                unfold spV at hgb
                simp only at hgb
                replace hgb := Lib.hid hgb
                clear h9
                have g5 : ((j : Int) == 2 + (r : Int)) = true := by rw [beq_iff_eq]; have := hm.out; omega
                replace hNm := Lib.hid hNm
                go_wp2_with fail
                refine hgb.out.mono ?_
                rintro e V8 ⟨rfl, hC8, hch⟩
                have hE8 := Lib.hid hC8.below
                clear hch hC8 hgb
                go_wp2_with fail
                refine (hwk.out _).mono ?_
                rintro e V9 ⟨rfl, hb⟩
                have hE9 := Lib.hid (hE8.out.trans (hb.mono hE8.out.size))
                clear hb hE8
                go_wp2_with fail
                go_ret
                exact ⟨rfl, hE9.out⟩
end Go.Proofs.Ytpdckjbknphelaa
