/-
  The walk of CachePlays.
-/
import Derived.Test.YtpdckjbknphelaaRfL
import Derived.Test.YtpdckjbknphelaaStagH
namespace Go.Proofs.Ytpdckjbknphelaa
open Go.RowKit
set_option linter.unusedSimpArgs false
set_option linter.unusedVariables false
/-- A call, as cells. -/
def doL (p : Int × Sp × Int) : List Value := [.int .i64 p.1, .int .i64 p.2.1.1, .int .i64 p.2.1.2.1, .int .i64 p.2.1.2.2, .int .u8 p.2.2]
def doOk (p : Int × Sp × Int) : Prop := spOk p.2.1 ∧ 0 ≤ p.2.2 ∧ p.2.2 ≤ 255
theorem SRow.dos {W : World} {v : Value} {l : List (Int × Sp × Int)} (h : SRow W 5 v (l.map doL)) : ∃ base cap, v = .slice base l.length cap ∧ cap ≤ maxLen ∧ (l ≠ [] → ∃ b off, base = some ⟨b, off, none⟩ ∧ ∀ j p, l[j]? = some p → W.cell? ⟨b, off + j * 5, none⟩ = some (.int .i64 p.1) ∧ W.cell? ⟨b, off + j * 5 + 1, none⟩ = some (.int .i64 p.2.1.1) ∧ W.cell? ⟨b, off + j * 5 + 2, none⟩ = some (.int .i64 p.2.1.2.1) ∧ W.cell? ⟨b, off + j * 5 + 3, none⟩ = some (.int .i64 p.2.1.2.2) ∧ W.cell? ⟨b, off + j * 5 + 4, none⟩ = some (.int .u8 p.2.2)) := by
  obtain ⟨base, cap, e, h1, h2, h3⟩ := h
  rw [List.length_map] at e
  refine ⟨base, cap, e, h2, fun hne => ?_⟩
  obtain ⟨b, off, hb, hc⟩ := h3 (fun e => hne (List.map_eq_nil_iff.1 e))
  refine ⟨b, off, hb, fun j s hs => ?_⟩
  have hx : (l.map doL)[j]? = some (doL s) := by rw [List.getElem?_map, hs]; rfl
  exact ⟨hc j _ hx 0 _ rfl, hc j _ hx 1 _ rfl, hc j _ hx 2 _ rfl, hc j _ hx 3 _ rfl, hc j _ hx 4 _ rfl⟩
section
variable {w W W' : World} {b : Bc} {r : Rb} {c c1 : Cs} {fail stop : Int}
/-- The calls that were written down, by both. -/
theorem Md.logs (h : Md w W b r c c1 fail stop) : (∃ b1 n1, W.cell? ⟨b.wb, 1, none⟩ = some (.slice b1 c1.calls.length n1) ∧ c1.calls.length ≤ n1 ∧ n1 ≤ maxLen ∧ (c1.calls ≠ [] → ∃ g, b1 = some ⟨g, 0, none⟩ ∧ ∀ j p, c1.calls[j]? = some p → W.cell? ⟨g, j * 5, none⟩ = some (.bool p.1) ∧ W.cell? ⟨g, j * 5 + 1, none⟩ = some (.int .i64 p.2.1.1) ∧ W.cell? ⟨g, j * 5 + 2, none⟩ = some (.int .i64 p.2.1.2.1) ∧ W.cell? ⟨g, j * 5 + 3, none⟩ = some (.int .i64 p.2.1.2.2) ∧ W.cell? ⟨g, j * 5 + 4, none⟩ = some (.int .i64 p.2.2))) := by
  obtain ⟨kv, cv, hC, hR⟩ := h.ex
  letI : Xs := ⟨rX r kv cv⟩
  obtain ⟨hwx, kv', cv', h1, h2, h3⟩ := hC.world
  obtain ⟨base, cap, rfl, k1, k2, k3⟩ := h3.open
  have := h1.cell 1 rfl
  rw [List.length_map] at this k1
  refine ⟨base, cap, this, k1, k2, fun hne => ?_⟩
  obtain ⟨g, hg, _, hc⟩ := k3 (fun e => hne (List.map_eq_nil_iff.1 e))
  refine ⟨g, hg, fun j p hp => ?_⟩
  have hx : (c1.calls.map callL)[j]? = some (callL p) := by rw [List.getElem?_map, hp]; rfl
  exact ⟨hc j _ hx 0 _ rfl, hc j _ hx 1 _ rfl, hc j _ hx 2 _ rfl, hc j _ hx 3 _ rfl, hc j _ hx 4 _ rfl⟩
theorem ROwn.srow {W : World} {B z : Nat} {E : TypeId} {v : Value} {xs : List (List Value)} (h : ROwn W B E z v xs) : SRow W z v xs := by
  obtain ⟨base, cap, e, h1, h2, h3⟩ := h.open
  refine ⟨base, cap, e, ⟨h1, fun hb => ?_⟩, h2, fun hne => ?_⟩
  · rcases h.1.2 with ⟨hv, _⟩ | ⟨g, cap', cur, hv, _⟩
    · rw [hv] at e
      injection e with _ _ e3
      exact e3.symm
    · rw [hv] at e
      injection e with e1 _ _
      rw [hb] at e1; cases e1
  · obtain ⟨g, hg, _, hc⟩ := h3 hne
    exact ⟨g, 0, hg, fun j x hx i u hu => by rw [Nat.zero_add]; exact hc j x hx i u hu⟩
theorem Md.spots (h : Md w W b r c c1 fail stop) : Calls Try.prog 15 #[.pointer (some ⟨b.cb, 0, none⟩)] W fun e w' => ∃ v, e = .returned v ∧ SRow w' 3 v ((Go.Proofs.Ytpdckjbknphelaa.spots b.n c1).map spL) ∧ Below W.heap.size W w' := by
  obtain ⟨kv, cv, hC, _⟩ := h.ex
  exact (@spots_calls ⟨rX r kv cv⟩ _ _ _ _ _ W hC).mono fun e w' ⟨v, h1, h2, _, h4⟩ => ⟨v, h1, h2, h4⟩
theorem Md.unsaved (h : Md w W b r c c1 fail stop) : Calls Try.prog 23 #[.pointer (some ⟨b.cb, 0, none⟩)] W fun e w' => ∃ v, e = .returned v ∧ SRow w' 3 v ((dirts b.n c1).map spL) ∧ Below W.heap.size W w' := by
  obtain ⟨kv, cv, hC, _⟩ := h.ex
  exact (@unsaved_calls ⟨rX r kv cv⟩ _ _ _ _ _ W hC).mono fun e w' ⟨v, h1, h2, _, h4⟩ => ⟨v, h1, h2, h4⟩
theorem Md.used (h : Md w W b r c c1 fail stop) : Calls Try.prog 16 #[.pointer (some ⟨b.cb, 0, none⟩)] W fun e w' => e = .returned (.int .i64 (Go.Proofs.Ytpdckjbknphelaa.spots b.n c1).length) ∧ Below W.heap.size W w' := by
  obtain ⟨kv, cv, hC, _⟩ := h.ex
  exact @used_calls ⟨rX r kv cv⟩ _ _ _ _ _ W hC
theorem Md.rspots (h : Md w W b r c c1 fail stop) : Calls Try.prog 29 #[.pointer (some ⟨r.q, 0, none⟩), .bool false] W fun e w' => ∃ v, e = .returned v ∧ SRow w' 3 v ((Go.Proofs.Ytpdckjbknphelaa.spots b.n c).map spL) ∧ Below W.heap.size W w' := by
  obtain ⟨Y, hR⟩ := h.rw
  rw [← h.rn]
  exact (rspots_calls false W hR).mono fun e w' ⟨v, h1, h2, h3⟩ => ⟨v, h1, h2.srow, h3⟩
theorem Md.runsaved (h : Md w W b r c c1 fail stop) : Calls Try.prog 29 #[.pointer (some ⟨r.q, 0, none⟩), .bool true] W fun e w' => ∃ v, e = .returned v ∧ SRow w' 3 v ((dirts b.n c).map spL) ∧ Below W.heap.size W w' := by
  obtain ⟨Y, hR⟩ := h.rw
  rw [← h.rn]
  exact (rspots_calls true W hR).mono fun e w' ⟨v, h1, h2, h3⟩ => ⟨v, h1, h2.srow, h3⟩
end
/-- A call's worlds: told by what it hands back. -/
def ghoC (w0 : World) (u : Nat → Value × World) (s : Nat) (W : World) : Prop := match s with
  | 0 => W = w0
  | _ => W = (u 0).2
theorem ghoC_cong {w0 : World} (u u' : Nat → Value × World) (s : Nat) (W : World) (hu : ∀ j, j < s → u j = u' j) (h : ghoC w0 u s W) : ghoC w0 u' s W := match s, h with
  | 0, h => h
  | _ + 1, h => by unfold ghoC at *; rw [← hu 0 (by omega)]; exact h
def ghoV (v : Value) (E : World → Prop) (s : Nat) (g : Value × World) : Prop := match s with
  | 0 => g.1 = v ∧ E g.2
  | _ => True
theorem ghoV_some {v : Value} {E : World → Prop} {w0 : World} (h : E w0) (s : Nat) : ∃ g, ghoV v E s g := match s with
  | 0 => ⟨(v, w0), rfl, h⟩
  | _ + 1 => ⟨(v, w0), trivial⟩
theorem ghoC_lo {w0 : World} {u : Nat → Value × World} (p : {w // Btw (ghoC w0 u) 0 0 w}) : p.val = w0 := by
  obtain ⟨W, s, h0, h1, h⟩ := p
  obtain rfl : s = 0 := by omega
  exact h
theorem ghoC_hi {w0 : World} {u : Nat → Value × World} (p : {w // Btw (ghoC w0 u) 1 1 w}) : p.val = (u 0).2 := by
  obtain ⟨W, s, h0, h1, h⟩ := p
  obtain rfl : s = 1 := by omega
  exact h
set_option maxRecDepth 100000 in
set_option maxHeartbeats 20000000 in
theorem plays_walk (n : Int) (v : Value) (l : List (Int × Sp × Int)) (f0 f1 : Int) (W : World) (hl : SRow W 5 v (l.map doL)) (hlk : ∀ p ∈ l, doOk p) :
    Calls Try.prog 7 #[.int .i64 n, v, .agg #[.int .i64 f0, .int .i64 f1]] W fun e w' => e = .returned (.bool true) ∧ Below W.heap.size W w' := by
  have hA1 : Below W.heap.size W (W.alloc (.cells #[.int .i64 f0, .int .i64 f1] 65)) := (Below.refl _ _).alloc (Nat.le_refl _) _
  have hb1 := Blk.new W #[.int .i64 f0, .int .i64 f1] 65
  have hz1 : (W.alloc (.cells #[.int .i64 f0, .int .i64 f1] 65)).heap.size = W.heap.size + 1 := by simp
  have hA2 := hA1.alloc (by rw [hz1]; omega) (.cells #[.slice none 0 0, .slice none 0 0, .int .i64 f0, .int .i64 f1] 29)
  have hb2 := hb1.alloc (.cells #[.slice none 0 0, .slice none 0 0, .int .i64 f0, .int .i64 f1] 29)
  have hk2 := Blk.new_at (w := W.alloc (.cells #[.int .i64 f0, .int .i64 f1] 65)) (n := W.heap.size + 1) #[.slice none 0 0, .slice none 0 0, .int .i64 f0, .int .i64 f1] 29 hz1.symm
  have a0 := hb1.cell 0 rfl
  have a1 := hb1.cell 1 rfl
  obtain ⟨W1, hW1⟩ : ∃ W1, (W.alloc (.cells #[.int .i64 f0, .int .i64 f1] 65)).alloc (.cells #[.slice none 0 0, .slice none 0 0, .int .i64 f0, .int .i64 f1] 29) = W1 := ⟨_, rfl⟩
  rw [hW1] at hA2 hb2 hk2
  have a0' := hb2.cell 0 rfl
  have a1' := hb2.cell 1 rfl
  have hwk := works_calls
  replace hwk := Lib.hid hwk
  by_cases hn : 1 ≤ n ∧ n ≤ 64
  · obtain ⟨m, rfl⟩ : ∃ m : Nat, n = (m : Int) := ⟨n.toNat, by omega⟩
    letI : Xs := ⟨fun _ => False⟩
    have hw1 : Wv W1 W.heap.size (W.heap.size + 1) [] [] f0 f1 := ⟨⟨by omega, fun k => k, fun c k => False.elim k⟩, _, _, hk2, ROwx.nil _ _ _ _, ROwx.nil _ _ _ _⟩
    have hnew := cnew_calls (w := W) m (W.heap.size + 1) W1 (by omega) (by omega) hw1 hA2
    have hrn := fun V => rnew_calls m f0 f1 V (by omega) (by omega)
    unfold loadF saveF at hnew
    obtain ⟨base, cap, rfl, hcm, hrow⟩ := hl.dos
    obtain ⟨L, hL⟩ : ∃ L, l.length = L := ⟨_, rfl⟩
    rw [hL]
    unfold maxLen at hcm
    replace hrow := Lib.hid hrow
    replace hlk := Lib.hid hlk
    replace hL := Lib.hid hL
    replace hnew := Lib.hid hnew
    replace hrn := Lib.hid hrn
    clear hl hw1 hk2 hA1 hb1 hz1
    replace hb2 := Lib.hid hb2
    replace hA2 := Lib.hid hA2
    go_enter Try.func7, Try.ntmps7
    go_wp2_with fail
    refine hnew.out.mono ?_
    rintro e V ⟨b, rfl, hbn, hbw, hld, hC, hb⟩
    have hb3 := hb2.out.below hb hb2.out.lt
    clear a0 a1 a0' a1' hnew hW1
    have a0 := hb3.cell 0 rfl
    have a1 := hb3.cell 1 rfl
    replace hC := Lib.hid hC
    replace hbn := Lib.hid hbn
    replace hbw := Lib.hid hbw
    replace hld := Lib.hid hld
    clear hb hb2 hb3
    go_wp2_with fail
    refine (hrn.out _).mono ?_
    rintro e V2 ⟨r, rfl, hr1, hr2, hr3, hr4, hR, hb⟩
    have hM0 : Md W V2 b r cs0 cs0 f0 f1 := ⟨⟨.slice none 0 0, .slice none 0 0, @Cv.moved W V V2 cs0 b f0 f1 (fun _ => False) (rX r (.slice none 0 0) (.slice none 0 0)) hC.out (Kb.of_below hb) (fun x hx => .inr (by have := (hR.lo x hx).1; omega)) (fun x hx => False.elim hx) (fun x hx => (hR.lo x hx).2), hR⟩, by rw [hr1, hbn.out], hr2, hr3, by rw [hr4]; exact hC.out.below.size, by rw [hld.out]; rfl⟩
    have hwb : Hid (b.wb = W.heap.size + 1) := Lib.hid hbw.out
    have hn64 := hM0.n64
    have hrn1 := Lib.hid (hr1.trans hbn.out.symm)
    replace hM0 := Lib.hid hM0
    clear hr1 hr2 hr3 hr4 hR hb hC hrn a0 a1 hld hbw this
    go_wp2_with fail
    go_loopw [12] (fun i X => ∃ (k : Nat) (c : Cs), k ≤ L ∧ k ≤ 80 ∧ i = .int .i64 k ∧ Md W X b r c c f0 f1 ∧ Pl (2 * k) c) (fun i _ => L + 1 - (intOf i).toNat)
    case atStart => exact ⟨0, cs0, by omega, by omega, rfl, hM0.out, Pl.start⟩
    case round =>
      obtain ⟨k, c, hkL, hk80, rfl, hM, hP⟩ := hrel
      clear hM0
      by_cases hgo : k < L ∧ k < 80
      · obtain ⟨hk1, hk2⟩ := hgo
        have g1 : (k : Int) < (L : Int) := by omega
        have g2 : (k : Int) < 80 := by omega
        have hne : l ≠ [] := fun e => by have := hL.out; rw [e] at this; simp at this; omega
        obtain ⟨rb, ro, rfl, hcell⟩ := hrow.out hne
        obtain ⟨t, ht⟩ : ∃ t, l[k]? = some t := ⟨_, List.getElem?_eq_getElem (by rw [hL.out]; exact hk1)⟩
        have hto := hlk.out t (List.mem_of_getElem? ht)
        obtain ⟨d0, d1, d2, d3, d4⟩ := hcell k t ht
        obtain ⟨tw, ⟨tx, ty, tz⟩, tn⟩ := t
        simp only at d0 d1 d2 d3 d4
        obtain ⟨hto, hn0, hn255⟩ := hto
        simp only at hto hn0 hn255
        have hrb : rb < W.heap.size := World.block_lt_of_cell? _ _ d0
        have hall : ∀ X, Below W.heap.size W X → X.cell? ⟨rb, ro + k * 5, none⟩ = some (.int .i64 tw) ∧ X.cell? ⟨rb, ro + k * 5 + 1, none⟩ = some (.int .i64 tx) ∧ X.cell? ⟨rb, ro + k * 5 + 2, none⟩ = some (.int .i64 ty) ∧ X.cell? ⟨rb, ro + k * 5 + 3, none⟩ = some (.int .i64 tz) ∧ X.cell? ⟨rb, ro + k * 5 + 4, none⟩ = some (.int .u8 tn) := fun X hX => ⟨(hX.cell (p := ⟨rb, _, none⟩) hrb).trans d0, (hX.cell (p := ⟨rb, _, none⟩) hrb).trans d1, (hX.cell (p := ⟨rb, _, none⟩) hrb).trans d2, (hX.cell (p := ⟨rb, _, none⟩) hrb).trans d3, (hX.cell (p := ⟨rb, _, none⟩) hrb).trans d4⟩
        have hMd := hM.keep (Below.refl wr.heap.size wr).drew
        have hone := one_calls tw tn (tx, ty, tz) (2 * k) wr.drew hMd hP (by omega) hto ⟨hn0, hn255⟩
        have hE0 : ∃ c', Md W wr.drew b r c' c' f0 f1 ∧ Pl (2 * k + 2) c' := ⟨c, hMd, hP.mono (by omega)⟩
        simp only at hone
        replace hall := Lib.hid hall
        replace hone := Lib.hid hone
        replace hMd := Lib.hid hMd
        clear hcell ht d0 d1 d2 d3 d4 hM hto hne hP
        go_upto_region 11 with fail
        obtain ⟨CC, hCC⟩ : ∃ C, C = ghoC wr.drew := ⟨_, rfl⟩
        obtain ⟨EE, hEE⟩ : ∃ E : World → Prop, E = fun X => ∃ c', Md W X b r c' c' f0 f1 ∧ Pl (2 * k + 2) c' := ⟨_, rfl⟩
        have hE00 : EE wr.drew := by rw [hEE]; exact hE0
        replace hCC := Lib.hid hCC
        replace hEE := Lib.hid hEE
        refine wp_region_stageX (vl := Prod.fst) [(0, 1), (0, 1), (0, 1), (0, 1), (0, 1), (0, 1), (0, 1), (1, 1), (1, 1), (1, 1), (1, 1), (1, 1), (1, 1), (1, 1), (1, 1), (1, 1), (1, 1), (1, 1), (1, 1), (1, 1), (1, 1)] (C := CC) (V := ghoV (.bool true) EE) (N := 1) (by kernel_rfl) (by kernel_rfl) (by kernel_rfl) (by kernel_rfl) (by kernel_rfl) (ghoV_some hE00) (fun u u' s w h1 h2 => by rw [hCC.out] at *; exact ghoC_cong u u' s w h1 h2) (fun _ => by rw [hCC.out]; rfl) ?_
        intro u hu
        obtain ⟨ub, hEu⟩ : (u 0).1 = .bool true ∧ EE (u 0).2 := hu 0
        rw [hEE.out] at hEu
        obtain ⟨c', hM', hP'⟩ := hEu
        have n01 : Nonempty {w // Btw (CC u) 0 1 w} := ⟨⟨wr.drew, 0, by omega, by omega, by rw [hCC.out]; rfl⟩⟩
        have n11 : Nonempty {w // Btw (CC u) 1 1 w} := ⟨⟨(u 0).2, 1, by omega, by omega, by rw [hCC.out]; rfl⟩⟩
        have hbe : ∀ p : {w // Btw (CC u) 0 1 w}, Below W.heap.size W p.val := fun ⟨X, s, _, hs, h⟩ => by
          rw [hCC.out] at h
          match s, hs, h with
          | 0, _, h => cases h; exact hMd.out.below
          | 1, _, h => cases h; exact hM'.below
          | _ + 2, hs, _ => omega
        have e0 : ∀ p : {w // Btw (CC u) 0 1 w}, p.val.cell? ⟨rb, ro + k * 5, none⟩ = some (.int .i64 tw) := fun p => (hall.out _ (hbe p)).1
        have e1 : ∀ p : {w // Btw (CC u) 0 1 w}, p.val.cell? ⟨rb, ro + k * 5 + 1, none⟩ = some (.int .i64 tx) := fun p => (hall.out _ (hbe p)).2.1
        have e2 : ∀ p : {w // Btw (CC u) 0 1 w}, p.val.cell? ⟨rb, ro + k * 5 + 2, none⟩ = some (.int .i64 ty) := fun p => (hall.out _ (hbe p)).2.2.1
        have e3 : ∀ p : {w // Btw (CC u) 0 1 w}, p.val.cell? ⟨rb, ro + k * 5 + 3, none⟩ = some (.int .i64 tz) := fun p => (hall.out _ (hbe p)).2.2.2.1
        have e4 : ∀ p : {w // Btw (CC u) 0 1 w}, p.val.cell? ⟨rb, ro + k * 5 + 4, none⟩ = some (.int .u8 tn) := fun p => (hall.out _ (hbe p)).2.2.2.2
        obtain ⟨bs1, cp1, x1, hq1, hq2, _⟩ := hM'.logs
        obtain ⟨Y, hRw⟩ := hM'.rw
        obtain ⟨bs2, cp2, x2, hq3, hq4, _⟩ := hRw.calls
        rw [hwb.out] at x1
        obtain ⟨ln, hln⟩ : ∃ ln, c'.calls.length = ln := ⟨_, rfl⟩
        rw [hln] at x1 x2 hq1 hq3
        unfold maxLen at hq2 hq4
        have y1 : ∀ p : {w // Btw (CC u) 1 1 w}, p.val.cell? ⟨W.heap.size + 1, 1, none⟩ = some (.slice bs1 ln cp1) := fun ⟨X, s, h0, h1, h⟩ => by (rw [hCC.out] at h; obtain rfl : s = 1 := (by omega); cases h; exact x1)
        have y2 : ∀ p : {w // Btw (CC u) 1 1 w}, p.val.cell? ⟨r.q, 3, none⟩ = some (.slice bs2 ln cp2) := fun ⟨X, s, h0, h1, h⟩ => by (rw [hCC.out] at h; obtain rfl : s = 1 := (by omega); cases h; exact x2)
        clear hbe x1 x2 hRw hu
        replace hM' := Lib.hid hM'
        replace hP' := Lib.hid hP'
        replace hln := Lib.hid hln
        repeat (refine wpStageX_step rfl rfl (fun K hK => ?_); go_simp; refine hK _ ?_; clear hK K)
        refine wpStageX_call rfl rfl (fun Wx hx => ?_) ?_
        · rw [hCC.out] at hx
          obtain rfl : Wx = wr.drew := hx
          refine callAtU_imp (R := fun v w' => v = .bool true ∧ EE w') ?_ (fun v w' ⟨h1, h2⟩ => ⟨(v, w'), rfl, ⟨h1, h2⟩, by rw [hCC.out]; rfl⟩)
          unfold callAtU
          go_simp
          refine hone.out.mono ?_
          rintro e X ⟨rfl, hX⟩
          exact ⟨_, rfl, rfl, by rw [hEE.out]; exact hX⟩
        rw [ub]
        repeat (refine wpStageX_step rfl rfl (fun K hK => ?_); go_simp; refine hK _ ?_; clear hK K)
        refine wpStageX_nil ?_
        intro Wx hx
        rw [hCC.out] at hx
        obtain rfl : Wx = (u 0).2 := hx
        clear y1 y2 e0 e1 e2 e3 e4 n01 n11 ub hCC hEE hone hE0 hE00 hall hMd
        obtain ⟨X3, hX3⟩ : ∃ X, (u 0).2 = X := ⟨_, rfl⟩
        rw [hX3] at hM' ⊢
        clear hX3
        have hM3 := hM'.out
        clear hM'
        have hs1 := hM3.spots
        replace hs1 := Lib.hid hs1
        replace hM3 := Lib.hid hM3
        go_wp2_with fail
        refine hs1.out.mono ?_
        rintro e X4 ⟨va, rfl, hra, hb⟩
        have hM4 := hM3.out.keep hb
        have hs2 := hM4.unsaved
        replace hs2 := Lib.hid hs2
        clear hb hs1 hM3
        obtain ⟨ba, ca, rfl, _⟩ := hra.sp
        obtain ⟨la, hla⟩ : ∃ la, (spots b.n c').length = la := ⟨_, rfl⟩
        rw [hla] at hra
        replace hla := Lib.hid hla
        rw [hla.out]
        replace hM4 := Lib.hid hM4
        replace hra := Lib.hid hra
        go_wp2_with fail
        refine hs2.out.mono ?_
        rintro e X5 ⟨vb, rfl, hrb, hb⟩
        have hM5 := hM4.out.keep hb
        have hra5 := hra.out.keep hb
        have hs3 := hM5.rspots
        obtain ⟨bb, cb, rfl, _⟩ := hrb.sp
        replace hs3 := Lib.hid hs3
        replace hM5 := Lib.hid hM5
        replace hra5 := Lib.hid hra5
        replace hrb := Lib.hid hrb
        clear hb hs2 hM4 hra
        go_wp2_with fail
        refine hs3.out.mono ?_
        rintro e X6 ⟨vc, rfl, hrc, hb⟩
        have hM6 := hM5.out.keep hb
        have hra6 := hra5.out.keep hb
        have hrb6 := hrb.out.keep hb
        have hsm := rsame_calls _ _ _ X6 hra6 hrc
        obtain ⟨bc, cc, rfl, _⟩ := hrc.sp
        replace hsm := Lib.hid hsm
        replace hM6 := Lib.hid hM6
        replace hrb6 := Lib.hid hrb6
        clear hb hs3 hM5 hra5 hrb hra6 hrc
        go_wp2_with fail
        refine hsm.out.mono ?_
        rintro e X7 ⟨rfl, hb⟩
        have hM7 := hM6.out.keep hb
        have hrb7 := hrb6.out.keep hb
        have hs4 := hM7.runsaved
        replace hs4 := Lib.hid hs4
        replace hM7 := Lib.hid hM7
        replace hrb7 := Lib.hid hrb7
        clear hb hsm hM6 hrb6
        go_wp2_with fail
        refine hs4.out.mono ?_
        rintro e X8 ⟨vd, rfl, hrd, hb⟩
        have hM8 := hM7.out.keep hb
        have hrb8 := hrb7.out.keep hb
        have hsm := rsame_calls _ _ _ X8 hrb8 hrd
        obtain ⟨bd, cd, rfl, _⟩ := hrd.sp
        replace hsm := Lib.hid hsm
        replace hM8 := Lib.hid hM8
        clear hb hs4 hM7 hrb7 hrb8 hrd
        go_wp2_with fail
        refine hsm.out.mono ?_
        rintro e X9 ⟨rfl, hb⟩
        have hM9 := hM8.out.keep hb
        have hus := hM9.used
        rw [hla.out] at hus
        replace hus := Lib.hid hus
        replace hM9 := Lib.hid hM9
        clear hb hsm hM8
        go_wp2_with fail
        refine hus.out.mono ?_
        rintro e X10 ⟨rfl, hb⟩
        have hM10 := Lib.hid (hM9.out.keep hb)
        clear hb hus hM9
        go_wp2_with fail
        go_round
        case rel => exact ⟨k + 1, c', by omega, by omega, by go_num, hM10.out, hP'.out⟩
        case measure => simp [intOf]; omega
      · have hex : (k < L ∧ decide ((k : Int) < (L : Int)) = true ∧ decide ((k : Int) < 80) = false) ∨ (¬ k < L ∧ decide ((k : Int) < (L : Int)) = false) := by
          by_cases hq : k < L
          · exact .inl ⟨hq, by simp; omega, by simp; omega⟩
          · exact .inr ⟨hq, by simp; omega⟩
        have hlen := hP.calls
        obtain ⟨ln, hln⟩ : ∃ ln, c.calls.length = ln := ⟨_, rfl⟩
        rw [hln] at hlen
        replace hln := Lib.hid hln
        replace hM := Lib.hid hM
        clear hP hgo hrow hlk
        rcases hex with ⟨hq, g1, g2⟩ | ⟨hq, g1⟩
        all_goals
          go_wp2_with fail
          go_loopw [15] (fun i X => ∃ j : Nat, j ≤ ln ∧ i = .int .i64 j ∧ Md W X b r c c f0 f1) (fun i _ => ln + 1 - (intOf i).toNat)
          case atStart => exact ⟨0, by omega, rfl, hM.out⟩
          case round =>
            obtain ⟨j, hj, rfl, hMj⟩ := hrel
            clear hM
            obtain ⟨b1, n1, x1, hq1, hq2, hc1⟩ := hMj.logs
            obtain ⟨Y, hRw⟩ := hMj.rw
            obtain ⟨b2, n2, x2, hq3, hq4, hc2⟩ := hRw.calls
            rw [hwb.out] at x1
            rw [hln.out] at x1 x2 hq1 hq3
            unfold maxLen at hq2 hq4
            by_cases hjl : j < ln
            · have hjz : (j : Int) < (ln : Int) := by omega
              obtain ⟨y, hy⟩ : ∃ y, c.calls[j]? = some y := ⟨_, List.getElem?_eq_getElem (by rw [hln.out]; exact hjl)⟩
              have hne : c.calls ≠ [] := fun e => by rw [e] at hy; simp at hy
              obtain ⟨gg1, rfl, hcc1⟩ := hc1 hne
              obtain ⟨gg2, rfl, hcc2⟩ := hc2 hne
              obtain ⟨a0, a1, a2, a3, a4⟩ := hcc1 j y hy
              obtain ⟨d0, d1, d2, d3, d4⟩ := hcc2 j y hy
              obtain ⟨ys, ⟨yx, yy, yz⟩, yv⟩ := y
              simp only at a0 a1 a2 a3 a4 d0 d1 d2 d3 d4
              replace hMj := Lib.hid hMj
              clear hy hne hc1 hc2 hcc1 hcc2 hRw
              go_wp2_with fail
              go_quiet (fail)
              have hME := Lib.hid (hMj.out.keep (below_drewN (Below.refl wr.heap.size wr) nq))
              clear hMj a0 a1 a2 a3 a4 d0 d1 d2 d3 d4 x1 x2
              generalize wr.drewN nq = X at *
              go_wp2_with fail
              go_round
              case rel => exact ⟨j + 1, by omega, by go_num, hME.out⟩
              case measure => simp [intOf]; omega
            · obtain rfl : j = ln := by omega
              replace hMj := Lib.hid hMj
              clear hc1 hc2 hRw
              go_wp2_with fail
              clear x1 x2 hq1 hq2 hq3 hq4
              go_loopw [16] (fun i X => ∃ k : Nat, k ≤ b.n ∧ i = .int .i64 k ∧ Md W X b r c c f0 f1) (fun i _ => b.n + 1 - (intOf i).toNat)
              case atStart => exact ⟨0, by omega, rfl, hMj.out⟩
              case round =>
                obtain ⟨k, hk, rfl, hMk⟩ := hrel
                clear hMj
                obtain ⟨Y, hRw⟩ := hMk.rw
                obtain ⟨q0, _⟩ := hRw.qcells
                rw [hrn1.out] at q0
                by_cases hkl : k < b.n
                · have hkz : (k : Int) < (b.n : Int) := by omega
                  have hfu := hRw.cells (show k < r.n by rw [hrn1.out]; exact hkl)
                  obtain ⟨_, _, _, z3, _, _, _, v7, z7, hv7⟩ := hfu
                  cases hful : (c.sl k).full with
                  | false =>
                    rw [hful] at z3
                    replace hMk := Lib.hid hMk
                    clear hv7 hful hRw
                    go_wp2_with fail
                    go_quiet (fail)
                    have hME := Lib.hid (hMk.out.keep (below_drewN (Below.refl wr.heap.size wr) nq))
                    clear hMk q0 z3 z7
                    generalize wr.drewN nq = X at *
                    go_wp2_with fail
                    go_round
                    case rel => exact ⟨k + 1, by omega, by go_num, hME.out⟩
                    case measure => simp [intOf]; omega
                  | true =>
                    rw [hful] at z3
                    have hvv := hv7 hful
                    subst hvv
                    have hv07 := (hMk.vOf hkl).2
                    have hpl : ∀ p : Ext, Calls Try.prog 17 #[.pointer (some ⟨b.cb, 0, none⟩)] (ext wr p) fun e w' => e = .returned (.pointer (some ⟨b.pb, 0, none⟩)) ∧ Below (ext wr p).heap.size (ext wr p) w' := fun p => by
                      obtain ⟨kv, cv, hC, _⟩ := (hMk.keep (below_ext wr p)).ex
                      exact (@pool_calls ⟨rX r kv cv⟩ _ _ _ _ _ _ hC).mono fun e w' ⟨h1, h2⟩ => ⟨h1, by rw [h2]; exact Below.refl _ _⟩
                    have hce : ∀ p : Ext, Calls Try.prog 21 #[.pointer (some ⟨b.pb, 0, none⟩), .int .i64 k, .int .i64 5] (ext wr p) fun e w' => e = .returned (.agg #[.int .u8 (cellV (vOf c k)).1, .int .u8 (cellV (vOf c k)).2]) ∧ Below (ext wr p).heap.size (ext wr p) w' := fun p => by
                      obtain ⟨kv, cv, hC, _⟩ := (hMk.keep (below_ext wr p)).ex
                      exact @Cv.cellAt ⟨rX r kv cv⟩ _ _ _ _ _ _ hC k hkl
                    have hcc := fun V => cell_calls (vOf c k) V ⟨hv07.1, by omega⟩
                    have k0 : ∀ p : Ext, (ext wr p).cell? ⟨r.q, 0, none⟩ = some (.slice (some ⟨r.qs, 0, none⟩) b.n b.n) := fun p => ((below_ext wr p).cell (World.block_lt_of_cell? _ _ q0)).trans q0
                    have k3 : ∀ p : Ext, (ext wr p).cell? ⟨r.qs, k * 8 + 3, none⟩ = some (.bool true) := fun p => ((below_ext wr p).cell (World.block_lt_of_cell? _ _ z3)).trans z3
                    have k7 : ∀ p : Ext, (ext wr p).cell? ⟨r.qs, k * 8 + 7, none⟩ = some (.int .i64 (vOf c k)) := fun p => ((below_ext wr p).cell (World.block_lt_of_cell? _ _ z7)).trans z7
                    generalize vOf c k = vk at *
                    generalize (cellV vk).1 = c1v at *
                    generalize (cellV vk).2 = c2v at *
                    replace hpl := Lib.hid hpl
                    replace hce := Lib.hid hce
                    replace hcc := Lib.hid hcc
                    replace hMk := Lib.hid hMk
                    clear hful hRw z3 z7 hv7 hv07
                    go_wp2_with fail
                    refine wp_region_ext (by kernel_rfl) (by kernel_rfl) ?_
                    repeat (quiet_step (first | (go_at_call 17; exact calls_ext_of (hpl.out _)) | (go_at_call 21; exact calls_ext_of (hce.out _)) | (go_at_call 19; exact calls_ext_of (hcc.out _))))
                    refine wpQuiet_nil ?_
                    rintro _ ⟨pq, rfl⟩
                    have hME := Lib.hid (hMk.out.keep (below_ext wr pq))
                    clear k0 k3 k7 q0 hMk
                    generalize ext wr pq = X at *
                    go_wp2_with fail
                    go_round
                    case rel => exact ⟨k + 1, by omega, by go_num, hME.out⟩
                    case measure => simp [intOf]; omega
                · obtain rfl : k = b.n := by omega
                  have hbe := Lib.hid hMk.below
                  clear hMk hRw
                  go_wp2_with fail
                  refine (hwk.out _).mono ?_
                  rintro e X ⟨rfl, hb⟩
                  have hbf := Lib.hid (hbe.out.trans (hb.mono hbe.out.size))
                  clear hb hbe q0
                  go_wp2_with fail
                  go_ret
                  exact ⟨rfl, hbf.out⟩
  · have hbad : n < 1 ∨ 64 < n := by omega
    have hcn := fun V => cnew_bad n (W.heap.size + 1) V hbad
    have hrn := fun V => rnew_bad n f0 f1 V hbad
    unfold loadF saveF at hcn
    obtain ⟨base, cap, rfl, hcm, hrow⟩ := hl.dos
    replace hcn := Lib.hid hcn
    replace hrn := Lib.hid hrn
    replace hA2 := Lib.hid hA2
    clear hl hk2 hA1 hb1 hz1 hrow hb2
    go_enter Try.func7, Try.ntmps7
    go_wp2_with fail
    refine (hcn.out _).mono ?_
    rintro e V ⟨rfl, rfl⟩
    go_wp2_with fail
    refine (hrn.out _).mono ?_
    rintro e V2 ⟨rfl, rfl⟩
    clear a0 a1 a0' a1' hcn hrn hW1
    go_wp2_with fail
    refine (hwk.out _).mono ?_
    rintro e X ⟨rfl, hb⟩
    have hbf := Lib.hid (hA2.out.trans (hb.mono hA2.out.size))
    clear hb hA2
    go_wp2_with fail
    go_ret
    exact ⟨rfl, hbf.out⟩
end Go.Proofs.Ytpdckjbknphelaa
