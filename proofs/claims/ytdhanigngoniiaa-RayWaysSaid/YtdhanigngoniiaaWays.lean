/-
  The way from every place in every direction is the document's, in new memory: RayWays gives true.
-/
import Derived.Test.YtdhanigngoniiaaWays2
namespace Go.Proofs.Ytdhanigngoniiaa
open Go.RowKit
set_option linter.unusedSimpArgs false
set_option linter.unusedVariables false

/-- Reads of a row that lies apart from what is stored. -/
theorem owns_store {W : World} {base n c : Nat} {a : Option Addr} {xs : List Value} (h : W.ownsRow base 23 3 (.slice a n c) n xs) {g j : Nat} (u : Value) (hne : ∀ b, a = some ⟨b, 0, none⟩ → b ≠ g) : (W.setCell ⟨g, j, none⟩ u).ownsRow base 23 3 (.slice a n c) n xs := by
  refine owns_setCell h u fun k hk => ?_
  cases a with
  | none => simp [Value.ownBlock] at hk
  | some p =>
    obtain ⟨b, o, sp⟩ := p
    have : b = k := by simpa [Value.ownBlock] using hk
    subst this
    obtain ⟨_, ⟨h1, _⟩ | ⟨g', cap, cur, hv, _⟩⟩ := h
    · simp at h1
    · injection hv with e1
      injection e1 with e1
      injection e1 with e1 e2 e3
      exact hne _ (by rw [e2, e3])

set_option maxRecDepth 100000 in
set_option maxHeartbeats 8000000 in
theorem ways_walk (x y z d0 d1 d2 n : Int) (w : World) :
    Calls Try.prog 3 #[.agg #[.int .i64 x, .int .i64 y, .int .i64 z], .agg #[.int .i64 d0, .int .i64 d1, .int .i64 d2], .int .i64 n] w fun e w' => e = .returned (.bool true) ∧ Below w.heap.size w w' := by
  go_enter Try.func3, Try.ntmps3
  go_wp2_with fail
  refine (way_calls x y z d0 d1 d2 n _).mono ?_
  rintro e w1 ⟨v1, rfl, ho1, hb⟩
  have HB := Lib.hid (below_step (((Below.refl w.heap.size w).alloc (by first | exact Nat.le_refl _ | (simp; done) | (simp; omega) | omega) _).alloc (by first | exact Nat.le_refl _ | (simp; done) | (simp; omega) | omega) _) (by first | exact Nat.le_refl _ | (simp; done) | (simp; omega) | omega) hb)
  have b0 := ((Blk.new_at (w := w) (n := w.heap.size) #[.int .i64 x, .int .i64 y, .int .i64 z] 23 (by simp)).alloc (.cells #[.int .i64 d0, .int .i64 d1, .int .i64 d2] 24)).below hb (by first | exact Nat.le_refl _ | (simp; done) | (simp; omega) | omega)
  have b1 := (Blk.new_at (w := (w.alloc (.cells #[.int .i64 x, .int .i64 y, .int .i64 z] 23))) (n := w.heap.size + 1) #[.int .i64 d0, .int .i64 d1, .int .i64 d2] 24 (by simp)).below hb (by first | exact Nat.le_refl _ | (simp; done) | (simp; omega) | omega)
  clear hb
  have b0_l := b0.lt
  have b0_0 := b0.cell 0 rfl
  have b0_1 := b0.cell 1 rfl
  have b0_2 := b0.cell 2 rfl
  have b1_l := b1.lt
  have b1_0 := b1.cell 0 rfl
  have b1_1 := b1.cell 1 rfl
  have b1_2 := b1.cell 2 rfl
  obtain ⟨a1, c1, rfl⟩ := owns_form ho1
  replace ho1 := Lib.hid ho1
  go_wp2_with fail
  clear b0_l b0_0 b0_1 b0_2
  clear b1_l b1_0 b1_1 b1_2
  refine (way_calls x y z d0 d1 d2 n _).mono ?_
  rintro e w2 ⟨v2, rfl, ho2, hb⟩
  obtain ⟨a2, c2, rfl⟩ := owns_form ho2
  have hlim : ∀ b, a1 = some ⟨b, 0, none⟩ → b < w1.heap.size := fun b hb1 => by
    have := (ho1.out.lt b (by rw [hb1]; rfl)).2
    exact this
  have hlim2 : ∀ b, a2 = some ⟨b, 0, none⟩ → w1.heap.size ≤ b := fun b hb1 => (ho2.lt b (by rw [hb1]; rfl)).1
  have hap : ∀ b b', a1 = some ⟨b, 0, none⟩ → a2 = some ⟨b', 0, none⟩ → b' ≠ b := fun b b' h1 h2 => by have := hlim b h1; have := hlim2 b' h2; omega
  clear hlim hlim2
  have hbase1 : ∀ b, a1 = some ⟨b, 0, none⟩ → w.heap.size ≤ b := fun b hb1 => by
    have := (ho1.out.lt b (by rw [hb1]; rfl)).1
    simp at this
    omega
  replace ho1 := Lib.hid (owns_below ho1.out hb)
  replace ho2 := Lib.hid ho2
  replace b0 := b0.below hb b0.lt
  replace b1 := b1.below hb b1.lt
  replace HB := Lib.hid (below_step HB.out HB.out.size hb)
  clear hb
  have b0_l := b0.lt
  have b0_0 := b0.cell 0 rfl
  have b0_1 := b0.cell 1 rfl
  have b0_2 := b0.cell 2 rfl
  have b1_l := b1.lt
  have b1_0 := b1.cell 0 rfl
  have b1_1 := b1.cell 1 rfl
  have b1_2 := b1.cell 2 rfl
  replace hap := Lib.hid hap
  replace hbase1 := Lib.hid hbase1
  go_wp2_with fail
  clear b0_l b0_0 b0_1 b0_2
  clear b1_l b1_0 b1_1 b1_2
  refine (rway_calls x y z d0 d1 d2 n _).mono ?_
  rintro e w3 ⟨v3, rfl, ho3, hb⟩
  obtain ⟨a3, c3, rfl⟩ := owns_form ho3
  have hap3 : ∀ b b', a1 = some ⟨b, 0, none⟩ → a3 = some ⟨b', 0, none⟩ → b' ≠ b := fun b b' h1 h2 => by
    have k1 := (ho1.out.lt b (by rw [h1]; rfl)).2
    have k2 := (ho3.lt b' (by rw [h2]; rfl)).1
    omega
  replace ho1 := Lib.hid (owns_below ho1.out hb)
  replace ho2 := Lib.hid (owns_below ho2.out hb)
  replace ho3 := Lib.hid ho3
  replace HB := Lib.hid (below_step HB.out HB.out.size hb)
  replace hap3 := Lib.hid hap3
  clear hb b0 b1
  obtain ⟨L, hL⟩ : ∃ L, wayP x y z d0 d1 d2 n = L := ⟨_, rfl⟩
  obtain ⟨r, hr⟩ : ∃ r, wayE x y z d0 d1 d2 n = r := ⟨_, rfl⟩
  have hl : L.length ≤ 256 := by
    rw [← hL]
    unfold wayP
    split
    · rename_i h0
      have := wayE_zero h0
      exact Nat.le_trans (wayL_le _ _ _ _ _) (by omega)
    · simp
  rw [hL] at ho1 ho2 ho3
  rw [hL, hr]
  clear hL hr
  obtain ⟨l, hll⟩ : ∃ l, L.length = l := ⟨_, rfl⟩
  rw [hll] at hl
  rw [hll]
  replace hll := Lib.hid hll
  go_wp2_with fail
  refine (same_calls L a1 a3 l c1 c3 _ hll.out hl (reads_of ho1.out) (reads_of ho3.out)).mono ?_
  rintro e w4 ⟨rfl, hb⟩
  replace ho1 := Lib.hid (owns_below ho1.out hb)
  replace ho2 := Lib.hid (owns_below ho2.out hb)
  replace ho3 := Lib.hid (owns_below ho3.out hb)
  replace HB := Lib.hid (below_step HB.out HB.out.size hb)
  clear hb
  go_wp2_with fail
  go_loopw [13] (fun i W => ∃ k : Nat, k ≤ l ∧ i = .int .i64 k ∧ (∃ xs, xs.length = l * 3 ∧ W.ownsRow (w.heap.size + 1 + 1) 23 3 (.slice a1 l c1) l xs) ∧ W.ownsRow w1.heap.size 23 3 (.slice a2 l c2) l (cellsP L) ∧ W.ownsRow w2.heap.size 23 3 (.slice a3 l c3) l (cellsP L) ∧ Below w.heap.size w W) (fun i _ => l - (intOf i).toNat)
  case atStart =>
    have e1 := ho1.out
    have e2 := ho2.out
    have e3 := ho3.out
    rw [hll.out] at e1 e2 e3
    exact ⟨0, by omega, rfl, ⟨cellsP L, by rw [cellsP_len, hll.out], by simpa using e1⟩, e2, e3, HB.out⟩
  case round =>
    clear ho1 ho2 ho3 HB
    obtain ⟨k, hk, rfl, ⟨xs, hxs, ho1⟩, ho2, ho3, HB⟩ := hrel
    by_cases hkn : k = l
    · rw [hkn]
      clear hkn hk
      replace HB := Lib.hid HB
      clear ho1 hxs
      have e2 : Reads wr a2 L := reads_of (by rw [hll.out]; exact ho2)
      have e3 : Reads wr a3 L := reads_of (by rw [hll.out]; exact ho3)
      clear ho2 ho3
      replace e2 := Lib.hid e2
      replace e3 := Lib.hid e3
      go_wp2_with fail
      refine (same_calls L a2 a3 l c2 c3 _ hll.out hl e2.out e3.out).mono ?_
      rintro e w5 ⟨rfl, hb⟩
      replace HB := Lib.hid (below_step HB.out HB.out.size hb)
      clear hb
      go_wp2_with fail
      refine (awake_calls _).mono ?_
      rintro e w6 ⟨rfl, hb⟩
      replace HB := Lib.hid (below_step HB.out HB.out.size hb)
      go_wp2_with fail
      try rw [Exit.noGoto_ret]
      go_ret
      exact ⟨rfl, HB.out⟩
    · have hk' : k < l := by omega
      clear hkn
      obtain ⟨hx1, ⟨h1, h2⟩ | ⟨g, cap, cur, hv, hg, hh, hc, hx, hs, ht⟩⟩ := ho1
      · exfalso; omega
      · obtain ⟨rfl, rfl⟩ : a1 = some ⟨g, 0, none⟩ ∧ c1 = cap := by injection hv with e1 e2 e3; exact ⟨e1, e3⟩
        have bg : Blk wr g cur.toList 23 := by show wr.heap[g]? = _; rw [hh]
        have hcl : ∀ j, j < l * 3 → ∃ v, cur.toList[j]? = some v := fun j hj => ⟨_, List.getElem?_eq_getElem (by simp; omega)⟩
        obtain ⟨u0, e0⟩ := hcl (k * 3) (by omega)
        obtain ⟨u1, e1⟩ := hcl (k * 3 + 1) (by omega)
        obtain ⟨u2, e2⟩ := hcl (k * 3 + 2) (by omega)
        have y0 := bg.cell _ e0
        have y1 := bg.cell _ e1
        have y2 := bg.cell _ e2
        have z0 := bg.frozen (k * 3)
        have z1 := bg.frozen (k * 3 + 1)
        have z2 := bg.frozen (k * 3 + 2)
        have hg' : w.heap.size ≤ g := by omega
        have keep : ∀ v0 v1 v2, World.ownsRow (((wr.setCell ⟨g, k * 3, none⟩ v0).setCell ⟨g, k * 3 + 1, none⟩ v1).setCell ⟨g, k * 3 + 2, none⟩ v2) w1.heap.size 23 3 (.slice a2 l c2) l (cellsP L) ∧ World.ownsRow (((wr.setCell ⟨g, k * 3, none⟩ v0).setCell ⟨g, k * 3 + 1, none⟩ v1).setCell ⟨g, k * 3 + 2, none⟩ v2) w2.heap.size 23 3 (.slice a3 l c3) l (cellsP L) ∧
            (∃ xs', xs'.length = l * 3 ∧ World.ownsRow (((wr.setCell ⟨g, k * 3, none⟩ v0).setCell ⟨g, k * 3 + 1, none⟩ v1).setCell ⟨g, k * 3 + 2, none⟩ v2) (w.heap.size + 1 + 1) 23 3 (.slice (some ⟨g, 0, none⟩) l c1) l xs') ∧ Below w.heap.size w (((wr.setCell ⟨g, k * 3, none⟩ v0).setCell ⟨g, k * 3 + 1, none⟩ v1).setCell ⟨g, k * 3 + 2, none⟩ v2) := fun v0 v1 v2 => by
          have n2 : ∀ b, a2 = some ⟨b, 0, none⟩ → b ≠ g := fun b hb => hap.out g b rfl hb
          have n3 : ∀ b, a3 = some ⟨b, 0, none⟩ → b ≠ g := fun b hb => hap3.out g b rfl hb
          refine ⟨owns_store (owns_store (owns_store ho2 v0 n2) v1 n2) v2 n2, owns_store (owns_store (owns_store ho3 v0 n3) v1 n3) v2 n3, ?_, ((HB.setCell (p := ⟨g, _, none⟩) hg' v0).setCell (p := ⟨g, _, none⟩) hg' v1).setCell (p := ⟨g, _, none⟩) hg' v2⟩
          have b5 := ((bg.set (k * 3) v0).set (k * 3 + 1) v1).set (k * 3 + 2) v2
          refine ⟨((((cur.toList.set (k * 3) v0).set (k * 3 + 1) v1).set (k * 3 + 2) v2)).take (l * 3), by simp; omega, by simp; omega, .inr ⟨g, c1, ((((cur.toList.set (k * 3) v0).set (k * 3 + 1) v1).set (k * 3 + 2) v2)).toArray, rfl, hg, b5, hc, hx, by simp; omega, by simp⟩⟩
        clear bg hcl e0 e1 e2 ho2 ho3 HB hh hs ht hx1 hv hc hx
        replace keep := Lib.hid keep
        go_wp2_with fail
        obtain ⟨k2, k3, k1, kb⟩ := keep.out (.int .i64 77) (.int .i64 0) (.int .i64 0)
        exact ⟨⟨k + 1, by omega, rfl, k1, k2, k3, kb⟩, by simp [intOf]; omega⟩
end Go.Proofs.Ytdhanigngoniiaa
