/-
  The contract of ray.Way.
-/
import Derived.Test.YtdhanigngoniiaaRayM
import Derived.Test.YtdhanigngoniiaaEqArr
import Derived.Test.YtdhanigngoniiaaInv
import Derived.Deep.DeepCutAuto
import Derived.Deep.LoopGhost
namespace Go.Proofs.Ytdhanigngoniiaa
open Go.RowKit
set_option linter.unusedSimpArgs false
set_option linter.unusedVariables false

theorem size_calls (n : Int) (w : World) (h0 : -1000 ≤ n) (h1 : n ≤ 1000) :
    Calls Try.prog 16 #[.int .i64 n] w fun e w' => e = .returned (.int .i64 (sizeI n)) ∧ w' = w := by
  go_enter Try.func16, Try.ntmps16
  go_wp2
  all_goals go_ret
  all_goals exact ⟨ret_int (by unfold sizeI; split <;> omega), rfl⟩

def V3 (a b c : Int) : List Value := [.int .i64 a, .int .i64 b, .int .i64 c]
def cellsP (L : List (Int × Int × Int)) : List Value := L.flatMap fun p => V3 p.1 p.2.1 p.2.2
theorem cellsP_len (L : List (Int × Int × Int)) : (cellsP L).length = L.length * 3 := by
  induction L with
  | nil => rfl
  | cons p L ih => simp only [cellsP, List.flatMap_cons, List.length_append, List.length_cons] at ih ⊢; rw [ih]; simp [V3]; omega
theorem cellsP_snoc (L : List (Int × Int × Int)) (p : Int × Int × Int) : cellsP (L ++ [p]) = cellsP L ++ V3 p.1 p.2.1 p.2.2 := by simp [cellsP]

def lenS : Value → Nat
  | .slice _ n _ => n
  | _ => 0
theorem owns_form {W : World} {base : Nat} {e : TypeId} {sz : Nat} {v : Value} {n : Nat} {xs : List Value} (h : W.ownsRow base e sz v n xs) : ∃ a c, v = .slice a n c := by
  rcases h.2 with ⟨rfl, rfl⟩ | ⟨g, cap, cur, rfl, _⟩ <;> exact ⟨_, _, rfl⟩
theorem owns_below {W W1 : World} {base : Nat} {e : TypeId} {sz : Nat} {v : Value} {n : Nat} {xs : List Value} (h : W.ownsRow base e sz v n xs) (hb : Below W.heap.size W W1) : W1.ownsRow base e sz v n xs := by
  obtain ⟨h1, h2⟩ := h
  refine ⟨h1, ?_⟩
  rcases h2 with h2 | ⟨g, cap, cur, hv, hg, hh, r⟩
  · exact Or.inl h2
  · exact Or.inr ⟨g, cap, cur, hv, hg, (hb.block g (Array.getElem?_eq_some_iff.1 hh).1).trans hh, r⟩
theorem owns_drewN {W : World} {base : Nat} {e : TypeId} {sz : Nat} {v : Value} {n : Nat} {xs : List Value} (h : W.ownsRow base e sz v n xs) (q : Nat) : (W.drewN q).ownsRow base e sz v n xs := h
theorem owns_mono {W : World} {base base' : Nat} {e : TypeId} {sz : Nat} {v : Value} {n : Nat} {xs : List Value} (h : W.ownsRow base e sz v n xs) (hb : base' ≤ base) : W.ownsRow base' e sz v n xs := by
  obtain ⟨h1, h2⟩ := h
  refine ⟨h1, ?_⟩
  rcases h2 with h2 | ⟨g, cap, cur, hv, hg, hh, r⟩
  · exact Or.inl h2
  · exact Or.inr ⟨g, cap, cur, hv, by omega, hh, r⟩
theorem owns_setCell {W : World} {base : Nat} {e : TypeId} {sz : Nat} {v : Value} {n : Nat} {xs : List Value} (h : W.ownsRow base e sz v n xs) {a : Addr} (u : Value) (hne : ∀ k, v.ownBlock = some k → k ≠ a.block) : (W.setCell a u).ownsRow base e sz v n xs := by
  obtain ⟨h1, h2⟩ := h
  refine ⟨h1, ?_⟩
  rcases h2 with h2 | ⟨g, cap, cur, hv, hg, hh, r⟩
  · exact Or.inl h2
  · subst hv
    exact Or.inr ⟨g, cap, cur, rfl, hg, (Below.heap_setCell W a u g (hne g rfl)).trans hh, r⟩
/-- Blocks below the row's base are not the row's. -/
theorem Blk.grown {W W1 : World} {b : Nat} {cs : List Value} {T : TypeId} {row : Option Nat} (h : Blk W b cs T) (hg : W.grownBy W1 row) (hr : some b ≠ row) : Blk W1 b cs T := (hg.block b h.lt hr).trans h

theorem stepV_form (x y z i : Int) : ∃ a b c : Int, stepV x y z i = .agg #[.int .i64 a, .int .i64 b, .int .i64 c] ∧ (stepOk x y z i = true → a = stepX x i ∧ b = stepY y i ∧ c = stepZ z i) := by
  unfold stepV; split
  · exact ⟨_, _, _, rfl, fun _ => ⟨rfl, rfl, rfl⟩⟩
  · exact ⟨_, _, _, rfl, fun h => absurd h (by assumption)⟩

/-- The walk's own blocks. -/
structure WB (w W : World) (p8 p9 p10 p11 p15 : Nat) (l8 l9 l10 l11 l15 : List Value) (v : Value) (n : Nat) (xs : List Value) : Prop where
  b8 : Blk W p8 l8 24
  b9 : Blk W p9 l9 24
  b10 : Blk W p10 l10 24
  b11 : Blk W p11 l11 24
  b15 : Blk W p15 l15 23
  own : W.ownsRow (p15 + 1) 23 3 v n xs
  below : Below w.heap.size w W
  lt : p15 < W.heap.size

section
variable {w W W1 : World} {p8 p9 p10 p11 p15 : Nat} {l8 l9 l10 l11 l15 : List Value} {v : Value} {n : Nat} {xs : List Value}
theorem WB.drew (h : WB w W p8 p9 p10 p11 p15 l8 l9 l10 l11 l15 v n xs) : WB w W.drew p8 p9 p10 p11 p15 l8 l9 l10 l11 l15 v n xs :=
  ⟨h.b8, h.b9, h.b10, h.b11, h.b15, h.own, h.below.drew, h.lt⟩
theorem WB.down (h : WB w W p8 p9 p10 p11 p15 l8 l9 l10 l11 l15 v n xs) (hb : Below W.heap.size W W1) : WB w W1 p8 p9 p10 p11 p15 l8 l9 l10 l11 l15 v n xs :=
  ⟨h.b8.below hb h.b8.lt, h.b9.below hb h.b9.lt, h.b10.below hb h.b10.lt, h.b11.below hb h.b11.lt, h.b15.below hb h.b15.lt, owns_below h.own hb, below_step h.below h.below.size hb, Nat.lt_of_lt_of_le h.lt hb.size⟩
theorem WB.new (h : WB w W p8 p9 p10 p11 p15 l8 l9 l10 l11 l15 v n xs) (o : Obj) : WB w (W.alloc o) p8 p9 p10 p11 p15 l8 l9 l10 l11 l15 v n xs :=
  h.down ((Below.refl _ _).alloc (Nat.le_refl _) o)
/-- A store into a block that lies behind all of these. -/
theorem WB.store (h : WB w W p8 p9 p10 p11 p15 l8 l9 l10 l11 l15 v n xs) {g j : Nat} (u : Value) (hg : w.heap.size ≤ g) (h8 : p8 ≠ g) (h9 : p9 ≠ g) (h10 : p10 ≠ g) (h11 : p11 ≠ g) (h15 : p15 ≠ g) (ho : ∀ k, v.ownBlock = some k → k ≠ g) : WB w (W.setCell ⟨g, j, none⟩ u) p8 p9 p10 p11 p15 l8 l9 l10 l11 l15 v n xs :=
  ⟨h.b8.set_other u h8, h.b9.set_other u h9, h.b10.set_other u h10, h.b11.set_other u h11, h.b15.set_other u h15, owns_setCell h.own u ho, h.below.setCell (p := ⟨g, j, none⟩) hg u, by show p15 < (W.heap.modify _ _).size; rw [Array.size_modify]; exact h.lt⟩
theorem WB.set15 (h : WB w W p8 p9 p10 p11 p15 l8 l9 l10 l11 l15 v n xs) (j : Nat) (u : Value) (hw : w.heap.size ≤ p15) (h8 : p8 < p15) (h9 : p9 < p15) (h10 : p10 < p15) (h11 : p11 < p15) : WB w (W.setCell ⟨p15, j, none⟩ u) p8 p9 p10 p11 p15 l8 l9 l10 l11 (l15.set j u) v n xs :=
  ⟨h.b8.set_other u (show p8 ≠ p15 by omega), h.b9.set_other u (show p9 ≠ p15 by omega), h.b10.set_other u (show p10 ≠ p15 by omega), h.b11.set_other u (show p11 ≠ p15 by omega), h.b15.set j u,
    owns_setCell h.own u (fun k hk => by have := (h.own.lt k hk).1; show k ≠ p15; omega), h.below.setCell (p := ⟨p15, j, none⟩) hw u, by show p15 < (W.heap.modify _ _).size; rw [Array.size_modify]; exact h.lt⟩
theorem WB.grow {v' : Value} {n' : Nat} {xs' : List Value} (h : WB w W p8 p9 p10 p11 p15 l8 l9 l10 l11 l15 v n xs) (hg : W.grownBy W1 v.ownBlock) (ho : W1.ownsRow (p15 + 1) 23 3 v' n' xs') (hw : w.heap.size ≤ p15) (h8 : p8 < p15) (h9 : p9 < p15) (h10 : p10 < p15) (h11 : p11 < p15) : WB w W1 p8 p9 p10 p11 p15 l8 l9 l10 l11 l15 v' n' xs' := by
  have hk : ∀ k, v.ownBlock = some k → p15 + 1 ≤ k := fun k hk => (h.own.lt k hk).1
  have hne : ∀ b, b ≤ p15 → some b ≠ v.ownBlock := fun b hb e => by have := hk b e.symm; omega
  exact ⟨h.b8.grown hg (hne _ (by omega)), h.b9.grown hg (hne _ (by omega)), h.b10.grown hg (hne _ (by omega)), h.b11.grown hg (hne _ (by omega)), h.b15.grown hg (hne _ (by omega)), ho,
    h.below.grown hg h.below.size (fun k e => by have := hk k e; omega), Nat.lt_of_lt_of_le h.lt hg.size⟩
end

theorem info_place : (Try.prog.info? 23).map (fun i => (i.zero, i.size, i.bytes)) = some (some (.agg #[.int .i64 0, .int .i64 0, .int .i64 0]), 3, 24) := by kernel_rfl

/-- What the first loop has laid by axis k. -/
def szL (d0 d1 d2 : Int) (k : Nat) : List Value := V3 (if 0 < k then sizeI d0 else 0) (if 1 < k then sizeI d1 else 0) (if 2 < k then sizeI d2 else 0)
def nxL (k : Nat) : List Value := V3 (if 0 < k then 1 else 0) (if 1 < k then 1 else 0) (if 2 < k then 1 else 0)
def drL (d0 d1 d2 : Int) (k : Nat) : List Value := V3 (if 0 < k ∧ d0 < 0 then 1 else 0) (if 1 < k ∧ d1 < 0 then 5 else 4) (if 2 < k ∧ d2 < 0 then 3 else 2)
def ax (d : Int) : Prop := -1000 ≤ d ∧ d ≤ 1000

theorem part3_0 (x y z : Int) (w : World) : (part 3 #[.int .i64 x, .int .i64 y, .int .i64 z] (0 * 1)).run Try.prog w = .ok (.int .i64 x) w := by kernel_rfl
theorem part3_1 (x y z : Int) (w : World) : (part 3 #[.int .i64 x, .int .i64 y, .int .i64 z] (1 * 1)).run Try.prog w = .ok (.int .i64 y) w := by kernel_rfl
theorem part3_2 (x y z : Int) (w : World) : (part 3 #[.int .i64 x, .int .i64 y, .int .i64 z] (2 * 1)).run Try.prog w = .ok (.int .i64 z) w := by kernel_rfl
theorem part3 (x y z : Int) (i : Nat) (w : World) (hi : i < 3) : (part 3 #[.int .i64 x, .int .i64 y, .int .i64 z] (i * 1)).run Try.prog w = .ok (.int .i64 (if i = 0 then x else if i = 1 then y else z)) w := by
  obtain rfl | rfl | rfl : i = 0 ∨ i = 1 ∨ i = 2 := by omega
  · exact part3_0 x y z w
  · exact part3_1 x y z w
  · exact part3_2 x y z w
theorem size3 (w : World) : (sizeOf 3).run Try.prog w = .ok 1 w := by kernel_rfl
theorem eq3 (a b c a' b' c' : Int) (w : World) : (Op.equalIn 10000 24 (.agg #[.int .i64 a, .int .i64 b, .int .i64 c]) (.agg #[.int .i64 a', .int .i64 b', .int .i64 c'])).run Try.prog w = .ok (a == a' && (b == b' && c == c')) w :=
  run_eq_int3 9998 24 3 a b c a' b' c' Try.underlying24 size3 Try.underlying3 part3

set_option maxRecDepth 100000 in
set_option maxHeartbeats 8000000 in
theorem way_no (x y z d0 d1 d2 n : Int) (w : World) (h : mayB x y z = false ∨ n < 0 ∨ 256 < n ∨ (d0 = 0 ∧ d1 = 0 ∧ d2 = 0)) :
    Calls Try.prog 7 #[.agg #[.int .i64 x, .int .i64 y, .int .i64 z], .agg #[.int .i64 d0, .int .i64 d1, .int .i64 d2], .int .i64 n] w fun e w' =>
      e = .returned (.tuple #[.slice none 0 0, .int .i64 (if mayB x y z then 2 else 10)]) ∧ Below w.heap.size w w' := by
  cases hm : mayB x y z
  · go_enter Try.func7, Try.ntmps7
    go_wp2_with fail
    go_step3
    go_wp2_with fail
    refine (may_calls _ _ _ _).mono ?_
    rintro e w1 ⟨rfl, hb⟩
    rw [hm]
    have HB := Lib.hid (below_step (((Below.refl w.heap.size w).alloc (by first | exact Nat.le_refl _ | (simp; done) | (simp; omega) | omega) _).alloc (by first | exact Nat.le_refl _ | (simp; done) | (simp; omega) | omega) _) (by first | exact Nat.le_refl _ | (simp; done) | (simp; omega) | omega) hb)
    have b0 := ((Blk.new_at (w := w) (n := w.heap.size) #[.int .i64 x, .int .i64 y, .int .i64 z] 23 (by simp)).alloc (.cells #[.int .i64 d0, .int .i64 d1, .int .i64 d2] 24)).below hb (by first | exact Nat.le_refl _ | (simp; done) | (simp; omega) | omega)
    have b1 := (Blk.new_at (w := (w.alloc (.cells #[.int .i64 x, .int .i64 y, .int .i64 z] 23))) (n := w.heap.size + 1) #[.int .i64 d0, .int .i64 d1, .int .i64 d2] 24 (by simp)).below hb (by first | exact Nat.le_refl _ | (simp; done) | (simp; omega) | omega)
    clear hb
    have b0_l := b0.lt
    have b0_0 := b0.cell 0 rfl
    have b0_1 := b0.cell 1 rfl
    have b0_2 := b0.cell 2 rfl
    have b1_l := b1.lt
    have b1_0 := b1.cell 0 rfl
    have b1_1 := b1.cell 1 rfl
    have b1_2 := b1.cell 2 rfl
    go_wp2_with fail
    try rw [Exit.noGoto_ret]
    go_ret2
    exact ⟨rfl, HB.out⟩
  · have h' : n < 0 ∨ 256 < n ∨ (0 ≤ n ∧ n ≤ 256 ∧ d0 = 0 ∧ d1 = 0 ∧ d2 = 0) := by rw [hm] at h; simp at h; omega
    clear h
    go_enter Try.func7, Try.ntmps7
    go_wp2_with fail
    go_step3
    go_wp2_with fail
    refine (may_calls _ _ _ _).mono ?_
    rintro e w1 ⟨rfl, hb⟩
    rw [hm]
    have HB := Lib.hid (below_step (((Below.refl w.heap.size w).alloc (by first | exact Nat.le_refl _ | (simp; done) | (simp; omega) | omega) _).alloc (by first | exact Nat.le_refl _ | (simp; done) | (simp; omega) | omega) _) (by first | exact Nat.le_refl _ | (simp; done) | (simp; omega) | omega) hb)
    have b0 := ((Blk.new_at (w := w) (n := w.heap.size) #[.int .i64 x, .int .i64 y, .int .i64 z] 23 (by simp)).alloc (.cells #[.int .i64 d0, .int .i64 d1, .int .i64 d2] 24)).below hb (by first | exact Nat.le_refl _ | (simp; done) | (simp; omega) | omega)
    have b1 := (Blk.new_at (w := (w.alloc (.cells #[.int .i64 x, .int .i64 y, .int .i64 z] 23))) (n := w.heap.size + 1) #[.int .i64 d0, .int .i64 d1, .int .i64 d2] 24 (by simp)).below hb (by first | exact Nat.le_refl _ | (simp; done) | (simp; omega) | omega)
    clear hb
    have b0_l := b0.lt
    have b0_0 := b0.cell 0 rfl
    have b0_1 := b0.cell 1 rfl
    have b0_2 := b0.cell 2 rfl
    have b1_l := b1.lt
    have b1_0 := b1.cell 0 rfl
    have b1_1 := b1.cell 1 rfl
    have b1_2 := b1.cell 2 rfl
    have e3 : ∀ w, (Op.equalIn 10000 24 (.agg #[.int .i64 0, .int .i64 0, .int .i64 0]) (.agg #[.int .i64 0, .int .i64 0, .int .i64 0])).run Try.prog w = .ok true w := fun w => by rw [eq3]; rfl
    rcases h' with h' | h' | ⟨k1, k2, rfl, rfl, rfl⟩
    all_goals
      go_wp2_with fail
      try rw [Exit.noGoto_ret]
      go_ret2
      exact ⟨rfl, HB.out⟩

set_option maxRecDepth 100000 in
set_option maxHeartbeats 8000000 in
theorem way_yes (x y z d0 d1 d2 n : Int) (w : World) (hm : mayB x y z = true) (hn : 0 ≤ n) (hn' : n ≤ 256) (hd : ¬ (d0 = 0 ∧ d1 = 0 ∧ d2 = 0)) :
    Calls Try.prog 7 #[.agg #[.int .i64 x, .int .i64 y, .int .i64 z], .agg #[.int .i64 d0, .int .i64 d1, .int .i64 d2], .int .i64 n] w fun e w' =>
      ∃ v, e = .returned (.tuple #[v, .int .i64 (wayE x y z d0 d1 d2 n)]) ∧ w'.ownsRow w.heap.size 23 3 v (wayP x y z d0 d1 d2 n).length (cellsP (wayP x y z d0 d1 d2 n)) ∧ Below w.heap.size w w' := by
  have i0 : ∀ w, (Instr.index 24 (.agg #[.int .i64 d0, .int .i64 d1, .int .i64 d2]) (.int .i64 0)).run Try.prog w = .ok (.int .i64 d0) w := fun _ => by kernel_rfl
  have i1 : ∀ w, (Instr.index 24 (.agg #[.int .i64 d0, .int .i64 d1, .int .i64 d2]) (.int .i64 1)).run Try.prog w = .ok (.int .i64 d1) w := fun _ => by kernel_rfl
  have i2 : ∀ w, (Instr.index 24 (.agg #[.int .i64 d0, .int .i64 d1, .int .i64 d2]) (.int .i64 2)).run Try.prog w = .ok (.int .i64 d2) w := fun _ => by kernel_rfl
  have hdd : (d0 == 0 && (d1 == 0 && d2 == 0)) = false := by
    rw [Bool.eq_false_iff]
    intro h
    simp only [Bool.and_eq_true, beq_iff_eq] at h
    exact hd h
  have e3 : ∀ w, (Op.equalIn 10000 24 (.agg #[.int .i64 d0, .int .i64 d1, .int .i64 d2]) (.agg #[.int .i64 0, .int .i64 0, .int .i64 0])).run Try.prog w = .ok false w := fun w => by rw [eq3, hdd]
  clear hdd
  go_enter Try.func7, Try.ntmps7
  go_wp2_with fail
  go_step3
  go_wp2_with fail
  refine (may_calls _ _ _ _).mono ?_
  rintro e w1 ⟨rfl, hb⟩
  rw [hm]
  have HB := Lib.hid (below_step (((Below.refl w.heap.size w).alloc (by first | exact Nat.le_refl _ | (simp; done) | (simp; omega) | omega) _).alloc (by first | exact Nat.le_refl _ | (simp; done) | (simp; omega) | omega) _) (by first | exact Nat.le_refl _ | (simp; done) | (simp; omega) | omega) hb)
  have b0 := ((Blk.new_at (w := w) (n := w.heap.size) #[.int .i64 x, .int .i64 y, .int .i64 z] 23 (by simp)).alloc (.cells #[.int .i64 d0, .int .i64 d1, .int .i64 d2] 24)).below hb (by first | exact Nat.le_refl _ | (simp; done) | (simp; omega) | omega)
  have b1 := (Blk.new_at (w := (w.alloc (.cells #[.int .i64 x, .int .i64 y, .int .i64 z] 23))) (n := w.heap.size + 1) #[.int .i64 d0, .int .i64 d1, .int .i64 d2] 24 (by simp)).below hb (by first | exact Nat.le_refl _ | (simp; done) | (simp; omega) | omega)
  clear hb
  have b0_l := b0.lt
  have b0_0 := b0.cell 0 rfl
  have b0_1 := b0.cell 1 rfl
  have b0_2 := b0.cell 2 rfl
  have b1_l := b1.lt
  have b1_0 := b1.cell 0 rfl
  have b1_1 := b1.cell 1 rfl
  have b1_2 := b1.cell 2 rfl
  go_upto_region 8 with (fail)
  refine wp_world (fun W => Blk W w.heap.size (V3 x y z) 23 ∧ Blk W (w.heap.size + 1) (V3 d0 d1 d2) 24 ∧ Blk W w1.heap.size (V3 0 2 1) 24 ∧ Blk W (w1.heap.size + 1) (V3 0 4 2) 24 ∧ Blk W (w1.heap.size + 1 + 1) (V3 0 0 0) 24 ∧ Blk W (w1.heap.size + 1 + 1 + 1) (V3 0 0 0) 24 ∧ Below w.heap.size w W ∧ W.heap.size = w1.heap.size + 1 + 1 + 1 + 1) ⟨?_, ?_, ?_, ?_, ?_, ?_, ?_, ?_⟩ ?_
  · exact (((b0.alloc _).alloc _).alloc _).alloc _
  · exact (((b1.alloc _).alloc _).alloc _).alloc _
  · exact (((Blk.new w1 _ _).alloc _).alloc _).alloc _
  · exact ((Blk.new_at _ _ (by simp)).alloc _).alloc _
  · exact (Blk.new_at _ _ (by simp)).alloc _
  · exact Blk.new_at _ _ (by simp)
  · have hz := HB.out.size
    exact (((HB.out.alloc hz _).alloc (by simp; omega) _).alloc (by simp; omega) _).alloc (by simp; omega) _
  · simp
  have ord : w.heap.size + 1 < w1.heap.size := b1.lt
  have ord2 : w1.heap.size < w1.heap.size + 1 ∧ w1.heap.size + 1 < w1.heap.size + 1 + 1 ∧ w1.heap.size + 1 + 1 < w1.heap.size + 1 + 1 + 1 := by omega
  have ord0 : w.heap.size < w.heap.size + 1 := by omega
  clear b0_l b0_0 b0_1 b0_2
  clear b1_l b1_0 b1_1 b1_2
  clear b0 b1 HB
  generalize w1.heap.size + 1 + 1 + 1 = p11 at *
  generalize w1.heap.size + 1 + 1 = p10 at *
  generalize w1.heap.size + 1 = p9 at *
  generalize w1.heap.size = p8 at *
  rintro W ⟨b3, b4, b8, b9, b10, b11, HB, hsz⟩
  generalize hp4 : w.heap.size + 1 = p4 at *
  have ord3 : w.heap.size ≤ w.heap.size := Nat.le_refl _
  replace hp4 := Lib.hid hp4
  replace HB := Lib.hid HB
  replace ord2 := Lib.hid ord2
  have b4_0 : W.cell? ⟨p4, 0, none⟩ = some (.int .i64 d0) := b4.cell 0 rfl
  have b4_1 : W.cell? ⟨p4, 1, none⟩ = some (.int .i64 d1) := b4.cell 1 rfl
  have b4_2 : W.cell? ⟨p4, 2, none⟩ = some (.int .i64 d2) := b4.cell 2 rfl
  go_wp2_with fail
  clear b4_0 b4_1 b4_2
  go_loopw [38] (fun i wr => ∃ k : Nat, k ≤ 3 ∧ i = .int .i64 k ∧ (0 < k → ax d0) ∧ (1 < k → ax d1) ∧ (2 < k → ax d2) ∧ Blk wr w.heap.size (V3 x y z) 23 ∧ Blk wr p4 (V3 d0 d1 d2) 24 ∧ Blk wr p8 (V3 0 2 1) 24 ∧ Blk wr p9 (drL d0 d1 d2 k) 24 ∧ Blk wr p10 (szL d0 d1 d2 k) 24 ∧ Blk wr p11 (nxL k) 24 ∧ Below w.heap.size w wr ∧ p11 < wr.heap.size)
    (fun i _ => 3 - (intOf i).toNat)
  case atStart => exact ⟨0, by omega, rfl, by omega, by omega, by omega, b3, b4, b8, b9, b10, b11, HB.out, by omega⟩
  case round =>
    clear b3 b4 b8 b9 b10 b11 HB hsz
    obtain ⟨k, hk, rfl, a0, a1, a2, b3, b4, b8, b9, b10, b11, HB, hsz⟩ := hrel
    replace HB := Lib.hid HB
    obtain rfl | rfl | rfl | rfl : k = 0 ∨ k = 1 ∨ k = 2 ∨ k = 3 := by omega
    · by_cases hax : ax d0
      · obtain ⟨x1, x2⟩ := hax
        have f1 := b9.cell 0 rfl
        have f2 := b10.cell 0 rfl
        have f3 := b11.cell 0 rfl
        have g1 := b9.frozen 0
        have g2 := b10.frozen 0
        have g3 := b11.frozen 0
        simp only [Nat.lt_irrefl, false_and, if_false] at f1 f2 f3
        have o2 := ord2.out
        have m1 : ¬ p9 = p10 := by omega
        have m2 : ¬ p9 = p11 := by omega
        have m3 : ¬ p10 = p11 := by omega
        have m1' : ¬ p10 = p9 := by omega
        have m2' : ¬ p11 = p9 := by omega
        have m3' : ¬ p11 = p10 := by omega
        have o2 := ord2.out
        have o4 := hp4.out
        have q1 : ∀ (c : World) (b : Nat) (cs : List Value) (T : TypeId) (v1 v2 : Value), Blk c b cs T → b ≠ p10 → b ≠ p11 → Blk ((c.setCell ⟨p10, 0, none⟩ v1).setCell ⟨p11, 0, none⟩ v2) b cs T := fun c b cs T v1 v2 h h1 h2 => (h.set_other _ h1).set_other _ h2
        have q2 : ∀ (c : World) (b : Nat) (cs : List Value) (T : TypeId) (v1 v2 v3 : Value), Blk c b cs T → b ≠ p10 → b ≠ p11 → b ≠ p9 → Blk (((c.setCell ⟨p10, 0, none⟩ v1).setCell ⟨p11, 0, none⟩ v2).setCell ⟨p9, 0, none⟩ v3) b cs T := fun c b cs T v1 v2 v3 h h1 h2 h3 => ((h.set_other _ h1).set_other _ h2).set_other _ h3
        replace q1 := Lib.hid q1
        replace q2 := Lib.hid q2
        replace o2 := Lib.hid o2
        replace o4 := Lib.hid o4
        have s10 : (szL d0 d1 d2 0).set 0 (.int .i64 (sizeI d0)) = szL d0 d1 d2 (0 + 1) := rfl
        have s11 : (nxL 0).set 0 (.int .i64 1) = nxL (0 + 1) := rfl
        have sn : d0 < 0 → (drL d0 d1 d2 0).set 0 (.int .i64 1) = drL d0 d1 d2 (0 + 1) := fun h => by simp [drL, V3, h]
        have sp : 0 ≤ d0 → drL d0 d1 d2 0 = drL d0 d1 d2 (0 + 1) := fun h => by simp [drL, V3, show ¬ d0 < 0 by omega]
        replace s10 := Lib.hid s10
        replace s11 := Lib.hid s11
        replace sn := Lib.hid sn
        replace sp := Lib.hid sp
        replace a0 := Lib.hid a0
        replace a1 := Lib.hid a1
        replace a2 := Lib.hid a2
        by_cases hneg : d0 < 0
        · go_wp2_with (go_at_call 16; refine (size_calls _ _ (by omega) (by omega)).mono ?_; rintro e w' ⟨rfl, rfl⟩)
          have o2 := o2.out
          have o4 := o4.out
          refine ⟨⟨0 + 1, by omega, rfl, ?_, ?_, ?_, q2.out _ _ _ _ _ _ _ b3 (by omega) (by omega) (by omega), q2.out _ _ _ _ _ _ _ b4 (by omega) (by omega) (by omega), q2.out _ _ _ _ _ _ _ b8 (by omega) (by omega) (by omega), ?_, ?_, ?_, ?_, by simpa using hsz⟩, by simp [intOf]⟩
          · intro _; first | exact ⟨x1, x2⟩ | exact a0.out (by omega)
          · intro _; first | omega | exact ⟨x1, x2⟩ | exact a1.out (by omega)
          · intro _; first | omega | exact ⟨x1, x2⟩ | exact a2.out (by omega)
          · rw [← sn.out hneg]; exact ((b9.set_other _ m1).set_other _ m2).set 0 _
          · rw [← s10.out]; exact ((b10.set 0 _).set_other _ m3).set_other _ m1'
          · rw [← s11.out]; exact ((b11.set_other _ m3').set 0 _).set_other _ m2'
          · exact ((HB.out.setCell (by show w.heap.size ≤ p10; omega) _).setCell (by show w.heap.size ≤ p11; omega) _).setCell (by show w.heap.size ≤ p9; omega) _
        · replace hneg : 0 ≤ d0 := by omega
          go_wp2_with (go_at_call 16; refine (size_calls _ _ (by omega) (by omega)).mono ?_; rintro e w' ⟨rfl, rfl⟩)
          have o2 := o2.out
          have o4 := o4.out
          refine ⟨⟨0 + 1, by omega, rfl, ?_, ?_, ?_, q1.out _ _ _ _ _ _ b3 (by omega) (by omega), q1.out _ _ _ _ _ _ b4 (by omega) (by omega), q1.out _ _ _ _ _ _ b8 (by omega) (by omega), ?_, ?_, ?_, ?_, by simpa using hsz⟩, by simp [intOf]⟩
          · intro _; first | exact ⟨x1, x2⟩ | exact a0.out (by omega)
          · intro _; first | omega | exact ⟨x1, x2⟩ | exact a1.out (by omega)
          · intro _; first | omega | exact ⟨x1, x2⟩ | exact a2.out (by omega)
          · rw [← sp.out hneg]; exact (b9.set_other _ m1).set_other _ m2
          · rw [← s10.out]; exact (b10.set 0 _).set_other _ m3
          · rw [← s11.out]; exact (b11.set_other _ m3').set 0 _
          · exact (HB.out.setCell (by show w.heap.size ≤ p10; omega) _).setCell (by show w.heap.size ≤ p11; omega) _
      · have hax' : d0 < -1000 ∨ 1000 < d0 := by unfold ax at hax; omega
        clear hax a0 a1 a2
        have hE : wayE x y z d0 d1 d2 n = 2 := by unfold wayE; rw [hm, if_pos rfl, if_pos (by omega)]
        have hP : wayP x y z d0 d1 d2 n = [] := by unfold wayP; rw [hE]; rfl
        replace hE := Lib.hid hE
        replace hP := Lib.hid hP
        rcases hax' with hax' | hax'
        all_goals
          go_wp2_with fail
          try rw [Exit.noGoto_ret]
          go_ret2
          exact ⟨.slice none 0 0, by rw [hE.out]; rfl, by rw [hP.out]; exact World.ownsRow_nil _ _ _ _, HB.out⟩
    · by_cases hax : ax d1
      · obtain ⟨x1, x2⟩ := hax
        have f1 := b9.cell 1 rfl
        have f2 := b10.cell 1 rfl
        have f3 := b11.cell 1 rfl
        have g1 := b9.frozen 1
        have g2 := b10.frozen 1
        have g3 := b11.frozen 1
        simp only [Nat.lt_irrefl, false_and, if_false] at f1 f2 f3
        have o2 := ord2.out
        have m1 : ¬ p9 = p10 := by omega
        have m2 : ¬ p9 = p11 := by omega
        have m3 : ¬ p10 = p11 := by omega
        have m1' : ¬ p10 = p9 := by omega
        have m2' : ¬ p11 = p9 := by omega
        have m3' : ¬ p11 = p10 := by omega
        have o2 := ord2.out
        have o4 := hp4.out
        have q1 : ∀ (c : World) (b : Nat) (cs : List Value) (T : TypeId) (v1 v2 : Value), Blk c b cs T → b ≠ p10 → b ≠ p11 → Blk ((c.setCell ⟨p10, 1, none⟩ v1).setCell ⟨p11, 1, none⟩ v2) b cs T := fun c b cs T v1 v2 h h1 h2 => (h.set_other _ h1).set_other _ h2
        have q2 : ∀ (c : World) (b : Nat) (cs : List Value) (T : TypeId) (v1 v2 v3 : Value), Blk c b cs T → b ≠ p10 → b ≠ p11 → b ≠ p9 → Blk (((c.setCell ⟨p10, 1, none⟩ v1).setCell ⟨p11, 1, none⟩ v2).setCell ⟨p9, 1, none⟩ v3) b cs T := fun c b cs T v1 v2 v3 h h1 h2 h3 => ((h.set_other _ h1).set_other _ h2).set_other _ h3
        replace q1 := Lib.hid q1
        replace q2 := Lib.hid q2
        replace o2 := Lib.hid o2
        replace o4 := Lib.hid o4
        have s10 : (szL d0 d1 d2 1).set 1 (.int .i64 (sizeI d1)) = szL d0 d1 d2 (1 + 1) := rfl
        have s11 : (nxL 1).set 1 (.int .i64 1) = nxL (1 + 1) := rfl
        have sn : d1 < 0 → (drL d0 d1 d2 1).set 1 (.int .i64 5) = drL d0 d1 d2 (1 + 1) := fun h => by simp [drL, V3, h]
        have sp : 0 ≤ d1 → drL d0 d1 d2 1 = drL d0 d1 d2 (1 + 1) := fun h => by simp [drL, V3, show ¬ d1 < 0 by omega]
        replace s10 := Lib.hid s10
        replace s11 := Lib.hid s11
        replace sn := Lib.hid sn
        replace sp := Lib.hid sp
        replace a0 := Lib.hid a0
        replace a1 := Lib.hid a1
        replace a2 := Lib.hid a2
        by_cases hneg : d1 < 0
        · go_wp2_with (go_at_call 16; refine (size_calls _ _ (by omega) (by omega)).mono ?_; rintro e w' ⟨rfl, rfl⟩)
          have o2 := o2.out
          have o4 := o4.out
          refine ⟨⟨1 + 1, by omega, rfl, ?_, ?_, ?_, q2.out _ _ _ _ _ _ _ b3 (by omega) (by omega) (by omega), q2.out _ _ _ _ _ _ _ b4 (by omega) (by omega) (by omega), q2.out _ _ _ _ _ _ _ b8 (by omega) (by omega) (by omega), ?_, ?_, ?_, ?_, by simpa using hsz⟩, by simp [intOf]⟩
          · intro _; first | exact ⟨x1, x2⟩ | exact a0.out (by omega)
          · intro _; first | omega | exact ⟨x1, x2⟩ | exact a1.out (by omega)
          · intro _; first | omega | exact ⟨x1, x2⟩ | exact a2.out (by omega)
          · rw [← sn.out hneg]; exact ((b9.set_other _ m1).set_other _ m2).set 1 _
          · rw [← s10.out]; exact ((b10.set 1 _).set_other _ m3).set_other _ m1'
          · rw [← s11.out]; exact ((b11.set_other _ m3').set 1 _).set_other _ m2'
          · exact ((HB.out.setCell (by show w.heap.size ≤ p10; omega) _).setCell (by show w.heap.size ≤ p11; omega) _).setCell (by show w.heap.size ≤ p9; omega) _
        · replace hneg : 0 ≤ d1 := by omega
          go_wp2_with (go_at_call 16; refine (size_calls _ _ (by omega) (by omega)).mono ?_; rintro e w' ⟨rfl, rfl⟩)
          have o2 := o2.out
          have o4 := o4.out
          refine ⟨⟨1 + 1, by omega, rfl, ?_, ?_, ?_, q1.out _ _ _ _ _ _ b3 (by omega) (by omega), q1.out _ _ _ _ _ _ b4 (by omega) (by omega), q1.out _ _ _ _ _ _ b8 (by omega) (by omega), ?_, ?_, ?_, ?_, by simpa using hsz⟩, by simp [intOf]⟩
          · intro _; first | exact ⟨x1, x2⟩ | exact a0.out (by omega)
          · intro _; first | omega | exact ⟨x1, x2⟩ | exact a1.out (by omega)
          · intro _; first | omega | exact ⟨x1, x2⟩ | exact a2.out (by omega)
          · rw [← sp.out hneg]; exact (b9.set_other _ m1).set_other _ m2
          · rw [← s10.out]; exact (b10.set 1 _).set_other _ m3
          · rw [← s11.out]; exact (b11.set_other _ m3').set 1 _
          · exact (HB.out.setCell (by show w.heap.size ≤ p10; omega) _).setCell (by show w.heap.size ≤ p11; omega) _
      · have hax' : d1 < -1000 ∨ 1000 < d1 := by unfold ax at hax; omega
        clear hax a0 a1 a2
        have hE : wayE x y z d0 d1 d2 n = 2 := by unfold wayE; rw [hm, if_pos rfl, if_pos (by omega)]
        have hP : wayP x y z d0 d1 d2 n = [] := by unfold wayP; rw [hE]; rfl
        replace hE := Lib.hid hE
        replace hP := Lib.hid hP
        rcases hax' with hax' | hax'
        all_goals
          go_wp2_with fail
          try rw [Exit.noGoto_ret]
          go_ret2
          exact ⟨.slice none 0 0, by rw [hE.out]; rfl, by rw [hP.out]; exact World.ownsRow_nil _ _ _ _, HB.out⟩
    · by_cases hax : ax d2
      · obtain ⟨x1, x2⟩ := hax
        have f1 := b9.cell 2 rfl
        have f2 := b10.cell 2 rfl
        have f3 := b11.cell 2 rfl
        have g1 := b9.frozen 2
        have g2 := b10.frozen 2
        have g3 := b11.frozen 2
        simp only [Nat.lt_irrefl, false_and, if_false] at f1 f2 f3
        have o2 := ord2.out
        have m1 : ¬ p9 = p10 := by omega
        have m2 : ¬ p9 = p11 := by omega
        have m3 : ¬ p10 = p11 := by omega
        have m1' : ¬ p10 = p9 := by omega
        have m2' : ¬ p11 = p9 := by omega
        have m3' : ¬ p11 = p10 := by omega
        have o2 := ord2.out
        have o4 := hp4.out
        have q1 : ∀ (c : World) (b : Nat) (cs : List Value) (T : TypeId) (v1 v2 : Value), Blk c b cs T → b ≠ p10 → b ≠ p11 → Blk ((c.setCell ⟨p10, 2, none⟩ v1).setCell ⟨p11, 2, none⟩ v2) b cs T := fun c b cs T v1 v2 h h1 h2 => (h.set_other _ h1).set_other _ h2
        have q2 : ∀ (c : World) (b : Nat) (cs : List Value) (T : TypeId) (v1 v2 v3 : Value), Blk c b cs T → b ≠ p10 → b ≠ p11 → b ≠ p9 → Blk (((c.setCell ⟨p10, 2, none⟩ v1).setCell ⟨p11, 2, none⟩ v2).setCell ⟨p9, 2, none⟩ v3) b cs T := fun c b cs T v1 v2 v3 h h1 h2 h3 => ((h.set_other _ h1).set_other _ h2).set_other _ h3
        replace q1 := Lib.hid q1
        replace q2 := Lib.hid q2
        replace o2 := Lib.hid o2
        replace o4 := Lib.hid o4
        have s10 : (szL d0 d1 d2 2).set 2 (.int .i64 (sizeI d2)) = szL d0 d1 d2 (2 + 1) := rfl
        have s11 : (nxL 2).set 2 (.int .i64 1) = nxL (2 + 1) := rfl
        have sn : d2 < 0 → (drL d0 d1 d2 2).set 2 (.int .i64 3) = drL d0 d1 d2 (2 + 1) := fun h => by simp [drL, V3, h]
        have sp : 0 ≤ d2 → drL d0 d1 d2 2 = drL d0 d1 d2 (2 + 1) := fun h => by simp [drL, V3, show ¬ d2 < 0 by omega]
        replace s10 := Lib.hid s10
        replace s11 := Lib.hid s11
        replace sn := Lib.hid sn
        replace sp := Lib.hid sp
        replace a0 := Lib.hid a0
        replace a1 := Lib.hid a1
        replace a2 := Lib.hid a2
        by_cases hneg : d2 < 0
        · go_wp2_with (go_at_call 16; refine (size_calls _ _ (by omega) (by omega)).mono ?_; rintro e w' ⟨rfl, rfl⟩)
          have o2 := o2.out
          have o4 := o4.out
          refine ⟨⟨2 + 1, by omega, rfl, ?_, ?_, ?_, q2.out _ _ _ _ _ _ _ b3 (by omega) (by omega) (by omega), q2.out _ _ _ _ _ _ _ b4 (by omega) (by omega) (by omega), q2.out _ _ _ _ _ _ _ b8 (by omega) (by omega) (by omega), ?_, ?_, ?_, ?_, by simpa using hsz⟩, by simp [intOf]⟩
          · intro _; first | exact ⟨x1, x2⟩ | exact a0.out (by omega)
          · intro _; first | omega | exact ⟨x1, x2⟩ | exact a1.out (by omega)
          · intro _; first | omega | exact ⟨x1, x2⟩ | exact a2.out (by omega)
          · rw [← sn.out hneg]; exact ((b9.set_other _ m1).set_other _ m2).set 2 _
          · rw [← s10.out]; exact ((b10.set 2 _).set_other _ m3).set_other _ m1'
          · rw [← s11.out]; exact ((b11.set_other _ m3').set 2 _).set_other _ m2'
          · exact ((HB.out.setCell (by show w.heap.size ≤ p10; omega) _).setCell (by show w.heap.size ≤ p11; omega) _).setCell (by show w.heap.size ≤ p9; omega) _
        · replace hneg : 0 ≤ d2 := by omega
          go_wp2_with (go_at_call 16; refine (size_calls _ _ (by omega) (by omega)).mono ?_; rintro e w' ⟨rfl, rfl⟩)
          have o2 := o2.out
          have o4 := o4.out
          refine ⟨⟨2 + 1, by omega, rfl, ?_, ?_, ?_, q1.out _ _ _ _ _ _ b3 (by omega) (by omega), q1.out _ _ _ _ _ _ b4 (by omega) (by omega), q1.out _ _ _ _ _ _ b8 (by omega) (by omega), ?_, ?_, ?_, ?_, by simpa using hsz⟩, by simp [intOf]⟩
          · intro _; first | exact ⟨x1, x2⟩ | exact a0.out (by omega)
          · intro _; first | omega | exact ⟨x1, x2⟩ | exact a1.out (by omega)
          · intro _; first | omega | exact ⟨x1, x2⟩ | exact a2.out (by omega)
          · rw [← sp.out hneg]; exact (b9.set_other _ m1).set_other _ m2
          · rw [← s10.out]; exact (b10.set 2 _).set_other _ m3
          · rw [← s11.out]; exact (b11.set_other _ m3').set 2 _
          · exact (HB.out.setCell (by show w.heap.size ≤ p10; omega) _).setCell (by show w.heap.size ≤ p11; omega) _
      · have hax' : d2 < -1000 ∨ 1000 < d2 := by unfold ax at hax; omega
        clear hax a0 a1 a2
        have hE : wayE x y z d0 d1 d2 n = 2 := by unfold wayE; rw [hm, if_pos rfl, if_pos (by omega)]
        have hP : wayP x y z d0 d1 d2 n = [] := by unfold wayP; rw [hE]; rfl
        replace hE := Lib.hid hE
        replace hP := Lib.hid hP
        rcases hax' with hax' | hax'
        all_goals
          go_wp2_with fail
          try rw [Exit.noGoto_ret]
          go_ret2
          exact ⟨.slice none 0 0, by rw [hE.out]; rfl, by rw [hP.out]; exact World.ownsRow_nil _ _ _ _, HB.out⟩
    · rw [show ((3 : Nat) : Int) = 3 from rfl]
      obtain ⟨x1, x2⟩ := a0 (by omega)
      obtain ⟨x3, x4⟩ := a1 (by omega)
      obtain ⟨x5, x6⟩ := a2 (by omega)
      clear i0 i1 i2 e3 a0 a1 a2 hk
      have hE : wayE x y z d0 d1 d2 n = 0 := by unfold wayE; rw [hm, if_pos rfl, if_neg (by omega)]
      have hP : wayP x y z d0 d1 d2 n = wayL d0 d1 d2 n.toNat (start x y z) := by unfold wayP; rw [hE]; rfl
      replace hE := Lib.hid hE
      replace hP := Lib.hid hP
      have t0a : 0 ≤ sizeI d0 ∧ sizeI d0 ≤ 1000 := by unfold sizeI; split <;> omega
      have t1a : 0 ≤ sizeI d1 ∧ sizeI d1 ≤ 1000 := by unfold sizeI; split <;> omega
      have t2a : 0 ≤ sizeI d2 ∧ sizeI d2 ≤ 1000 := by unfold sizeI; split <;> omega
      have tpos : 0 < sizeI d0 ∨ 0 < sizeI d1 ∨ 0 < sizeI d2 := by unfold sizeI; split <;> split <;> split <;> omega
      have b3_0 : wr.cell? ⟨w.heap.size, 0, none⟩ = some (.int .i64 x) := b3.cell 0 rfl
      have b3_1 : wr.cell? ⟨w.heap.size, 1, none⟩ = some (.int .i64 y) := b3.cell 1 rfl
      have b3_2 : wr.cell? ⟨w.heap.size, 2, none⟩ = some (.int .i64 z) := b3.cell 2 rfl
      have tpos' := Lib.hid tpos
      clear tpos
      go_wp2_with fail
      go_step3
      go_wp2_with fail
      obtain ⟨N, hN⟩ : ∃ N : Nat, n = N := ⟨n.toNat, by omega⟩
      have hNn : n.toNat = N := by omega
      rw [hNn] at hP
      have N256 : N ≤ 256 := by omega
      subst hN
      refine wp_world (fun W => Blk W p8 (V3 0 2 1) 24 ∧ Blk W p9 (drL d0 d1 d2 3) 24 ∧ Blk W p10 (szL d0 d1 d2 3) 24 ∧ Blk W p11 (V3 1 1 1) 24 ∧ Blk W wr.heap.size (V3 x y z) 23 ∧ Below w.heap.size w W ∧ wr.heap.size < W.heap.size) ⟨b8.alloc _, b9.alloc _, b10.alloc _, b11.alloc _, Blk.new wr _ _, HB.out.alloc HB.out.size _, by simp⟩ ?_
      have hlt : w.heap.size ≤ wr.heap.size := HB.out.size
      clear b3_0 b3_1 b3_2 b3 b4 b8 b9 b10 b11 HB hNn
      generalize wr.heap.size = p15 at *
      rintro W0 ⟨b8, b9, b10, b11, b15, HB, hz0⟩
      go_loopw [14] (fun v W => ∃ (pre : List (Int × Int × Int)) (m : Nat) (s : RS), wayL d0 d1 d2 N (start x y z) = pre ++ wayL d0 d1 d2 m s ∧ pre.length + m = N ∧ W.ownsRow (p15 + 1) 23 3 v pre.length (cellsP pre) ∧ Blk W p8 (V3 0 2 1) 24 ∧ Blk W p9 (drL d0 d1 d2 3) 24 ∧ Blk W p10 (szL d0 d1 d2 3) 24 ∧ Blk W p11 (V3 s.a s.b s.c) 24 ∧ Blk W p15 (V3 s.x s.y s.z) 23 ∧
          (1 ≤ s.a ∧ s.a ≤ 2 * pre.length + 1 ∧ 1 ≤ s.b ∧ s.b ≤ 2 * pre.length + 1 ∧ 1 ≤ s.c ∧ s.c ≤ 2 * pre.length + 1) ∧ Below w.heap.size w W ∧ p15 < W.heap.size)
        (fun v _ => N - lenS v)
      case atStart => exact ⟨[], N, start x y z, rfl, by simp, World.ownsRow_nil _ _ _ _, b8, b9, b10, b11, b15, by simp [start], HB, hz0⟩
      case round =>
        clear b8 b9 b10 b11 b15 HB hz0
        obtain ⟨pre, m, s, hw, hl, hown, b8, b9, b10, b11, b15, hbd, HB, hz⟩ := hrel
        obtain ⟨va, vc, rfl⟩ := owns_form hown
        replace HB := Lib.hid HB
        replace hw := Lib.hid hw
        replace hown := Lib.hid hown
        cases m with
        | zero =>
          have hl' : N ≤ pre.length := by omega
          clear hl
          go_wp2_with fail
          rw [Exit.noGoto_ret]
          go_ret2
          have hw' := hw.out
          simp only [wayL, List.append_nil] at hw'
          refine ⟨_, by rw [hE.out]; rfl, ?_, HB.out⟩
          rw [hP.out, hw']
          exact owns_mono hown.out (by omega)
        | succ m =>
          have hl' : pre.length < N := by omega
          have hl2 := Lib.hid hl
          clear hl
          obtain ⟨Wo, rfl⟩ : ∃ Wo : World, Wo = wr := ⟨_, rfl⟩
          have c8_0 : Wo.cell? ⟨p8, 0, none⟩ = some (.int .i64 0) := b8.cell 0 rfl
          have c8_1 : Wo.cell? ⟨p8, 1, none⟩ = some (.int .i64 2) := b8.cell 1 rfl
          have c8_2 : Wo.cell? ⟨p8, 2, none⟩ = some (.int .i64 1) := b8.cell 2 rfl
          have ht0 : ∃ t0, sizeI d0 = t0 := ⟨_, rfl⟩
          have ht1 : ∃ t1, sizeI d1 = t1 := ⟨_, rfl⟩
          have ht2 : ∃ t2, sizeI d2 = t2 := ⟨_, rfl⟩
          obtain ⟨t0, ht0⟩ := ht0
          obtain ⟨t1, ht1⟩ := ht1
          obtain ⟨t2, ht2⟩ := ht2
          rw [ht0] at t0a tpos'
          rw [ht1] at t1a tpos'
          rw [ht2] at t2a tpos'
          have b10' : Blk Wo p10 (V3 t0 t1 t2) 24 := by have h := b10; simp only [szL] at h; rw [ht0, ht1, ht2] at h; exact h
          have c10_0 : Wo.cell? ⟨p10, 0, none⟩ = some (.int .i64 t0) := b10'.cell 0 rfl
          have c10_1 : Wo.cell? ⟨p10, 1, none⟩ = some (.int .i64 t1) := b10'.cell 1 rfl
          have c10_2 : Wo.cell? ⟨p10, 2, none⟩ = some (.int .i64 t2) := b10'.cell 2 rfl
          have c11_0 : Wo.cell? ⟨p11, 0, none⟩ = some (.int .i64 s.a) := b11.cell 0 rfl
          have c11_1 : Wo.cell? ⟨p11, 1, none⟩ = some (.int .i64 s.b) := b11.cell 1 rfl
          have c11_2 : Wo.cell? ⟨p11, 2, none⟩ = some (.int .i64 s.c) := b11.cell 2 rfl
          have i0 : ∀ w, (Instr.index 24 (.agg #[.int .i64 0, .int .i64 2, .int .i64 1]) (.int .i64 0)).run Try.prog w = .ok (.int .i64 0) w := fun _ => by kernel_rfl
          have i1 : ∀ w, (Instr.index 24 (.agg #[.int .i64 0, .int .i64 2, .int .i64 1]) (.int .i64 1)).run Try.prog w = .ok (.int .i64 2) w := fun _ => by kernel_rfl
          have i2 : ∀ w, (Instr.index 24 (.agg #[.int .i64 0, .int .i64 2, .int .i64 1]) (.int .i64 2)).run Try.prog w = .ok (.int .i64 1) w := fun _ => by kernel_rfl
          go_wp2_with fail
          clear c8_0 c8_1 c8_2
          replace ht0 := Lib.hid ht0
          replace ht1 := Lib.hid ht1
          replace ht2 := Lib.hid ht2
          replace b8 := Lib.hid b8
          replace b9 := Lib.hid b9
          replace b10 := Lib.hid b10
          replace b11 := Lib.hid b11
          replace b15 := Lib.hid b15
          replace hbd := Lib.hid hbd
          go_loopw [16, 68] (fun u i W => ∃ k : Nat, k ≤ 3 ∧ i = .int .i64 k ∧ u = .int .i64 (bst t0 t1 t2 s.a s.b s.c k) ∧ ∃ q, W = Wo.drewN q) (fun _ i _ => 3 - (intOf i).toNat)
          case atStart => exact ⟨0, by omega, rfl, rfl, 0, rfl⟩
          case round =>
            obtain ⟨k, hk, rfl, rfl, q, rfl⟩ := hrel
            have hbo := hbd.out
            have pw : ∀ u t : Int, 1 ≤ u → u ≤ 513 → 0 ≤ t → t ≤ 1000 → IntKind.i64.wrap (u * t) = u * t := fun u t h1 h2 h3 h4 => IntWalk.i64_in _ (by have := Int.mul_nonneg (show 0 ≤ u by omega) h3; have := Int.mul_le_mul h2 h4 h3 (by omega); omega)
            obtain rfl | rfl | rfl | rfl : k = 0 ∨ k = 1 ∨ k = 2 ∨ k = 3 := by omega
            · have hb : bst t0 t1 t2 s.a s.b s.c 0 = -1 := rfl
              rw [hb]
              clear pw hbo
              by_cases h0 : 0 < t0
              · have hb1 : bst t0 t1 t2 s.a s.b s.c 1 = 0 := by simp [bst, h0]
                replace hb1 := Lib.hid hb1
                go_wp2_with fail
                go_quiet (fail)
                go_wp2_with fail
                exact ⟨⟨1, by omega, rfl, by rw [hb1.out], q + nq, rfl⟩, by simp [intOf]⟩
              · have hb1 : bst t0 t1 t2 s.a s.b s.c 1 = -1 := by simp [bst, h0]
                replace hb1 := Lib.hid hb1
                have h0' : decide (0 < t0) = false := decide_eq_false h0
                go_wp2_with fail
                go_quiet (fail)
                go_wp2_with fail
                exact ⟨⟨1, by omega, rfl, by rw [hb1.out], q + nq, rfl⟩, by simp [intOf]⟩
            · by_cases h0 : 0 < t0
              · have hb : bst t0 t1 t2 s.a s.b s.c 1 = 0 := by simp [bst, h0]
                rw [hb]
                clear hb
                by_cases h2 : 0 < t2
                · skip
                  by_cases hc : s.c * t0 < s.a * t2
                  · have hb1 : bst t0 t1 t2 s.a s.b s.c 2 = 2 := by simp [bst, h0, h2, hc]
                    replace hb1 := Lib.hid hb1
                    have e1 := pw s.c t0 (by omega) (by omega) (by omega) (by omega)
                    have e2 := pw s.a t2 (by omega) (by omega) (by omega) (by omega)
                    clear pw hbo
                    go_wp2_with fail
                    go_quiet (fail)
                    go_wp2_with fail
                    exact ⟨⟨2, by omega, rfl, by rw [hb1.out], q + nq, rfl⟩, by simp [intOf]⟩
                  · have hb1 : bst t0 t1 t2 s.a s.b s.c 2 = 0 := by simp [bst, h0, h2, hc]
                    replace hb1 := Lib.hid hb1
                    have e1 := pw s.c t0 (by omega) (by omega) (by omega) (by omega)
                    have e2 := pw s.a t2 (by omega) (by omega) (by omega) (by omega)
                    clear pw hbo
                    have hc' : decide (s.c * t0 < s.a * t2) = false := decide_eq_false hc
                    go_wp2_with fail
                    go_quiet (fail)
                    go_wp2_with fail
                    exact ⟨⟨2, by omega, rfl, by rw [hb1.out], q + nq, rfl⟩, by simp [intOf]⟩
                · have h2' : decide (0 < t2) = false := decide_eq_false h2
                  have hb1 : bst t0 t1 t2 s.a s.b s.c 2 = 0 := by simp [bst, h0, h2]
                  replace hb1 := Lib.hid hb1
                  clear pw hbo
                  go_wp2_with fail
                  go_quiet (fail)
                  go_wp2_with fail
                  exact ⟨⟨2, by omega, rfl, by rw [hb1.out], q + nq, rfl⟩, by simp [intOf]⟩
              · have hb : bst t0 t1 t2 s.a s.b s.c 1 = -1 := by simp [bst, h0]
                rw [hb]
                clear hb
                by_cases h2 : 0 < t2
                · skip
                  have hb1 : bst t0 t1 t2 s.a s.b s.c 2 = 2 := by simp [bst, h0, h2]
                  replace hb1 := Lib.hid hb1
                  clear pw hbo
                  go_wp2_with fail
                  go_quiet (fail)
                  go_wp2_with fail
                  exact ⟨⟨2, by omega, rfl, by rw [hb1.out], q + nq, rfl⟩, by simp [intOf]⟩
                · have h2' : decide (0 < t2) = false := decide_eq_false h2
                  have hb1 : bst t0 t1 t2 s.a s.b s.c 2 = -1 := by simp [bst, h0, h2]
                  replace hb1 := Lib.hid hb1
                  clear pw hbo
                  go_wp2_with fail
                  go_quiet (fail)
                  go_wp2_with fail
                  exact ⟨⟨2, by omega, rfl, by rw [hb1.out], q + nq, rfl⟩, by simp [intOf]⟩
            · by_cases h2 : 0 < t2 ∧ (¬ 0 < t0 ∨ s.c * t0 < s.a * t2)
              · have hb : bst t0 t1 t2 s.a s.b s.c 2 = 2 := by simp only [bst]; rw [if_pos h2]
                rw [hb]
                clear hb
                have h2x := Lib.hid h2
                by_cases h1 : 0 < t1
                · by_cases hc : s.b * t2 < s.c * t1
                  · skip
                    have hb1 : bst t0 t1 t2 s.a s.b s.c 3 = 1 := by simp only [bst]; rw [if_pos (by rw [if_pos h2]; exact ⟨h1, hc⟩)]
                    replace hb1 := Lib.hid hb1
                    clear h2x
                    have e1 := pw s.b t2 (by omega) (by omega) (by omega) (by omega)
                    have e2 := pw s.c t1 (by omega) (by omega) (by omega) (by omega)
                    clear pw hbo h2
                    go_wp2_with fail
                    go_quiet (fail)
                    go_wp2_with fail
                    exact ⟨⟨3, by omega, rfl, by rw [hb1.out], q + nq, rfl⟩, by simp [intOf]⟩
                  · skip
                    have hb1 : bst t0 t1 t2 s.a s.b s.c 3 = 2 := by simp only [bst]; rw [if_neg (by rw [if_pos h2]; exact fun h => hc h.2), if_pos h2]
                    replace hb1 := Lib.hid hb1
                    clear h2x
                    have e1 := pw s.b t2 (by omega) (by omega) (by omega) (by omega)
                    have e2 := pw s.c t1 (by omega) (by omega) (by omega) (by omega)
                    clear pw hbo h2
                    have hc' : decide (s.b * t2 < s.c * t1) = false := decide_eq_false hc
                    go_wp2_with fail
                    go_quiet (fail)
                    go_wp2_with fail
                    exact ⟨⟨3, by omega, rfl, by rw [hb1.out], q + nq, rfl⟩, by simp [intOf]⟩
                · have h1' : decide (0 < t1) = false := decide_eq_false h1
                  have hb1 : bst t0 t1 t2 s.a s.b s.c 3 = 2 := by simp only [bst]; rw [if_neg (fun h => h1 h.1), if_pos h2]
                  replace hb1 := Lib.hid hb1
                  clear h2x
                  clear pw hbo h2
                  go_wp2_with fail
                  go_quiet (fail)
                  go_wp2_with fail
                  exact ⟨⟨3, by omega, rfl, by rw [hb1.out], q + nq, rfl⟩, by simp [intOf]⟩
              · have h2x := Lib.hid h2
                by_cases h0 : 0 < t0
                · have hb : bst t0 t1 t2 s.a s.b s.c 2 = 0 := by simp only [bst]; rw [if_neg h2, if_pos h0]
                  rw [hb]
                  clear hb
                  by_cases h1 : 0 < t1
                  · by_cases hc : s.b * t0 < s.a * t1
                    · skip
                      have hb1 : bst t0 t1 t2 s.a s.b s.c 3 = 1 := by simp only [bst]; rw [if_pos (by rw [if_neg h2]; exact ⟨h1, fun _ => hc⟩)]
                      replace hb1 := Lib.hid hb1
                      clear h2x
                      have e1 := pw s.b t0 (by omega) (by omega) (by omega) (by omega)
                      have e2 := pw s.a t1 (by omega) (by omega) (by omega) (by omega)
                      clear pw hbo h2
                      go_wp2_with fail
                      go_quiet (fail)
                      go_wp2_with fail
                      exact ⟨⟨3, by omega, rfl, by rw [hb1.out], q + nq, rfl⟩, by simp [intOf]⟩
                    · skip
                      have hb1 : bst t0 t1 t2 s.a s.b s.c 3 = 0 := by simp only [bst]; rw [if_neg (by rw [if_neg h2]; exact fun h => hc (h.2 h0)), if_neg h2, if_pos h0]
                      replace hb1 := Lib.hid hb1
                      clear h2x
                      have e1 := pw s.b t0 (by omega) (by omega) (by omega) (by omega)
                      have e2 := pw s.a t1 (by omega) (by omega) (by omega) (by omega)
                      clear pw hbo h2
                      have hc' : decide (s.b * t0 < s.a * t1) = false := decide_eq_false hc
                      go_wp2_with fail
                      go_quiet (fail)
                      go_wp2_with fail
                      exact ⟨⟨3, by omega, rfl, by rw [hb1.out], q + nq, rfl⟩, by simp [intOf]⟩
                  · have h1' : decide (0 < t1) = false := decide_eq_false h1
                    have hb1 : bst t0 t1 t2 s.a s.b s.c 3 = 0 := by simp only [bst]; rw [if_neg (fun h => h1 h.1), if_neg h2, if_pos h0]
                    replace hb1 := Lib.hid hb1
                    clear h2x
                    clear pw hbo h2
                    go_wp2_with fail
                    go_quiet (fail)
                    go_wp2_with fail
                    exact ⟨⟨3, by omega, rfl, by rw [hb1.out], q + nq, rfl⟩, by simp [intOf]⟩
                · have hb : bst t0 t1 t2 s.a s.b s.c 2 = -1 := by simp only [bst]; rw [if_neg h2, if_neg h0]
                  rw [hb]
                  clear hb
                  by_cases h1 : 0 < t1
                  · skip
                    have hb1 : bst t0 t1 t2 s.a s.b s.c 3 = 1 := by simp only [bst]; rw [if_pos (by rw [if_neg h2]; exact ⟨h1, fun h => absurd h h0⟩)]
                    replace hb1 := Lib.hid hb1
                    clear h2x
                    clear pw hbo h2
                    go_wp2_with fail
                    go_quiet (fail)
                    go_wp2_with fail
                    exact ⟨⟨3, by omega, rfl, by rw [hb1.out], q + nq, rfl⟩, by simp [intOf]⟩
                  · have h1' : decide (0 < t1) = false := decide_eq_false h1
                    have hb1 : bst t0 t1 t2 s.a s.b s.c 3 = -1 := by simp only [bst]; rw [if_neg (fun h => h1 h.1), if_neg h2, if_neg h0]
                    replace hb1 := Lib.hid hb1
                    clear h2x
                    clear pw hbo h2
                    go_wp2_with fail
                    go_quiet (fail)
                    go_wp2_with fail
                    exact ⟨⟨3, by omega, rfl, by rw [hb1.out], q + nq, rfl⟩, by simp [intOf]⟩
            · have hr := bst_range t0 t1 t2 s.a s.b s.c tpos'.out
              have hbest : s.best d0 d1 d2 = bst t0 t1 t2 s.a s.b s.c 3 := by unfold RS.best; rw [ht0.out, ht1.out, ht2.out]
              have hp9 : ∃ v0 v1 v2 : Int, drL d0 d1 d2 3 = V3 v0 v1 v2 ∧ dirI d0 d1 d2 0 = v0 ∧ dirI d0 d1 d2 1 = v1 ∧ dirI d0 d1 d2 2 = v2 := ⟨_, _, _, rfl, by simp [dirI], by simp [dirI], by simp [dirI]⟩
              obtain ⟨v0, v1, v2, hv9, hv0, hv1, hv2⟩ := hp9
              have B8 := b8.out.drewN q
              have B9 := b9.out.drewN q
              have B10 := b10.out.drewN q
              have B11 := b11.out.drewN q
              have B15 := b15.out.drewN q
              have HO := owns_drewN hown.out q
              have HB2 := below_drewN HB.out q
              have HZ : p15 < (Wo.drewN q).heap.size := hz
              have HBD := hbd.out
              clear c10_0 c10_1 c10_2 c11_0 c11_1 c11_2 i0 i1 i2 hk b10' b8 b9 b10 b11 b15 hbd hown HB pw hbo t0a t1a t2a
              rw [hv9] at B9
              generalize Wo.drewN q = W1 at *
              clear hz
              generalize bst t0 t1 t2 s.a s.b s.c 3 = bb at *
              replace HO := Lib.hid HO
              replace HB2 := Lib.hid HB2
              replace ht0 := True.intro
              clear ht0 ht1 ht2 tpos'
              rcases hr with ⟨rfl, _⟩ | ⟨rfl, _⟩ | ⟨rfl, _⟩
              · have hdir : s.dir d0 d1 d2 = v0 := by unfold RS.dir; rw [hbest]; assumption
                have f9 := B9.cell 0 rfl
                have f11 := B11.cell 0 rfl
                have g11 := B11.frozen 0
                have hbd1 : s.a ≤ 2 * pre.length + 1 := by omega
                have hbd2 : 1 ≤ s.a := by omega
                replace hbest := Lib.hid hbest
                replace hdir := Lib.hid hdir
                replace HBD := Lib.hid HBD
                clear hv0 hv1 hv2
                have o2 := ord2.out
                have o4 := hp4.out
                obtain ⟨u0, u1, u2, hu, huok⟩ := stepV_form s.x s.y s.z v0
                obtain ⟨ok, hok⟩ : ∃ ok, stepOk s.x s.y s.z v0 = ok := ⟨_, rfl⟩
                rw [hok] at huok
                replace hu := Lib.hid hu
                replace hok := Lib.hid hok
                replace huok := Lib.hid huok
                go_wp2_with fail
                refine wp_world (fun W => WB w W p8 p9 p10 p11 p15 (V3 0 2 1) (V3 v0 v1 v2) (szL d0 d1 d2 3) (V3 (s.a + 2) s.b s.c) (V3 s.x s.y s.z) (.slice va pre.length vc) pre.length (cellsP pre)) ⟨B8.set_other _ (show p8 ≠ p11 by omega), B9.set_other _ (show p9 ≠ p11 by omega), B10.set_other _ (show p10 ≠ p11 by omega), B11.set 0 _, B15.set_other _ (show p15 ≠ p11 by omega), owns_setCell HO.out _ (fun k hk => by have := (HO.out.lt k hk).1; show k ≠ p11; omega), HB2.out.setCell (by show w.heap.size ≤ p11; omega) _, by show p15 < (W1.heap.modify _ _).size; rw [Array.size_modify]; exact HZ⟩ ?_
                clear f9 f11 g11 B8 B9 B10 B11 B15 HO HB2 HZ
                intro W2 hWB
                refine wp_region_frame (by kernel_rfl) (by kernel_rfl) (by kernel_rfl) [104, 105, 106, 107, 108, 103, 109, 110, 19, 20] (by kernel_rfl)
                  (fun L f W => WB w W p8 p9 p10 p11 p15 (V3 0 2 1) (V3 v0 v1 v2) (szL d0 d1 d2 3) (V3 (s.a + 2) s.b s.c) (V3 s.x s.y s.z) (.slice va pre.length vc) pre.length (cellsP pre) ∧
                    f 15 = .pointer (some ⟨p15, 0, none⟩) ∧ f 16 = .int .i64 0 ∧ f 9 = .pointer (some ⟨p9, 0, none⟩) ∧
                    (L 0 = true → f 104 = .agg #[.int .i64 s.x, .int .i64 s.y, .int .i64 s.z]) ∧ (L 1 = true → f 105 = .int .i64 0) ∧ (L 2 = true → f 106 = .pointer (some ⟨p9, 0, none⟩)) ∧ (L 3 = true → f 107 = .int .i64 v0) ∧
                    (L 4 = true → f 108 = .tuple #[.agg #[.int .i64 u0, .int .i64 u1, .int .i64 u2], .bool ok]) ∧ (L 5 = true → f 103 = .tuple #[.agg #[.int .i64 u0, .int .i64 u1, .int .i64 u2], .bool ok]) ∧ (L 6 = true → f 109 = .agg #[.int .i64 u0, .int .i64 u1, .int .i64 u2]) ∧ (L 7 = true → f 110 = .bool ok) ∧
                    (L 8 = true → ∃ g, f 19 = .pointer (some ⟨g, 0, none⟩) ∧ p15 < g ∧ (∀ k, (Value.slice va pre.length vc).ownBlock = some k → k ≠ g) ∧ Blk W g (if L 9 = true then V3 u0 u1 u2 else V3 0 0 0) 23) ∧ (L 9 = true → L 8 = true) ∧ (L 10 = true → f 20 = .bool ok)) ?_ ?_ ?_
                · exact ⟨hWB.drew, rfl, rfl, rfl, by simp, by simp, by simp, by simp, by simp, by simp, by simp, by simp, by simp, by simp, by simp⟩
                · rintro L f W ⟨hWB, e15, e16, e9, l0, l1, l2, l3, l4, l5, l6, l7, l8, l98, l10⟩ i o ho hL hdep
                  have hi : i < 11 := by
                    have := (List.getElem?_eq_some_iff.1 ho).1
                    simpa using this
                  have q15 : ev f (.tmp 15) = .pointer (some ⟨p15, 0, none⟩) := e15
                  have q16 : ev f (.tmp 16) = .int .i64 0 := e16
                  have q9 : ev f (.tmp 9) = .pointer (some ⟨p9, 0, none⟩) := e9
                  obtain rfl | rfl | rfl | rfl | rfl | rfl | rfl | rfl | rfl | rfl | rfl : i = 0 ∨ i = 1 ∨ i = 2 ∨ i = 3 ∨ i = 4 ∨ i = 5 ∨ i = 6 ∨ i = 7 ∨ i = 8 ∨ i = 9 ∨ i = 10 := by omega
                  all_goals obtain rfl := Option.some.inj ho
                  all_goals
                    clear ho hi
                    simp [Region.binds] at hdep
                  · have c0 := hWB.b15.cell 0 rfl
                    have c1 := hWB.b15.cell 1 rfl
                    have c2 := hWB.b15.cell 2 rfl
                    refine fwp_value (v := .agg #[.int .i64 s.x, .int .i64 s.y, .int .i64 s.z]) (w' := W) ?_ ?_
                    · simp only [execOp, q15]
                      go_simp
                    · simp only [updF, upd, Nat.reduceEqDiff, if_true, if_false, true_implies, reduceIte]
                      repeat' first | assumption | exact trivial | exact rfl | exact fun _ => rfl | exact fun _ => by assumption | apply And.intro
                  · refine fwp_value (v := .int .i64 0) (w' := W) ?_ ?_
                    · simp only [execOp, q16]
                      go_simp
                    · simp only [updF, upd, Nat.reduceEqDiff, if_true, if_false, true_implies, reduceIte]
                      repeat' first | assumption | exact trivial | exact rfl | exact fun _ => rfl | exact fun _ => by assumption | apply And.intro
                  · have q105 : ev f (.tmp 105) = .int .i64 0 := l1 (by simp only [hdep])
                    refine fwp_value (v := .pointer (some ⟨p9, 0, none⟩)) (w' := W) ?_ ?_
                    · simp only [execOp, q9, q105]
                      go_simp
                    · simp only [updF, upd, Nat.reduceEqDiff, if_true, if_false, true_implies, reduceIte]
                      repeat' first | assumption | exact trivial | exact rfl | exact fun _ => rfl | exact fun _ => by assumption | apply And.intro
                  · have q106 : ev f (.tmp 106) = .pointer (some ⟨p9, 0, none⟩) := l2 (by simp only [hdep])
                    have c9 := hWB.b9.cell 0 rfl
                    refine fwp_value (v := .int .i64 v0) (w' := W) ?_ ?_
                    · simp only [execOp, q106]
                      go_simp
                    · simp only [updF, upd, Nat.reduceEqDiff, if_true, if_false, true_implies, reduceIte]
                      repeat' first | assumption | exact trivial | exact rfl | exact fun _ => rfl | exact fun _ => by assumption | apply And.intro
                  · have q104 : ev f (.tmp 104) = .agg #[.int .i64 s.x, .int .i64 s.y, .int .i64 s.z] := l0 (by simp only [hdep])
                    have q107 : ev f (.tmp 107) = .int .i64 v0 := l3 (by simp only [hdep])
                    refine fwp_call (g := 17) (args := #[.agg #[.int .i64 s.x, .int .i64 s.y, .int .i64 s.z], .int .i64 v0]) (w' := W) ?_ ?_
                    · simp only [execOp, q104, q107]
                      go_simp
                      simp only [ev_func]
                      go_simp
                    · refine (step_calls _ _ _ _ _).mono ?_
                      rintro e W' ⟨rfl, hb⟩
                      refine ⟨_, rfl, ?_⟩
                      rw [hu.out, hok.out]
                      replace hWB := hWB.down hb
                      have l8 : L 8 = true → ∃ g, f 19 = .pointer (some ⟨g, 0, none⟩) ∧ p15 < g ∧ (∀ k, (Value.slice va pre.length vc).ownBlock = some k → k ≠ g) ∧ Blk W' g (if L 9 = true then V3 u0 u1 u2 else V3 0 0 0) 23 := fun h => by
                        obtain ⟨g, g1, g2, g3, g4⟩ := l8 h
                        exact ⟨g, g1, g2, g3, g4.below hb g4.lt⟩
                      simp only [updF, upd, Nat.reduceEqDiff, if_true, if_false, true_implies, reduceIte]
                      repeat' first | assumption | exact trivial | exact rfl | exact fun _ => rfl | exact fun _ => by assumption | apply And.intro
                  · have q108 : ev f (.tmp 108) = .tuple #[.agg #[.int .i64 u0, .int .i64 u1, .int .i64 u2], .bool ok] := l4 (by simp only [hdep])
                    refine fwp_value (v := .tuple #[.agg #[.int .i64 u0, .int .i64 u1, .int .i64 u2], .bool ok]) (w' := W) ?_ ?_
                    · simp only [execOp, q108]
                      go_simp
                    · simp only [updF, upd, Nat.reduceEqDiff, if_true, if_false, true_implies, reduceIte]
                      repeat' first | assumption | exact trivial | exact rfl | exact fun _ => rfl | exact fun _ => by assumption | apply And.intro
                  · have q103 : ev f (.tmp 103) = .tuple #[.agg #[.int .i64 u0, .int .i64 u1, .int .i64 u2], .bool ok] := l5 (by simp only [hdep])
                    refine fwp_value (v := .agg #[.int .i64 u0, .int .i64 u1, .int .i64 u2]) (w' := W) ?_ ?_
                    · simp only [execOp, q103]
                      go_simp
                    · simp only [updF, upd, Nat.reduceEqDiff, if_true, if_false, true_implies, reduceIte]
                      repeat' first | assumption | exact trivial | exact rfl | exact fun _ => rfl | exact fun _ => by assumption | apply And.intro
                  · have q103 : ev f (.tmp 103) = .tuple #[.agg #[.int .i64 u0, .int .i64 u1, .int .i64 u2], .bool ok] := l5 (by simp only [hdep])
                    refine fwp_value (v := .bool ok) (w' := W) ?_ ?_
                    · simp only [execOp, q103]
                      go_simp
                    · simp only [updF, upd, Nat.reduceEqDiff, if_true, if_false, true_implies, reduceIte]
                      repeat' first | assumption | exact trivial | exact rfl | exact fun _ => rfl | exact fun _ => by assumption | apply And.intro
                  · have hL9 : L 9 = false := by cases h : L 9 with
                      | false => rfl
                      | true => rw [l98 h] at hL; cases hL
                    refine fwp_value (v := .pointer (some ⟨W.heap.size, 0, none⟩)) (w' := W.alloc (.cells #[.int .i64 0, .int .i64 0, .int .i64 0] 23)) ?_ ?_
                    · simp only [execOp]
                      go_simp
                    · have l8 : ∃ g, Value.pointer (some ⟨W.heap.size, 0, none⟩) = .pointer (some ⟨g, 0, none⟩) ∧ p15 < g ∧ (∀ k, (Value.slice va pre.length vc).ownBlock = some k → k ≠ g) ∧ Blk (W.alloc (.cells #[.int .i64 0, .int .i64 0, .int .i64 0] 23)) g (if L 9 = true then V3 u0 u1 u2 else V3 0 0 0) 23 := by
                        refine ⟨_, rfl, hWB.lt, fun k hk => by have := (hWB.own.lt k hk).2; omega, ?_⟩
                        rw [hL9]
                        exact Blk.new W _ _
                      replace hWB := hWB.new (.cells #[.int .i64 0, .int .i64 0, .int .i64 0] 23)
                      simp only [updF, upd, Nat.reduceEqDiff, if_true, if_false, true_implies, reduceIte]
                      repeat' first | assumption | exact trivial | exact rfl | exact fun _ => rfl | exact fun _ => by assumption | apply And.intro
                  · have q109 : ev f (.tmp 109) = .agg #[.int .i64 u0, .int .i64 u1, .int .i64 u2] := l6 (by simp only [hdep])
                    obtain ⟨g, g1, g2, g3, g4⟩ := l8 (by simp only [hdep])
                    have q19 : ev f (.tmp 19) = .pointer (some ⟨g, 0, none⟩) := g1
                    rw [hL] at g4
                    have y0 := g4.cell 0 rfl
                    have y1 := g4.cell 1 rfl
                    have y2 := g4.cell 2 rfl
                    have z0 := g4.frozen 0
                    have z1 := g4.frozen 1
                    have z2 := g4.frozen 2
                    refine fwp_skip (w' := ((W.setCell ⟨g, 0, none⟩ (.int .i64 u0)).setCell ⟨g, 1, none⟩ (.int .i64 u1)).setCell ⟨g, 2, none⟩ (.int .i64 u2)) ?_ ?_
                    · simp only [execOp, q19, q109]
                      go_simp
                    · have hst : ∀ (W : World) (j : Nat) (u : Value), WB w W p8 p9 p10 p11 p15 (V3 0 2 1) (V3 v0 v1 v2) (szL d0 d1 d2 3) (V3 (s.a + 2) s.b s.c) (V3 s.x s.y s.z) (.slice va pre.length vc) pre.length (cellsP pre) → WB w (W.setCell ⟨g, j, none⟩ u) p8 p9 p10 p11 p15 (V3 0 2 1) (V3 v0 v1 v2) (szL d0 d1 d2 3) (V3 (s.a + 2) s.b s.c) (V3 s.x s.y s.z) (.slice va pre.length vc) pre.length (cellsP pre) :=
                        fun W j u h => h.store u (by omega) (by omega) (by omega) (by omega) (by omega) (by omega) g3
                      replace hWB := hst _ 2 (.int .i64 u2) (hst _ 1 (.int .i64 u1) (hst _ 0 (.int .i64 u0) hWB))
                      have l8 : ∃ g', f 19 = .pointer (some ⟨g', 0, none⟩) ∧ p15 < g' ∧ (∀ k, (Value.slice va pre.length vc).ownBlock = some k → k ≠ g') ∧ Blk (((W.setCell ⟨g, 0, none⟩ (.int .i64 u0)).setCell ⟨g, 1, none⟩ (.int .i64 u1)).setCell ⟨g, 2, none⟩ (.int .i64 u2)) g' (V3 u0 u1 u2) 23 :=
                        ⟨g, g1, g2, g3, ((g4.set 0 (.int .i64 u0)).set 1 (.int .i64 u1)).set 2 (.int .i64 u2)⟩
                      have l9 : L 8 = true := by simp only [hdep]
                      clear hst
                      simp only [updF, upd, Nat.reduceEqDiff, if_true, if_false, true_implies, reduceIte]
                      repeat' first | assumption | exact trivial | exact rfl | exact fun _ => rfl | exact fun _ => by assumption | apply And.intro
                  · have q110 : ev f (.tmp 110) = .bool ok := l7 (by simp only [hdep])
                    refine fwp_value (v := .bool ok) (w' := W) ?_ ?_
                    · simp only [execOp, q110]
                      go_simp
                    · simp only [updF, upd, Nat.reduceEqDiff, if_true, if_false, true_implies, reduceIte]
                      repeat' first | assumption | exact trivial | exact rfl | exact fun _ => rfl | exact fun _ => by assumption | apply And.intro
                · rintro L f W ⟨hWB, e15, e16, e9, l0, l1, l2, l3, l4, l5, l6, l7, l8, l98, l10⟩ hall
                  obtain ⟨g, g1, g2, g3, g4⟩ := l8 (hall 8 (by show 8 < 11; omega))
                  rw [if_pos (hall 9 (by show 9 < 11; omega))] at g4
                  have f20 := l10 (hall 10 (by show 10 < 11; omega))
                  simp only [putAll, g1, f20]
                  clear hall l0 l1 l2 l3 l4 l5 l6 l7 l8 l98 l10
                  have w0 := g4.cell 0 rfl
                  have w1 := g4.cell 1 rfl
                  have w2 := g4.cell 2 rfl
                  have y0 := hWB.b15.cell 0 rfl
                  have y1 := hWB.b15.cell 1 rfl
                  have y2 := hWB.b15.cell 2 rfl
                  have z0 := hWB.b15.frozen 0
                  have z1 := hWB.b15.frozen 1
                  have z2 := hWB.b15.frozen 2
                  cases ok with
                  | false =>
                    go_wp2_with fail
                    try rw [Exit.noGoto_ret]
                    go_ret2
                    have hw' := hw.out
                    have hsok : s.ok d0 d1 d2 = false := by unfold RS.ok; rw [hdir.out]; exact hok.out
                    rw [wayL, if_neg (by rw [hsok]; exact Bool.false_ne_true), List.append_nil] at hw'
                    refine ⟨_, by rw [hE.out]; rfl, ?_, hWB.below⟩
                    rw [hP.out, hw']
                    exact owns_mono hWB.own (by omega)
                  | true =>
                    obtain ⟨rfl, rfl, rfl⟩ := huok.out rfl
                    obtain ⟨i0, hi, hz0, hz1, hz2⟩ := info_parts info_place
                    have hWB2 := ((hWB.set15 0 (.int .i64 (stepX s.x v0)) hlt (by omega) (by omega) (by omega) (by omega)).set15 1 (.int .i64 (stepY s.y v0)) hlt (by omega) (by omega) (by omega) (by omega)).set15 2 (.int .i64 (stepZ s.z v0)) hlt (by omega) (by omega) (by omega) (by omega)
                    replace hWB2 := Lib.hid (hWB2.new (.cells #[.int .i64 (stepX s.x v0), .int .i64 (stepY s.y v0), .int .i64 (stepZ s.z v0)] 23))
                    have hN256 := N256
                    replace hlt := Lib.hid hlt
                    replace hWB := Lib.hid hWB
                    replace g4 := Lib.hid g4
                    go_wp2_with (at_builtin; refine wpList_append_own _ rfl _ _ 25 rfl (p15 + 1) 23 i0 (.agg #[.int .i64 0, .int .i64 0, .int .i64 0]) 3 24 (by kernel_rfl) hi hz0 hz1 hz2 rfl (by decide) _ _ _ rfl hWB2.out.own ⟨_, 0, none⟩ 1 1 (V3 (stepX s.x v0) (stepY s.y v0) (stepZ s.z v0)) rfl rfl ?c1_0 ?c2_0 ?c3_0 ?c4_0 ?c5_0 ?c6_0)
                    case c1_0 => exact fun j u h => h
                    case c2_0 => intro u hu; simp only [V3, List.mem_cons, List.not_mem_nil, or_false] at hu; rcases hu with rfl | rfl | rfl <;> rfl
                    case c3_0 => unfold maxLen; omega
                    case c4_0 => omega
                    case c5_0 => exact Nat.le_of_lt hWB.out.lt
                    case c6_0 =>
                      intro v' W3 hown' hgrow hnil
                      have o2' := o2
                      have hWB3 := hWB2.out.grow hgrow hown' hlt.out (by omega) (by omega) (by omega) (by omega)
                      obtain ⟨va', vc', rfl⟩ := owns_form hown'
                      replace hWB3 := Lib.hid hWB3
                      clear hgrow hnil hWB2 w0 w1 w2 y0 y1 y2 z0 z1 z2 hWB g4 hown'
                      go_wp2_with fail
                      have hsok : s.ok d0 d1 d2 = true := by unfold RS.ok; rw [hdir.out]; exact hok.out
                      have hw' := hw.out
                      rw [wayL, if_pos hsok] at hw'
                      have hWB4 := hWB3.out
                      have nx : (s.next d0 d1 d2).x = stepX s.x v0 := by unfold RS.next; rw [hdir.out]
                      have ny : (s.next d0 d1 d2).y = stepY s.y v0 := by unfold RS.next; rw [hdir.out]
                      have nz : (s.next d0 d1 d2).z = stepZ s.z v0 := by unfold RS.next; rw [hdir.out]
                      have na : (s.next d0 d1 d2).a = (s.a + 2) := by unfold RS.next; rw [hbest.out]; rfl
                      have nb : (s.next d0 d1 d2).b = s.b := by unfold RS.next; rw [hbest.out]; rfl
                      have nc : (s.next d0 d1 d2).c = s.c := by unfold RS.next; rw [hbest.out]; rfl
                      have hbd := HBD.out
                      refine ⟨⟨pre ++ [((s.next d0 d1 d2).x, (s.next d0 d1 d2).y, (s.next d0 d1 d2).z)], m, s.next d0 d1 d2, ?_, ?_, ?_, hWB4.b8, hv9 ▸ hWB4.b9, hWB4.b10, ?_, ?_, ?_, hWB4.below, hWB4.lt⟩, ?_⟩
                      · rw [hw']; simp
                      · have := hl2.out; simp; omega
                      · rw [cellsP_snoc, nx, ny, nz, List.length_append]; exact hWB4.own
                      · rw [na, nb, nc]; exact hWB4.b11
                      · rw [nx, ny, nz]; exact hWB4.b15
                      · rw [na, nb, nc, List.length_append]; simp only [List.length_cons, List.length_nil]; omega
                      · show N - (pre.length + 1) < N - pre.length; omega
              · have hdir : s.dir d0 d1 d2 = v1 := by unfold RS.dir; rw [hbest]; assumption
                have f9 := B9.cell 1 rfl
                have f11 := B11.cell 1 rfl
                have g11 := B11.frozen 1
                have hbd1 : s.b ≤ 2 * pre.length + 1 := by omega
                have hbd2 : 1 ≤ s.b := by omega
                replace hbest := Lib.hid hbest
                replace hdir := Lib.hid hdir
                replace HBD := Lib.hid HBD
                clear hv0 hv1 hv2
                have o2 := ord2.out
                have o4 := hp4.out
                obtain ⟨u0, u1, u2, hu, huok⟩ := stepV_form s.x s.y s.z v1
                obtain ⟨ok, hok⟩ : ∃ ok, stepOk s.x s.y s.z v1 = ok := ⟨_, rfl⟩
                rw [hok] at huok
                replace hu := Lib.hid hu
                replace hok := Lib.hid hok
                replace huok := Lib.hid huok
                go_wp2_with fail
                refine wp_world (fun W => WB w W p8 p9 p10 p11 p15 (V3 0 2 1) (V3 v0 v1 v2) (szL d0 d1 d2 3) (V3 s.a (s.b + 2) s.c) (V3 s.x s.y s.z) (.slice va pre.length vc) pre.length (cellsP pre)) ⟨B8.set_other _ (show p8 ≠ p11 by omega), B9.set_other _ (show p9 ≠ p11 by omega), B10.set_other _ (show p10 ≠ p11 by omega), B11.set 1 _, B15.set_other _ (show p15 ≠ p11 by omega), owns_setCell HO.out _ (fun k hk => by have := (HO.out.lt k hk).1; show k ≠ p11; omega), HB2.out.setCell (by show w.heap.size ≤ p11; omega) _, by show p15 < (W1.heap.modify _ _).size; rw [Array.size_modify]; exact HZ⟩ ?_
                clear f9 f11 g11 B8 B9 B10 B11 B15 HO HB2 HZ
                intro W2 hWB
                refine wp_region_frame (by kernel_rfl) (by kernel_rfl) (by kernel_rfl) [104, 105, 106, 107, 108, 103, 109, 110, 19, 20] (by kernel_rfl)
                  (fun L f W => WB w W p8 p9 p10 p11 p15 (V3 0 2 1) (V3 v0 v1 v2) (szL d0 d1 d2 3) (V3 s.a (s.b + 2) s.c) (V3 s.x s.y s.z) (.slice va pre.length vc) pre.length (cellsP pre) ∧
                    f 15 = .pointer (some ⟨p15, 0, none⟩) ∧ f 16 = .int .i64 1 ∧ f 9 = .pointer (some ⟨p9, 0, none⟩) ∧
                    (L 0 = true → f 104 = .agg #[.int .i64 s.x, .int .i64 s.y, .int .i64 s.z]) ∧ (L 1 = true → f 105 = .int .i64 1) ∧ (L 2 = true → f 106 = .pointer (some ⟨p9, 1, none⟩)) ∧ (L 3 = true → f 107 = .int .i64 v1) ∧
                    (L 4 = true → f 108 = .tuple #[.agg #[.int .i64 u0, .int .i64 u1, .int .i64 u2], .bool ok]) ∧ (L 5 = true → f 103 = .tuple #[.agg #[.int .i64 u0, .int .i64 u1, .int .i64 u2], .bool ok]) ∧ (L 6 = true → f 109 = .agg #[.int .i64 u0, .int .i64 u1, .int .i64 u2]) ∧ (L 7 = true → f 110 = .bool ok) ∧
                    (L 8 = true → ∃ g, f 19 = .pointer (some ⟨g, 0, none⟩) ∧ p15 < g ∧ (∀ k, (Value.slice va pre.length vc).ownBlock = some k → k ≠ g) ∧ Blk W g (if L 9 = true then V3 u0 u1 u2 else V3 0 0 0) 23) ∧ (L 9 = true → L 8 = true) ∧ (L 10 = true → f 20 = .bool ok)) ?_ ?_ ?_
                · exact ⟨hWB.drew, rfl, rfl, rfl, by simp, by simp, by simp, by simp, by simp, by simp, by simp, by simp, by simp, by simp, by simp⟩
                · rintro L f W ⟨hWB, e15, e16, e9, l0, l1, l2, l3, l4, l5, l6, l7, l8, l98, l10⟩ i o ho hL hdep
                  have hi : i < 11 := by
                    have := (List.getElem?_eq_some_iff.1 ho).1
                    simpa using this
                  have q15 : ev f (.tmp 15) = .pointer (some ⟨p15, 0, none⟩) := e15
                  have q16 : ev f (.tmp 16) = .int .i64 1 := e16
                  have q9 : ev f (.tmp 9) = .pointer (some ⟨p9, 0, none⟩) := e9
                  obtain rfl | rfl | rfl | rfl | rfl | rfl | rfl | rfl | rfl | rfl | rfl : i = 0 ∨ i = 1 ∨ i = 2 ∨ i = 3 ∨ i = 4 ∨ i = 5 ∨ i = 6 ∨ i = 7 ∨ i = 8 ∨ i = 9 ∨ i = 10 := by omega
                  all_goals obtain rfl := Option.some.inj ho
                  all_goals
                    clear ho hi
                    simp [Region.binds] at hdep
                  · have c0 := hWB.b15.cell 0 rfl
                    have c1 := hWB.b15.cell 1 rfl
                    have c2 := hWB.b15.cell 2 rfl
                    refine fwp_value (v := .agg #[.int .i64 s.x, .int .i64 s.y, .int .i64 s.z]) (w' := W) ?_ ?_
                    · simp only [execOp, q15]
                      go_simp
                    · simp only [updF, upd, Nat.reduceEqDiff, if_true, if_false, true_implies, reduceIte]
                      repeat' first | assumption | exact trivial | exact rfl | exact fun _ => rfl | exact fun _ => by assumption | apply And.intro
                  · refine fwp_value (v := .int .i64 1) (w' := W) ?_ ?_
                    · simp only [execOp, q16]
                      go_simp
                    · simp only [updF, upd, Nat.reduceEqDiff, if_true, if_false, true_implies, reduceIte]
                      repeat' first | assumption | exact trivial | exact rfl | exact fun _ => rfl | exact fun _ => by assumption | apply And.intro
                  · have q105 : ev f (.tmp 105) = .int .i64 1 := l1 (by simp only [hdep])
                    refine fwp_value (v := .pointer (some ⟨p9, 1, none⟩)) (w' := W) ?_ ?_
                    · simp only [execOp, q9, q105]
                      go_simp
                    · simp only [updF, upd, Nat.reduceEqDiff, if_true, if_false, true_implies, reduceIte]
                      repeat' first | assumption | exact trivial | exact rfl | exact fun _ => rfl | exact fun _ => by assumption | apply And.intro
                  · have q106 : ev f (.tmp 106) = .pointer (some ⟨p9, 1, none⟩) := l2 (by simp only [hdep])
                    have c9 := hWB.b9.cell 1 rfl
                    refine fwp_value (v := .int .i64 v1) (w' := W) ?_ ?_
                    · simp only [execOp, q106]
                      go_simp
                    · simp only [updF, upd, Nat.reduceEqDiff, if_true, if_false, true_implies, reduceIte]
                      repeat' first | assumption | exact trivial | exact rfl | exact fun _ => rfl | exact fun _ => by assumption | apply And.intro
                  · have q104 : ev f (.tmp 104) = .agg #[.int .i64 s.x, .int .i64 s.y, .int .i64 s.z] := l0 (by simp only [hdep])
                    have q107 : ev f (.tmp 107) = .int .i64 v1 := l3 (by simp only [hdep])
                    refine fwp_call (g := 17) (args := #[.agg #[.int .i64 s.x, .int .i64 s.y, .int .i64 s.z], .int .i64 v1]) (w' := W) ?_ ?_
                    · simp only [execOp, q104, q107]
                      go_simp
                      simp only [ev_func]
                      go_simp
                    · refine (step_calls _ _ _ _ _).mono ?_
                      rintro e W' ⟨rfl, hb⟩
                      refine ⟨_, rfl, ?_⟩
                      rw [hu.out, hok.out]
                      replace hWB := hWB.down hb
                      have l8 : L 8 = true → ∃ g, f 19 = .pointer (some ⟨g, 0, none⟩) ∧ p15 < g ∧ (∀ k, (Value.slice va pre.length vc).ownBlock = some k → k ≠ g) ∧ Blk W' g (if L 9 = true then V3 u0 u1 u2 else V3 0 0 0) 23 := fun h => by
                        obtain ⟨g, g1, g2, g3, g4⟩ := l8 h
                        exact ⟨g, g1, g2, g3, g4.below hb g4.lt⟩
                      simp only [updF, upd, Nat.reduceEqDiff, if_true, if_false, true_implies, reduceIte]
                      repeat' first | assumption | exact trivial | exact rfl | exact fun _ => rfl | exact fun _ => by assumption | apply And.intro
                  · have q108 : ev f (.tmp 108) = .tuple #[.agg #[.int .i64 u0, .int .i64 u1, .int .i64 u2], .bool ok] := l4 (by simp only [hdep])
                    refine fwp_value (v := .tuple #[.agg #[.int .i64 u0, .int .i64 u1, .int .i64 u2], .bool ok]) (w' := W) ?_ ?_
                    · simp only [execOp, q108]
                      go_simp
                    · simp only [updF, upd, Nat.reduceEqDiff, if_true, if_false, true_implies, reduceIte]
                      repeat' first | assumption | exact trivial | exact rfl | exact fun _ => rfl | exact fun _ => by assumption | apply And.intro
                  · have q103 : ev f (.tmp 103) = .tuple #[.agg #[.int .i64 u0, .int .i64 u1, .int .i64 u2], .bool ok] := l5 (by simp only [hdep])
                    refine fwp_value (v := .agg #[.int .i64 u0, .int .i64 u1, .int .i64 u2]) (w' := W) ?_ ?_
                    · simp only [execOp, q103]
                      go_simp
                    · simp only [updF, upd, Nat.reduceEqDiff, if_true, if_false, true_implies, reduceIte]
                      repeat' first | assumption | exact trivial | exact rfl | exact fun _ => rfl | exact fun _ => by assumption | apply And.intro
                  · have q103 : ev f (.tmp 103) = .tuple #[.agg #[.int .i64 u0, .int .i64 u1, .int .i64 u2], .bool ok] := l5 (by simp only [hdep])
                    refine fwp_value (v := .bool ok) (w' := W) ?_ ?_
                    · simp only [execOp, q103]
                      go_simp
                    · simp only [updF, upd, Nat.reduceEqDiff, if_true, if_false, true_implies, reduceIte]
                      repeat' first | assumption | exact trivial | exact rfl | exact fun _ => rfl | exact fun _ => by assumption | apply And.intro
                  · have hL9 : L 9 = false := by cases h : L 9 with
                      | false => rfl
                      | true => rw [l98 h] at hL; cases hL
                    refine fwp_value (v := .pointer (some ⟨W.heap.size, 0, none⟩)) (w' := W.alloc (.cells #[.int .i64 0, .int .i64 0, .int .i64 0] 23)) ?_ ?_
                    · simp only [execOp]
                      go_simp
                    · have l8 : ∃ g, Value.pointer (some ⟨W.heap.size, 0, none⟩) = .pointer (some ⟨g, 0, none⟩) ∧ p15 < g ∧ (∀ k, (Value.slice va pre.length vc).ownBlock = some k → k ≠ g) ∧ Blk (W.alloc (.cells #[.int .i64 0, .int .i64 0, .int .i64 0] 23)) g (if L 9 = true then V3 u0 u1 u2 else V3 0 0 0) 23 := by
                        refine ⟨_, rfl, hWB.lt, fun k hk => by have := (hWB.own.lt k hk).2; omega, ?_⟩
                        rw [hL9]
                        exact Blk.new W _ _
                      replace hWB := hWB.new (.cells #[.int .i64 0, .int .i64 0, .int .i64 0] 23)
                      simp only [updF, upd, Nat.reduceEqDiff, if_true, if_false, true_implies, reduceIte]
                      repeat' first | assumption | exact trivial | exact rfl | exact fun _ => rfl | exact fun _ => by assumption | apply And.intro
                  · have q109 : ev f (.tmp 109) = .agg #[.int .i64 u0, .int .i64 u1, .int .i64 u2] := l6 (by simp only [hdep])
                    obtain ⟨g, g1, g2, g3, g4⟩ := l8 (by simp only [hdep])
                    have q19 : ev f (.tmp 19) = .pointer (some ⟨g, 0, none⟩) := g1
                    rw [hL] at g4
                    have y0 := g4.cell 0 rfl
                    have y1 := g4.cell 1 rfl
                    have y2 := g4.cell 2 rfl
                    have z0 := g4.frozen 0
                    have z1 := g4.frozen 1
                    have z2 := g4.frozen 2
                    refine fwp_skip (w' := ((W.setCell ⟨g, 0, none⟩ (.int .i64 u0)).setCell ⟨g, 1, none⟩ (.int .i64 u1)).setCell ⟨g, 2, none⟩ (.int .i64 u2)) ?_ ?_
                    · simp only [execOp, q19, q109]
                      go_simp
                    · have hst : ∀ (W : World) (j : Nat) (u : Value), WB w W p8 p9 p10 p11 p15 (V3 0 2 1) (V3 v0 v1 v2) (szL d0 d1 d2 3) (V3 s.a (s.b + 2) s.c) (V3 s.x s.y s.z) (.slice va pre.length vc) pre.length (cellsP pre) → WB w (W.setCell ⟨g, j, none⟩ u) p8 p9 p10 p11 p15 (V3 0 2 1) (V3 v0 v1 v2) (szL d0 d1 d2 3) (V3 s.a (s.b + 2) s.c) (V3 s.x s.y s.z) (.slice va pre.length vc) pre.length (cellsP pre) :=
                        fun W j u h => h.store u (by omega) (by omega) (by omega) (by omega) (by omega) (by omega) g3
                      replace hWB := hst _ 2 (.int .i64 u2) (hst _ 1 (.int .i64 u1) (hst _ 0 (.int .i64 u0) hWB))
                      have l8 : ∃ g', f 19 = .pointer (some ⟨g', 0, none⟩) ∧ p15 < g' ∧ (∀ k, (Value.slice va pre.length vc).ownBlock = some k → k ≠ g') ∧ Blk (((W.setCell ⟨g, 0, none⟩ (.int .i64 u0)).setCell ⟨g, 1, none⟩ (.int .i64 u1)).setCell ⟨g, 2, none⟩ (.int .i64 u2)) g' (V3 u0 u1 u2) 23 :=
                        ⟨g, g1, g2, g3, ((g4.set 0 (.int .i64 u0)).set 1 (.int .i64 u1)).set 2 (.int .i64 u2)⟩
                      have l9 : L 8 = true := by simp only [hdep]
                      clear hst
                      simp only [updF, upd, Nat.reduceEqDiff, if_true, if_false, true_implies, reduceIte]
                      repeat' first | assumption | exact trivial | exact rfl | exact fun _ => rfl | exact fun _ => by assumption | apply And.intro
                  · have q110 : ev f (.tmp 110) = .bool ok := l7 (by simp only [hdep])
                    refine fwp_value (v := .bool ok) (w' := W) ?_ ?_
                    · simp only [execOp, q110]
                      go_simp
                    · simp only [updF, upd, Nat.reduceEqDiff, if_true, if_false, true_implies, reduceIte]
                      repeat' first | assumption | exact trivial | exact rfl | exact fun _ => rfl | exact fun _ => by assumption | apply And.intro
                · rintro L f W ⟨hWB, e15, e16, e9, l0, l1, l2, l3, l4, l5, l6, l7, l8, l98, l10⟩ hall
                  obtain ⟨g, g1, g2, g3, g4⟩ := l8 (hall 8 (by show 8 < 11; omega))
                  rw [if_pos (hall 9 (by show 9 < 11; omega))] at g4
                  have f20 := l10 (hall 10 (by show 10 < 11; omega))
                  simp only [putAll, g1, f20]
                  clear hall l0 l1 l2 l3 l4 l5 l6 l7 l8 l98 l10
                  have w0 := g4.cell 0 rfl
                  have w1 := g4.cell 1 rfl
                  have w2 := g4.cell 2 rfl
                  have y0 := hWB.b15.cell 0 rfl
                  have y1 := hWB.b15.cell 1 rfl
                  have y2 := hWB.b15.cell 2 rfl
                  have z0 := hWB.b15.frozen 0
                  have z1 := hWB.b15.frozen 1
                  have z2 := hWB.b15.frozen 2
                  cases ok with
                  | false =>
                    go_wp2_with fail
                    try rw [Exit.noGoto_ret]
                    go_ret2
                    have hw' := hw.out
                    have hsok : s.ok d0 d1 d2 = false := by unfold RS.ok; rw [hdir.out]; exact hok.out
                    rw [wayL, if_neg (by rw [hsok]; exact Bool.false_ne_true), List.append_nil] at hw'
                    refine ⟨_, by rw [hE.out]; rfl, ?_, hWB.below⟩
                    rw [hP.out, hw']
                    exact owns_mono hWB.own (by omega)
                  | true =>
                    obtain ⟨rfl, rfl, rfl⟩ := huok.out rfl
                    obtain ⟨i0, hi, hz0, hz1, hz2⟩ := info_parts info_place
                    have hWB2 := ((hWB.set15 0 (.int .i64 (stepX s.x v1)) hlt (by omega) (by omega) (by omega) (by omega)).set15 1 (.int .i64 (stepY s.y v1)) hlt (by omega) (by omega) (by omega) (by omega)).set15 2 (.int .i64 (stepZ s.z v1)) hlt (by omega) (by omega) (by omega) (by omega)
                    replace hWB2 := Lib.hid (hWB2.new (.cells #[.int .i64 (stepX s.x v1), .int .i64 (stepY s.y v1), .int .i64 (stepZ s.z v1)] 23))
                    have hN256 := N256
                    replace hlt := Lib.hid hlt
                    replace hWB := Lib.hid hWB
                    replace g4 := Lib.hid g4
                    go_wp2_with (at_builtin; refine wpList_append_own _ rfl _ _ 25 rfl (p15 + 1) 23 i0 (.agg #[.int .i64 0, .int .i64 0, .int .i64 0]) 3 24 (by kernel_rfl) hi hz0 hz1 hz2 rfl (by decide) _ _ _ rfl hWB2.out.own ⟨_, 0, none⟩ 1 1 (V3 (stepX s.x v1) (stepY s.y v1) (stepZ s.z v1)) rfl rfl ?c1_1 ?c2_1 ?c3_1 ?c4_1 ?c5_1 ?c6_1)
                    case c1_1 => exact fun j u h => h
                    case c2_1 => intro u hu; simp only [V3, List.mem_cons, List.not_mem_nil, or_false] at hu; rcases hu with rfl | rfl | rfl <;> rfl
                    case c3_1 => unfold maxLen; omega
                    case c4_1 => omega
                    case c5_1 => exact Nat.le_of_lt hWB.out.lt
                    case c6_1 =>
                      intro v' W3 hown' hgrow hnil
                      have o2' := o2
                      have hWB3 := hWB2.out.grow hgrow hown' hlt.out (by omega) (by omega) (by omega) (by omega)
                      obtain ⟨va', vc', rfl⟩ := owns_form hown'
                      replace hWB3 := Lib.hid hWB3
                      clear hgrow hnil hWB2 w0 w1 w2 y0 y1 y2 z0 z1 z2 hWB g4 hown'
                      go_wp2_with fail
                      have hsok : s.ok d0 d1 d2 = true := by unfold RS.ok; rw [hdir.out]; exact hok.out
                      have hw' := hw.out
                      rw [wayL, if_pos hsok] at hw'
                      have hWB4 := hWB3.out
                      have nx : (s.next d0 d1 d2).x = stepX s.x v1 := by unfold RS.next; rw [hdir.out]
                      have ny : (s.next d0 d1 d2).y = stepY s.y v1 := by unfold RS.next; rw [hdir.out]
                      have nz : (s.next d0 d1 d2).z = stepZ s.z v1 := by unfold RS.next; rw [hdir.out]
                      have na : (s.next d0 d1 d2).a = s.a := by unfold RS.next; rw [hbest.out]; rfl
                      have nb : (s.next d0 d1 d2).b = (s.b + 2) := by unfold RS.next; rw [hbest.out]; rfl
                      have nc : (s.next d0 d1 d2).c = s.c := by unfold RS.next; rw [hbest.out]; rfl
                      have hbd := HBD.out
                      refine ⟨⟨pre ++ [((s.next d0 d1 d2).x, (s.next d0 d1 d2).y, (s.next d0 d1 d2).z)], m, s.next d0 d1 d2, ?_, ?_, ?_, hWB4.b8, hv9 ▸ hWB4.b9, hWB4.b10, ?_, ?_, ?_, hWB4.below, hWB4.lt⟩, ?_⟩
                      · rw [hw']; simp
                      · have := hl2.out; simp; omega
                      · rw [cellsP_snoc, nx, ny, nz, List.length_append]; exact hWB4.own
                      · rw [na, nb, nc]; exact hWB4.b11
                      · rw [nx, ny, nz]; exact hWB4.b15
                      · rw [na, nb, nc, List.length_append]; simp only [List.length_cons, List.length_nil]; omega
                      · show N - (pre.length + 1) < N - pre.length; omega
              · have hdir : s.dir d0 d1 d2 = v2 := by unfold RS.dir; rw [hbest]; assumption
                have f9 := B9.cell 2 rfl
                have f11 := B11.cell 2 rfl
                have g11 := B11.frozen 2
                have hbd1 : s.c ≤ 2 * pre.length + 1 := by omega
                have hbd2 : 1 ≤ s.c := by omega
                replace hbest := Lib.hid hbest
                replace hdir := Lib.hid hdir
                replace HBD := Lib.hid HBD
                clear hv0 hv1 hv2
                have o2 := ord2.out
                have o4 := hp4.out
                obtain ⟨u0, u1, u2, hu, huok⟩ := stepV_form s.x s.y s.z v2
                obtain ⟨ok, hok⟩ : ∃ ok, stepOk s.x s.y s.z v2 = ok := ⟨_, rfl⟩
                rw [hok] at huok
                replace hu := Lib.hid hu
                replace hok := Lib.hid hok
                replace huok := Lib.hid huok
                go_wp2_with fail
                refine wp_world (fun W => WB w W p8 p9 p10 p11 p15 (V3 0 2 1) (V3 v0 v1 v2) (szL d0 d1 d2 3) (V3 s.a s.b (s.c + 2)) (V3 s.x s.y s.z) (.slice va pre.length vc) pre.length (cellsP pre)) ⟨B8.set_other _ (show p8 ≠ p11 by omega), B9.set_other _ (show p9 ≠ p11 by omega), B10.set_other _ (show p10 ≠ p11 by omega), B11.set 2 _, B15.set_other _ (show p15 ≠ p11 by omega), owns_setCell HO.out _ (fun k hk => by have := (HO.out.lt k hk).1; show k ≠ p11; omega), HB2.out.setCell (by show w.heap.size ≤ p11; omega) _, by show p15 < (W1.heap.modify _ _).size; rw [Array.size_modify]; exact HZ⟩ ?_
                clear f9 f11 g11 B8 B9 B10 B11 B15 HO HB2 HZ
                intro W2 hWB
                refine wp_region_frame (by kernel_rfl) (by kernel_rfl) (by kernel_rfl) [104, 105, 106, 107, 108, 103, 109, 110, 19, 20] (by kernel_rfl)
                  (fun L f W => WB w W p8 p9 p10 p11 p15 (V3 0 2 1) (V3 v0 v1 v2) (szL d0 d1 d2 3) (V3 s.a s.b (s.c + 2)) (V3 s.x s.y s.z) (.slice va pre.length vc) pre.length (cellsP pre) ∧
                    f 15 = .pointer (some ⟨p15, 0, none⟩) ∧ f 16 = .int .i64 2 ∧ f 9 = .pointer (some ⟨p9, 0, none⟩) ∧
                    (L 0 = true → f 104 = .agg #[.int .i64 s.x, .int .i64 s.y, .int .i64 s.z]) ∧ (L 1 = true → f 105 = .int .i64 2) ∧ (L 2 = true → f 106 = .pointer (some ⟨p9, 2, none⟩)) ∧ (L 3 = true → f 107 = .int .i64 v2) ∧
                    (L 4 = true → f 108 = .tuple #[.agg #[.int .i64 u0, .int .i64 u1, .int .i64 u2], .bool ok]) ∧ (L 5 = true → f 103 = .tuple #[.agg #[.int .i64 u0, .int .i64 u1, .int .i64 u2], .bool ok]) ∧ (L 6 = true → f 109 = .agg #[.int .i64 u0, .int .i64 u1, .int .i64 u2]) ∧ (L 7 = true → f 110 = .bool ok) ∧
                    (L 8 = true → ∃ g, f 19 = .pointer (some ⟨g, 0, none⟩) ∧ p15 < g ∧ (∀ k, (Value.slice va pre.length vc).ownBlock = some k → k ≠ g) ∧ Blk W g (if L 9 = true then V3 u0 u1 u2 else V3 0 0 0) 23) ∧ (L 9 = true → L 8 = true) ∧ (L 10 = true → f 20 = .bool ok)) ?_ ?_ ?_
                · exact ⟨hWB.drew, rfl, rfl, rfl, by simp, by simp, by simp, by simp, by simp, by simp, by simp, by simp, by simp, by simp, by simp⟩
                · rintro L f W ⟨hWB, e15, e16, e9, l0, l1, l2, l3, l4, l5, l6, l7, l8, l98, l10⟩ i o ho hL hdep
                  have hi : i < 11 := by
                    have := (List.getElem?_eq_some_iff.1 ho).1
                    simpa using this
                  have q15 : ev f (.tmp 15) = .pointer (some ⟨p15, 0, none⟩) := e15
                  have q16 : ev f (.tmp 16) = .int .i64 2 := e16
                  have q9 : ev f (.tmp 9) = .pointer (some ⟨p9, 0, none⟩) := e9
                  obtain rfl | rfl | rfl | rfl | rfl | rfl | rfl | rfl | rfl | rfl | rfl : i = 0 ∨ i = 1 ∨ i = 2 ∨ i = 3 ∨ i = 4 ∨ i = 5 ∨ i = 6 ∨ i = 7 ∨ i = 8 ∨ i = 9 ∨ i = 10 := by omega
                  all_goals obtain rfl := Option.some.inj ho
                  all_goals
                    clear ho hi
                    simp [Region.binds] at hdep
                  · have c0 := hWB.b15.cell 0 rfl
                    have c1 := hWB.b15.cell 1 rfl
                    have c2 := hWB.b15.cell 2 rfl
                    refine fwp_value (v := .agg #[.int .i64 s.x, .int .i64 s.y, .int .i64 s.z]) (w' := W) ?_ ?_
                    · simp only [execOp, q15]
                      go_simp
                    · simp only [updF, upd, Nat.reduceEqDiff, if_true, if_false, true_implies, reduceIte]
                      repeat' first | assumption | exact trivial | exact rfl | exact fun _ => rfl | exact fun _ => by assumption | apply And.intro
                  · refine fwp_value (v := .int .i64 2) (w' := W) ?_ ?_
                    · simp only [execOp, q16]
                      go_simp
                    · simp only [updF, upd, Nat.reduceEqDiff, if_true, if_false, true_implies, reduceIte]
                      repeat' first | assumption | exact trivial | exact rfl | exact fun _ => rfl | exact fun _ => by assumption | apply And.intro
                  · have q105 : ev f (.tmp 105) = .int .i64 2 := l1 (by simp only [hdep])
                    refine fwp_value (v := .pointer (some ⟨p9, 2, none⟩)) (w' := W) ?_ ?_
                    · simp only [execOp, q9, q105]
                      go_simp
                    · simp only [updF, upd, Nat.reduceEqDiff, if_true, if_false, true_implies, reduceIte]
                      repeat' first | assumption | exact trivial | exact rfl | exact fun _ => rfl | exact fun _ => by assumption | apply And.intro
                  · have q106 : ev f (.tmp 106) = .pointer (some ⟨p9, 2, none⟩) := l2 (by simp only [hdep])
                    have c9 := hWB.b9.cell 2 rfl
                    refine fwp_value (v := .int .i64 v2) (w' := W) ?_ ?_
                    · simp only [execOp, q106]
                      go_simp
                    · simp only [updF, upd, Nat.reduceEqDiff, if_true, if_false, true_implies, reduceIte]
                      repeat' first | assumption | exact trivial | exact rfl | exact fun _ => rfl | exact fun _ => by assumption | apply And.intro
                  · have q104 : ev f (.tmp 104) = .agg #[.int .i64 s.x, .int .i64 s.y, .int .i64 s.z] := l0 (by simp only [hdep])
                    have q107 : ev f (.tmp 107) = .int .i64 v2 := l3 (by simp only [hdep])
                    refine fwp_call (g := 17) (args := #[.agg #[.int .i64 s.x, .int .i64 s.y, .int .i64 s.z], .int .i64 v2]) (w' := W) ?_ ?_
                    · simp only [execOp, q104, q107]
                      go_simp
                      simp only [ev_func]
                      go_simp
                    · refine (step_calls _ _ _ _ _).mono ?_
                      rintro e W' ⟨rfl, hb⟩
                      refine ⟨_, rfl, ?_⟩
                      rw [hu.out, hok.out]
                      replace hWB := hWB.down hb
                      have l8 : L 8 = true → ∃ g, f 19 = .pointer (some ⟨g, 0, none⟩) ∧ p15 < g ∧ (∀ k, (Value.slice va pre.length vc).ownBlock = some k → k ≠ g) ∧ Blk W' g (if L 9 = true then V3 u0 u1 u2 else V3 0 0 0) 23 := fun h => by
                        obtain ⟨g, g1, g2, g3, g4⟩ := l8 h
                        exact ⟨g, g1, g2, g3, g4.below hb g4.lt⟩
                      simp only [updF, upd, Nat.reduceEqDiff, if_true, if_false, true_implies, reduceIte]
                      repeat' first | assumption | exact trivial | exact rfl | exact fun _ => rfl | exact fun _ => by assumption | apply And.intro
                  · have q108 : ev f (.tmp 108) = .tuple #[.agg #[.int .i64 u0, .int .i64 u1, .int .i64 u2], .bool ok] := l4 (by simp only [hdep])
                    refine fwp_value (v := .tuple #[.agg #[.int .i64 u0, .int .i64 u1, .int .i64 u2], .bool ok]) (w' := W) ?_ ?_
                    · simp only [execOp, q108]
                      go_simp
                    · simp only [updF, upd, Nat.reduceEqDiff, if_true, if_false, true_implies, reduceIte]
                      repeat' first | assumption | exact trivial | exact rfl | exact fun _ => rfl | exact fun _ => by assumption | apply And.intro
                  · have q103 : ev f (.tmp 103) = .tuple #[.agg #[.int .i64 u0, .int .i64 u1, .int .i64 u2], .bool ok] := l5 (by simp only [hdep])
                    refine fwp_value (v := .agg #[.int .i64 u0, .int .i64 u1, .int .i64 u2]) (w' := W) ?_ ?_
                    · simp only [execOp, q103]
                      go_simp
                    · simp only [updF, upd, Nat.reduceEqDiff, if_true, if_false, true_implies, reduceIte]
                      repeat' first | assumption | exact trivial | exact rfl | exact fun _ => rfl | exact fun _ => by assumption | apply And.intro
                  · have q103 : ev f (.tmp 103) = .tuple #[.agg #[.int .i64 u0, .int .i64 u1, .int .i64 u2], .bool ok] := l5 (by simp only [hdep])
                    refine fwp_value (v := .bool ok) (w' := W) ?_ ?_
                    · simp only [execOp, q103]
                      go_simp
                    · simp only [updF, upd, Nat.reduceEqDiff, if_true, if_false, true_implies, reduceIte]
                      repeat' first | assumption | exact trivial | exact rfl | exact fun _ => rfl | exact fun _ => by assumption | apply And.intro
                  · have hL9 : L 9 = false := by cases h : L 9 with
                      | false => rfl
                      | true => rw [l98 h] at hL; cases hL
                    refine fwp_value (v := .pointer (some ⟨W.heap.size, 0, none⟩)) (w' := W.alloc (.cells #[.int .i64 0, .int .i64 0, .int .i64 0] 23)) ?_ ?_
                    · simp only [execOp]
                      go_simp
                    · have l8 : ∃ g, Value.pointer (some ⟨W.heap.size, 0, none⟩) = .pointer (some ⟨g, 0, none⟩) ∧ p15 < g ∧ (∀ k, (Value.slice va pre.length vc).ownBlock = some k → k ≠ g) ∧ Blk (W.alloc (.cells #[.int .i64 0, .int .i64 0, .int .i64 0] 23)) g (if L 9 = true then V3 u0 u1 u2 else V3 0 0 0) 23 := by
                        refine ⟨_, rfl, hWB.lt, fun k hk => by have := (hWB.own.lt k hk).2; omega, ?_⟩
                        rw [hL9]
                        exact Blk.new W _ _
                      replace hWB := hWB.new (.cells #[.int .i64 0, .int .i64 0, .int .i64 0] 23)
                      simp only [updF, upd, Nat.reduceEqDiff, if_true, if_false, true_implies, reduceIte]
                      repeat' first | assumption | exact trivial | exact rfl | exact fun _ => rfl | exact fun _ => by assumption | apply And.intro
                  · have q109 : ev f (.tmp 109) = .agg #[.int .i64 u0, .int .i64 u1, .int .i64 u2] := l6 (by simp only [hdep])
                    obtain ⟨g, g1, g2, g3, g4⟩ := l8 (by simp only [hdep])
                    have q19 : ev f (.tmp 19) = .pointer (some ⟨g, 0, none⟩) := g1
                    rw [hL] at g4
                    have y0 := g4.cell 0 rfl
                    have y1 := g4.cell 1 rfl
                    have y2 := g4.cell 2 rfl
                    have z0 := g4.frozen 0
                    have z1 := g4.frozen 1
                    have z2 := g4.frozen 2
                    refine fwp_skip (w' := ((W.setCell ⟨g, 0, none⟩ (.int .i64 u0)).setCell ⟨g, 1, none⟩ (.int .i64 u1)).setCell ⟨g, 2, none⟩ (.int .i64 u2)) ?_ ?_
                    · simp only [execOp, q19, q109]
                      go_simp
                    · have hst : ∀ (W : World) (j : Nat) (u : Value), WB w W p8 p9 p10 p11 p15 (V3 0 2 1) (V3 v0 v1 v2) (szL d0 d1 d2 3) (V3 s.a s.b (s.c + 2)) (V3 s.x s.y s.z) (.slice va pre.length vc) pre.length (cellsP pre) → WB w (W.setCell ⟨g, j, none⟩ u) p8 p9 p10 p11 p15 (V3 0 2 1) (V3 v0 v1 v2) (szL d0 d1 d2 3) (V3 s.a s.b (s.c + 2)) (V3 s.x s.y s.z) (.slice va pre.length vc) pre.length (cellsP pre) :=
                        fun W j u h => h.store u (by omega) (by omega) (by omega) (by omega) (by omega) (by omega) g3
                      replace hWB := hst _ 2 (.int .i64 u2) (hst _ 1 (.int .i64 u1) (hst _ 0 (.int .i64 u0) hWB))
                      have l8 : ∃ g', f 19 = .pointer (some ⟨g', 0, none⟩) ∧ p15 < g' ∧ (∀ k, (Value.slice va pre.length vc).ownBlock = some k → k ≠ g') ∧ Blk (((W.setCell ⟨g, 0, none⟩ (.int .i64 u0)).setCell ⟨g, 1, none⟩ (.int .i64 u1)).setCell ⟨g, 2, none⟩ (.int .i64 u2)) g' (V3 u0 u1 u2) 23 :=
                        ⟨g, g1, g2, g3, ((g4.set 0 (.int .i64 u0)).set 1 (.int .i64 u1)).set 2 (.int .i64 u2)⟩
                      have l9 : L 8 = true := by simp only [hdep]
                      clear hst
                      simp only [updF, upd, Nat.reduceEqDiff, if_true, if_false, true_implies, reduceIte]
                      repeat' first | assumption | exact trivial | exact rfl | exact fun _ => rfl | exact fun _ => by assumption | apply And.intro
                  · have q110 : ev f (.tmp 110) = .bool ok := l7 (by simp only [hdep])
                    refine fwp_value (v := .bool ok) (w' := W) ?_ ?_
                    · simp only [execOp, q110]
                      go_simp
                    · simp only [updF, upd, Nat.reduceEqDiff, if_true, if_false, true_implies, reduceIte]
                      repeat' first | assumption | exact trivial | exact rfl | exact fun _ => rfl | exact fun _ => by assumption | apply And.intro
                · rintro L f W ⟨hWB, e15, e16, e9, l0, l1, l2, l3, l4, l5, l6, l7, l8, l98, l10⟩ hall
                  obtain ⟨g, g1, g2, g3, g4⟩ := l8 (hall 8 (by show 8 < 11; omega))
                  rw [if_pos (hall 9 (by show 9 < 11; omega))] at g4
                  have f20 := l10 (hall 10 (by show 10 < 11; omega))
                  simp only [putAll, g1, f20]
                  clear hall l0 l1 l2 l3 l4 l5 l6 l7 l8 l98 l10
                  have w0 := g4.cell 0 rfl
                  have w1 := g4.cell 1 rfl
                  have w2 := g4.cell 2 rfl
                  have y0 := hWB.b15.cell 0 rfl
                  have y1 := hWB.b15.cell 1 rfl
                  have y2 := hWB.b15.cell 2 rfl
                  have z0 := hWB.b15.frozen 0
                  have z1 := hWB.b15.frozen 1
                  have z2 := hWB.b15.frozen 2
                  cases ok with
                  | false =>
                    go_wp2_with fail
                    try rw [Exit.noGoto_ret]
                    go_ret2
                    have hw' := hw.out
                    have hsok : s.ok d0 d1 d2 = false := by unfold RS.ok; rw [hdir.out]; exact hok.out
                    rw [wayL, if_neg (by rw [hsok]; exact Bool.false_ne_true), List.append_nil] at hw'
                    refine ⟨_, by rw [hE.out]; rfl, ?_, hWB.below⟩
                    rw [hP.out, hw']
                    exact owns_mono hWB.own (by omega)
                  | true =>
                    obtain ⟨rfl, rfl, rfl⟩ := huok.out rfl
                    obtain ⟨i0, hi, hz0, hz1, hz2⟩ := info_parts info_place
                    have hWB2 := ((hWB.set15 0 (.int .i64 (stepX s.x v2)) hlt (by omega) (by omega) (by omega) (by omega)).set15 1 (.int .i64 (stepY s.y v2)) hlt (by omega) (by omega) (by omega) (by omega)).set15 2 (.int .i64 (stepZ s.z v2)) hlt (by omega) (by omega) (by omega) (by omega)
                    replace hWB2 := Lib.hid (hWB2.new (.cells #[.int .i64 (stepX s.x v2), .int .i64 (stepY s.y v2), .int .i64 (stepZ s.z v2)] 23))
                    have hN256 := N256
                    replace hlt := Lib.hid hlt
                    replace hWB := Lib.hid hWB
                    replace g4 := Lib.hid g4
                    go_wp2_with (at_builtin; refine wpList_append_own _ rfl _ _ 25 rfl (p15 + 1) 23 i0 (.agg #[.int .i64 0, .int .i64 0, .int .i64 0]) 3 24 (by kernel_rfl) hi hz0 hz1 hz2 rfl (by decide) _ _ _ rfl hWB2.out.own ⟨_, 0, none⟩ 1 1 (V3 (stepX s.x v2) (stepY s.y v2) (stepZ s.z v2)) rfl rfl ?c1_2 ?c2_2 ?c3_2 ?c4_2 ?c5_2 ?c6_2)
                    case c1_2 => exact fun j u h => h
                    case c2_2 => intro u hu; simp only [V3, List.mem_cons, List.not_mem_nil, or_false] at hu; rcases hu with rfl | rfl | rfl <;> rfl
                    case c3_2 => unfold maxLen; omega
                    case c4_2 => omega
                    case c5_2 => exact Nat.le_of_lt hWB.out.lt
                    case c6_2 =>
                      intro v' W3 hown' hgrow hnil
                      have o2' := o2
                      have hWB3 := hWB2.out.grow hgrow hown' hlt.out (by omega) (by omega) (by omega) (by omega)
                      obtain ⟨va', vc', rfl⟩ := owns_form hown'
                      replace hWB3 := Lib.hid hWB3
                      clear hgrow hnil hWB2 w0 w1 w2 y0 y1 y2 z0 z1 z2 hWB g4 hown'
                      go_wp2_with fail
                      have hsok : s.ok d0 d1 d2 = true := by unfold RS.ok; rw [hdir.out]; exact hok.out
                      have hw' := hw.out
                      rw [wayL, if_pos hsok] at hw'
                      have hWB4 := hWB3.out
                      have nx : (s.next d0 d1 d2).x = stepX s.x v2 := by unfold RS.next; rw [hdir.out]
                      have ny : (s.next d0 d1 d2).y = stepY s.y v2 := by unfold RS.next; rw [hdir.out]
                      have nz : (s.next d0 d1 d2).z = stepZ s.z v2 := by unfold RS.next; rw [hdir.out]
                      have na : (s.next d0 d1 d2).a = s.a := by unfold RS.next; rw [hbest.out]; rfl
                      have nb : (s.next d0 d1 d2).b = s.b := by unfold RS.next; rw [hbest.out]; rfl
                      have nc : (s.next d0 d1 d2).c = (s.c + 2) := by unfold RS.next; rw [hbest.out]; rfl
                      have hbd := HBD.out
                      refine ⟨⟨pre ++ [((s.next d0 d1 d2).x, (s.next d0 d1 d2).y, (s.next d0 d1 d2).z)], m, s.next d0 d1 d2, ?_, ?_, ?_, hWB4.b8, hv9 ▸ hWB4.b9, hWB4.b10, ?_, ?_, ?_, hWB4.below, hWB4.lt⟩, ?_⟩
                      · rw [hw']; simp
                      · have := hl2.out; simp; omega
                      · rw [cellsP_snoc, nx, ny, nz, List.length_append]; exact hWB4.own
                      · rw [na, nb, nc]; exact hWB4.b11
                      · rw [nx, ny, nz]; exact hWB4.b15
                      · rw [na, nb, nc, List.length_append]; simp only [List.length_cons, List.length_nil]; omega
                      · show N - (pre.length + 1) < N - pre.length; omega

/-- The contract of ray.Way. -/
theorem way_calls (x y z d0 d1 d2 n : Int) (w : World) :
    Calls Try.prog 7 #[.agg #[.int .i64 x, .int .i64 y, .int .i64 z], .agg #[.int .i64 d0, .int .i64 d1, .int .i64 d2], .int .i64 n] w fun e w' =>
      ∃ v, e = .returned (.tuple #[v, .int .i64 (wayE x y z d0 d1 d2 n)]) ∧ w'.ownsRow w.heap.size 23 3 v (wayP x y z d0 d1 d2 n).length (cellsP (wayP x y z d0 d1 d2 n)) ∧ Below w.heap.size w w' := by
  by_cases h : mayB x y z = false ∨ n < 0 ∨ 256 < n ∨ (d0 = 0 ∧ d1 = 0 ∧ d2 = 0)
  · refine (way_no x y z d0 d1 d2 n w h).mono ?_
    rintro e w' ⟨rfl, hb⟩
    have hE : wayE x y z d0 d1 d2 n = if mayB x y z then 2 else 10 := by
      unfold wayE
      cases hm : mayB x y z
      · rfl
      · rw [hm] at h
        have h' : n < 0 ∨ 256 < n ∨ (d0 = 0 ∧ d1 = 0 ∧ d2 = 0) ∨ d0 < -1000 ∨ 1000 < d0 ∨ d1 < -1000 ∨ 1000 < d1 ∨ d2 < -1000 ∨ 1000 < d2 := by
          rcases h with h | h | h | h
          · cases h
          · exact .inl h
          · exact .inr (.inl h)
          · exact .inr (.inr (.inl h))
        rw [if_pos rfl, if_pos rfl, if_pos h']
    have hP : wayP x y z d0 d1 d2 n = [] := by
      unfold wayP
      rw [if_neg]
      rw [hE]; split <;> omega
    rw [hE, hP]
    exact ⟨.slice none 0 0, rfl, World.ownsRow_nil _ _ _ _, hb⟩
  · have hm : mayB x y z = true := by
      cases hm : mayB x y z
      · exact absurd (Or.inl hm) h
      · rfl
    exact way_yes x y z d0 d1 d2 n w hm (by omega) (by omega) (by omega)
end Go.Proofs.Ytdhanigngoniiaa
