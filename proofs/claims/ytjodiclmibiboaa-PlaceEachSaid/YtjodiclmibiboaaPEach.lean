/-
  A box has each place between its ends once, and no other one: PlaceEach gives true.
-/
import Derived.Test.YtjodiclmibiboaaEachR
import Derived.Test.YtjodiclmibiboaaInv
import Derived.Test.YtjodiclmibiboaaWorks02
namespace Go.Proofs.Ytjodiclmibiboaa
open Go.RowKit Go.Shelf
set_option linter.unusedSimpArgs false
set_option linter.unusedVariables false
attribute [local go_sem] Oper.semAt_some

/-- The statement's own blocks. -/
structure PB (w W : World) (p3 p4 p5 p6 p7 p8 : Nat) (x y z a b c p q r X0 Y0 Z0 X1 Y1 Z1 : Int) : Prop where
  below : Below p3 w W
  lt : p8 < W.heap.size
  ord : p3 < p4 ∧ p4 < p5 ∧ p5 < p6 ∧ p6 < p7 ∧ p7 < p8
  b3 : Blk W p3 [.int .i64 x, .int .i64 y, .int .i64 z] 23
  b4 : Blk W p4 [.int .i64 a, .int .i64 b, .int .i64 c] 23
  b5 : Blk W p5 [.int .i64 p, .int .i64 q, .int .i64 r] 23
  b6 : Blk W p6 [.bool false] 4
  b7 : Blk W p7 [.int .i64 X0, .int .i64 Y0, .int .i64 Z0] 23
  b8 : Blk W p8 [.int .i64 X1, .int .i64 Y1, .int .i64 Z1] 23
theorem PB.alloc {w W : World} {p3 p4 p5 p6 p7 p8 : Nat} {x y z a b c p q r X0 Y0 Z0 X1 Y1 Z1 : Int} (h : PB w W p3 p4 p5 p6 p7 p8 x y z a b c p q r X0 Y0 Z0 X1 Y1 Z1) (o : Obj) : PB w (W.alloc o) p3 p4 p5 p6 p7 p8 x y z a b c p q r X0 Y0 Z0 X1 Y1 Z1 :=
  ⟨h.below.alloc (by have := h.lt; have := h.ord; omega) o, by have := h.lt; simp; omega, h.ord, h.b3.alloc o, h.b4.alloc o, h.b5.alloc o, h.b6.alloc o, h.b7.alloc o, h.b8.alloc o⟩
theorem PB.drew {w W : World} {p3 p4 p5 p6 p7 p8 : Nat} {x y z a b c p q r X0 Y0 Z0 X1 Y1 Z1 : Int} (h : PB w W p3 p4 p5 p6 p7 p8 x y z a b c p q r X0 Y0 Z0 X1 Y1 Z1) : PB w W.drew p3 p4 p5 p6 p7 p8 x y z a b c p q r X0 Y0 Z0 X1 Y1 Z1 :=
  ⟨h.below.drew, h.lt, h.ord, h.b3, h.b4, h.b5, h.b6, h.b7, h.b8⟩

theorem PB.own {B : Nat} {w : World} {p3 p4 p5 p6 p7 p8 : Nat} {x y z a b c p q r X0 Y0 Z0 X1 Y1 Z1 : Int} (hw : p3 ≤ w.heap.size) (hB : p3 ≤ B) : OwnFrom B (fun (_ : List P3) W => PB w W p3 p4 p5 p6 p7 p8 x y z a b c p q r X0 Y0 Z0 X1 Y1 Z1) := fun s X Y row h hg hr =>
  have k : ∀ {b : Nat} {cs : List Value} {T : TypeId}, Blk X b cs T → Blk Y b cs T := fun hb => blk_kept hb hg (fun r e => (hr r e).2)
  ⟨ownFrom_below hw hB () X Y row h.below hg hr, Nat.lt_of_lt_of_le h.lt hg.size, h.ord, k h.b3, k h.b4, k h.b5, k h.b6, k h.b7, k h.b8⟩
theorem PB.down {w W W1 : World} {p3 p4 p5 p6 p7 p8 : Nat} {x y z a b c p q r X0 Y0 Z0 X1 Y1 Z1 : Int} (h : PB w W p3 p4 p5 p6 p7 p8 x y z a b c p q r X0 Y0 Z0 X1 Y1 Z1) (hb : Below W.heap.size W W1) : PB w W1 p3 p4 p5 p6 p7 p8 x y z a b c p q r X0 Y0 Z0 X1 Y1 Z1 :=
  ⟨below_step h.below (by have := h.lt; have := h.ord; omega) hb, Nat.lt_of_lt_of_le h.lt hb.size, h.ord, h.b3.below hb h.b3.lt, h.b4.below hb h.b4.lt, h.b5.below hb h.b5.lt, h.b6.below hb h.b6.lt, h.b7.below hb h.b7.lt, h.b8.below hb h.b8.lt⟩
theorem PB.set {w W : World} {p3 p4 p5 p6 p7 p8 : Nat} {x y z a b c p q r X0 Y0 Z0 X1 Y1 Z1 : Int} (h : PB w W p3 p4 p5 p6 p7 p8 x y z a b c p q r X0 Y0 Z0 X1 Y1 Z1) {k : Nat} (i : Nat) (v : Value) (hk : p8 < k) : PB w (W.setCell ⟨k, i, none⟩ v) p3 p4 p5 p6 p7 p8 x y z a b c p q r X0 Y0 Z0 X1 Y1 Z1 :=
  have o := h.ord
  ⟨h.below.setCell (p := ⟨k, i, none⟩) (show p3 ≤ k by omega) v, by simp; exact h.lt, h.ord, h.b3.set_other v (show p3 ≠ k by omega), h.b4.set_other v (show p4 ≠ k by omega), h.b5.set_other v (show p5 ≠ k by omega), h.b6.set_other v (show p6 ≠ k by omega), h.b7.set_other v (show p7 ≠ k by omega), h.b8.set_other v (show p8 ≠ k by omega)⟩
theorem blk_own {B : Nat} {b : Nat} (f : List P3 → List Value) {T : TypeId} : OwnFrom B (fun pre W => Blk W b (f pre) T) := fun s X Y row h hg hr => blk_kept h hg (fun r e => (hr r e).2)

set_option maxRecDepth 100000 in
set_option maxHeartbeats 16000000 in
theorem peach_walk (x y z a b c p q r : Int) (w : World) :
    Calls Try.prog 8 #[.agg #[.int .i64 x, .int .i64 y, .int .i64 z], .agg #[.int .i64 a, .int .i64 b, .int .i64 c], .agg #[.int .i64 p, .int .i64 q, .int .i64 r]] w fun e w' => e = .returned (.bool true) ∧ Below w.heap.size w w' := by
  have hcall : ∀ wv, CallsIn Fence.wide (9 - 1) Try.prog 27 #[.agg #[.int .i64 x, .int .i64 y, .int .i64 z], .agg #[.int .i64 a, .int .i64 b, .int .i64 c]] wv fun e w' =>
      ∃ X0 Y0 Z0 X1 Y1 Z1 : Int, (boxOk x y z a b c = true → X0 = mnI x a ∧ Y0 = mnI y b ∧ Z0 = mnI z c ∧ X1 = mxI x a ∧ Y1 = mxI y b ∧ Z1 = mxI z c) ∧
      e = .returned (.tuple #[.agg #[.int .i64 X0, .int .i64 Y0, .int .i64 Z0], .agg #[.int .i64 X1, .int .i64 Y1, .int .i64 Z1], .int .i64 (boxMany x y z a b c), .int .i64 (boxE x y z a b c)]) ∧ Below wv.heap.size wv w' := fun wv => by
    have h := box_calls x y z a b c wv
    refine callsIn_wide.2 (h.mono ?_)
    rintro e w' ⟨rfl, hb⟩
    cases hO : boxOk x y z a b c
    · refine ⟨0, 0, 0, 0, 0, 0, fun h => (by cases h), ?_, hb⟩
      unfold boxLow boxHigh
      rw [hO]; rfl
    · refine ⟨_, _, _, _, _, _, fun _ => ⟨rfl, rfl, rfl, rfl, rfl, rfl⟩, ?_, hb⟩
      unfold boxLow boxHigh
      rw [hO]; rfl
  replace hcall := Lib.hid hcall
  obtain ⟨M, hM⟩ : ∃ M, boxMany x y z a b c = M := ⟨_, rfl⟩
  obtain ⟨E, hE⟩ : ∃ E, boxE x y z a b c = E := ⟨_, rfl⟩
  rw [hM, hE] at hcall
  refine (callsIn_wide (n := 9)).1 ?_
  refine callsIn_of_wp_marks Try.func8 rfl trivial ?_ rfl
  simp only [Try.ntmps8, List.size_toArray, List.length_cons, List.length_nil, Nat.reduceAdd, Nat.reduceSub, Array.replicate_succ, Array.replicate_zero, List.push_toArray, List.append_toArray, List.nil_append, List.cons_append]
  replace hM := Lib.hid hM
  replace hE := Lib.hid hE
  gi_wp2_with (refine ⟨trivial, ?_⟩; gi_at_call 27; refine (hcall.out _).mono ?_; rintro e w1 ⟨X0, Y0, Z0, X1, Y1, Z1, hends, rfl, hb⟩; replace hb := Lib.hid hb; replace hends := Lib.hid hends)
  have hsz := hb.out.size
  simp only [World.size_alloc] at hsz
  have hB1 : Below w.heap.size w w1 := below_step (((((Below.refl _ _).alloc (Nat.le_refl _) _).alloc (by simp) _).alloc (by simp; omega) _).alloc (by simp; omega) _) (by simp; omega) hb.out
  refine wpIn_world (fun W => Below w.heap.size w W ∧ Blk W w.heap.size [.int .i64 x, .int .i64 y, .int .i64 z] 23 ∧ Blk W (w.heap.size + 1) [.int .i64 a, .int .i64 b, .int .i64 c] 23 ∧ Blk W (w.heap.size + 1 + 1) [.int .i64 p, .int .i64 q, .int .i64 r] 23 ∧ Blk W (w.heap.size + 1 + 1 + 1) [.bool false] 4 ∧
      Blk W w1.heap.size [.int .i64 X0, .int .i64 Y0, .int .i64 Z0] 23 ∧ Blk W (w1.heap.size + 1) [.int .i64 X1, .int .i64 Y1, .int .i64 Z1] 23) ⟨?_, ?_, ?_, ?_, ?_, ?_, ?_⟩ ?_
  · exact (hB1.alloc hB1.size _).alloc (by simp; omega) _
  · exact ((((((Blk.new w _ _).alloc _).alloc _).alloc _).below hb.out (by simp; omega)).alloc _).alloc _
  · exact (((((Blk.new_at _ _ (by simp)).alloc _).alloc _).below hb.out (by first | (simp; done) | (simp; omega))).alloc _).alloc _
  · exact ((((Blk.new_at _ _ (by simp)).alloc _).below hb.out (by simp)).alloc _).alloc _
  · exact (((Blk.new_at _ _ (by simp)).below hb.out (by simp)).alloc _).alloc _
  · exact (Blk.new w1 _ _).alloc _
  · exact Blk.new_at _ _ (by simp)
  clear hB1 hb
  obtain ⟨p3, hp3⟩ : ∃ v, w.heap.size = v := ⟨_, rfl⟩
  have o4 : w.heap.size + 1 = p3 + 1 := by omega
  have o5 : w.heap.size + 1 + 1 = p3 + 2 := by omega
  have o6 : w.heap.size + 1 + 1 + 1 = p3 + 3 := by omega
  have o8 : w1.heap.size < w1.heap.size + 1 := by omega
  generalize w1.heap.size + 1 = p8 at *
  generalize w1.heap.size = p7 at *
  generalize w.heap.size + 1 + 1 + 1 = p6 at *
  generalize w.heap.size + 1 + 1 = p5 at *
  generalize w.heap.size + 1 = p4 at *
  rw [hp3]
  rintro W0 ⟨HB, b3, b4, b5, b6, b7, b8⟩
  have hz := b8.lt
  have ord : p3 < p4 ∧ p4 < p5 ∧ p5 < p6 ∧ p6 < p7 ∧ p7 < p8 := by omega
  clear o4 o5 o6 o8 hsz
  have PH : PB w W0 p3 p4 p5 p6 p7 p8 x y z a b c p q r X0 Y0 Z0 X1 Y1 Z1 := ⟨HB, hz, ord, b3, b4, b5, b6, b7, b8⟩
  clear HB hz b3 b4 b5 b6 b7 b8
  refine wpIn_wide.2 ?_
  refine wp_region_frame (by kernel_rfl) (by kernel_rfl) (by kernel_rfl) [25, 26, 27, 28, 29, 30, 11, 12] (by kernel_rfl)
    (fun L f W => PB w W p3 p4 p5 p6 p7 p8 x y z a b c p q r X0 Y0 Z0 X1 Y1 Z1 ∧ f 3 = .pointer (some ⟨p3, 0, none⟩) ∧ f 4 = .pointer (some ⟨p4, 0, none⟩) ∧
      (L 0 = true → f 25 = .agg #[.int .i64 x, .int .i64 y, .int .i64 z]) ∧ (L 1 = true → f 26 = .agg #[.int .i64 a, .int .i64 b, .int .i64 c]) ∧ (L 2 = true → ∃ u, f 27 = .func (.func 41) #[] #[.pointer (some ⟨u, 0, none⟩), .pointer (some ⟨u + 1, 0, none⟩)] ∧ p8 < u ∧ Blk W u [.int .i64 x, .int .i64 y, .int .i64 z] 23 ∧ Blk W (u + 1) [.int .i64 a, .int .i64 b, .int .i64 c] 23) ∧
      (L 3 = true → f 28 = .agg #[.int .i64 a, .int .i64 b, .int .i64 c]) ∧ (L 4 = true → f 29 = .agg #[.int .i64 x, .int .i64 y, .int .i64 z]) ∧ (L 5 = true → ∃ u, f 30 = .func (.func 41) #[] #[.pointer (some ⟨u, 0, none⟩), .pointer (some ⟨u + 1, 0, none⟩)] ∧ p8 < u ∧ Blk W u [.int .i64 a, .int .i64 b, .int .i64 c] 23 ∧ Blk W (u + 1) [.int .i64 x, .int .i64 y, .int .i64 z] 23) ∧
      (L 6 = true → L 2 = true ∧ f 11 = f 27) ∧ (L 7 = true → L 5 = true ∧ f 12 = f 30)) ?_ ?_ ?_
  · exact ⟨PH.drew, rfl, rfl, by simp, by simp, by simp, by simp, by simp, by simp, by simp, by simp⟩
  · clear PH
    rintro L f W ⟨PH, e3, e4, l0, l1, l2, l3, l4, l5, l6, l7⟩ i o hoo hL hdep
    have hi : i < 8 := by
      have := (List.getElem?_eq_some_iff.1 hoo).1
      simpa using this
    have q3 : ev f (.tmp 3) = .pointer (some ⟨p3, 0, none⟩) := e3
    have q4 : ev f (.tmp 4) = .pointer (some ⟨p4, 0, none⟩) := e4
    obtain rfl | rfl | rfl | rfl | rfl | rfl | rfl | rfl : i = 0 ∨ i = 1 ∨ i = 2 ∨ i = 3 ∨ i = 4 ∨ i = 5 ∨ i = 6 ∨ i = 7 := by omega
    all_goals obtain rfl := Option.some.inj hoo
    all_goals
      clear hoo hi
      simp [Region.binds] at hdep
    · have c0 := PH.b3.cell 0 rfl
      have c1 := PH.b3.cell 1 rfl
      have c2 := PH.b3.cell 2 rfl
      refine fwp_value (v := .agg #[.int .i64 x, .int .i64 y, .int .i64 z]) (w' := W) ?_ ?_
      · simp only [execOp, q3]
        go_simp
      · simp only [updF, upd, Nat.reduceEqDiff, if_true, if_false, true_implies, reduceIte]
        repeat' first | assumption | exact trivial | exact rfl | exact fun _ => rfl | exact fun _ => by assumption | apply And.intro
    · have c0 := PH.b4.cell 0 rfl
      have c1 := PH.b4.cell 1 rfl
      have c2 := PH.b4.cell 2 rfl
      refine fwp_value (v := .agg #[.int .i64 a, .int .i64 b, .int .i64 c]) (w' := W) ?_ ?_
      · simp only [execOp, q4]
        go_simp
      · simp only [updF, upd, Nat.reduceEqDiff, if_true, if_false, true_implies, reduceIte]
        repeat' first | assumption | exact trivial | exact rfl | exact fun _ => rfl | exact fun _ => by assumption | apply And.intro
    · have q25 : ev f (.tmp 25) = .agg #[.int .i64 x, .int .i64 y, .int .i64 z] := l0 (by simp only [hdep])
      have q26 : ev f (.tmp 26) = .agg #[.int .i64 a, .int .i64 b, .int .i64 c] := l1 (by simp only [hdep])
      have hLn : ¬ L 6 = true := fun h => by have := (l6 h).1; rw [hL] at this; cases this
      refine fwp_call (g := 30) (args := #[.agg #[.int .i64 x, .int .i64 y, .int .i64 z], .agg #[.int .i64 a, .int .i64 b, .int .i64 c]]) (w' := W) ?_ ?_
      · simp only [execOp, q25, q26]
        go_simp
        simp only [ev_func]
        try go_simp
      · refine (each_calls _ _ _ _ _ _ W).mono ?_
        rintro e W' ⟨rfl, rfl⟩
        refine ⟨_, rfl, ?_⟩
        have hl8 := PH.lt
        have PH2 := (PH.alloc (.cells #[.int .i64 x, .int .i64 y, .int .i64 z] 23)).alloc (.cells #[.int .i64 a, .int .i64 b, .int .i64 c] 23)
        have hn1 : Blk ((W.alloc (.cells #[.int .i64 x, .int .i64 y, .int .i64 z] 23)).alloc (.cells #[.int .i64 a, .int .i64 b, .int .i64 c] 23)) W.heap.size [.int .i64 x, .int .i64 y, .int .i64 z] 23 := (Blk.new W _ _).alloc _
        have hn2 : Blk ((W.alloc (.cells #[.int .i64 x, .int .i64 y, .int .i64 z] 23)).alloc (.cells #[.int .i64 a, .int .i64 b, .int .i64 c] 23)) (W.heap.size + 1) [.int .i64 a, .int .i64 b, .int .i64 c] 23 := Blk.new_at _ _ (by simp)
        replace l5 : L 5 = true → ∃ u, f 30 = .func (.func 41) #[] #[.pointer (some ⟨u, 0, none⟩), .pointer (some ⟨u + 1, 0, none⟩)] ∧ p8 < u ∧ Blk ((W.alloc (.cells #[.int .i64 x, .int .i64 y, .int .i64 z] 23)).alloc (.cells #[.int .i64 a, .int .i64 b, .int .i64 c] 23)) u [.int .i64 a, .int .i64 b, .int .i64 c] 23 ∧ Blk ((W.alloc (.cells #[.int .i64 x, .int .i64 y, .int .i64 z] 23)).alloc (.cells #[.int .i64 a, .int .i64 b, .int .i64 c] 23)) (u + 1) [.int .i64 x, .int .i64 y, .int .i64 z] 23 := fun h => by
          obtain ⟨u, g1, g2, g3, g4⟩ := l5 h
          exact ⟨u, g1, g2, (g3.alloc _).alloc _, (g4.alloc _).alloc _⟩
        simp only [updF, upd, Nat.reduceEqDiff, if_true, if_false, true_implies, reduceIte]
        exact ⟨PH2, e3, e4, l0, l1, ⟨W.heap.size, rfl, hl8, hn1, hn2⟩, l3, l4, l5, fun h => absurd h hLn, l7⟩
    · have c0 := PH.b4.cell 0 rfl
      have c1 := PH.b4.cell 1 rfl
      have c2 := PH.b4.cell 2 rfl
      refine fwp_value (v := .agg #[.int .i64 a, .int .i64 b, .int .i64 c]) (w' := W) ?_ ?_
      · simp only [execOp, q4]
        go_simp
      · simp only [updF, upd, Nat.reduceEqDiff, if_true, if_false, true_implies, reduceIte]
        repeat' first | assumption | exact trivial | exact rfl | exact fun _ => rfl | exact fun _ => by assumption | apply And.intro
    · have c0 := PH.b3.cell 0 rfl
      have c1 := PH.b3.cell 1 rfl
      have c2 := PH.b3.cell 2 rfl
      refine fwp_value (v := .agg #[.int .i64 x, .int .i64 y, .int .i64 z]) (w' := W) ?_ ?_
      · simp only [execOp, q3]
        go_simp
      · simp only [updF, upd, Nat.reduceEqDiff, if_true, if_false, true_implies, reduceIte]
        repeat' first | assumption | exact trivial | exact rfl | exact fun _ => rfl | exact fun _ => by assumption | apply And.intro
    · have q28 : ev f (.tmp 28) = .agg #[.int .i64 a, .int .i64 b, .int .i64 c] := l3 (by simp only [hdep])
      have q29 : ev f (.tmp 29) = .agg #[.int .i64 x, .int .i64 y, .int .i64 z] := l4 (by simp only [hdep])
      have hLn : ¬ L 7 = true := fun h => by have := (l7 h).1; rw [hL] at this; cases this
      refine fwp_call (g := 30) (args := #[.agg #[.int .i64 a, .int .i64 b, .int .i64 c], .agg #[.int .i64 x, .int .i64 y, .int .i64 z]]) (w' := W) ?_ ?_
      · simp only [execOp, q28, q29]
        go_simp
        simp only [ev_func]
        try go_simp
      · refine (each_calls _ _ _ _ _ _ W).mono ?_
        rintro e W' ⟨rfl, rfl⟩
        refine ⟨_, rfl, ?_⟩
        have hl8 := PH.lt
        have PH2 := (PH.alloc (.cells #[.int .i64 a, .int .i64 b, .int .i64 c] 23)).alloc (.cells #[.int .i64 x, .int .i64 y, .int .i64 z] 23)
        have hn1 : Blk ((W.alloc (.cells #[.int .i64 a, .int .i64 b, .int .i64 c] 23)).alloc (.cells #[.int .i64 x, .int .i64 y, .int .i64 z] 23)) W.heap.size [.int .i64 a, .int .i64 b, .int .i64 c] 23 := (Blk.new W _ _).alloc _
        have hn2 : Blk ((W.alloc (.cells #[.int .i64 a, .int .i64 b, .int .i64 c] 23)).alloc (.cells #[.int .i64 x, .int .i64 y, .int .i64 z] 23)) (W.heap.size + 1) [.int .i64 x, .int .i64 y, .int .i64 z] 23 := Blk.new_at _ _ (by simp)
        replace l2 : L 2 = true → ∃ u, f 27 = .func (.func 41) #[] #[.pointer (some ⟨u, 0, none⟩), .pointer (some ⟨u + 1, 0, none⟩)] ∧ p8 < u ∧ Blk ((W.alloc (.cells #[.int .i64 a, .int .i64 b, .int .i64 c] 23)).alloc (.cells #[.int .i64 x, .int .i64 y, .int .i64 z] 23)) u [.int .i64 x, .int .i64 y, .int .i64 z] 23 ∧ Blk ((W.alloc (.cells #[.int .i64 a, .int .i64 b, .int .i64 c] 23)).alloc (.cells #[.int .i64 x, .int .i64 y, .int .i64 z] 23)) (u + 1) [.int .i64 a, .int .i64 b, .int .i64 c] 23 := fun h => by
          obtain ⟨u, g1, g2, g3, g4⟩ := l2 h
          exact ⟨u, g1, g2, (g3.alloc _).alloc _, (g4.alloc _).alloc _⟩
        simp only [updF, upd, Nat.reduceEqDiff, if_true, if_false, true_implies, reduceIte]
        exact ⟨PH2, e3, e4, l0, l1, l2, l3, l4, ⟨W.heap.size, rfl, hl8, hn1, hn2⟩, l6, fun h => absurd h hLn⟩
    · have hd : L 2 = true := by simp only [hdep]
      obtain ⟨u, g1, g2, g3, g4⟩ := l2 hd
      have q : ev f (.tmp 27) = .func (.func 41) #[] #[.pointer (some ⟨u, 0, none⟩), .pointer (some ⟨u + 1, 0, none⟩)] := g1
      refine fwp_value (v := .func (.func 41) #[] #[.pointer (some ⟨u, 0, none⟩), .pointer (some ⟨u + 1, 0, none⟩)]) (w' := W) ?_ ?_
      · simp only [execOp, q]
        go_simp
      · simp only [updF, upd, Nat.reduceEqDiff, if_true, if_false, true_implies, reduceIte]
        exact ⟨PH, e3, e4, l0, l1, l2, l3, l4, l5, ⟨hd, g1.symm⟩, l7⟩
    · have hd : L 5 = true := by simp only [hdep]
      obtain ⟨u, g1, g2, g3, g4⟩ := l5 hd
      have q : ev f (.tmp 30) = .func (.func 41) #[] #[.pointer (some ⟨u, 0, none⟩), .pointer (some ⟨u + 1, 0, none⟩)] := g1
      refine fwp_value (v := .func (.func 41) #[] #[.pointer (some ⟨u, 0, none⟩), .pointer (some ⟨u + 1, 0, none⟩)]) (w' := W) ?_ ?_
      · simp only [execOp, q]
        go_simp
      · simp only [updF, upd, Nat.reduceEqDiff, if_true, if_false, true_implies, reduceIte]
        exact ⟨PH, e3, e4, l0, l1, l2, l3, l4, l5, l6, ⟨hd, g1.symm⟩⟩
  clear PH
  rintro L f W ⟨PH, e3, e4, l0, l1, l2, l3, l4, l5, l6, l7⟩ hall
  obtain ⟨u1, f27, hu1, bu1, bv1⟩ := l2 (hall 2 (by show 2 < 8; omega))
  obtain ⟨u2, f30, hu2, bu2, bv2⟩ := l5 (hall 5 (by show 5 < 8; omega))
  obtain ⟨_, f11⟩ := l6 (hall 6 (by show 6 < 8; omega))
  obtain ⟨_, f12⟩ := l7 (hall 7 (by show 7 < 8; omega))
  rw [f27] at f11
  rw [f30] at f12
  simp only [putAll, f11, f12, f27, f30]
  clear hall l0 l1 l2 l3 l4 l5 l6 l7 e3 e4 f11 f12 f27 f30
  go_simp
  replace bu1 := Lib.hid bu1
  replace bv1 := Lib.hid bv1
  replace bu2 := Lib.hid bu2
  replace bv2 := Lib.hid bv2
  replace PH := Lib.hid PH
  have nf : ∀ (u v : Nat) (W : World), (binOp BinOp.eql 45 (.func (.func 41) #[] #[.pointer (some ⟨u, 0, none⟩), .pointer (some ⟨v, 0, none⟩)]) Value.nilFunc).run Try.prog W = .ok (.bool false) W := fun _ _ _ => by kernel_rfl
  have hp3' : p3 ≤ w.heap.size := by omega
  have hlt := PH.out.lt
  have hord := PH.out.ord
  by_cases hE0 : E = 0
  rotate_left
  · have hno : boxOk x y z a b c = false := by
      cases h : boxOk x y z a b c
      · rfl
      · exact absurd (hE.out.symm.trans (boxE_ok.2 h)) hE0
    have hpts : boxPts x y z a b c = [] := by unfold boxPts; rw [hno]; rfl
    have hM0 : M = 0 := by rw [← hM.out]; unfold boxMany; rw [hno]; rfl
    clear hno
    replace hpts := Lib.hid hpts
    subst hM0
    gi_wp2
    refine wpIn_rangeFunc_ownH rfl (by omega) (gf := 41) rfl trivial (enters_of Try.func41 (by kernel_rfl) rfl) (each_stops (9 - 1) (by omega) x y z a b c u1 (u1 + 1) (fun _ => False) W (fun _ h => h.elim) bu1.out bv1.out) (fun h k => h.trans k) (fun W' l o o' h1 h2 h3 h4 => KpS.turn (w := W) W' l o o' h1 h2 h3 h4) (Below.refl _ _) (fun _ => rfl)
      (fun _ W => PB w W p3 p4 p5 p6 p7 p8 x y z a b c p q r X0 Y0 Z0 X1 Y1 Z1) (fun _ _ _ => False) (PB.own hp3' (by omega)) (fun _ _ _ _ _ hs _ _ => hs) PH.out (fun _ _ _ => True) (fun _ _ _ _ _ _ hs _ _ => hs) ?assign ?body ?done ?stop
    case assign =>
      intro l pre x' W' K hi hK
      gi_wp2
      exact hK _ _ (KeepsFrom.refl _ _) (KpS.refl _ _) hi trivial
    case body =>
      intro l pre x' a' W' _ _ _ _ hlen
      rw [hpts.out] at hlen
      simp at hlen
    case done =>
      rintro D xs Wd hD _ PH2 hK
      have hDl := (Array.getElem?_eq_some_iff.1 hK).1
      replace PH2 := Lib.hid PH2
      have hww : w.heap.size ≤ D := by have := PH.out.below.size; omega
      gi_wp2_with (refine ⟨trivial, ?_⟩; gi_at_call 15; refine (callsIn_wide.2 (works_calls _)).mono ?_; rintro e w5 ⟨rfl, hb5⟩; have PH5 := Lib.hid (PH2.out.down hb5); have c65 := PH5.out.b6.cell 0 rfl; have f65 := PH5.out.b6.frozen 0; replace hb5 := Lib.hid hb5)
      have hK5 := (hb5.out.block D hDl).trans hK
      have hDp : D ≠ p6 := by omega
      have hK' := (Below.heap_setCell w5 ⟨p6, 0, none⟩ (.bool true) D hDp).trans hK5
      refine ⟨by simp, .inl ⟨_, _, rfl, run_takeDeferred hK', ?_⟩⟩
      have hc6 := cell_kept (World.cell?_setCell_same' w5 ⟨p6, 0, none⟩ (.bool true) (by rw [c65]; rfl)) (grownBy_putObj' _ D (.deferred none)) (fun r e => by cases e; exact ⟨_, hK', rfl⟩)
      refine ⟨.bool true, ?_, rfl, ?_⟩
      · simp [results, Try.f8, go_sem, hc6]
      · have hbl := (PH5.out.below.setCell (p := ⟨p6, 0, none⟩) (show p3 ≤ p6 by omega) (.bool true)).trans (belowK_b (w := w) hp3' _ D _ (.deferred none) (by omega) hK' rfl rfl)
        rw [hp3]
        exact hbl
    case stop =>
      intro D c' pre W' _ _ h _
      exact h.elim
  · subst hE0
    gi_wp2
    have hok : boxOk x y z a b c = true := boxE_ok.1 hE.out
    refine each_range (n := 9) (s := 47) (v := 15) (lim := W.heap.size + 1) (by omega) (u1 := u2) (u2 := u2 + 1) (fun k => k = W.heap.size ∨ k = W.heap.size + 1) rfl (by intro k hk; simp; omega) ((bu2.out.alloc _).alloc _) ((bv2.out.alloc _).alloc _)
      (fun pre W' => (Blk W' W.heap.size [.int .i64 (cnt (p, q, r) pre)] 3 ∧ Blk W' (W.heap.size + 1) [.int .i64 pre.length] 3) ∧ PB w W' p3 p4 p5 p6 p7 p8 x y z a b c p q r X0 Y0 Z0 X1 Y1 Z1) (fun _ _ _ => False)
      (OwnFrom.and (OwnFrom.and (blk_own (fun pre => [.int .i64 (cnt (p, q, r) pre)])) (blk_own (fun pre => [.int .i64 pre.length]))) (PB.own hp3' (by simp; omega))) (fun _ _ _ _ _ hs _ _ => hs)
      ⟨⟨(Blk.new W _ _).alloc _, Blk.new_at _ _ (by simp)⟩, (PH.out.alloc _).alloc _⟩ ?assign ?body ?done ?stop
    case assign =>
      rintro l pre ⟨q0, q1, q2⟩ W' K ⟨⟨bf, bk⟩, PH2⟩ hK
      have hk2 := bk.lt
      replace bf := Lib.hid bf
      replace bk := Lib.hid bk
      replace PH2 := Lib.hid PH2
      gi_wp2
      exact hK _ _ ((KeepsOthers.alloc _ _).from _) ((KpS.refl _ _).alloc _) ⟨⟨bf.out.alloc _, bk.out.alloc _⟩, PH2.out.alloc _⟩ ⟨W'.heap.size, hk2, Blk.new W' _ _, rfl⟩
    case body =>
      rintro l pre ⟨q0, q1, q2⟩ a' W' hl hr ⟨⟨bf, bk⟩, PH2⟩ ⟨Bx, hBx, bx, rfl⟩ hlen
      simp only [List.setIfInBounds_toArray, List.set_cons_succ, List.set_cons_zero]
      have x0 := bx.cell 0 rfl
      have x1 := bx.cell 1 rfl
      have x2 := bx.cell 2 rfl
      have y0 := PH2.b5.cell 0 rfl
      have y1 := PH2.b5.cell 1 rfl
      have y2 := PH2.b5.cell 2 rfl
      have k0 := bk.cell 0 rfl
      have k1 := bk.frozen 0
      have g0 := bf.cell 0 rfl
      have g1 := bf.frozen 0
      have hle4 := boxPts_le a b c x y z
      have hcl : cnt (p, q, r) pre ≤ pre.length := List.countP_le_length
      obtain ⟨kk, hkk⟩ : ∃ k, pre.length = k := ⟨_, rfl⟩
      obtain ⟨cc, hcc⟩ : ∃ k, cnt (p, q, r) pre = k := ⟨_, rfl⟩
      rw [hkk] at hlen hcl bk k0
      rw [hcc] at hcl bf g0
      have v1 : IntKind.i64.wrap ((kk : Int) + 1) = (kk : Int) + 1 := IntWalk.i64_in _ (by omega)
      have v2 : IntKind.i64.wrap ((cc : Int) + 1) = (cc : Int) + 1 := IntWalk.i64_in _ (by omega)
      have e1 : (((pre ++ [(q0, q1, q2)]).length : Nat) : Int) = (kk : Int) + 1 := by rw [List.length_append, hkk]; simp
      have l1 := bk.lt
      have l2 := bf.lt
      have n1 : ¬ W.heap.size + 1 = W.heap.size := by omega
      have n2 : ¬ W.heap.size = W.heap.size + 1 := by omega
      replace e1 := Lib.hid e1
      replace bk := Lib.hid bk
      replace bf := Lib.hid bf
      replace PH2 := Lib.hid PH2
      replace hkk := Lib.hid hkk
      clear hlen hle4 hcl bx
      by_cases h : q0 = p ∧ q1 = q ∧ q2 = r
      · have e2 : ((cnt (p, q, r) (pre ++ [(q0, q1, q2)]) : Nat) : Int) = (cc : Int) + 1 := by rw [cnt_snoc, if_pos (by rw [h.1, h.2.1, h.2.2]), hcc]; simp
        obtain ⟨rfl, rfl, rfl⟩ := h
        replace e2 := Lib.hid e2
        replace hcc := Lib.hid hcc
        gi_wp2
        refine ⟨((KeepsOthers.setCell _ _ _).trans (KeepsOthers.setCell _ _ _)).from _, ((KpS.refl _ _).set _ (.inr rfl)).set _ (.inl rfl), ⟨?_, ?_⟩, (PH2.out.set 0 _ (by omega)).set 0 _ (by omega)⟩
        · rw [e2.out]; exact (bf.out.set_other _ n2).set 0 _
        · rw [e1.out]; exact (bk.out.set 0 _).set_other _ n1
      · have e2 : ((cnt (p, q, r) (pre ++ [(q0, q1, q2)]) : Nat) : Int) = (cc : Int) := by rw [cnt_snoc, if_neg (fun e => h (by simp only [Prod.mk.injEq] at e; exact e)), hcc]; simp
        have h' : ¬ q0 = p ∨ (q0 = p ∧ ¬ q1 = q) ∨ (q0 = p ∧ q1 = q ∧ ¬ q2 = r) := by omega
        clear h
        replace e2 := Lib.hid e2
        replace hcc := Lib.hid hcc
        rcases h' with h' | ⟨rfl, h'⟩ | ⟨rfl, rfl, h'⟩
        all_goals
          gi_wp2
          refine ⟨(KeepsOthers.setCell _ _ _).from _, (KpS.refl _ _).set _ (.inr rfl), ⟨?_, ?_⟩, PH2.out.set 0 _ (by omega)⟩
          · rw [e2.out]; exact bf.out.set_other _ n2
          · rw [e1.out]; exact bk.out.set 0 _
    case done =>
      rintro D xs Wd hD rfl ⟨⟨bf, bk⟩, PH2⟩ hK
      obtain ⟨rfl, rfl, rfl, rfl, rfl, rfl⟩ := hends.out hok
      have hl := boxPts_len hok
      rw [hM.out, boxPts_swap] at hl
      have hc := boxPts_cnt hok p q r
      rw [boxPts_swap] at hc
      rw [hl] at bk
      have hDl := (Array.getElem?_eq_some_iff.1 hK).1
      have hww : w.heap.size ≤ D := by have := PH.out.below.size; simp at hD; omega
      have hD6 : p8 < D := by simp at hD; omega
      have k0 := bk.cell 0 rfl
      have y0 := PH2.b5.cell 0 rfl
      have y1 := PH2.b5.cell 1 rfl
      have y2 := PH2.b5.cell 2 rfl
      have a0 := PH2.b7.cell 0 rfl
      have a1 := PH2.b7.cell 1 rfl
      have a2 := PH2.b7.cell 2 rfl
      have b0 := PH2.b8.cell 0 rfl
      have b1 := PH2.b8.cell 1 rfl
      have b2 := PH2.b8.cell 2 rfl
      replace PH2 := Lib.hid PH2
      clear hl hD bk
      by_cases hin : inBox x y z a b c p q r
      · rw [if_pos hin] at hc
        obtain ⟨⟨i1, i2⟩, ⟨i3, i4⟩, i5, i6⟩ := hin
        rw [hc] at bf
        have g0 := bf.cell 0 rfl
        clear bf hc
        gi_wp2_with (refine ⟨trivial, ?_⟩; gi_at_call 15; refine (callsIn_wide.2 (works_calls _)).mono ?_; rintro e w5 ⟨rfl, hb5⟩; have PH5 := Lib.hid (PH2.out.down hb5); have c65 := PH5.out.b6.cell 0 rfl; have f65 := PH5.out.b6.frozen 0; replace hb5 := Lib.hid hb5)
        have hK5 := (hb5.out.block D hDl).trans hK
        have hDp : D ≠ p6 := by omega
        have hK' := (Below.heap_setCell w5 ⟨p6, 0, none⟩ (.bool true) D hDp).trans hK5
        refine ⟨by simp, .inl ⟨_, _, rfl, run_takeDeferred hK', ?_⟩⟩
        have hc6 := cell_kept (World.cell?_setCell_same' w5 ⟨p6, 0, none⟩ (.bool true) (by rw [c65]; rfl)) (grownBy_putObj' _ D (.deferred none)) (fun r e => by cases e; exact ⟨_, hK', rfl⟩)
        refine ⟨.bool true, ?_, rfl, ?_⟩
        · simp [results, Try.f8, go_sem, hc6]
        · have hbl := (PH5.out.below.setCell (p := ⟨p6, 0, none⟩) (show p3 ≤ p6 by omega) (.bool true)).trans (belowK_b (w := w) hp3' _ D _ (.deferred none) (by omega) hK' rfl rfl)
          rw [hp3]
          exact hbl
      · rw [if_neg hin] at hc
        rw [hc] at bf
        have g0 := bf.cell 0 rfl
        have hout : p < mnI x a ∨ (mnI x a ≤ p ∧ mxI x a < p) ∨ (mnI x a ≤ p ∧ p ≤ mxI x a ∧ q < mnI y b) ∨ (mnI x a ≤ p ∧ p ≤ mxI x a ∧ mnI y b ≤ q ∧ mxI y b < q) ∨ (mnI x a ≤ p ∧ p ≤ mxI x a ∧ mnI y b ≤ q ∧ q ≤ mxI y b ∧ r < mnI z c) ∨ (mnI x a ≤ p ∧ p ≤ mxI x a ∧ mnI y b ≤ q ∧ q ≤ mxI y b ∧ mnI z c ≤ r ∧ mxI z c < r) := by
          unfold inBox at hin; omega
        clear bf hc hin
        rcases hout with i1 | ⟨i1, i2⟩ | ⟨i1, i2, i3⟩ | ⟨i1, i2, i3, i4⟩ | ⟨i1, i2, i3, i4, i5⟩ | ⟨i1, i2, i3, i4, i5, i6⟩
        all_goals
          try (have d1 : decide (r ≤ mxI z c) = false := decide_eq_false (by omega))
          gi_wp2_with (refine ⟨trivial, ?_⟩; gi_at_call 15; refine (callsIn_wide.2 (works_calls _)).mono ?_; rintro e w5 ⟨rfl, hb5⟩; have PH5 := Lib.hid (PH2.out.down hb5); have c65 := PH5.out.b6.cell 0 rfl; have f65 := PH5.out.b6.frozen 0; replace hb5 := Lib.hid hb5)
          have hK5 := (hb5.out.block D hDl).trans hK
          have hDp : D ≠ p6 := by omega
          have hK' := (Below.heap_setCell w5 ⟨p6, 0, none⟩ (.bool true) D hDp).trans hK5
          refine ⟨by simp, .inl ⟨_, _, rfl, run_takeDeferred hK', ?_⟩⟩
          have hc6 := cell_kept (World.cell?_setCell_same' w5 ⟨p6, 0, none⟩ (.bool true) (by rw [c65]; rfl)) (grownBy_putObj' _ D (.deferred none)) (fun r e => by cases e; exact ⟨_, hK', rfl⟩)
          refine ⟨.bool true, ?_, rfl, ?_⟩
          · simp [results, Try.f8, go_sem, hc6]
          · have hbl := (PH5.out.below.setCell (p := ⟨p6, 0, none⟩) (show p3 ≤ p6 by omega) (.bool true)).trans (belowK_b (w := w) hp3' _ D _ (.deferred none) (by omega) hK' rfl rfl)
            rw [hp3]
            exact hbl
    case stop =>
      intro D c' pre W' _ _ h _
      exact h.elim
end Go.Proofs.Ytjodiclmibiboaa
