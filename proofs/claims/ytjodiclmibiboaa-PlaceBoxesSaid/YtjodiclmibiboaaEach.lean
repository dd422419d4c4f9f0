/-
  The places of a box as an iterator: place.Each, and what its function value does with any loop body that leaves other cells alone.
-/
import Derived.RangeFuncNested
import Derived.RangeFuncBound
import Derived.RangeFuncCalls
import Derived.RangeFuncLeaves
import Derived.Shelf.Abstract
import Derived.Shelf.RegionOpen
import Derived.WalkKit
import Derived.OwnWalkIn
import Derived.TacticsInMore
import Derived.LoopNIn
import Derived.LoopIn
import Derived.WalkMore
import Derived.Test.YtjodiclmibiboaaBox
namespace Go.Proofs.Ytjodiclmibiboaa
open Go.RowKit Go.Shelf
set_option linter.unusedSimpArgs false
set_option linter.unusedVariables false
attribute [local go_sem] Oper.semAt_some

theorem scopeW {n : Nat} {P : Program} {c : Code} {Q : Exit → Act → World → Prop} {a : Act} {w : World} (h : c.wpIn Fence.wide n P (Exit.noGoto Q) a w) : (Code.scope c).wpIn Fence.wide n P Q a w := wpIn_wide.2 (wp_scope_straight (wpIn_wide.1 h))
theorem labelW {n : Nat} {P : Program} {l : Nat} {Q : Exit → Act → World → Prop} {a : Act} {w : World} (h : Q .normal a w) : (Code.label l).wpIn Fence.wide n P Q a w := wpIn_wide.2 (wp_label h)

theorem wpIn_world {F : Fence} {n : Nat} {P : Program} {c : Code} {Q : Exit → Act → World → Prop} {a : Act} {w : World} (I : World → Prop) (h : I w) (hh : ∀ W, I W → c.wpIn F n P Q a W) : c.wpIn F n P Q a w := hh w h

abbrev P3 := Int × Int × Int
/-- A row of places, by X; rows, by Z; layers, by Y. -/
def rx : Nat → Int → Int → Int → List P3
  | 0, _, _, _ => []
  | n + 1, x, y, z => (x, y, z) :: rx n (x + 1) y z
def rz (nx : Nat) (x : Int) : Nat → Int → Int → List P3
  | 0, _, _ => []
  | n + 1, y, z => rx nx x y z ++ rz nx x n y (z + 1)
def ry (nx nz : Nat) (x z : Int) : Nat → Int → List P3
  | 0, _ => []
  | n + 1, y => rz nx x nz y z ++ ry nx nz x z n (y + 1)

def boxPts (x y z a b c : Int) : List P3 :=
  if boxOk x y z a b c then ry (boxN x a).toNat (boxN z c).toNat (mnI x a) (mnI z c) (boxN y b).toNat (mnI y b) else []

/-- What a round keeps: all cells but the caller's own. -/
def KpS (S : Nat → Prop) (A B : World) : Prop := A.heap.size ≤ B.heap.size ∧ ∀ k o, A.heap[k]? = some o → o.isCells = true → ¬ S k → B.heap[k]? = some o
theorem KpS.refl (S : Nat → Prop) (A : World) : KpS S A A := ⟨Nat.le_refl _, fun _ _ h _ _ => h⟩
theorem KpS.trans {S : Nat → Prop} {A B C : World} (h : KpS S A B) (k : KpS S B C) : KpS S A C := ⟨Nat.le_trans h.1 k.1, fun i o hi hc hs => k.2 i o (h.2 i o hi hc hs) hc hs⟩
theorem KpS.turn {S : Nat → Prop} {w : World} (W : World) (l : Nat) (o o' : Obj) (_ : w.heap.size ≤ l) (h : W.heap[l]? = some o) (hc : o.isCells = false) (_ : o.isWalk = false) : KpS S W (W.putObj l o') :=
  ⟨(grownBy_putObj' W l o').size, fun k p hk hp _ => ((grownBy_putObj' W l o').block k (Array.getElem?_eq_some_iff.1 hk).1 (fun e => by cases e; rw [h] at hk; cases hk; rw [hc] at hp; cases hp)).trans hk⟩
theorem KpS.alloc {S : Nat → Prop} {A B : World} (h : KpS S A B) (o : Obj) : KpS S A (B.alloc o) :=
  ⟨by simp; have := h.1; omega, fun k p hk hp hs => (Below.heap_alloc B o k (Array.getElem?_eq_some_iff.1 (h.2 k p hk hp hs)).1).trans (h.2 k p hk hp hs)⟩
theorem KpS.set {S : Nat → Prop} {A B : World} (h : KpS S A B) {b i : Nat} (v : Value) (hb : S b) : KpS S A (B.setCell ⟨b, i, none⟩ v) :=
  ⟨by simp; exact h.1, fun k p hk hp hs => (Below.heap_setCell B ⟨b, i, none⟩ v k (fun e => hs (by rw [e]; exact hb))).trans (h.2 k p hk hp hs)⟩
theorem Blk.kp {S : Nat → Prop} {A B : World} {b : Nat} {cs : List Value} {T : TypeId} (h : Blk A b cs T) (k : KpS S A B) (hs : ¬ S b) : Blk B b cs T := k.2 b _ h rfl hs

theorem grown_of_below {A B : World} (h : Below A.heap.size A B) : A.grownBy B none := ⟨h.os, h.tape, h.output, h.size, fun k hk _ => h.block k hk⟩

theorem each_calls (x y z a b c : Int) (w : World) :
    Calls Try.prog 30 #[.agg #[.int .i64 x, .int .i64 y, .int .i64 z], .agg #[.int .i64 a, .int .i64 b, .int .i64 c]] w fun e w' =>
      e = .returned (.func (.func 41) #[] #[.pointer (some ⟨w.heap.size, 0, none⟩), .pointer (some ⟨w.heap.size + 1, 0, none⟩)]) ∧ w' = (w.alloc (.cells #[.int .i64 x, .int .i64 y, .int .i64 z] 23)).alloc (.cells #[.int .i64 a, .int .i64 b, .int .i64 c] 23) := by
  go_enter Try.func30, Try.ntmps30
  go_wp2_with fail
  refine bodyPost_ret (by simp [results, Try.results30, go_sem]) rfl ⟨rfl, rfl⟩

abbrev encP (p : P3) : Array Value := #[.agg #[.int .i64 p.1, .int .i64 p.2.1, .int .i64 p.2.2]]

set_option maxRecDepth 100000 in
set_option maxHeartbeats 8000000 in
theorem each_stops (n : Nat) (hn : 1 ≤ n) (x y z a b c : Int) (Ba Bb : Nat) (S : Nat → Prop) (w : World) (hS : ∀ k, S k → k < w.heap.size)
    (ha : Blk w Ba [.int .i64 x, .int .i64 y, .int .i64 z] 23) (hb : Blk w Bb [.int .i64 a, .int .i64 b, .int .i64 c] 23) :
    SeqStopsK Fence.wide n Try.prog 41 #[.pointer (some ⟨Ba, 0, none⟩), .pointer (some ⟨Bb, 0, none⟩)] encP (KpS S) (fun ys => ys = boxPts x y z a b c) (fun pre => pre <+: boxPts x y z a b c) (boxPts x y z a b c).length w := by
  intro l J Jx W hW hJ hJx hY h0
  refine callsIn_of_wp Try.func41 rfl trivial ?_ rfl
  simp only [Try.ntmps41, List.size_toArray, List.length_cons, List.length_nil, Nat.reduceAdd, Nat.reduceSub, Array.replicate_succ, Array.replicate_zero, List.push_toArray, List.append_toArray, List.nil_append, List.cons_append]
  replace ha := ha.below hW ha.lt
  replace hb := hb.below hW hb.lt
  have a0 := ha.cell 0 rfl
  have a1 := ha.cell 1 rfl
  have a2 := ha.cell 2 rfl
  have b0 := hb.cell 0 rfl
  have b1 := hb.cell 1 rfl
  have b2 := hb.cell 2 rfl
  cases hO : boxOk x y z a b c
  · have hpts : boxPts x y z a b c = [] := by unfold boxPts; rw [hO]; rfl
    have r1 : boxLow x y z a b c = .agg #[.int .i64 0, .int .i64 0, .int .i64 0] := by unfold boxLow; rw [hO]; rfl
    have r2 : boxHigh x y z a b c = .agg #[.int .i64 0, .int .i64 0, .int .i64 0] := by unfold boxHigh; rw [hO]; rfl
    have r3 : boxMany x y z a b c = 0 := by unfold boxMany; rw [hO]; rfl
    obtain ⟨E, hE⟩ : ∃ E, boxE x y z a b c = E := ⟨_, rfl⟩
    have hE0 : ¬ E = 0 := by
      rw [← hE]
      unfold boxE
      unfold boxOk at hO
      split
      · rename_i h
        rw [h] at hO
        split
        · omega
        · rename_i h2
          simp [h2] at hO
      · omega
    have hcall : ∀ wv, CallsIn Fence.wide (n - 1) Try.prog 27 #[.agg #[.int .i64 x, .int .i64 y, .int .i64 z], .agg #[.int .i64 a, .int .i64 b, .int .i64 c]] wv fun e w' =>
        e = .returned (.tuple #[.agg #[.int .i64 0, .int .i64 0, .int .i64 0], .agg #[.int .i64 0, .int .i64 0, .int .i64 0], .int .i64 0, .int .i64 E]) ∧ Below wv.heap.size wv w' := fun wv => by
      have h := box_calls x y z a b c wv
      rw [r1, r2, r3, hE] at h
      exact callsIn_wide.2 h
    clear r1 r2 r3 hO ha hb
    replace hE := Lib.hid hE
    replace hpts := Lib.hid hpts
    replace hcall := Lib.hid hcall
    clear hY
    gi_wp2
    refine scopeW ?_
    gi_wp2_with (refine ⟨trivial, ?_⟩; gi_at_call 27; refine (hcall.out _).mono ?_; rintro e w1 ⟨rfl, hb1⟩; replace hb1 := Lib.hid hb1)
    try rw [Exit.noGoto_ret]
    refine bodyPost_ret (results_none rfl _ _ _) rfl ?_
    refine ⟨⟨_, rfl⟩, .inl ⟨[], hpts.out.symm, ?_⟩⟩
    have hsz := hb1.out.size
    exact hJ [] W _ none h0 (grown_of_below ((hb1.out.alloc hsz _).alloc (by simp; omega) _)) (fun r e => by cases e)
  · have hpts : boxPts x y z a b c = ry (boxN x a).toNat (boxN z c).toNat (mnI x a) (mnI z c) (boxN y b).toNat (mnI y b) := by unfold boxPts; rw [hO]; rfl
    have r1 : boxLow x y z a b c = .agg #[.int .i64 (mnI x a), .int .i64 (mnI y b), .int .i64 (mnI z c)] := by unfold boxLow; rw [hO]; rfl
    have r2 : boxHigh x y z a b c = .agg #[.int .i64 (mxI x a), .int .i64 (mxI y b), .int .i64 (mxI z c)] := by unfold boxHigh; rw [hO]; rfl
    have hOo := hO
    unfold boxOk at hOo
    simp only [Bool.and_eq_true, Bool.not_eq_true'] at hOo
    obtain ⟨⟨hm1, hm2⟩, hlong⟩ := hOo
    have r4 : boxE x y z a b c = 0 := by unfold boxE; rw [hm1, hm2, hlong]; rfl
    have hi1 := mayB_iff.1 hm1
    have hi2 := mayB_iff.1 hm2
    have mx := mxmn x a
    have my := mxmn y b
    have mz := mxmn z c
    have nX : ((boxN x a).toNat : Int) = mxI x a - mnI x a + 1 := by unfold boxN; omega
    have nY : ((boxN y b).toNat : Int) = mxI y b - mnI y b + 1 := by unfold boxN; omega
    have nZ : ((boxN z c).toNat : Int) = mxI z c - mnI z c + 1 := by unfold boxN; omega
    have hcall : ∀ wv, CallsIn Fence.wide (n - 1) Try.prog 27 #[.agg #[.int .i64 x, .int .i64 y, .int .i64 z], .agg #[.int .i64 a, .int .i64 b, .int .i64 c]] wv fun e w' =>
        e = .returned (.tuple #[.agg #[.int .i64 (mnI x a), .int .i64 (mnI y b), .int .i64 (mnI z c)], .agg #[.int .i64 (mxI x a), .int .i64 (mxI y b), .int .i64 (mxI z c)], .int .i64 (boxMany x y z a b c), .int .i64 0]) ∧ Below wv.heap.size wv w' := fun wv => by
      have h := box_calls x y z a b c wv
      rw [r1, r2, r4] at h
      exact callsIn_wide.2 h
    have hX : -1048576 ≤ mnI x a ∧ mxI x a < 1048576 := by omega
    have hYb : -1048576 ≤ mnI y b ∧ mxI y b < 1048576 := by omega
    have hZ : -1048576 ≤ mnI z c ∧ mxI z c < 1048576 := by omega
    clear r1 r2 r4 hO hm1 hm2 hlong hi1 hi2 mx my mz ha hb
    generalize (boxN x a).toNat = NX at *
    generalize (boxN y b).toNat = NY at *
    generalize (boxN z c).toNat = NZ at *
    generalize mnI x a = X0 at *
    generalize mnI y b = Y0 at *
    generalize mnI z c = Z0 at *
    generalize mxI x a = X1 at *
    generalize mxI y b = Y1 at *
    generalize mxI z c = Z1 at *
    generalize boxMany x y z a b c = M at *
    obtain ⟨All, hAll⟩ : ∃ A, boxPts x y z a b c = A := ⟨_, rfl⟩
    rw [hAll] at hpts hY
    replace hpts := Lib.hid hpts
    replace hAll := Lib.hid hAll
    replace hcall := Lib.hid hcall
    replace hY := Lib.hid hY
    replace nX := Lib.hid nX
    replace nY := Lib.hid nY
    replace nZ := Lib.hid nZ
    gi_wp2
    refine scopeW ?_
    gi_wp2_with (refine ⟨trivial, ?_⟩; gi_at_call 27; refine (hcall.out _).mono ?_; rintro e w1 ⟨rfl, hb1⟩; replace hb1 := Lib.hid hb1)
    refine labelW ?_
    clear a0 a1 a2 b0 b1 b2
    gi_wp2
    have hsz := hb1.out.size
    refine wpIn_world (fun W2 => J [] W2 ∧ Blk W2 w1.heap.size [.int .i64 X0, .int .i64 Y0, .int .i64 Z0] 23 ∧ Blk W2 (w1.heap.size + 1) [.int .i64 X1, .int .i64 Y1, .int .i64 Z1] 23)
      ⟨hJ [] W _ none h0 (grown_of_below ((hb1.out.alloc hsz _).alloc (by simp; omega) _)) (fun r e => by cases e), (Blk.new w1 _ _).alloc _, Blk.new_at _ _ (by simp)⟩ ?_
    have s4 : ¬ S w1.heap.size := fun h => by have h1 := hS _ h; have h2 := hW.size; omega
    have s5 : ¬ S (w1.heap.size + 1) := fun h => by have h1 := hS _ h; have h2 := hW.size; omega
    clear h0 hb1 hsz
    generalize w1.heap.size + 1 = p5 at *
    generalize w1.heap.size = p4 at *
    rintro W2 ⟨h0, b4, b5⟩
    replace hJ := Lib.hid hJ
    replace hJx := Lib.hid hJx
    replace hW := Lib.hid hW
    replace hS := Lib.hid hS
    replace s4 := Lib.hid s4
    replace s5 := Lib.hid s5
    gi_loopw [8] (fun v wr => ∃ (pre : List P3) (m : Nat) (Y : Int), v = .int .i64 Y ∧ Y + m = Y1 + 1 ∧ Y0 ≤ Y ∧ All = pre ++ ry NX NZ X0 Z0 m Y ∧ J pre wr ∧ Blk wr p4 [.int .i64 X0, .int .i64 Y0, .int .i64 Z0] 23 ∧ Blk wr p5 [.int .i64 X1, .int .i64 Y1, .int .i64 Z1] 23) (fun v _ => (Y1 + 1 - intOf v).toNat)
    case atStart => exact ⟨[], NY, Y0, rfl, by have := nY.out; omega, Int.le_refl _, by rw [hpts.out]; rfl, h0, b4, b5⟩
    case round =>
      clear h0 b4 b5
      obtain ⟨pre, m, Y, rfl, hm, hY0, hpre, h0, b4, b5⟩ := hrel
      replace hpre := Lib.hid hpre
      replace h0 := Lib.hid h0
      have x4 := b4.cell 2 rfl
      have x5 := b5.cell 1 rfl
      cases m with
      | zero =>
        have hm' : ¬ Y ≤ Y1 := by omega
        clear hm
        gi_wp2
        try rw [Exit.noGoto_normal]
        refine bodyPost_end (results_none rfl _ _ _) rfl ?_
        refine ⟨⟨_, rfl⟩, .inl ⟨pre, ?_, h0.out⟩⟩
        have h := hpre.out
        simp only [ry, List.append_nil] at h
        rw [← h, hAll.out]
      | succ m =>
        have hm' : Y ≤ Y1 := by omega
        have wy : IntKind.i64.wrap (Y + 1) = Y + 1 := IntWalk.i64_in _ (by omega)
        replace hm := Lib.hid hm
        gi_wp2
        clear x4 x5
        gi_loopw [9] (fun v wr => ∃ (pre : List P3) (mz : Nat) (Z : Int), v = .int .i64 Z ∧ Z + mz = Z1 + 1 ∧ Z0 ≤ Z ∧ All = pre ++ (rz NX X0 mz Y Z ++ ry NX NZ X0 Z0 m (Y + 1)) ∧ J pre wr ∧ Blk wr p4 [.int .i64 X0, .int .i64 Y0, .int .i64 Z0] 23 ∧ Blk wr p5 [.int .i64 X1, .int .i64 Y1, .int .i64 Z1] 23) (fun v _ => (Z1 + 1 - intOf v).toNat)
        case atStart => exact ⟨pre, NZ, Z0, rfl, by have := nZ.out; omega, Int.le_refl _, hpre.out, h0.out, b4, b5⟩
        case round =>
          clear h0 b4 b5 hpre pre
          obtain ⟨pre, mz, Z, rfl, hmz, hZ0, hpre, h0, b4, b5⟩ := hrel
          replace hpre := Lib.hid hpre
          replace h0 := Lib.hid h0
          have x4 := b4.cell 0 rfl
          have x5 := b5.cell 2 rfl
          cases mz with
          | zero =>
            have hm2 : ¬ Z ≤ Z1 := by omega
            clear hmz
            gi_wp2
            refine ⟨⟨pre, m, Y + 1, rfl, ?_, by omega, hpre.out, h0.out, b4, b5⟩, ?_⟩
            · have := hm.out; omega
            · simp only [intOf]; omega
          | succ mz =>
            have hm2 : Z ≤ Z1 := by omega
            have wz : IntKind.i64.wrap (Z + 1) = Z + 1 := IntWalk.i64_in _ (by omega)
            replace hmz := Lib.hid hmz
            gi_wp2
            clear x4 x5
            gi_loopw [10] (fun v wr => ∃ (pre : List P3) (mx : Nat) (X : Int), v = .int .i64 X ∧ X + mx = X1 + 1 ∧ X0 ≤ X ∧ All = pre ++ (rx mx X Y Z ++ (rz NX X0 mz Y (Z + 1) ++ ry NX NZ X0 Z0 m (Y + 1))) ∧ J pre wr ∧ Blk wr p4 [.int .i64 X0, .int .i64 Y0, .int .i64 Z0] 23 ∧ Blk wr p5 [.int .i64 X1, .int .i64 Y1, .int .i64 Z1] 23) (fun v _ => (X1 + 1 - intOf v).toNat)
            case atStart => exact ⟨pre, NX, X0, rfl, by have := nX.out; omega, Int.le_refl _, by rw [hpre.out]; simp [rz], h0.out, b4, b5⟩
            case round =>
              clear h0 b4 b5 hpre pre
              obtain ⟨pre, mx, X, rfl, hmx, hX0, hpre, h0, b4, b5⟩ := hrel
              replace h0 := Lib.hid h0
              have x5 := b5.cell 0 rfl
              cases mx with
              | zero =>
                have hm3 : ¬ X ≤ X1 := by omega
                clear hmx
                replace hpre := Lib.hid hpre
                gi_wp2
                refine ⟨⟨pre, mz, Z + 1, rfl, ?_, by omega, ?_, h0.out, b4, b5⟩, ?_⟩
                · have := hmz.out; omega
                · rw [hpre.out]; simp [rx]
                · simp only [intOf]; omega
              | succ mx =>
                have hm3 : X ≤ X1 := by omega
                have wx : IntKind.i64.wrap (X + 1) = X + 1 := IntWalk.i64_in _ (by omega)
                have hpre2 : All = (pre ++ [(X, Y, Z)]) ++ (rx mx (X + 1) Y Z ++ (rz NX X0 mz Y (Z + 1) ++ ry NX NZ X0 Z0 m (Y + 1))) := by rw [hpre]; simp [rx]
                have hlen : pre.length < All.length := by rw [hpre]; simp [rx]
                obtain ⟨fn, tmps, assign, body, hy, hR⟩ := hY.out pre (X, Y, Z) wr h0.out hlen
                try dsimp only at hy
                replace hpre2 := Lib.hid hpre2
                clear hpre hlen
                replace hmx := Lib.hid hmx
                gi_wp2
                refine hR.mono ?_
                rintro e W3 (⟨rfl, hJ3, hk3⟩ | ⟨rfl, hJx3⟩)
                · replace b4 := b4.kp hk3 s4.out
                  replace b5 := b5.kp hk3 s5.out
                  clear hk3
                  replace hJ3 := Lib.hid hJ3
                  gi_wp2
                  refine ⟨⟨pre ++ [(X, Y, Z)], mx, X + 1, rfl, ?_, by omega, hpre2.out, hJ3.out, b4, b5⟩, ?_⟩
                  · have := hmx.out; omega
                  · simp only [intOf]; omega
                · replace hJx3 := Lib.hid hJx3
                  gi_wp2
                  try rw [Exit.noGoto_normal]
                  refine bodyPost_end (results_none rfl _ _ _) rfl ?_
                  exact ⟨⟨_, rfl⟩, .inr ⟨pre ++ [(X, Y, Z)], ⟨_, by rw [hAll.out]; exact hpre2.out.symm⟩, hJx3.out⟩⟩
end Go.Proofs.Ytjodiclmibiboaa
