/-
  The contract of the document's Each of layer 2.
-/
import Derived.Test.YtjodiclmibiboaaRBox
namespace Go.Proofs.Ytjodiclmibiboaa
open Go.RowKit
set_option linter.unusedSimpArgs false
set_option linter.unusedVariables false

def V3 (a b c : Int) : List Value := [.int .i64 a, .int .i64 b, .int .i64 c]
def cellsP (L : List (Int × Int × Int)) : List Value := L.flatMap fun p => V3 p.1 p.2.1 p.2.2
theorem cellsP_snoc (L : List (Int × Int × Int)) (p : Int × Int × Int) : cellsP (L ++ [p]) = cellsP L ++ V3 p.1 p.2.1 p.2.2 := by simp [cellsP]
theorem owns_form {W : World} {base : Nat} {e : TypeId} {sz : Nat} {v : Value} {n : Nat} {xs : List Value} (h : W.ownsRow base e sz v n xs) : ∃ a c, v = .slice a n c := by
  rcases h.2 with ⟨rfl, rfl⟩ | ⟨g, cap, cur, rfl, _⟩ <;> exact ⟨_, _, rfl⟩
theorem owns_below {W W1 : World} {base : Nat} {e : TypeId} {sz : Nat} {v : Value} {n : Nat} {xs : List Value} (h : W.ownsRow base e sz v n xs) (hb : Below W.heap.size W W1) : W1.ownsRow base e sz v n xs := by
  obtain ⟨h1, h2⟩ := h
  refine ⟨h1, ?_⟩
  rcases h2 with h2 | ⟨g, cap, cur, hv, hg, hh, r⟩
  · exact Or.inl h2
  · exact Or.inr ⟨g, cap, cur, hv, hg, (hb.block g (Array.getElem?_eq_some_iff.1 hh).1).trans hh, r⟩
theorem owns_mono {W : World} {base base' : Nat} {e : TypeId} {sz : Nat} {v : Value} {n : Nat} {xs : List Value} (h : W.ownsRow base e sz v n xs) (hb : base' ≤ base) : W.ownsRow base' e sz v n xs := by
  obtain ⟨h1, h2⟩ := h
  refine ⟨h1, ?_⟩
  rcases h2 with h2 | ⟨g, cap, cur, hv, hg, hh, r⟩
  · exact Or.inl h2
  · exact Or.inr ⟨g, cap, cur, hv, by omega, hh, r⟩
theorem Blk.grown {W W1 : World} {b : Nat} {cs : List Value} {T : TypeId} {row : Option Nat} (h : Blk W b cs T) (hg : W.grownBy W1 row) (hr : some b ≠ row) : Blk W1 b cs T := (hg.block b h.lt hr).trans h
theorem blk_news {W : World} {b : Nat} {cs : List Value} {T : TypeId} (h : Blk W b cs T) : ∀ j u, cs[j]? = some u → W.cell? ((⟨b, 0, none⟩ : Addr).add j) = some u := by
  intro j u hj
  have := h.cell j hj
  cases j <;> simpa [Addr.add] using this
theorem cellsP_at {L : List (Int × Int × Int)} {k : Nat} {p : Int × Int × Int} (h : L[k]? = some p) : (cellsP L)[k * 3]? = some (.int .i64 p.1) ∧ (cellsP L)[k * 3 + 1]? = some (.int .i64 p.2.1) ∧ (cellsP L)[k * 3 + 2]? = some (.int .i64 p.2.2) := by
  induction L generalizing k with
  | nil => cases h
  | cons q L ih =>
    cases k with
    | zero =>
      obtain rfl := Option.some.inj h
      exact ⟨rfl, rfl, rfl⟩
    | succ k =>
      have h' := ih (k := k) (by simpa using h)
      have e : ∀ j, (cellsP (q :: L))[(k + 1) * 3 + j]? = (cellsP L)[k * 3 + j]? := fun j => by
        show (V3 q.1 q.2.1 q.2.2 ++ cellsP L)[(k + 1) * 3 + j]? = _
        rw [List.getElem?_append_right (by simp [V3]; omega)]
        congr 1
        simp [V3]; omega
      have e0 := e 0
      simp only [Nat.add_zero] at e0
      rw [e0, e 1, e 2]
      exact h'
/-- A row of places, as they are read. -/
theorem row_at {W : World} {base n c k : Nat} {a : Option Addr} {L : List (Int × Int × Int)} {p : Int × Int × Int} (h : W.ownsRow base 23 3 (.slice a n c) L.length (cellsP L)) (hk : L[k]? = some p) :
    ∃ g cs, a = some ⟨g, 0, none⟩ ∧ base ≤ g ∧ Blk W g cs 23 ∧ cs[k * 3]? = some (.int .i64 p.1) ∧ cs[k * 3 + 1]? = some (.int .i64 p.2.1) ∧ cs[k * 3 + 2]? = some (.int .i64 p.2.2) := by
  have hlt : k < L.length := (List.getElem?_eq_some_iff.1 hk).1
  rcases h.2 with ⟨_, h2⟩ | ⟨g, cap, cur, hv, hg, hh, hc, _, hs, ht⟩
  · omega
  · obtain ⟨c0, c1, c2⟩ := cellsP_at hk
    have e : ∀ i v, i < L.length * 3 → (cellsP L)[i]? = some v → cur.toList[i]? = some v := fun i v hi hv => by
      rw [← ht, List.getElem?_take, if_pos hi] at hv
      exact hv
    refine ⟨g, cur.toList, by injection hv, hg, ?_, e _ _ (by omega) c0, e _ _ (by omega) c1, e _ _ (by omega) c2⟩
    show W.heap[g]? = _
    rw [hh]

/-- What the walk holds between two appends. -/
structure RE (w W : World) (p3 p5 p6 : Nat) (X0 Y0 Z0 X1 Y1 Z1 : Int) (v : Value) (pre : List P3) : Prop where
  b5 : Blk W p5 (V3 X0 Y0 Z0) 23
  b6 : Blk W p6 (V3 X1 Y1 Z1) 23
  own : W.ownsRow (p6 + 1) 23 3 v pre.length (cellsP pre)
  below : Below p3 w W
  lt : p6 < W.heap.size
  ord : p3 < p5 ∧ p5 < p6
theorem RE.down {w W W1 : World} {p3 p5 p6 : Nat} {X0 Y0 Z0 X1 Y1 Z1 : Int} {v : Value} {pre : List P3} (h : RE w W p3 p5 p6 X0 Y0 Z0 X1 Y1 Z1 v pre) (hb : Below W.heap.size W W1) : RE w W1 p3 p5 p6 X0 Y0 Z0 X1 Y1 Z1 v pre :=
  ⟨h.b5.below hb h.b5.lt, h.b6.below hb h.b6.lt, owns_below h.own hb, below_step h.below (by have := h.lt; have := h.ord; omega) hb, Nat.lt_of_lt_of_le h.lt hb.size, h.ord⟩
theorem RE.grow {w W W1 : World} {p3 p5 p6 : Nat} {X0 Y0 Z0 X1 Y1 Z1 : Int} {v v' : Value} {pre pre' : List P3} (h : RE w W p3 p5 p6 X0 Y0 Z0 X1 Y1 Z1 v pre) (hg : W.grownBy W1 v.ownBlock) (ho : W1.ownsRow (p6 + 1) 23 3 v' pre'.length (cellsP pre')) : RE w W1 p3 p5 p6 X0 Y0 Z0 X1 Y1 Z1 v' pre' := by
  have hlt := h.lt
  have o := h.ord
  have hk : ∀ k, v.ownBlock = some k → p6 + 1 ≤ k := fun k hk => (h.own.lt k hk).1
  have hne : ∀ b, b ≤ p6 → some b ≠ v.ownBlock := fun b hb e => by have := hk b e.symm; omega
  exact ⟨h.b5.grown hg (hne _ (by omega)), h.b6.grown hg (hne _ (Nat.le_refl _)), ho, h.below.grown hg (by omega) (fun k e => by have := hk k e; omega), Nat.lt_of_lt_of_le h.lt hg.size, o⟩

theorem info_place : (Try.prog.info? 23).map (fun i => (i.zero, i.size, i.bytes)) = some (some (.agg #[.int .i64 0, .int .i64 0, .int .i64 0]), 3, 24) := by kernel_rfl

set_option maxRecDepth 100000 in
set_option maxHeartbeats 8000000 in
theorem reach_calls (x y z a b c : Int) (w : World) :
    Calls Try.prog 29 #[.agg #[.int .i64 x, .int .i64 y, .int .i64 z], .agg #[.int .i64 a, .int .i64 b, .int .i64 c]] w fun e w' =>
      ∃ v, e = .returned v ∧ w'.ownsRow w.heap.size 23 3 v (boxPts x y z a b c).length (cellsP (boxPts x y z a b c)) ∧ Below w.heap.size w w' := by
  have hle := boxPts_le x y z a b c
  cases hO : boxOk x y z a b c
  · have hpts : boxPts x y z a b c = [] := by unfold boxPts; rw [hO]; rfl
    have r1 : boxLow x y z a b c = .agg #[.int .i64 0, .int .i64 0, .int .i64 0] := by unfold boxLow; rw [hO]; rfl
    have r2 : boxHigh x y z a b c = .agg #[.int .i64 0, .int .i64 0, .int .i64 0] := by unfold boxHigh; rw [hO]; rfl
    have r3 : boxMany x y z a b c = 0 := by unfold boxMany; rw [hO]; rfl
    obtain ⟨E, hE⟩ : ∃ E, boxE x y z a b c = E := ⟨_, rfl⟩
    have hE0 : ¬ E = 0 := by
      rw [← hE]
      unfold boxE
      unfold boxOk at hO
      split
      · rename_i h
        rw [h] at hO
        split
        · omega
        · rename_i h2
          simp [h2] at hO
      · omega
    rw [hpts]
    clear hpts hO hle
    go_enter Try.func29, Try.ntmps29
    go_wp2_with fail
    refine (rbox_calls _ _ _ _ _ _ _).mono ?_
    rintro e w1 ⟨rfl, hb⟩
    rw [r1, r2, r3, hE]
    clear r1 r2 r3
    replace hE := Lib.hid hE
    have HB := Lib.hid (below_step (((Below.refl w.heap.size w).alloc (by first | exact Nat.le_refl _ | (simp; done) | (simp; omega) | omega) _).alloc (by first | exact Nat.le_refl _ | (simp; done) | (simp; omega) | omega) _) (by first | exact Nat.le_refl _ | (simp; done) | (simp; omega) | omega) hb)
    have b0 := ((Blk.new_at (w := w) (n := w.heap.size) #[.int .i64 x, .int .i64 y, .int .i64 z] 23 (by simp)).alloc (.cells #[.int .i64 a, .int .i64 b, .int .i64 c] 23)).below hb (by first | exact Nat.le_refl _ | (simp; done) | (simp; omega) | omega)
    have b1 := (Blk.new_at (w := (w.alloc (.cells #[.int .i64 x, .int .i64 y, .int .i64 z] 23))) (n := w.heap.size + 1) #[.int .i64 a, .int .i64 b, .int .i64 c] 23 (by simp)).below hb (by first | exact Nat.le_refl _ | (simp; done) | (simp; omega) | omega)
    clear hb
    go_wp2_with fail
    try rw [Exit.noGoto_ret]
    have hsz := HB.out.size
    have HB2 := (HB.out.alloc hsz (.cells #[.int .i64 0, .int .i64 0, .int .i64 0] 23)).alloc (by simp; omega) (.cells #[.int .i64 0, .int .i64 0, .int .i64 0] 23)
    refine bodyPost_ret (v := .slice none 0 0) (by simp [results, Try.results29, go_sem]) rfl ⟨_, rfl, World.ownsRow_nil _ _ _ _, HB2⟩
  · have hpts : boxPts x y z a b c = ry (boxN x a).toNat (boxN z c).toNat (mnI x a) (mnI z c) (boxN y b).toNat (mnI y b) := by unfold boxPts; rw [hO]; rfl
    have r1 : boxLow x y z a b c = .agg #[.int .i64 (mnI x a), .int .i64 (mnI y b), .int .i64 (mnI z c)] := by unfold boxLow; rw [hO]; rfl
    have r2 : boxHigh x y z a b c = .agg #[.int .i64 (mxI x a), .int .i64 (mxI y b), .int .i64 (mxI z c)] := by unfold boxHigh; rw [hO]; rfl
    have hOo := hO
    unfold boxOk at hOo
    simp only [Bool.and_eq_true, Bool.not_eq_true'] at hOo
    obtain ⟨⟨hm1, hm2⟩, hlong⟩ := hOo
    have r4 : boxE x y z a b c = 0 := by unfold boxE; rw [hm1, hm2, hlong]; rfl
    have hi1 := mayB_iff.1 hm1
    have hi2 := mayB_iff.1 hm2
    have mx := mxmn x a
    have my := mxmn y b
    have mz := mxmn z c
    have nX : ((boxN x a).toNat : Int) = mxI x a - mnI x a + 1 := by unfold boxN; omega
    have nY : ((boxN y b).toNat : Int) = mxI y b - mnI y b + 1 := by unfold boxN; omega
    have nZ : ((boxN z c).toNat : Int) = mxI z c - mnI z c + 1 := by unfold boxN; omega
    have hMl := boxPts_len hO
    have hM1 : 1 ≤ boxMany x y z a b c := by
      have k1 := boxN_pos x a
      have k2 := boxN_pos y b
      have k3 := boxN_pos z c
      unfold boxMany
      rw [if_pos hO]
      exact Int.le_trans (by decide) (Int.mul_le_mul (Int.mul_le_mul k1 k2 (by omega) (by omega)) k3 (by omega) (by have := Int.mul_nonneg (show 0 ≤ boxN x a by omega) (show 0 ≤ boxN y b by omega); omega))
    have hX : -1048576 ≤ mnI x a ∧ mxI x a < 1048576 := by omega
    have hYb : -1048576 ≤ mnI y b ∧ mxI y b < 1048576 := by omega
    have hZ : -1048576 ≤ mnI z c ∧ mxI z c < 1048576 := by omega
    obtain ⟨M, hM⟩ : ∃ M, boxMany x y z a b c = M := ⟨_, rfl⟩
    rw [hM] at hM1
    obtain ⟨All, hAll⟩ : ∃ A, boxPts x y z a b c = A := ⟨_, rfl⟩
    rw [hAll] at hpts hle
    rw [hAll]
    have hcall : ∀ wv, Calls Try.prog 28 #[.agg #[.int .i64 x, .int .i64 y, .int .i64 z], .agg #[.int .i64 a, .int .i64 b, .int .i64 c]] wv fun e w' =>
        e = .returned (.tuple #[.agg #[.int .i64 (mnI x a), .int .i64 (mnI y b), .int .i64 (mnI z c)], .agg #[.int .i64 (mxI x a), .int .i64 (mxI y b), .int .i64 (mxI z c)], .int .i64 M, .int .i64 0]) ∧ Below wv.heap.size wv w' := fun wv => by
      have h := rbox_calls x y z a b c wv
      rw [r1, r2, r4, hM] at h
      exact h
    clear r1 r2 r4 hO hm1 hm2 hlong hi1 hi2 mx my mz hMl hM hAll
    generalize (boxN x a).toNat = NX at *
    generalize (boxN y b).toNat = NY at *
    generalize (boxN z c).toNat = NZ at *
    generalize mnI x a = X0 at *
    generalize mnI y b = Y0 at *
    generalize mnI z c = Z0 at *
    generalize mxI x a = X1 at *
    generalize mxI y b = Y1 at *
    generalize mxI z c = Z1 at *
    replace hpts := Lib.hid hpts
    replace hcall := Lib.hid hcall
    replace nX := Lib.hid nX
    replace nY := Lib.hid nY
    replace nZ := Lib.hid nZ
    replace hle := Lib.hid hle
    have hM0 : ¬ M = 0 := by omega
    have hMb : (M == 0) = false := by simpa using hM0
    have hMd : decide (M = 0) = false := decide_eq_false hM0
    clear hM1
    go_enter Try.func29, Try.ntmps29
    go_wp2_with fail
    refine (hcall.out _).mono ?_
    rintro e w1 ⟨rfl, hb⟩
    have HB := Lib.hid (below_step (((Below.refl w.heap.size w).alloc (by first | exact Nat.le_refl _ | (simp; done) | (simp; omega) | omega) _).alloc (by first | exact Nat.le_refl _ | (simp; done) | (simp; omega) | omega) _) (by first | exact Nat.le_refl _ | (simp; done) | (simp; omega) | omega) hb)
    have b0 := ((Blk.new_at (w := w) (n := w.heap.size) #[.int .i64 x, .int .i64 y, .int .i64 z] 23 (by simp)).alloc (.cells #[.int .i64 a, .int .i64 b, .int .i64 c] 23)).below hb (by first | exact Nat.le_refl _ | (simp; done) | (simp; omega) | omega)
    have b1 := (Blk.new_at (w := (w.alloc (.cells #[.int .i64 x, .int .i64 y, .int .i64 z] 23))) (n := w.heap.size + 1) #[.int .i64 a, .int .i64 b, .int .i64 c] 23 (by simp)).below hb (by first | exact Nat.le_refl _ | (simp; done) | (simp; omega) | omega)
    clear hb
    have hsz := b1.lt
    clear b0 b1
    go_upto_region 5 with (fail)
    refine wp_world (fun W2 => RE w W2 w.heap.size w1.heap.size (w1.heap.size + 1) X0 Y0 Z0 X1 Y1 Z1 (.slice none 0 0) []) ⟨(Blk.new w1 _ _).alloc _, Blk.new_at _ _ (by simp), World.ownsRow_nil _ _ _ _, (HB.out.alloc (by omega) _).alloc (by simp; omega) _, by simp, by omega⟩ ?_
    clear HB hsz
    generalize w1.heap.size + 1 = p6 at *
    generalize w1.heap.size = p5 at *
    rintro W2 hRE
    have y5 := hRE.b5.cell 1 rfl
    replace hRE := Lib.hid hRE
    go_wp2_with fail
    clear y5
    go_loopw [9, 10] (fun o v wr => ∃ (pre : List P3) (m : Nat) (Y : Int), v = .int .i64 Y ∧ Y + m = Y1 + 1 ∧ Y0 ≤ Y ∧ All = pre ++ ry NX NZ X0 Z0 m Y ∧ RE w wr w.heap.size p5 p6 X0 Y0 Z0 X1 Y1 Z1 o pre) (fun _ v _ => (Y1 + 1 - intOf v).toNat)
    case atStart => exact ⟨[], NY, Y0, rfl, by have := nY.out; omega, Int.le_refl _, by rw [hpts.out]; rfl, hRE.out⟩
    case round =>
      clear hRE
      obtain ⟨pre, m, Y, rfl, hm, hY0, hpre, hRE⟩ := hrel
      obtain ⟨va, vc, rfl⟩ := owns_form hRE.own
      replace hpre := Lib.hid hpre
      have x4 := hRE.b5.cell 2 rfl
      have x5 := hRE.b6.cell 1 rfl
      replace hRE := Lib.hid hRE
      cases m with
      | zero =>
        have hm' : ¬ Y ≤ Y1 := by omega
        clear hm
        go_wp2_with fail
        try rw [Exit.noGoto_ret]
        have h := hpre.out
        simp only [ry, List.append_nil] at h
        refine bodyPost_ret (v := .slice va pre.length vc) (by simp [results, Try.results29, go_sem]) rfl ⟨_, rfl, ?_, hRE.out.below⟩
        rw [h]
        have o := hRE.out.ord
        exact owns_mono hRE.out.own (by omega)
      | succ m =>
        have hm' : Y ≤ Y1 := by omega
        have wy : IntKind.i64.wrap (Y + 1) = Y + 1 := IntWalk.i64_in _ (by omega)
        replace hm := Lib.hid hm
        go_wp2_with fail
        clear x4 x5
        go_loopw [9, 11] (fun o v wr => ∃ (pre : List P3) (mz : Nat) (Z : Int), v = .int .i64 Z ∧ Z + mz = Z1 + 1 ∧ Z0 ≤ Z ∧ All = pre ++ (rz NX X0 mz Y Z ++ ry NX NZ X0 Z0 m (Y + 1)) ∧ RE w wr w.heap.size p5 p6 X0 Y0 Z0 X1 Y1 Z1 o pre) (fun _ v _ => (Z1 + 1 - intOf v).toNat)
        case atStart => exact ⟨pre, NZ, Z0, rfl, by have := nZ.out; omega, Int.le_refl _, hpre.out, hRE.out⟩
        case round =>
          clear hRE hpre
          obtain ⟨pre, mz, Z, rfl, hmz, hZ0, hpre, hRE⟩ := hrel
          obtain ⟨va, vc, rfl⟩ := owns_form hRE.own
          replace hpre := Lib.hid hpre
          have x4 := hRE.b5.cell 0 rfl
          have x5 := hRE.b6.cell 2 rfl
          replace hRE := Lib.hid hRE
          cases mz with
          | zero =>
            have hm2 : ¬ Z ≤ Z1 := by omega
            clear hmz
            go_wp2_with fail
            refine ⟨⟨pre, m, Y + 1, rfl, ?_, by omega, hpre.out, hRE.out⟩, ?_⟩
            · have := hm.out; omega
            · simp only [intOf]; omega
          | succ mz =>
            have hm2 : Z ≤ Z1 := by omega
            have wz : IntKind.i64.wrap (Z + 1) = Z + 1 := IntWalk.i64_in _ (by omega)
            replace hmz := Lib.hid hmz
            go_wp2_with fail
            clear x4 x5
            go_loopw [9, 12] (fun o v wr => ∃ (pre : List P3) (mx : Nat) (X : Int), v = .int .i64 X ∧ X + mx = X1 + 1 ∧ X0 ≤ X ∧ All = pre ++ (rx mx X Y Z ++ (rz NX X0 mz Y (Z + 1) ++ ry NX NZ X0 Z0 m (Y + 1))) ∧ RE w wr w.heap.size p5 p6 X0 Y0 Z0 X1 Y1 Z1 o pre) (fun _ v _ => (X1 + 1 - intOf v).toNat)
            case atStart => exact ⟨pre, NX, X0, rfl, by have := nX.out; omega, Int.le_refl _, by rw [hpre.out]; simp [rz], hRE.out⟩
            case round =>
              clear hRE hpre
              obtain ⟨pre, mx, X, rfl, hmx, hX0, hpre, hRE⟩ := hrel
              obtain ⟨va, vc, rfl⟩ := owns_form hRE.own
              have x5 := hRE.b6.cell 0 rfl
              have hl6 := hRE.lt
              replace hRE := Lib.hid hRE
              cases mx with
              | zero =>
                have hm3 : ¬ X ≤ X1 := by omega
                clear hmx
                replace hpre := Lib.hid hpre
                go_wp2_with fail
                refine ⟨⟨pre, mz, Z + 1, rfl, ?_, by omega, ?_, hRE.out⟩, ?_⟩
                · have := hmz.out; omega
                · rw [hpre.out]; simp [rx]
                · simp only [intOf]; omega
              | succ mx =>
                have hm3 : X ≤ X1 := by omega
                have wx : IntKind.i64.wrap (X + 1) = X + 1 := IntWalk.i64_in _ (by omega)
                have hpre2 : All = (pre ++ [(X, Y, Z)]) ++ (rx mx (X + 1) Y Z ++ (rz NX X0 mz Y (Z + 1) ++ ry NX NZ X0 Z0 m (Y + 1))) := by rw [hpre]; simp [rx]
                have hlen : pre.length < 4096 := by
                  have h4 := hle.out
                  rw [hpre] at h4
                  simp [rx] at h4
                  omega
                replace hpre2 := Lib.hid hpre2
                clear hpre
                replace hmx := Lib.hid hmx
                obtain ⟨i0, hi, hz0, hz1, hz2⟩ := info_parts info_place
                have q1 : Try.prog.underlying 42 = some (.slice 23) := by kernel_rfl
                have q2 : 0 < 3 := by decide
                have hRE4 := Lib.hid (hRE.out.down ((Below.refl _ _).alloc (Nat.le_refl _) (.cells #[.int .i64 X, .int .i64 Y, .int .i64 Z] 23)))
                go_wp2_with (at_builtin; refine wpList_append_own _ rfl _ _ 42 rfl (p6 + 1) 23 i0 (.agg #[.int .i64 0, .int .i64 0, .int .i64 0]) 3 24 q1 hi hz0 hz1 hz2 rfl q2 _ _ _ rfl hRE4.out.own ⟨wr.heap.size, 0, none⟩ 1 1 (V3 X Y Z) rfl rfl ?c1 ?c2 ?c3 ?c4 ?c5 ?c6)
                case c1 => exact blk_news (Blk.new wr _ _)
                case c2 => intro u hu; simp only [V3, List.mem_cons, List.not_mem_nil, or_false] at hu; rcases hu with rfl | rfl | rfl <;> rfl
                case c3 => unfold maxLen; omega
                case c4 => omega
                case c5 => simp; omega
                case c6 =>
                  intro v' W4 hown' hgrow hnil
                  have hRE5 := Lib.hid (hRE4.out.grow (pre' := pre ++ [(X, Y, Z)]) hgrow (by rw [cellsP_snoc, List.length_append]; exact hown'))
                  obtain ⟨va', vc', rfl⟩ := owns_form hown'
                  clear hgrow hnil hown' hRE4 hRE x5
                  go_wp2_with fail
                  refine ⟨⟨pre ++ [(X, Y, Z)], mx, X + 1, rfl, ?_, by omega, hpre2.out, ?_⟩, ?_⟩
                  · have := hmx.out; omega
                  · have h := hRE5.out; first | exact h | (rw [List.length_append] ; exact h) | (simp at h ⊢; exact h)
                  · simp only [intOf]; omega
end Go.Proofs.Ytjodiclmibiboaa
