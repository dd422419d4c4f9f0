/-
  The library's stable sort of ticks: a row that is sorted in place; insertion.
-/
import Derived.Test.YtlaodkolkoefgaaMg10
import Derived.Test.YtlaodkolkoefgaaMg14
import Derived.BigRegion
namespace Go.Proofs.Ytlaodkolkoefgaa
open Go.RowKit
set_option linter.unusedSimpArgs false
set_option linter.unusedVariables false

def rowL (n : Nat) (d : Fn') (R : List Value) : List Value := cellsT (lst n d) ++ R
theorem rowL_even {n k : Nat} {d : Fn'} {R : List Value} (h : k < n) : (rowL n d R)[k * 2]? = some (.int .i64 (d k).1) := by
  unfold rowL
  rw [List.getElem?_append_left (by rw [cellsT_len, lst_len]; omega)]
  exact (cellsT_at (lst_at d h)).1
theorem rowL_odd {n k : Nat} {d : Fn'} {R : List Value} (h : k < n) : (rowL n d R)[k * 2 + 1]? = some (.int .i64 (d k).2) := by
  unfold rowL
  rw [List.getElem?_append_left (by rw [cellsT_len, lst_len]; omega)]
  exact (cellsT_at (lst_at d h)).2
theorem rowL_len (n : Nat) (d : Fn') (R : List Value) : (rowL n d R).length = n * 2 + R.length := by unfold rowL; rw [List.length_append, cellsT_len, lst_len]
def updT (d : Fn') (i : Nat) (x : Ty) : Fn' := fun k => if k = i then x else d k
theorem rowL_set {n i : Nat} {d : Fn'} {R : List Value} (h : i < n) (x y : Int) : ((rowL n d R).set (i * 2) (.int .i64 x)).set (i * 2 + 1) (.int .i64 y) = rowL n (updT d i (x, y)) R := by
  apply List.ext_getElem?
  intro k
  rw [List.getElem?_set, List.getElem?_set, List.length_set, rowL_len]
  by_cases hk : k < n * 2
  · rcases Nat.mod_two_eq_zero_or_one k with hm | hm
    · have e : k = k / 2 * 2 := by omega
      have hj : k / 2 < n := by omega
      generalize k / 2 = j at *
      subst e
      rw [rowL_even hj, rowL_even hj, if_neg (by omega)]
      unfold updT
      by_cases hji : j = i
      · subst hji; rw [if_pos rfl, if_pos (by omega), if_pos rfl]
      · rw [if_neg (by omega), if_neg hji]
    · have e : k = k / 2 * 2 + 1 := by omega
      have hj : k / 2 < n := by omega
      generalize k / 2 = j at *
      subst e
      rw [rowL_odd hj, rowL_odd hj]
      unfold updT
      by_cases hji : j = i
      · subst hji; rw [if_pos rfl, if_pos (by omega), if_pos rfl]
      · rw [if_neg (by omega), if_neg (by omega), if_neg hji]
  · rw [if_neg (by omega), if_neg (by omega)]
    unfold rowL
    rw [List.getElem?_append_right (by rw [cellsT_len, lst_len]; omega), List.getElem?_append_right (by rw [cellsT_len, lst_len]; omega), cellsT_len, cellsT_len, lst_len, lst_len]
theorem updT_swap (d : Fn') (u v : Nat) : updT (updT d u (d v)) v (d u) = swapF d u v := by
  funext k
  unfold updT swapF
  by_cases h1 : k = u <;> by_cases h2 : k = v
  · subst h1 h2; rfl
  · subst h1; rw [if_neg h2, if_pos rfl, if_pos rfl]
  · subst h2; rw [if_pos rfl, if_neg h1, if_pos rfl]
  · rw [if_neg h2, if_neg h1, if_neg h1, if_neg h2]

/-- Block g holds a row of n ticks and what is spare. -/
def RowB (W : World) (g n : Nat) (d : Fn') (R : List Value) : Prop := Blk W g (rowL n d R) 56
section
variable {W W' : World} {g n : Nat} {d : Fn'} {R : List Value}
theorem RowB.c0 (h : RowB W g n d R) {k : Nat} (hk : k < n) : W.cell? ⟨g, k * 2, none⟩ = some (.int .i64 (d k).1) := Blk.cell h _ (rowL_even hk)
theorem RowB.c1 (h : RowB W g n d R) {k : Nat} (hk : k < n) : W.cell? ⟨g, k * 2 + 1, none⟩ = some (.int .i64 (d k).2) := Blk.cell h _ (rowL_odd hk)
theorem RowB.fz (h : RowB W g n d R) (i : Nat) : W.frozen? ⟨g, i, none⟩ = false := Blk.frozen h i
theorem RowB.glt (h : RowB W g n d R) : g < W.heap.size := Blk.lt h
theorem RowB.keep (h : RowB W g n d R) (hb : Below W.heap.size W W') : RowB W' g n d R := Blk.below h hb (Blk.lt h)
theorem RowB.drew (h : RowB W g n d R) : RowB W.drew g n d R := h
theorem RowB.drewN (h : RowB W g n d R) (m : Nat) : RowB (W.drewN m) g n d R := h
theorem RowB.swap (h : RowB W g n d R) {u v : Nat} (hu : u < n) (hv : v < n) :
    RowB ((((W.setCell ⟨g, u * 2, none⟩ (.int .i64 (d v).1)).setCell ⟨g, u * 2 + 1, none⟩ (.int .i64 (d v).2)).setCell ⟨g, v * 2, none⟩ (.int .i64 (d u).1)).setCell ⟨g, v * 2 + 1, none⟩ (.int .i64 (d u).2)) g n (swapF d u v) R := by
  have h1 := (((Blk.set h (u * 2) (.int .i64 (d v).1)).set (u * 2 + 1) (.int .i64 (d v).2)).set (v * 2) (.int .i64 (d u).1)).set (v * 2 + 1) (.int .i64 (d u).2)
  rw [rowL_set hu, rowL_set hv] at h1
  rw [← updT_swap]
  exact h1
end
theorem but_swap {W : World} {g : Nat} (a b c e : Nat) (x y z t : Value) : But g W ((((W.setCell ⟨g, a, none⟩ x).setCell ⟨g, b, none⟩ y).setCell ⟨g, c, none⟩ z).setCell ⟨g, e, none⟩ t) := ((((But.refl g W).setCell _ _).setCell _ _).setCell _ _).setCell _ _

/-- The order that a function value tells. -/
def CmpOk (cf : Ty → Ty → Int) : Prop := ∀ (a b c d : Int) (W : World), Calls Try.prog 40 #[.agg #[.int .i64 a, .int .i64 b], .agg #[.int .i64 c, .int .i64 d]] W fun e w' => e = .returned (.int .i64 (cf (a, b) (c, d))) ∧ Below W.heap.size W w'

set_option maxRecDepth 100000 in
set_option maxHeartbeats 8000000 in
theorem isort_calls (cf : Ty → Ty → Int) (hcmp : CmpOk cf) (lt : Ty → Ty → Bool) (ho : LtOk lt) (g n cap a b : Nat) (d : Fn') (R : List Value) (w : World) (hrow : RowB w g n d R) (hab : a ≤ b) (hbn : b ≤ n) (hnc : n ≤ cap) (hcap : cap ≤ maxLen) (hn : n ≤ 1000000)
    (hgood : ∀ p q, a ≤ p → p < q → q < b → decide (cf (d q) (d p) < 0) = lt (d q) (d p)) :
    Calls Try.prog 68 #[.slice (some ⟨g, 0, none⟩) n cap, .int .i64 a, .int .i64 b, .func (.func 40) #[] #[]] w fun e w' => e = .returned (.tuple #[]) ∧ ∃ d', RowB w' g n d' R ∧ But g w w' ∧ PermIn a b d d' ∧ SortedIn lt a b d' := by
  replace hgood := Lib.hid hgood
  replace hcmp := Lib.hid hcmp
  replace ho := Lib.hid ho
  unfold maxLen at hcap
  go_enter Try.func68, Try.ntmps68
  go_wp2_with fail
  go_loopw [8] (fun v W => ∃ (i : Nat) (e : Fn'), a + 1 ≤ i ∧ (i ≤ b ∨ (i = a + 1 ∧ e = d)) ∧ v = .int .i64 i ∧ RowB W g n e R ∧ But g w W ∧ PermIn a i d e ∧ SortedIn lt a i e) (fun v _ => b + 1 - (intOf v).toNat)
  case atStart => exact ⟨a + 1, d, Nat.le_refl _, Or.inr ⟨rfl, rfl⟩, by go_num, hrow, But.refl _ _, .refl, SortedIn.small (Nat.le_refl _)⟩
  case round =>
    obtain ⟨i, e, hai, hib, rfl, hre, hbu, hpe, hso⟩ := hrel
    clear hrow
    by_cases hlt : i < b
    · have hin : i < n := by omega
      have hpe0 := hpe
      replace hib := Lib.hid hib
      replace hre := Lib.hid hre
      replace hbu := Lib.hid hbu
      replace hpe := Lib.hid hpe
      replace hso := Lib.hid hso
      replace hpe0 := Lib.hid hpe0
      have hout : Hid (∀ k, i ≤ k → e k = d k) := fun k hk => hpe0.out.out (Or.inr hk)
      go_wp2_with fail
      go_loopw [9] (fun v W => ∃ (j : Nat) (f : Fn'), a ≤ j ∧ j ≤ i ∧ v = .int .i64 j ∧ RowB W g n f R ∧ But g w W ∧ PermIn a (i + 1) d f ∧ Ins lt a i j f ∧ f j = d i ∧ ∀ k, a ≤ k → k ≤ i → k ≠ j → ∃ p, a ≤ p ∧ p < i ∧ f k = d p) (fun v _ => (intOf v).toNat)
      case atStart => exact ⟨i, e, by omega, Nat.le_refl _, rfl, hre.out, hbu.out, hpe.out.mono (Nat.le_refl _) (by omega), Ins.start hso.out, hout.out i (Nat.le_refl _), fun k h1 h2 h3 => hpe0.out.from k h1 (by omega)⟩
      case round =>
        obtain ⟨j, f, haj, hji, rfl, hrf, hbf, hpf, hins, hfj, hfk⟩ := hrel
        have hjn : j < n := by omega
        replace hpf := Lib.hid hpf
        replace hins := Lib.hid hins
        replace hfj := Lib.hid hfj
        replace hfk := Lib.hid hfk
        replace hbf := Lib.hid hbf
        by_cases hja : a < j
        · obtain ⟨u, rfl⟩ : ∃ u, j = u + 1 := ⟨j - 1, by omega⟩
          have c0 := hrf.c0 hjn
          have c1 := hrf.c1 hjn
          have e0 := hrf.c0 (k := u) (by omega)
          have e1 := hrf.c1 (k := u) (by omega)
          have hg : decide (cf (f (u + 1)) (f u) < 0) = lt (f (u + 1)) (f u) := by
            obtain ⟨p, hp1, hp2, hp3⟩ := hfk.out u (by omega) (by omega) (by omega)
            rw [hfj.out, hp3]
            exact hgood.out p i hp1 hp2 hlt
          have hsw := hrf.swap hjn (show u < n by omega)
          have hst := Ins.step ho.out hins.out hja hji
          rw [Nat.add_sub_cancel] at hst
          have hps : PermIn a (i + 1) d (swapF f (u + 1) u) := .swap (u + 1) u ⟨by omega, by omega⟩ ⟨by omega, by omega⟩ hpf.out
          have hsu : swapF f (u + 1) u u = d i := by rw [swapF_right]; exact hfj.out
          have hsk : ∀ k, a ≤ k → k ≤ i → k ≠ u → ∃ p, a ≤ p ∧ p < i ∧ swapF f (u + 1) u k = d p := fun k h1 h2 h3 => by
            by_cases hk : k = u + 1
            · subst hk; rw [swapF_left]; exact hfk.out u (by omega) (by omega) (by omega)
            · rw [swapF_other hk h3]; exact hfk.out k h1 h2 hk
          have hdn : lt (f (u + 1)) (f u) = false → SortedIn lt a (i + 1) f := fun h => Ins.done ho.out hins.out hji (fun _ => by rw [Nat.add_sub_cancel]; exact h)
          have hcal := fun W => hcmp.out (f (u + 1)).1 (f (u + 1)).2 (f u).1 (f u).2 W
          have hgl := hrf.glt
          replace hps := Lib.hid hps
          replace hsu := Lib.hid hsu
          replace hsk := Lib.hid hsk
          clear hins hfk hfj
          generalize f (u + 1) = X at *
          generalize f u = Y at *
          obtain ⟨x, y⟩ := X
          obtain ⟨x', y'⟩ := Y
          simp only at c0 c1 e0 e1 hcal hsw
          replace hsw := Lib.hid hsw
          have k0 : ∀ p : Ext, (ext wr p).cell? ⟨g, (u + 1) * 2, none⟩ = some (.int .i64 x) := fun p => ((below_ext wr p).cell (p := ⟨g, _, none⟩) hgl).trans c0
          have k1 : ∀ p : Ext, (ext wr p).cell? ⟨g, (u + 1) * 2 + 1, none⟩ = some (.int .i64 y) := fun p => ((below_ext wr p).cell (p := ⟨g, _, none⟩) hgl).trans c1
          have k2 : ∀ p : Ext, (ext wr p).cell? ⟨g, u * 2, none⟩ = some (.int .i64 x') := fun p => ((below_ext wr p).cell (p := ⟨g, _, none⟩) hgl).trans e0
          have k3 : ∀ p : Ext, (ext wr p).cell? ⟨g, u * 2 + 1, none⟩ = some (.int .i64 y') := fun p => ((below_ext wr p).cell (p := ⟨g, _, none⟩) hgl).trans e1
          have z1 : (0 : Int) ≤ (u : Int) + 1 := by omega
          have z2 : ((u : Int) + 1).toNat = u + 1 := by omega
          have z3 : (u : Int) + 1 < (n : Int) := by omega
          have z4 : (u : Int) < (n : Int) := by omega
          have z5 : IntKind.i64.wrap ((u : Int) + 1 - 1) = (u : Int) := by rw [Int.add_sub_cancel]; exact IntWalk.i64_in _ (by omega)
          have z6 : decide ((a : Int) < (u : Int) + 1) = true := by simp; omega
          have z7 : (a : Int) < (u : Int) + 1 := by omega
          have z8 : IntKind.i64.wrap (u : Int) = (u : Int) := IntWalk.i64_in _ (by omega)
          cases hl : lt (x, y) (x', y')
          · rw [hl] at hg hst hdn
            have hd := hdn rfl
            have hcv : decide (cf (x, y) (x', y') < 0) = false := hg
            clear hst hdn hg
            generalize cf (x, y) (x', y') = c at *
            replace hcal := Lib.hid hcal
            replace hl := Lib.hid hl
            replace hd := Lib.hid hd
            clear c0 c1 e0 e1 hsw hps hsu hsk
            go_wp2_with fail
            refine wp_region_ext (by kernel_rfl) (by kernel_rfl) ?_
            repeat (quiet_step ((go_at_call 40; exact calls_ext_of (hcal.out _))))
            refine wpQuiet_nil ?_
            rintro _ ⟨pq, rfl⟩
            have B6 := below_ext wr pq
            clear k0 k1 k2 k3
            have r6 := hrf.keep B6
            have b6 := hbf.out.trans (But.of_below B6)
            replace r6 := Lib.hid r6
            replace b6 := Lib.hid b6
            clear B6
            go_wp2_with fail
            go_roundw
            case rel => exact ⟨i + 1, f, by omega, Or.inl (by omega), by go_num, r6.out, b6.out, hpf.out, hd.out⟩
            case measure => simp [intOf]; omega
          · rw [hl] at hg hst hdn
            have hs' := hst rfl
            have hcv : decide (cf (x, y) (x', y') < 0) = true := hg
            clear hst hdn hg
            generalize cf (x, y) (x', y') = c at *
            replace hcal := Lib.hid hcal
            replace hl := Lib.hid hl
            replace hs' := Lib.hid hs'
            clear c0 c1 e0 e1 hpf
            go_wp2_with fail
            refine wp_region_ext (by kernel_rfl) (by kernel_rfl) ?_
            repeat (quiet_step ((go_at_call 40; exact calls_ext_of (hcal.out _))))
            refine wpQuiet_nil ?_
            rintro _ ⟨pq, rfl⟩
            have B6 := below_ext wr pq
            have r6 := hrf.keep B6
            have b6 := hbf.out.trans (But.of_below B6)
            clear k0 k1 k2 k3 hsw hrf hbf hgl B6 hcal
            generalize ext wr pq = W at *
            have c0 := r6.c0 hjn
            have c1 := r6.c1 hjn
            have e0 := r6.c0 (k := u) (by omega)
            have e1 := r6.c1 (k := u) (by omega)
            have f0 := r6.fz ((u + 1) * 2)
            have f1 := r6.fz ((u + 1) * 2 + 1)
            have f2 := r6.fz (u * 2)
            have f3 := r6.fz (u * 2 + 1)
            have hgl := r6.glt
            have hsw := r6.swap hjn (show u < n by omega)
            have hbs := b6.trans (but_swap (W := W) (g := g) ((u + 1) * 2) ((u + 1) * 2 + 1) (u * 2) (u * 2 + 1) (.int .i64 (f u).1) (.int .i64 (f u).2) (.int .i64 (f (u + 1)).1) (.int .i64 (f (u + 1)).2))
            replace hsw := Lib.hid hsw
            replace hbs := Lib.hid hbs
            clear r6 b6
            go_wp2_with fail
            go_region
            all_goals
              go_wp2_with fail
              go_roundw
              case rel => exact ⟨u, swapF f (u + 1) u, by omega, by omega, by go_num, hsw.out, hbs.out.drew, hps.out, hs'.out, hsu.out, hsk.out⟩
              case measure => simp [intOf]
        · have hj : j = a := by omega
          subst hj
          have z6 : decide ((j : Int) < (j : Int)) = false := by simp
          have hd : SortedIn lt j (i + 1) f := Ins.done ho.out hins.out hji (fun h => absurd h (by omega))
          replace hd := Lib.hid hd
          replace hrf := Lib.hid hrf
          clear hins hfk hfj hja
          go_wp2_with fail
          go_quiet (fail)
          go_wp2_with fail
          go_roundw
          case rel => exact ⟨i + 1, f, by omega, Or.inl (by omega), by go_num, hrf.out.drewN _, hbf.out.drewN _, hpf.out, hd.out⟩
          case measure => simp [intOf]; omega
    · go_wp2_with fail
      refine bodyPost_end (results_none rfl _ _ _) rfl ?_
      rcases hib with hib | ⟨rfl, rfl⟩
      · have hib : i = b := by omega
        subst hib
        exact ⟨rfl, e, hre, hbu, hpe, hso⟩
      · exact ⟨rfl, e, hre, hbu, .refl, SortedIn.small (by omega)⟩
end Go.Proofs.Ytlaodkolkoefgaa
