/-
  The library's stable sort of ticks: symmetric merging, one tick on a side. (Printed by wip/sortm.py.)
-/
import Derived.Test.YtlaodkolkoefgaaMg22
import Derived.Deep.Cut
import Derived.Deep.DeepCutAuto
namespace Go.Proofs.Ytlaodkolkoefgaa
open Go.RowKit
set_option linter.unusedSimpArgs false
set_option linter.unusedVariables false

set_option maxRecDepth 100000 in
set_option maxHeartbeats 8000000 in
theorem merge_one (cf : Ty → Ty → Int) (hcmp : CmpOk cf) (lt : Ty → Ty → Bool) (ho : LtOk lt) (g n cap : Nat) (R : List Value) (hnc : n ≤ cap) (hcap : cap ≤ maxLen) (hn : n ≤ 1000000) (a m b : Nat) (d : Fn') (w : World) (hrow : RowB w g n d R) (ham : a < m) (hmb : m < b) (hbn : b ≤ n)
    (hs1 : SortedIn lt a m d) (hs2 : SortedIn lt m b d) (hgood : GoodM cf lt a m b d) (h1 : m - a = 1) :
    Calls Try.prog 69 #[.slice (some ⟨g, 0, none⟩) n cap, .int .i64 a, .int .i64 m, .int .i64 b, .func (.func 40) #[] #[]] w fun e w' => e = .returned (.tuple #[]) ∧ ∃ d', RowB w' g n d' R ∧ But g w w' ∧ PermIn a b d d' ∧ SortedIn lt a b d' := by
  replace hgood := Lib.hid hgood
  replace hcmp := Lib.hid hcmp
  replace ho := Lib.hid ho
  replace hs1 := Lib.hid hs1
  replace hs2 := Lib.hid hs2
  unfold maxLen at hcap
  have x1 : IntKind.i64.wrap ((m : Int) - (a : Int)) = ((m - a : Nat) : Int) := by rw [IntWalk.i64_in _ (by omega)]; omega
  have x2 : IntKind.i64.wrap ((b : Int) - (m : Int)) = ((b - m : Nat) : Int) := by rw [IntWalk.i64_in _ (by omega)]; omega

  have y1 : ((m - a : Nat) : Int) = 1 := by omega
  go_enter Try.func69, Try.ntmps69
  go_wp2_with fail
  go_loopw [10, 11] (fun v u W => ∃ (i j : Nat), m ≤ i ∧ i ≤ j ∧ j ≤ b ∧ v = .int .i64 i ∧ u = .int .i64 j ∧ RowB W g n d R ∧ But g w W ∧ (m < i → lt (d (i - 1)) (d a) = true) ∧ (j < b → lt (d j) (d a) = false)) (fun v u _ => (intOf u).toNat - (intOf v).toNat)
  case atStart => exact ⟨m, b, Nat.le_refl _, by omega, Nat.le_refl _, rfl, rfl, hrow, But.refl _ _, fun h => absurd h (by omega), fun h => absurd h (by omega)⟩
  case round =>
    obtain ⟨i, j, hmi, hij, hjb, rfl, rfl, hre, hbu, hlo, hhi⟩ := hrel
    clear hrow
    by_cases hlt : i < j
    · obtain ⟨h, hh⟩ : ∃ h, h = (i + j) / 2 := ⟨_, rfl⟩
      have hI : ((i : Int) + (j : Int)) / 2 = (h : Int) := by omega
      have hih : i ≤ h := by omega
      have hhj : h < j := by omega
      replace hh := Lib.hid hh
      replace hlo := Lib.hid hlo
      replace hhi := Lib.hid hhi
      replace hbu := Lib.hid hbu
      go_wp2_with fail

      have c0 := hre.c0 (k := h) (by omega)
      have c1 := hre.c1 (k := h) (by omega)
      have e0 := hre.c0 (k := a) (by omega)
      have e1 := hre.c1 (k := a) (by omega)
      have hg := hgood.out a h (by omega) (by omega) (by omega) (by omega)
      have hgl := hre.glt
      have z3 : (h : Int) < (n : Int) := by omega
      have z4 : (a : Int) < (n : Int) := by omega
      obtain ⟨X, hX⟩ : ∃ X, X = d h := ⟨_, rfl⟩
      obtain ⟨Y, hY⟩ : ∃ Y, Y = d a := ⟨_, rfl⟩
      rw [← hX] at c0 c1
      rw [← hY] at e0 e1
      rw [← hX, ← hY] at hg
      replace hX := Lib.hid hX
      replace hY := Lib.hid hY
      have hcal := fun W => hcmp.out X.1 X.2 Y.1 Y.2 W
      obtain ⟨x, y⟩ := X
      obtain ⟨x', y'⟩ := Y
      simp only at c0 c1 e0 e1 hcal
      have k0 : ∀ p : Ext, (ext wr p).cell? ⟨g, h * 2, none⟩ = some (.int .i64 x) := fun p => ((below_ext wr p).cell (p := ⟨g, _, none⟩) hgl).trans c0
      have k1 : ∀ p : Ext, (ext wr p).cell? ⟨g, h * 2 + 1, none⟩ = some (.int .i64 y) := fun p => ((below_ext wr p).cell (p := ⟨g, _, none⟩) hgl).trans c1
      have k2 : ∀ p : Ext, (ext wr p).cell? ⟨g, a * 2, none⟩ = some (.int .i64 x') := fun p => ((below_ext wr p).cell (p := ⟨g, _, none⟩) hgl).trans e0
      have k3 : ∀ p : Ext, (ext wr p).cell? ⟨g, a * 2 + 1, none⟩ = some (.int .i64 y') := fun p => ((below_ext wr p).cell (p := ⟨g, _, none⟩) hgl).trans e1
      generalize cf (x, y) (x', y') = c at hg hcal
      replace hcal := Lib.hid hcal
      clear c0 c1 e0 e1
      cases hl : lt (x, y) (x', y')
      · as_aux_lemma =>
          rw [hl] at hg
          have hlv : lt (d h) (d a) = false := by rw [← hX.out, ← hY.out]; exact hl
          replace hl := Lib.hid hl
          replace hlv := Lib.hid hlv
          refine wp_region_ext (by kernel_rfl) (by kernel_rfl) ?_
          repeat (quiet_step ((go_at_call 40; exact calls_ext_of (hcal.out _))))
          refine wpQuiet_nil ?_
          rintro _ ⟨pq, rfl⟩
          have B6 := below_ext wr pq
          clear k0 k1 k2 k3
          have r6 := hre.keep B6
          have b6 := hbu.out.trans (But.of_below B6)
          replace r6 := Lib.hid r6
          replace b6 := Lib.hid b6
          clear B6
          go_wp2_with fail
          go_roundw
          case rel => exact ⟨i, h, hmi, by omega, by omega, by go_num, by go_num, r6.out, b6.out, hlo.out, fun _ => hlv.out⟩
          case measure => simp [intOf]; omega
      · as_aux_lemma =>
          rw [hl] at hg
          have hlv : lt (d h) (d a) = true := by rw [← hX.out, ← hY.out]; exact hl
          replace hl := Lib.hid hl
          replace hlv := Lib.hid hlv
          refine wp_region_ext (by kernel_rfl) (by kernel_rfl) ?_
          repeat (quiet_step ((go_at_call 40; exact calls_ext_of (hcal.out _))))
          refine wpQuiet_nil ?_
          rintro _ ⟨pq, rfl⟩
          have B6 := below_ext wr pq
          clear k0 k1 k2 k3
          have r6 := hre.keep B6
          have b6 := hbu.out.trans (But.of_below B6)
          replace r6 := Lib.hid r6
          replace b6 := Lib.hid b6
          clear B6
          go_wp2_with fail
          go_roundw
          case rel => exact ⟨h + 1, j, by omega, by omega, hjb, by go_num, by go_num, r6.out, b6.out, fun _ => by rw [Nat.add_sub_cancel]; exact hlv.out, hhi.out⟩
          case measure => simp [intOf]; omega

    · have hj : i = j := by omega
      subst hj
      have h1 : ∀ k, a + 1 ≤ k → k < i → lt (d k) (d a) = true := fun k k1 k2 => mono_right ho.out (x := 0) hs2.out (k := k) (h := i - 1) (by omega) (by omega) (by omega) (hlo (by omega))
      have h2 : ∀ k, i ≤ k → k < b → lt (d k) (d a) = false := fun k k1 k2 => mono_right' ho.out hs2.out (k := k) (h := i) (by omega) k1 k2 (hhi (by omega))
      clear hlo hhi
      replace h1 := Lib.hid h1
      replace h2 := Lib.hid h2
      replace hbu := Lib.hid hbu
      go_wp2_with fail
      go_loopw [13] (fun v W => ∃ (k : Nat) (f : Fn'), a ≤ k ∧ k + 1 ≤ i ∧ v = .int .i64 k ∧ RowB W g n f R ∧ But g w W ∧ PermIn a b d f ∧ (∀ q, a ≤ q → q < k → f q = d (q + 1)) ∧ f k = d a ∧ ∀ q, k < q → f q = d q) (fun v _ => i - (intOf v).toNat)
      case atStart => exact ⟨a, d, Nat.le_refl _, by omega, rfl, hre, hbu.out, .refl, fun q q1 q2 => absurd q2 (by omega), rfl, fun q _ => rfl⟩
      case round =>
        obtain ⟨k, f, hak, hki, rfl, hrf, hbf, hpf, hf1, hf2, hf3⟩ := hrel
        clear hre
        replace hpf := Lib.hid hpf
        replace hbf := Lib.hid hbf
        by_cases hlt : k + 1 < i
        · have hps : PermIn a b d (swapF f k (k + 1)) := .swap k (k + 1) ⟨by omega, by omega⟩ ⟨by omega, by omega⟩ hpf.out
          have g1 : ∀ q, a ≤ q → q < k + 1 → swapF f k (k + 1) q = d (q + 1) := fun q q1 q2 => by
            by_cases hq : q = k
            · subst hq; rw [swapF_left]; exact hf3 _ (by omega)
            · rw [swapF_other hq (by omega)]; exact hf1 q q1 (by omega)
          have g2 : swapF f k (k + 1) (k + 1) = d a := by rw [swapF_right]; exact hf2
          have g3 : ∀ q, k + 1 < q → swapF f k (k + 1) q = d q := fun q q1 => by rw [swapF_other (by omega) (by omega)]; exact hf3 q (by omega)
          clear hf1 hf2 hf3
          replace hps := Lib.hid hps
          replace g1 := Lib.hid g1
          replace g2 := Lib.hid g2
          replace g3 := Lib.hid g3
          have q1 : (k : Int) < (i : Int) - 1 := by omega
          have hsw := hrf.swap (u := k) (v := k + 1) (by omega) (by omega)
          have c0 := hrf.c0 (k := k) (by omega)
          have c1 := hrf.c1 (k := k) (by omega)
          have e0 := hrf.c0 (k := k + 1) (by omega)
          have e1 := hrf.c1 (k := k + 1) (by omega)
          have f0 := hrf.fz ((k) * 2)
          have f1 := hrf.fz ((k) * 2 + 1)
          have f2 := hrf.fz ((k + 1) * 2)
          have f3 := hrf.fz ((k + 1) * 2 + 1)
          have hgl := hrf.glt
          have hbs := hbf.out.trans (but_swap (W := wr) (g := g) ((k) * 2) ((k) * 2 + 1) ((k + 1) * 2) ((k + 1) * 2 + 1) (.int .i64 (f (k + 1)).1) (.int .i64 (f (k + 1)).2) (.int .i64 (f (k)).1) (.int .i64 (f (k)).2))
          have z1 : (0 : Int) ≤ (k : Int) + 1 := by omega
          have z2 : ((k : Int) + 1).toNat = k + 1 := by omega
          have z3 : (k : Int) + 1 < (n : Int) := by omega
          have z4 : (k : Int) < (n : Int) := by omega
          have z5 : IntKind.i64.wrap ((k : Int) + 1) = (k : Int) + 1 := IntWalk.i64_in _ (by omega)
          replace hsw := Lib.hid hsw
          replace hbs := Lib.hid hbs
          go_wp2_with fail
          go_region
          all_goals
            go_wp2_with fail
            go_roundw
            case rel => exact ⟨k + 1, swapF f k (k + 1), by omega, by omega, by go_num, hsw.out, hbs.out.drew, hps.out, g1.out, g2.out, g3.out⟩
            case measure => simp [intOf]; omega

        · have hk : i = k + 1 := by omega
          subst hk
          have hd : SortedIn lt a b f := sorted_up ho.out (i := k + 1) (by omega) (by omega) (hs2.out.sub (by omega) (Nat.le_refl _)) h1.out h2.out (fun q q1 q2 => hf1 q q1 (by omega)) (by rw [Nat.add_sub_cancel]; exact hf2) (fun q q1 _ => hf3 q (by omega))
          clear hf1 hf2 hf3
          replace hd := Lib.hid hd
          have q1 : ¬ (k : Int) < ((k + 1 : Nat) : Int) - 1 := by omega
          go_wp2_with fail
          first | refine bodyPost_ret (results_none rfl _ _ _) rfl ?_ | refine bodyPost_end (results_none rfl _ _ _) rfl ?_
          exact ⟨rfl, f, hrf, hbf.out, hpf.out, hd.out⟩

set_option maxRecDepth 100000 in
set_option maxHeartbeats 8000000 in
theorem merge_last (cf : Ty → Ty → Int) (hcmp : CmpOk cf) (lt : Ty → Ty → Bool) (ho : LtOk lt) (g n cap : Nat) (R : List Value) (hnc : n ≤ cap) (hcap : cap ≤ maxLen) (hn : n ≤ 1000000) (a m b : Nat) (d : Fn') (w : World) (hrow : RowB w g n d R) (ham : a < m) (hmb : m < b) (hbn : b ≤ n)
    (hs1 : SortedIn lt a m d) (hs2 : SortedIn lt m b d) (hgood : GoodM cf lt a m b d) (h1 : ¬ m - a = 1) (h2 : b - m = 1) :
    Calls Try.prog 69 #[.slice (some ⟨g, 0, none⟩) n cap, .int .i64 a, .int .i64 m, .int .i64 b, .func (.func 40) #[] #[]] w fun e w' => e = .returned (.tuple #[]) ∧ ∃ d', RowB w' g n d' R ∧ But g w w' ∧ PermIn a b d d' ∧ SortedIn lt a b d' := by
  replace hgood := Lib.hid hgood
  replace hcmp := Lib.hid hcmp
  replace ho := Lib.hid ho
  replace hs1 := Lib.hid hs1
  replace hs2 := Lib.hid hs2
  unfold maxLen at hcap
  have x1 : IntKind.i64.wrap ((m : Int) - (a : Int)) = ((m - a : Nat) : Int) := by rw [IntWalk.i64_in _ (by omega)]; omega
  have x2 : IntKind.i64.wrap ((b : Int) - (m : Int)) = ((b - m : Nat) : Int) := by rw [IntWalk.i64_in _ (by omega)]; omega

  have y1 : ¬ ((m - a : Nat) : Int) = 1 := by omega
  have y1b : (((m - a : Nat) : Int) == 1) = false := by simp; omega
  have y2 : ((b - m : Nat) : Int) = 1 := by omega
  go_enter Try.func69, Try.ntmps69
  go_wp2_with fail
  go_loopw [14, 15] (fun v u W => ∃ (i j : Nat), a ≤ i ∧ i ≤ j ∧ j ≤ m ∧ v = .int .i64 i ∧ u = .int .i64 j ∧ RowB W g n d R ∧ But g w W ∧ (a < i → lt (d m) (d (i - 1)) = false) ∧ (j < m → lt (d m) (d j) = true)) (fun v u _ => (intOf u).toNat - (intOf v).toNat)
  case atStart => exact ⟨a, m, Nat.le_refl _, by omega, Nat.le_refl _, rfl, rfl, hrow, But.refl _ _, fun h => absurd h (by omega), fun h => absurd h (by omega)⟩
  case round =>
    obtain ⟨i, j, hmi, hij, hjb, rfl, rfl, hre, hbu, hlo, hhi⟩ := hrel
    clear hrow
    by_cases hlt : i < j
    · obtain ⟨h, hh⟩ : ∃ h, h = (i + j) / 2 := ⟨_, rfl⟩
      have hI : ((i : Int) + (j : Int)) / 2 = (h : Int) := by omega
      have hih : i ≤ h := by omega
      have hhj : h < j := by omega
      replace hh := Lib.hid hh
      replace hlo := Lib.hid hlo
      replace hhi := Lib.hid hhi
      replace hbu := Lib.hid hbu
      go_wp2_with fail

      have c0 := hre.c0 (k := m) (by omega)
      have c1 := hre.c1 (k := m) (by omega)
      have e0 := hre.c0 (k := h) (by omega)
      have e1 := hre.c1 (k := h) (by omega)
      have hg := hgood.out h m (by omega) (by omega) (by omega) (by omega)
      have hgl := hre.glt
      have z3 : (m : Int) < (n : Int) := by omega
      have z4 : (h : Int) < (n : Int) := by omega
      obtain ⟨X, hX⟩ : ∃ X, X = d m := ⟨_, rfl⟩
      obtain ⟨Y, hY⟩ : ∃ Y, Y = d h := ⟨_, rfl⟩
      rw [← hX] at c0 c1
      rw [← hY] at e0 e1
      rw [← hX, ← hY] at hg
      replace hX := Lib.hid hX
      replace hY := Lib.hid hY
      have hcal := fun W => hcmp.out X.1 X.2 Y.1 Y.2 W
      obtain ⟨x, y⟩ := X
      obtain ⟨x', y'⟩ := Y
      simp only at c0 c1 e0 e1 hcal
      have k0 : ∀ p : Ext, (ext wr p).cell? ⟨g, m * 2, none⟩ = some (.int .i64 x) := fun p => ((below_ext wr p).cell (p := ⟨g, _, none⟩) hgl).trans c0
      have k1 : ∀ p : Ext, (ext wr p).cell? ⟨g, m * 2 + 1, none⟩ = some (.int .i64 y) := fun p => ((below_ext wr p).cell (p := ⟨g, _, none⟩) hgl).trans c1
      have k2 : ∀ p : Ext, (ext wr p).cell? ⟨g, h * 2, none⟩ = some (.int .i64 x') := fun p => ((below_ext wr p).cell (p := ⟨g, _, none⟩) hgl).trans e0
      have k3 : ∀ p : Ext, (ext wr p).cell? ⟨g, h * 2 + 1, none⟩ = some (.int .i64 y') := fun p => ((below_ext wr p).cell (p := ⟨g, _, none⟩) hgl).trans e1
      generalize cf (x, y) (x', y') = c at hg hcal
      replace hcal := Lib.hid hcal
      clear c0 c1 e0 e1
      cases hl : lt (x, y) (x', y')
      · as_aux_lemma =>
          rw [hl] at hg
          have hlv : lt (d m) (d h) = false := by rw [← hX.out, ← hY.out]; exact hl
          replace hl := Lib.hid hl
          replace hlv := Lib.hid hlv
          refine wp_region_ext (by kernel_rfl) (by kernel_rfl) ?_
          repeat (quiet_step ((go_at_call 40; exact calls_ext_of (hcal.out _))))
          refine wpQuiet_nil ?_
          rintro _ ⟨pq, rfl⟩
          have B6 := below_ext wr pq
          clear k0 k1 k2 k3
          have r6 := hre.keep B6
          have b6 := hbu.out.trans (But.of_below B6)
          replace r6 := Lib.hid r6
          replace b6 := Lib.hid b6
          clear B6
          go_wp2_with fail
          go_roundw
          case rel => exact ⟨h + 1, j, by omega, by omega, hjb, by go_num, by go_num, r6.out, b6.out, fun _ => by rw [Nat.add_sub_cancel]; exact hlv.out, hhi.out⟩
          case measure => simp [intOf]; omega
      · as_aux_lemma =>
          rw [hl] at hg
          have hlv : lt (d m) (d h) = true := by rw [← hX.out, ← hY.out]; exact hl
          replace hl := Lib.hid hl
          replace hlv := Lib.hid hlv
          refine wp_region_ext (by kernel_rfl) (by kernel_rfl) ?_
          repeat (quiet_step ((go_at_call 40; exact calls_ext_of (hcal.out _))))
          refine wpQuiet_nil ?_
          rintro _ ⟨pq, rfl⟩
          have B6 := below_ext wr pq
          clear k0 k1 k2 k3
          have r6 := hre.keep B6
          have b6 := hbu.out.trans (But.of_below B6)
          replace r6 := Lib.hid r6
          replace b6 := Lib.hid b6
          clear B6
          go_wp2_with fail
          go_roundw
          case rel => exact ⟨i, h, hmi, by omega, by omega, by go_num, by go_num, r6.out, b6.out, hlo.out, fun _ => hlv.out⟩
          case measure => simp [intOf]; omega

    · have hj : i = j := by omega
      subst hj
      have h1 : ∀ k, a ≤ k → k < i → lt (d m) (d k) = false := fun k k1 k2 => mono_left ho.out hs1.out (k := k) (h := i - 1) (by omega) (by omega) (by omega) (hlo (by omega))
      have h2 : ∀ k, i ≤ k → k < m → lt (d m) (d k) = true := fun k k1 k2 => mono_left' ho.out hs1.out (k := k) (h := i) (by omega) k1 k2 (hhi (by omega))
      clear hlo hhi
      replace h1 := Lib.hid h1
      replace h2 := Lib.hid h2
      replace hbu := Lib.hid hbu
      go_wp2_with fail
      go_loopw [17] (fun v W => ∃ (k : Nat) (f : Fn'), i ≤ k ∧ k ≤ m ∧ v = .int .i64 k ∧ RowB W g n f R ∧ But g w W ∧ PermIn a b d f ∧ (∀ q, k < q → q ≤ m → f q = d (q - 1)) ∧ f k = d m ∧ ∀ q, q < k → f q = d q) (fun v _ => (intOf v).toNat)
      case atStart => exact ⟨m, d, by omega, Nat.le_refl _, rfl, hre, hbu.out, .refl, fun q q1 q2 => absurd q2 (by omega), rfl, fun q _ => rfl⟩
      case round =>
        obtain ⟨k, f, hak, hki, rfl, hrf, hbf, hpf, hf1, hf2, hf3⟩ := hrel
        clear hre
        replace hpf := Lib.hid hpf
        replace hbf := Lib.hid hbf
        by_cases hlt : i < k
        · obtain ⟨u, rfl⟩ : ∃ u, k = u + 1 := ⟨k - 1, by omega⟩
          have hps : PermIn a b d (swapF f (u + 1) u) := .swap (u + 1) u ⟨by omega, by omega⟩ ⟨by omega, by omega⟩ hpf.out
          have g1 : ∀ q, u < q → q ≤ m → swapF f (u + 1) u q = d (q - 1) := fun q q1 q2 => by
            by_cases hq : q = u + 1
            · subst hq; rw [swapF_left]; exact hf3 _ (by omega)
            · rw [swapF_other hq (by omega)]; exact hf1 q (by omega) q2
          have g2 : swapF f (u + 1) u u = d m := by rw [swapF_right]; exact hf2
          have g3 : ∀ q, q < u → swapF f (u + 1) u q = d q := fun q q1 => by rw [swapF_other (by omega) (by omega)]; exact hf3 q (by omega)
          clear hf1 hf2 hf3
          replace hps := Lib.hid hps
          replace g1 := Lib.hid g1
          replace g2 := Lib.hid g2
          replace g3 := Lib.hid g3
          have q1 : (i : Int) < (u : Int) + 1 := by omega
          have hsw := hrf.swap (u := u + 1) (v := u) (by omega) (by omega)
          have c0 := hrf.c0 (k := u + 1) (by omega)
          have c1 := hrf.c1 (k := u + 1) (by omega)
          have e0 := hrf.c0 (k := u) (by omega)
          have e1 := hrf.c1 (k := u) (by omega)
          have f0 := hrf.fz ((u + 1) * 2)
          have f1 := hrf.fz ((u + 1) * 2 + 1)
          have f2 := hrf.fz ((u) * 2)
          have f3 := hrf.fz ((u) * 2 + 1)
          have hgl := hrf.glt
          have hbs := hbf.out.trans (but_swap (W := wr) (g := g) ((u + 1) * 2) ((u + 1) * 2 + 1) ((u) * 2) ((u) * 2 + 1) (.int .i64 (f (u)).1) (.int .i64 (f (u)).2) (.int .i64 (f (u + 1)).1) (.int .i64 (f (u + 1)).2))
          have z1 : (0 : Int) ≤ (u : Int) + 1 := by omega
          have z2 : ((u : Int) + 1).toNat = u + 1 := by omega
          have z3 : (u : Int) + 1 < (n : Int) := by omega
          have z4 : (u : Int) < (n : Int) := by omega
          have z5 : IntKind.i64.wrap ((u : Int) + 1 - 1) = (u : Int) := by rw [Int.add_sub_cancel]; exact IntWalk.i64_in _ (by omega)
          have z8 : IntKind.i64.wrap (u : Int) = (u : Int) := IntWalk.i64_in _ (by omega)
          replace hsw := Lib.hid hsw
          replace hbs := Lib.hid hbs
          go_wp2_with fail
          go_region
          all_goals
            go_wp2_with fail
            go_roundw
            case rel => exact ⟨u, swapF f (u + 1) u, by omega, by omega, by go_num, hsw.out, hbs.out.drew, hps.out, g1.out, g2.out, g3.out⟩
            case measure => simp [intOf]

        · have hk : i = k := by omega
          subst hk
          have hd : SortedIn lt a (m + 1) f := sorted_down ho.out (i := i) (by omega) (by omega) hs1.out h1.out h2.out hf1 hf2 (fun q _ q2 => hf3 q q2)
          have hbm : m + 1 = b := by omega
          rw [hbm] at hd
          clear hf1 hf2 hf3
          replace hd := Lib.hid hd
          go_wp2_with fail
          first | refine bodyPost_ret (results_none rfl _ _ _) rfl ?_ | refine bodyPost_end (results_none rfl _ _ _) rfl ?_
          exact ⟨rfl, f, hrf, hbf.out, hpf.out, hd.out⟩

end Go.Proofs.Ytlaodkolkoefgaa
