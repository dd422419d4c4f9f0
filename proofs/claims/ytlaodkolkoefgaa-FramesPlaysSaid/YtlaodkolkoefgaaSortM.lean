/-
  The library's stable sort of ticks: symmetric merging. (Printed by wip/sortm.py.)
-/
import Derived.Test.YtlaodkolkoefgaaSortM1
import Derived.Deep.Cut
import Derived.Deep.DeepCutAuto
namespace Go.Proofs.Ytlaodkolkoefgaa
open Go.RowKit
set_option linter.unusedSimpArgs false
set_option linter.unusedVariables false

set_option maxRecDepth 100000 in
set_option maxHeartbeats 8000000 in
theorem merge_gen (cf : Ty → Ty → Int) (hcmp : CmpOk cf) (lt : Ty → Ty → Bool) (ho : LtOk lt) (g n cap : Nat) (R : List Value) (hnc : n ≤ cap) (hcap : cap ≤ maxLen) (hn : n ≤ 1000000) (N : Nat) (a m b : Nat) (d : Fn') (w : World) (hrow : RowB w g n d R) (ham : a < m) (hmb : m < b) (hbn : b ≤ n)
    (hs1 : SortedIn lt a m d) (hs2 : SortedIn lt m b d) (hgood : GoodM cf lt a m b d)
    (ih : ∀ (a m b : Nat) (d : Fn') (w : World), b - a ≤ N → RowB w g n d R → a < m → m < b → b ≤ n → SortedIn lt a m d → SortedIn lt m b d → GoodM cf lt a m b d → Calls Try.prog 69 #[.slice (some ⟨g, 0, none⟩) n cap, .int .i64 a, .int .i64 m, .int .i64 b, .func (.func 40) #[] #[]] w fun e w' => e = .returned (.tuple #[]) ∧ ∃ d', RowB w' g n d' R ∧ But g w w' ∧ PermIn a b d d' ∧ SortedIn lt a b d')
    (hN : b - a ≤ N + 1) (h1 : ¬ m - a = 1) (h2 : ¬ b - m = 1) :
    Calls Try.prog 69 #[.slice (some ⟨g, 0, none⟩) n cap, .int .i64 a, .int .i64 m, .int .i64 b, .func (.func 40) #[] #[]] w fun e w' => e = .returned (.tuple #[]) ∧ ∃ d', RowB w' g n d' R ∧ But g w w' ∧ PermIn a b d d' ∧ SortedIn lt a b d' := by
  have hrot := fun (x y z : Nat) (e : Fn') (W : World) (h : RowB W g n e R) (h1 : x < y) (h2 : y < z) (h3 : z ≤ n) => rotate_calls (.func (.func 40) #[] #[]) g n cap x y z e R W h h1 h2 h3 hnc hcap hn
  replace hrot := Lib.hid hrot
  replace ih := Lib.hid ih

  replace hgood := Lib.hid hgood
  replace hcmp := Lib.hid hcmp
  replace ho := Lib.hid ho
  replace hs1 := Lib.hid hs1
  replace hs2 := Lib.hid hs2
  unfold maxLen at hcap
  have x1 : IntKind.i64.wrap ((m : Int) - (a : Int)) = ((m - a : Nat) : Int) := by rw [IntWalk.i64_in _ (by omega)]; omega
  have x2 : IntKind.i64.wrap ((b : Int) - (m : Int)) = ((b - m : Nat) : Int) := by rw [IntWalk.i64_in _ (by omega)]; omega

  have y1 : ¬ ((m - a : Nat) : Int) = 1 := by omega
  have y1b : (((m - a : Nat) : Int) == 1) = false := by simp; omega
  have y2 : ¬ ((b - m : Nat) : Int) = 1 := by omega
  have y2b : (((b - m : Nat) : Int) == 1) = false := by simp; omega
  obtain ⟨mid, hmd⟩ : ∃ mid, mid = (a + b) / 2 := ⟨_, rfl⟩
  have hmI : ((a : Int) + (b : Int)) / 2 = (mid : Int) := by omega
  obtain ⟨s0, r0, hcase, has, hsr0, hrm, hrmid, hsb⟩ : ∃ s0 r0, ((mid < m ∧ s0 = mid + m - b ∧ r0 = mid) ∨ (m ≤ mid ∧ s0 = a ∧ r0 = m)) ∧ a ≤ s0 ∧ s0 ≤ r0 ∧ r0 ≤ m ∧ r0 ≤ mid ∧ mid + m ≤ s0 + b := by
    by_cases hc : mid < m
    · exact ⟨mid + m - b, mid, Or.inl ⟨hc, rfl, rfl⟩, by omega, by omega, by omega, by omega, by omega⟩
    · exact ⟨a, m, Or.inr ⟨by omega, rfl, rfl⟩, by omega, by omega, by omega, by omega, by omega⟩
  have hmida : a < mid := by omega
  have hmidb : mid < b := by omega
  obtain ⟨p, hp⟩ : ∃ p, p + 1 = mid + m := ⟨mid + m - 1, by omega⟩
  have pI : (mid : Int) + (m : Int) - 1 = (p : Int) := by omega
  replace hcase := Lib.hid hcase
  replace hmd := Lib.hid hmd
  replace hp := Lib.hid hp
  go_enter Try.func69, Try.ntmps69
  go_upto_if 140 with fail
  go_cut [20, 21] (fun s t W => s = .int .i64 s0 ∧ t = .int .i64 r0 ∧ w = W)
  case first => as_aux_lemma =>
    rcases hcase.out with ⟨h1, h2, h3⟩ | ⟨h1, h2, h3⟩
    · have q1 : (mid : Int) < (m : Int) := by omega
      have q2 : (mid : Int) + (m : Int) - (b : Int) = (s0 : Int) := by omega
      subst h3
      replace h2 := Lib.hid h2
      go_wp2_with fail
      go_meet
      exact ⟨rfl, rfl, rfl⟩
    · have q1 : ¬ (mid : Int) < (m : Int) := by omega
      subst h2 h3
      go_wp2_with fail
      go_meet
      exact ⟨rfl, rfl, rfl⟩
  case rest =>
    obtain ⟨h1, h2, h3⟩ := hcut
    subst h1 h2 h3
    go_wp2_with fail
    go_loopw [20, 21] (fun v u W => ∃ (i j : Nat), s0 ≤ i ∧ i ≤ j ∧ j ≤ r0 ∧ v = .int .i64 i ∧ u = .int .i64 j ∧ RowB W g n d R ∧ But g w W ∧ (s0 < i → lt (d (p + 1 - i)) (d (i - 1)) = false) ∧ (j < r0 → lt (d (p - j)) (d j) = true)) (fun v u _ => (intOf u).toNat - (intOf v).toNat)
    case atStart => exact ⟨s0, r0, Nat.le_refl _, hsr0, Nat.le_refl _, rfl, rfl, hrow, But.refl _ _, fun h => absurd h (by omega), fun h => absurd h (by omega)⟩
    case round =>
      obtain ⟨i, j, hmi, hij, hjb, rfl, rfl, hre, hbu, hlo, hhi⟩ := hrel
      clear hrow
      by_cases hlt : i < j
      · obtain ⟨h, hh⟩ : ∃ h, h = (i + j) / 2 := ⟨_, rfl⟩
        have hI : ((i : Int) + (j : Int)) / 2 = (h : Int) := by omega
        have hih : i ≤ h := by omega
        have hhj : h < j := by omega
        replace hh := Lib.hid hh
        replace hlo := Lib.hid hlo
        replace hhi := Lib.hid hhi
        replace hbu := Lib.hid hbu
        obtain ⟨u, hu⟩ : ∃ u, u = p - h := ⟨_, rfl⟩
        have hu1 : m ≤ u := by have := hp.out; have := hcase.out; omega
        have hu2 : u < b := by have := hp.out; have := hcase.out; omega
        have huI : (p : Int) - (h : Int) = (u : Int) := by have := hp.out; omega
        have huW : IntKind.i64.wrap ((p : Int) - (h : Int)) = (u : Int) := by rw [huI]; exact IntWalk.i64_in _ (by omega)
        have huV : IntKind.i64.wrap (u : Int) = (u : Int) := IntWalk.i64_in _ (by omega)
        replace hu := Lib.hid hu
        go_wp2_with fail

        have c0 := hre.c0 (k := u) (by omega)
        have c1 := hre.c1 (k := u) (by omega)
        have e0 := hre.c0 (k := h) (by omega)
        have e1 := hre.c1 (k := h) (by omega)
        have hg := hgood.out h u (by omega) (by omega) (by omega) (by omega)
        have hgl := hre.glt
        have z3 : (u : Int) < (n : Int) := by omega
        have z4 : (h : Int) < (n : Int) := by omega
        obtain ⟨X, hX⟩ : ∃ X, X = d u := ⟨_, rfl⟩
        obtain ⟨Y, hY⟩ : ∃ Y, Y = d h := ⟨_, rfl⟩
        rw [← hX] at c0 c1
        rw [← hY] at e0 e1
        rw [← hX, ← hY] at hg
        replace hX := Lib.hid hX
        replace hY := Lib.hid hY
        have hcal := fun W => hcmp.out X.1 X.2 Y.1 Y.2 W
        obtain ⟨x, y⟩ := X
        obtain ⟨x', y'⟩ := Y
        simp only at c0 c1 e0 e1 hcal
        have k0 : ∀ p : Ext, (ext wr p).cell? ⟨g, u * 2, none⟩ = some (.int .i64 x) := fun p => ((below_ext wr p).cell (p := ⟨g, _, none⟩) hgl).trans c0
        have k1 : ∀ p : Ext, (ext wr p).cell? ⟨g, u * 2 + 1, none⟩ = some (.int .i64 y) := fun p => ((below_ext wr p).cell (p := ⟨g, _, none⟩) hgl).trans c1
        have k2 : ∀ p : Ext, (ext wr p).cell? ⟨g, h * 2, none⟩ = some (.int .i64 x') := fun p => ((below_ext wr p).cell (p := ⟨g, _, none⟩) hgl).trans e0
        have k3 : ∀ p : Ext, (ext wr p).cell? ⟨g, h * 2 + 1, none⟩ = some (.int .i64 y') := fun p => ((below_ext wr p).cell (p := ⟨g, _, none⟩) hgl).trans e1
        generalize cf (x, y) (x', y') = c at hg hcal
        replace hcal := Lib.hid hcal
        clear c0 c1 e0 e1
        cases hl : lt (x, y) (x', y')
        · as_aux_lemma =>
            rw [hl] at hg
            have hlv : lt (d u) (d h) = false := by rw [← hX.out, ← hY.out]; exact hl
            replace hl := Lib.hid hl
            replace hlv := Lib.hid hlv
            refine wp_region_ext (by kernel_rfl) (by kernel_rfl) ?_
            repeat (quiet_step ((go_at_call 40; exact calls_ext_of (hcal.out _))))
            refine wpQuiet_nil ?_
            rintro _ ⟨pq, rfl⟩
            have B6 := below_ext wr pq
            clear k0 k1 k2 k3
            have r6 := hre.keep B6
            have b6 := hbu.out.trans (But.of_below B6)
            replace r6 := Lib.hid r6
            replace b6 := Lib.hid b6
            clear B6
            go_wp2_with fail
            go_roundw
            case rel => exact ⟨h + 1, j, by omega, by omega, hjb, by go_num, by go_num, r6.out, b6.out, fun _ => by rw [Nat.add_sub_add_right, Nat.add_sub_cancel, ← hu.out]; exact hlv.out, hhi.out⟩
            case measure => simp [intOf]; omega
        · as_aux_lemma =>
            rw [hl] at hg
            have hlv : lt (d u) (d h) = true := by rw [← hX.out, ← hY.out]; exact hl
            replace hl := Lib.hid hl
            replace hlv := Lib.hid hlv
            refine wp_region_ext (by kernel_rfl) (by kernel_rfl) ?_
            repeat (quiet_step ((go_at_call 40; exact calls_ext_of (hcal.out _))))
            refine wpQuiet_nil ?_
            rintro _ ⟨pq, rfl⟩
            have B6 := below_ext wr pq
            clear k0 k1 k2 k3
            have r6 := hre.keep B6
            have b6 := hbu.out.trans (But.of_below B6)
            replace r6 := Lib.hid r6
            replace b6 := Lib.hid b6
            clear B6
            go_wp2_with fail
            go_roundw
            case rel => exact ⟨i, h, hmi, by omega, by omega, by go_num, by go_num, r6.out, b6.out, hlo.out, fun _ => by rw [← hu.out]; exact hlv.out⟩
            case measure => simp [intOf]; omega

      · have hj : i = j := by omega
        subst hj
        obtain ⟨en, hen⟩ : ∃ en, en + i = mid + m := ⟨mid + m - i, by omega⟩
        have hpt := merge_parts ho.out hs1.out hs2.out hgood.out (s := i) (en := en) hcase.out has hmi hjb hen (by omega) (by omega) (fun h => by rw [show en = p + 1 - i by have := hp.out; omega]; exact hlo h) (fun h => by rw [show en - 1 = p - i by have := hp.out; omega]; exact hhi h)
        have enI : (mid : Int) + (m : Int) - (i : Int) = (en : Int) := by omega
        have hm1 : m ≤ en := by omega
        have hm2 : mid ≤ en := by omega
        have hm3 : i ≤ mid := by omega
        have hm4 : en ≤ b := by omega
        clear hlo hhi
        replace hpt := Lib.hid hpt
        replace hen := Lib.hid hen
        replace hbu := Lib.hid hbu
        go_upto_region 39 with fail
        go_cut [185] (fun c W => c = .bool (decide (i < m ∧ m < en)) ∧ wr = W)
        case first => as_aux_lemma =>
          by_cases h1 : i < m
          · have q1 : (i : Int) < (m : Int) := by omega
            by_cases h2 : m < en
            · have q2 : (m : Int) < (en : Int) := by omega
              go_wp2_with fail
              go_meet
              exact ⟨by simp [h1, h2], rfl⟩
            · have q2 : ¬ (m : Int) < (en : Int) := by omega
              go_wp2_with fail
              go_meet
              exact ⟨by simp [h2], rfl⟩
          · have q1 : ¬ (i : Int) < (m : Int) := by omega
            go_wp2_with fail
            go_meet
            exact ⟨by simp [h1], rfl⟩
        case rest =>
        obtain ⟨hcv, hcw⟩ := hcut
        subst hcw
        replace hcv := Lib.hid hcv
        go_upto_if 185 with fail
        go_cut [] (fun W => RowB W g n (rotF d i m en) R ∧ But g w W ∧ PermIn a b d (rotF d i m en))
        case first => as_aux_lemma =>
          by_cases h1 : i < m ∧ m < en
          · have hcv := hcv.out
            rw [decide_eq_true h1] at hcv
            subst hcv
            have hc := hrot.out i m en d wr hre h1.1 h1.2 (by omega)
            replace hc := Lib.hid hc
            replace hre := Lib.hid hre
            go_wp2_with fail
            refine hc.out.mono ?_
            rintro e1 W1 ⟨rfl, r1, b1, p1⟩
            have p2 : PermIn a b d (rotF d i m en) := p1.mono (by omega) hm4
            have b2 := hbu.out.trans b1
            replace r1 := Lib.hid r1
            replace p2 := Lib.hid p2
            replace b2 := Lib.hid b2
            clear b1 p1 hc
            go_wp2_with fail
            go_meet
            exact ⟨r1.out, b2.out, p2.out⟩
          · have hcv := hcv.out
            rw [decide_eq_false h1] at hcv
            subst hcv
            have hid := rotF_id (d := d) (a := i) (m := m) (b := en) (by omega) (by omega)
            replace hid := Lib.hid hid
            replace h1 := Lib.hid h1
            go_wp2_with fail
            go_meet
            rw [hid.out]
            exact ⟨hre, hbu.out, .refl⟩
        case rest =>
          obtain ⟨r1, b1, p1⟩ := hcut
          clear hre hbu hcv
          generalize rotF d i m en = e at *
          replace b1 := Lib.hid b1
          replace p1 := Lib.hid p1
          replace r1 := Lib.hid r1
          generalize wc = w1 at *
          go_upto_region 41 with fail
          go_cut [199] (fun c W => c = .bool (decide (a < i ∧ i < mid)) ∧ w1 = W)
          case first => as_aux_lemma =>
            by_cases h1 : a < i
            · have q1 : (a : Int) < (i : Int) := by omega
              by_cases h2 : i < mid
              · have q2 : (i : Int) < (mid : Int) := by omega
                go_wp2_with fail
                go_meet
                exact ⟨by simp [h1, h2], rfl⟩
              · have q2 : ¬ (i : Int) < (mid : Int) := by omega
                go_wp2_with fail
                go_meet
                exact ⟨by simp [h2], rfl⟩
            · have q1 : ¬ (a : Int) < (i : Int) := by omega
              go_wp2_with fail
              go_meet
              exact ⟨by simp [h1], rfl⟩
          case rest =>
          obtain ⟨hcv, hcw⟩ := hcut
          subst hcw
          replace hcv := Lib.hid hcv
          go_upto_if 199 with fail
          go_cut [] (fun W => ∃ f, RowB W g n f R ∧ But g w W ∧ PermIn a mid e f ∧ SortedIn lt a mid f)
          case first => as_aux_lemma =>
            by_cases h1 : a < i ∧ i < mid
            · have hcv := hcv.out
              rw [decide_eq_true h1] at hcv
              subst hcv
              have hc := ih.out a i mid e w1 (by omega) r1.out h1.1 h1.2 (by omega) hpt.out.s1 hpt.out.s2 hpt.out.g1
              replace hc := Lib.hid hc
              go_wp2_with fail
              refine hc.out.mono ?_
              rintro e1 W1 ⟨rfl, f, r2, b2, p2, s2⟩
              have b3 := b1.out.trans b2
              replace r2 := Lib.hid r2
              replace p2 := Lib.hid p2
              replace b3 := Lib.hid b3
              replace s2 := Lib.hid s2
              clear b2 hc
              go_wp2_with fail
              go_meet
              exact ⟨f, r2.out, b3.out, p2.out, s2.out⟩
            · have hcv := hcv.out
              rw [decide_eq_false h1] at hcv
              subst hcv
              have hnn := merge_none hpt.out.s1 hpt.out.s2 (by omega)
              replace hnn := Lib.hid hnn
              replace h1 := Lib.hid h1
              go_wp2_with fail
              go_meet
              exact ⟨e, r1.out, b1.out, .refl, hnn.out⟩
          case rest =>
            obtain ⟨f, r2, b2, p2, s2⟩ := hcut
            clear r1 b1
            have t3 : SortedIn lt mid en f := hpt.out.s3.congr fun k k1 k2 => p2.out (Or.inr k1)
            have t4 : SortedIn lt en b f := hpt.out.s4.congr fun k k1 k2 => p2.out (Or.inr (by omega))
            have t5 : GoodM cf lt mid en b f := fun p q k1 k2 k3 k4 => by rw [p2.out (Or.inr k1), p2.out (Or.inr (by omega))]; exact hpt.out.g2 p q k1 k2 k3 k4
            have hend : ∀ h, PermIn mid b f h → SortedIn lt mid b h → PermIn a b d h ∧ SortedIn lt a b h := fun h h1 h2 => merge_end hpt.out p1.out p2 s2 h1 h2 (by omega) (by omega)
            clear hpt
            replace hend := Lib.hid hend
            replace t3 := Lib.hid t3
            replace t4 := Lib.hid t4
            replace t5 := Lib.hid t5
            replace b2 := Lib.hid b2
            replace p2 := Lib.hid p2
            replace s2 := Lib.hid s2
            by_cases h1 : mid < en
            · have q1 : (mid : Int) < (en : Int) := by omega
              by_cases h2 : en < b
              · have q2 : (en : Int) < (b : Int) := by omega
                have hc := ih.out mid en b f wc (by omega) r2 h1 h2 hbn t3.out t4.out t5.out
                replace hc := Lib.hid hc
                replace r2 := Lib.hid r2
                go_wp2_with fail
                refine hc.out.mono ?_
                rintro e1 W1 ⟨rfl, h, r3, b3, p3, s3⟩
                have hh := hend.out h p3 s3
                have b4 := b2.out.trans b3
                replace r3 := Lib.hid r3
                replace hh := Lib.hid hh
                replace b4 := Lib.hid b4
                clear b3 hc p3 s3
                go_wp2_with fail
                first | refine bodyPost_ret (results_none rfl _ _ _) rfl ?_ | refine bodyPost_end (results_none rfl _ _ _) rfl ?_
                exact ⟨rfl, h, r3.out, b4.out, hh.out.1, hh.out.2⟩
              · have q2 : ¬ (en : Int) < (b : Int) := by omega
                have hh := hend.out f .refl (merge_none t3.out t4.out (by omega))
                replace r2 := Lib.hid r2
                replace hh := Lib.hid hh
                go_wp2_with fail
                first | refine bodyPost_ret (results_none rfl _ _ _) rfl ?_ | refine bodyPost_end (results_none rfl _ _ _) rfl ?_
                exact ⟨rfl, f, r2.out, b2.out, hh.out.1, hh.out.2⟩
            · have q1 : ¬ (mid : Int) < (en : Int) := by omega
              have hh := hend.out f .refl (merge_none t3.out t4.out (by omega))
              replace r2 := Lib.hid r2
              replace hh := Lib.hid hh
              go_wp2_with fail
              first | refine bodyPost_ret (results_none rfl _ _ _) rfl ?_ | refine bodyPost_end (results_none rfl _ _ _) rfl ?_
              exact ⟨rfl, f, r2.out, b2.out, hh.out.1, hh.out.2⟩

theorem merge_calls (cf : Ty → Ty → Int) (hcmp : CmpOk cf) (lt : Ty → Ty → Bool) (ho : LtOk lt) (g n cap : Nat) (R : List Value) (hnc : n ≤ cap) (hcap : cap ≤ maxLen) (hn : n ≤ 1000000) : ∀ (N a m b : Nat) (d : Fn') (w : World), b - a ≤ N → RowB w g n d R → a < m → m < b → b ≤ n →
    SortedIn lt a m d → SortedIn lt m b d → GoodM cf lt a m b d →
    Calls Try.prog 69 #[.slice (some ⟨g, 0, none⟩) n cap, .int .i64 a, .int .i64 m, .int .i64 b, .func (.func 40) #[] #[]] w fun e w' => e = .returned (.tuple #[]) ∧ ∃ d', RowB w' g n d' R ∧ But g w w' ∧ PermIn a b d d' ∧ SortedIn lt a b d' := by
  intro N
  induction N with
  | zero => intro a m b d w h _ h1 h2; omega
  | succ N ih =>
    intro a m b d w hN hrow ham hmb hbn hs1 hs2 hgood
    by_cases h1 : m - a = 1
    · exact merge_one cf hcmp lt ho g n cap R hnc hcap hn a m b d w hrow ham hmb hbn hs1 hs2 hgood h1
    · by_cases h2 : b - m = 1
      · exact merge_last cf hcmp lt ho g n cap R hnc hcap hn a m b d w hrow ham hmb hbn hs1 hs2 hgood h1 h2
      · exact merge_gen cf hcmp lt ho g n cap R hnc hcap hn N a m b d w hrow ham hmb hbn hs1 hs2 hgood ih hN h1 h2
end Go.Proofs.Ytlaodkolkoefgaa
