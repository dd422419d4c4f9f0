/-
  The library's stable sort of ticks: two stretches that change places; rotation.
-/
import Derived.Test.YtlaodkolkoefgaaSortW
import Derived.Test.YtlaodkolkoefgaaMg14
namespace Go.Proofs.Ytlaodkolkoefgaa
open Go.RowKit
set_option linter.unusedSimpArgs false
set_option linter.unusedVariables false

/-- Two stretches of m ticks, from a and from b on, have changed places. -/
def swR (d : Fn') (a b m : Nat) : Fn' := fun k => if a ≤ k ∧ k < a + m then d (k + b - a) else if b ≤ k ∧ k < b + m then d (k + a - b) else d k
theorem swR_zero (d : Fn') (a b : Nat) : swR d a b 0 = d := by
  funext k; unfold swR; rw [if_neg (by omega), if_neg (by omega)]
theorem swR_step (d : Fn') {a b m : Nat} (h : a + m < b) : swapF (swR d a b m) (a + m) (b + m) = swR d a b (m + 1) := by
  funext k
  unfold swapF
  by_cases h1 : k = a + m
  · subst h1
    rw [if_pos rfl]
    unfold swR
    rw [if_neg (by omega), if_neg (by omega), if_pos (by omega)]
    congr 1; omega
  · rw [if_neg h1]
    by_cases h2 : k = b + m
    · subst h2
      rw [if_pos rfl]
      unfold swR
      rw [if_neg (by omega), if_neg (by omega), if_neg (by omega), if_pos (by omega)]
      congr 1; omega
    · rw [if_neg h2]
      unfold swR
      by_cases h3 : a ≤ k ∧ k < a + m
      · rw [if_pos h3, if_pos (by omega)]
      · rw [if_neg h3, if_neg (show ¬ (a ≤ k ∧ k < a + (m + 1)) by omega)]
        by_cases h4 : b ≤ k ∧ k < b + m
        · rw [if_pos h4, if_pos (by omega)]
        · rw [if_neg h4, if_neg (by omega)]
theorem swR_left {d : Fn'} {a b m k : Nat} (h : a ≤ k ∧ k < a + m) : swR d a b m k = d (k + b - a) := by unfold swR; rw [if_pos h]
theorem swR_right {d : Fn'} {a b m k : Nat} (hab : a + m ≤ b) (h : b ≤ k ∧ k < b + m) : swR d a b m k = d (k + a - b) := by unfold swR; rw [if_neg (by omega), if_pos h]
theorem swR_other {d : Fn'} {a b m k : Nat} (h1 : ¬ (a ≤ k ∧ k < a + m)) (h2 : ¬ (b ≤ k ∧ k < b + m)) : swR d a b m k = d k := by unfold swR; rw [if_neg h1, if_neg h2]

set_option maxRecDepth 100000 in
set_option maxHeartbeats 8000000 in
theorem swap_calls (F : Value) (g n cap a b m lo hi : Nat) (d : Fn') (R : List Value) (w : World) (hrow : RowB w g n d R) (hab : a + m ≤ b) (hbn : b + m ≤ hi) (hlo : lo ≤ a) (hhi : hi ≤ n) (hnc : n ≤ cap) (hcap : cap ≤ maxLen) (hn : n ≤ 1000000) :
    Calls Try.prog 72 #[.slice (some ⟨g, 0, none⟩) n cap, .int .i64 a, .int .i64 b, .int .i64 m, F] w fun e w' => e = .returned (.tuple #[]) ∧ RowB w' g n (swR d a b m) R ∧ But g w w' ∧ PermIn lo hi d (swR d a b m) := by
  unfold maxLen at hcap
  go_enter Try.func72, Try.ntmps72
  go_wp2_with fail
  go_loopw [10] (fun v W => ∃ i : Nat, i ≤ m ∧ v = .int .i64 i ∧ RowB W g n (swR d a b i) R ∧ But g w W ∧ PermIn lo hi d (swR d a b i)) (fun v _ => m - (intOf v).toNat)
  case atStart => exact ⟨0, Nat.zero_le _, rfl, by rw [swR_zero]; exact hrow, But.refl _ _, by rw [swR_zero]; exact .refl⟩
  case round =>
    obtain ⟨i, him, rfl, hre, hbu, hpe⟩ := hrel
    clear hrow
    by_cases hlt : i < m
    · have hsw := hre.swap (show a + i < n by omega) (show b + i < n by omega)
      rw [swR_step d (show a + i < b by omega)] at hsw
      have hps : PermIn lo hi d (swR d a b (i + 1)) := by
        rw [← swR_step d (show a + i < b by omega)]
        exact .swap (a + i) (b + i) ⟨by omega, by omega⟩ ⟨by omega, by omega⟩ hpe
      have c0 := hre.c0 (k := a + i) (by omega)
      have c1 := hre.c1 (k := a + i) (by omega)
      have e0 := hre.c0 (k := b + i) (by omega)
      have e1 := hre.c1 (k := b + i) (by omega)
      have f0 := hre.fz ((a + i) * 2)
      have f1 := hre.fz ((a + i) * 2 + 1)
      have f2 := hre.fz ((b + i) * 2)
      have f3 := hre.fz ((b + i) * 2 + 1)
      have hgl := hre.glt
      generalize swR d a b i (a + i) = X at *
      generalize swR d a b i (b + i) = Y at *
      have hbs := hbu.trans (but_swap (W := wr) (g := g) ((a + i) * 2) ((a + i) * 2 + 1) ((b + i) * 2) ((b + i) * 2 + 1) (.int .i64 Y.1) (.int .i64 Y.2) (.int .i64 X.1) (.int .i64 X.2))
      obtain ⟨x, y⟩ := X
      obtain ⟨x', y'⟩ := Y
      simp only at c0 c1 e0 e1 hsw hbs
      have z1 : (0 : Int) ≤ (a : Int) + (i : Int) := by omega
      have z2 : ((a : Int) + (i : Int)).toNat = a + i := by omega
      have z3 : (a : Int) + (i : Int) < (n : Int) := by omega
      have y1 : (0 : Int) ≤ (b : Int) + (i : Int) := by omega
      have y2 : ((b : Int) + (i : Int)).toNat = b + i := by omega
      have y3 : (b : Int) + (i : Int) < (n : Int) := by omega
      have x1 : IntKind.i64.wrap ((a : Int) + (i : Int)) = (a : Int) + (i : Int) := IntWalk.i64_in _ (by omega)
      have x2 : IntKind.i64.wrap ((b : Int) + (i : Int)) = (b : Int) + (i : Int) := IntWalk.i64_in _ (by omega)
      replace hsw := Lib.hid hsw
      replace hbs := Lib.hid hbs
      replace hps := Lib.hid hps
      clear hpe hbu hre
      go_wp2_with fail
      go_region
      all_goals
        go_wp2_with fail
        go_roundw
        case rel => exact ⟨i + 1, by omega, by go_num, hsw.out, hbs.out.drew, hps.out⟩
        case measure => simp [intOf]; omega
    · have hi : i = m := by omega
      subst hi
      go_wp2_with fail
      refine bodyPost_end (results_none rfl _ _ _) rfl ?_
      exact ⟨rfl, hre, hbu, hpe⟩

/-- The ticks from a on, ahead of m, and those from m on, ahead of b, have changed places. -/
def rotF (d : Fn') (a m b : Nat) : Fn' := fun k => if a ≤ k ∧ k < a + (b - m) then d (k + (m - a)) else if a + (b - m) ≤ k ∧ k < b then d (k - (b - m)) else d k
theorem rotF_left {d : Fn'} {a m b k : Nat} (h : a ≤ k ∧ k < a + (b - m)) : rotF d a m b k = d (k + (m - a)) := by unfold rotF; rw [if_pos h]
theorem rotF_right {d : Fn'} {a m b k : Nat} (h : a + (b - m) ≤ k ∧ k < b) : rotF d a m b k = d (k - (b - m)) := by unfold rotF; rw [if_neg (by omega), if_pos h]
theorem rotF_other {d : Fn'} {a m b k : Nat} (hm : a ≤ m ∧ m ≤ b) (h : k < a ∨ b ≤ k) : rotF d a m b k = d k := by unfold rotF; rw [if_neg (by omega), if_neg (by omega)]
theorem rotF_id {d : Fn'} {a m b : Nat} (h : m = a ∨ b = m) (hm : a ≤ m ∧ m ≤ b) : rotF d a m b = d := by
  funext k
  unfold rotF
  rcases h with rfl | rfl
  · split
    · congr 1; omega
    · split
      · omega
      · rfl
  · split
    · omega
    · split
      · congr 1; omega
      · rfl

/-- What is still to be rotated. -/
structure Rot (T : Fn') (m i j : Nat) (e : Fn') : Prop where
  lo : ∀ k, k < m - i → e k = T k
  hi : ∀ k, m + j ≤ k → e k = T k
  left : ∀ k, m - i ≤ k → k < m - i + j → T k = e (k + i)
  right : ∀ k, m - i + j ≤ k → k < m + j → T k = e (k - j)
theorem Rot.start {d : Fn'} {a m b : Nat} (ha : a < m) (hb : m < b) : Rot (rotF d a m b) m (m - a) (b - m) d where
  lo k hk := (rotF_other (by omega) (by omega)).symm
  hi k hk := (rotF_other (by omega) (by omega)).symm
  left k h1 h2 := by rw [rotF_left (by omega)]
  right k h1 h2 := by rw [rotF_right (by omega)]
theorem Rot.gt {T e : Fn'} {m i j : Nat} (h : Rot T m i j e) (him : i ≤ m) (hij : j < i) (hj : 0 < j) : Rot T m (i - j) j (swR e (m - i) m j) where
  lo k hk := by
    by_cases hk1 : k < m - i
    · rw [swR_other (by omega) (by omega)]; exact h.lo k hk1
    · rw [swR_left (by omega), h.left k (by omega) (by omega)]; congr 1; omega
  hi k hk := by rw [swR_other (by omega) (by omega)]; exact h.hi k hk
  left k h1 h2 := by
    rw [h.right k (by omega) (by omega), swR_right (by omega) (by omega)]; congr 1; omega
  right k h1 h2 := by
    rw [h.right k (by omega) (by omega), swR_other (by omega) (by omega)]
theorem Rot.lt {T e : Fn'} {m i j : Nat} (h : Rot T m i j e) (him : i ≤ m) (hij : i < j) (hi : 0 < i) : Rot T m i (j - i) (swR e (m - i) (m + j - i) i) where
  lo k hk := by rw [swR_other (by omega) (by omega)]; exact h.lo k hk
  hi k hk := by
    by_cases hk1 : m + j ≤ k
    · rw [swR_other (by omega) (by omega)]; exact h.hi k hk1
    · rw [swR_right (by omega) (by omega), h.right k (by omega) (by omega)]; congr 1; omega
  left k h1 h2 := by
    rw [h.left k (by omega) (by omega), swR_other (by omega) (by omega)]
  right k h1 h2 := by
    rw [h.left k (by omega) (by omega), swR_left (by omega)]; congr 1; omega
theorem Rot.eq {T e : Fn'} {m i : Nat} (h : Rot T m i i e) (him : i ≤ m) : swR e (m - i) m i = T := by
  funext k
  by_cases h1 : k < m - i
  · rw [swR_other (by omega) (by omega)]; exact h.lo k h1
  · by_cases h2 : k < m
    · rw [swR_left (by omega), h.left k (by omega) (by omega)]; congr 1; omega
    · by_cases h3 : k < m + i
      · rw [swR_right (by omega) (by omega), h.right k (by omega) (by omega)]; congr 1; omega
      · rw [swR_other (by omega) (by omega)]; exact h.hi k (by omega)

set_option maxRecDepth 100000 in
set_option maxHeartbeats 8000000 in
theorem rotate_calls (F : Value) (g n cap a m b : Nat) (d : Fn') (R : List Value) (w : World) (hrow : RowB w g n d R) (ha : a < m) (hb : m < b) (hbn : b ≤ n) (hnc : n ≤ cap) (hcap : cap ≤ maxLen) (hn : n ≤ 1000000) :
    Calls Try.prog 71 #[.slice (some ⟨g, 0, none⟩) n cap, .int .i64 a, .int .i64 m, .int .i64 b, F] w fun e w' => e = .returned (.tuple #[]) ∧ RowB w' g n (rotF d a m b) R ∧ But g w w' ∧ PermIn a b d (rotF d a m b) := by
  have hcal := fun (x y z : Nat) (e : Fn') (W : World) => swap_calls F g n cap x y z a b e R W
  replace hcal := Lib.hid hcal
  have hcap' := hcap
  replace hcap' := Lib.hid hcap'
  unfold maxLen at hcap
  have hst := Rot.start (d := d) ha hb
  replace hst := Lib.hid hst
  have x1 : IntKind.i64.wrap ((m : Int) - (a : Int)) = ((m - a : Nat) : Int) := by rw [IntWalk.i64_in _ (by omega)]; omega
  have x2 : IntKind.i64.wrap ((b : Int) - (m : Int)) = ((b - m : Nat) : Int) := by rw [IntWalk.i64_in _ (by omega)]; omega
  go_enter Try.func71, Try.ntmps71
  go_wp2_with fail
  go_loopw [10, 11] (fun v u W => ∃ (i j : Nat) (e : Fn'), 0 < i ∧ 0 < j ∧ i ≤ m - a ∧ j ≤ b - m ∧ v = .int .i64 i ∧ u = .int .i64 j ∧ RowB W g n e R ∧ But g w W ∧ PermIn a b d e ∧ Rot (rotF d a m b) m i j e) (fun v u _ => (intOf v).toNat + (intOf u).toNat)
  case atStart => exact ⟨m - a, b - m, d, by omega, by omega, Nat.le_refl _, Nat.le_refl _, rfl, rfl, hrow, But.refl _ _, .refl, hst.out⟩
  case round =>
    obtain ⟨i, j, e, hi, hj, hia, hjb, rfl, rfl, hre, hbu, hpe, hro⟩ := hrel
    clear hrow x1 x2
    have x1 : IntKind.i64.wrap ((m : Int) - (i : Int)) = ((m - i : Nat) : Int) := by rw [IntWalk.i64_in _ (by omega)]; omega
    replace hbu := Lib.hid hbu
    replace hpe := Lib.hid hpe
    rcases Nat.lt_trichotomy j i with hij | hij | hij
    · have h2 := Rot.gt hro (by omega) hij hj
      have c1 := hcal.out (m - i) m j e wr hre (by omega) (by omega) (by omega) hbn hnc hcap'.out hn
      have x3 : IntKind.i64.wrap ((i : Int) - (j : Int)) = ((i - j : Nat) : Int) := by rw [IntWalk.i64_in _ (by omega)]; omega
      replace hre := Lib.hid hre
      replace hro := Lib.hid hro
      replace h2 := Lib.hid h2
      replace c1 := Lib.hid c1
      have q1 : ¬ (i : Int) = (j : Int) := by omega
      have q2 : (j : Int) < (i : Int) := by omega
      go_wp2_with fail
      refine c1.out.mono ?_
      rintro e1 W1 ⟨rfl, r1, b1, p1⟩
      have p2 := hpe.out.trans p1
      have b2 := hbu.out.trans b1
      replace r1 := Lib.hid r1
      replace p2 := Lib.hid p2
      replace b2 := Lib.hid b2
      clear b1 p1 c1
      go_wp2_with fail
      go_roundw
      case rel => exact ⟨i - j, j, _, by omega, by omega, by omega, by omega, by go_num, by go_num, r1.out, b2.out, p2.out, h2.out⟩
      case measure => simp [intOf]; omega
    · subst hij
      have h2 := Rot.eq hro (by omega)
      have c1 := hcal.out (m - j) m j e wr hre (by omega) (by omega) (by omega) hbn hnc hcap'.out hn
      rw [h2] at c1
      replace hre := Lib.hid hre
      replace hro := Lib.hid hro
      replace h2 := Lib.hid h2
      replace c1 := Lib.hid c1
      go_wp2_with fail
      refine c1.out.mono ?_
      rintro e1 W1 ⟨rfl, r1, b1, p1⟩
      have p2 := hpe.out.trans p1
      have b2 := hbu.out.trans b1
      replace r1 := Lib.hid r1
      replace p2 := Lib.hid p2
      replace b2 := Lib.hid b2
      clear b1 p1 c1
      go_wp2_with fail
      refine bodyPost_end (results_none rfl _ _ _) rfl ?_
      exact ⟨rfl, r1.out, b2.out, p2.out⟩
    · have h2 := Rot.lt hro (by omega) hij hi
      have c1 := hcal.out (m - i) (m + j - i) i e wr hre (by omega) (by omega) (by omega) hbn hnc hcap'.out hn
      have x3 : IntKind.i64.wrap ((j : Int) - (i : Int)) = ((j - i : Nat) : Int) := by rw [IntWalk.i64_in _ (by omega)]; omega
      have x5 : IntKind.i64.wrap ((m : Int) + (j : Int)) = (m : Int) + (j : Int) := by rw [IntWalk.i64_in _ (by omega)]
      have x4 : IntKind.i64.wrap ((m : Int) + (j : Int) - (i : Int)) = ((m + j - i : Nat) : Int) := by rw [IntWalk.i64_in _ (by omega)]; omega
      replace hre := Lib.hid hre
      replace hro := Lib.hid hro
      replace h2 := Lib.hid h2
      replace c1 := Lib.hid c1
      have q1 : ¬ (i : Int) = (j : Int) := by omega
      have q2 : ¬ (j : Int) < (i : Int) := by omega
      go_wp2_with fail
      refine c1.out.mono ?_
      rintro e1 W1 ⟨rfl, r1, b1, p1⟩
      have p2 := hpe.out.trans p1
      have b2 := hbu.out.trans b1
      replace r1 := Lib.hid r1
      replace p2 := Lib.hid p2
      replace b2 := Lib.hid b2
      clear b1 p1 c1
      go_wp2_with fail
      go_roundw
      case rel => exact ⟨i, j - i, _, by omega, by omega, by omega, by omega, by go_num, by go_num, r1.out, b2.out, p2.out, h2.out⟩
      case measure => simp [intOf]; omega
end Go.Proofs.Ytlaodkolkoefgaa

/-
  What symmetric merging does, in plain Lean.
-/
namespace Go.Proofs.Ytlaodkolkoefgaa
set_option linter.unusedSimpArgs false
set_option linter.unusedVariables false

def GoodM (cf : Ty → Ty → Int) (lt : Ty → Ty → Bool) (a m b : Nat) (d : Fn') : Prop := ∀ p q, a ≤ p → p < m → m ≤ q → q < b → decide (cf (d q) (d p) < 0) = lt (d q) (d p)

structure Parts (cf : Ty → Ty → Int) (lt : Ty → Ty → Bool) (a s mid en b : Nat) (e : Fn') : Prop where
  s1 : SortedIn lt a s e
  s2 : SortedIn lt s mid e
  s3 : SortedIn lt mid en e
  s4 : SortedIn lt en b e
  g1 : GoodM cf lt a s mid e
  g2 : GoodM cf lt mid en b e
  cross : ∀ p q, a ≤ p → p < mid → mid ≤ q → q < b → lt (e q) (e p) = false

theorem rot_at {d : Fn'} {s m en mid k : Nat} (hs : s ≤ m) (he : m ≤ en) (hmid : s + (en - m) = mid) :
    (k < s → rotF d s m en k = d k) ∧ (s ≤ k → k < mid → rotF d s m en k = d (k + (m - s))) ∧ (mid ≤ k → k < en → rotF d s m en k = d (k - (en - m))) ∧ (en ≤ k → rotF d s m en k = d k) :=
  ⟨fun h => rotF_other ⟨hs, he⟩ (Or.inl h), fun h1 h2 => rotF_left ⟨h1, by omega⟩, fun h1 h2 => rotF_right ⟨by omega, h2⟩, fun h => rotF_other ⟨hs, he⟩ (Or.inr h)⟩

theorem merge_parts {cf : Ty → Ty → Int} {lt : Ty → Ty → Bool} (ho : LtOk lt) {a m b mid s en s0 r0 : Nat} {d : Fn'} (hs1 : SortedIn lt a m d) (hs2 : SortedIn lt m b d) (hg : GoodM cf lt a m b d)
    (hcase : (mid < m ∧ s0 = mid + m - b ∧ r0 = mid) ∨ (m ≤ mid ∧ s0 = a ∧ r0 = m)) (has : a ≤ s0) (hss : s0 ≤ s) (hsr : s ≤ r0) (hen : en + s = mid + m) (heb : en ≤ b) (hmb : m ≤ b)
    (hlow : s0 < s → lt (d en) (d (s - 1)) = false) (hhigh : s < r0 → lt (d (en - 1)) (d s) = true) : Parts cf lt a s mid en b (rotF d s m en) := by
  have hsm : s ≤ m := by omega
  have hme : m ≤ en := by omega
  have hsmid : s ≤ mid := by omega
  have hmen : mid ≤ en := by omega
  have hat := fun k => rot_at (d := d) (k := k) hsm hme (show s + (en - m) = mid by omega)
  have x1 : ∀ k, k < s → rotF d s m en k = d k := fun k => (hat k).1
  have x2 : ∀ k, s ≤ k → k < mid → rotF d s m en k = d (k + (m - s)) := fun k => (hat k).2.1
  have x3 : ∀ k, mid ≤ k → k < en → rotF d s m en k = d (k - (en - m)) := fun k => (hat k).2.2.1
  have x4 : ∀ k, en ≤ k → rotF d s m en k = d k := fun k => (hat k).2.2.2
  clear hat
  generalize rotF d s m en = e at *
  refine ⟨?_, ?_, ?_, ?_, ?_, ?_, ?_⟩
  · intro p q h1 h2 h3; rw [x1 p (by omega), x1 q h3]; exact hs1 p q h1 h2 (by omega)
  · intro p q h1 h2 h3; rw [x2 p h1 (by omega), x2 q (by omega) h3]; exact hs2 _ _ (by omega) (by omega) (by omega)
  · intro p q h1 h2 h3; rw [x3 p h1 (by omega), x3 q (by omega) h3]; exact hs1 _ _ (by omega) (by omega) (by omega)
  · intro p q h1 h2 h3; rw [x4 p h1, x4 q (by omega)]; exact hs2 p q (by omega) h2 h3
  · intro p q h1 h2 h3 h4; rw [x1 p h2, x2 q h3 h4]; exact hg _ _ (by omega) (by omega) (by omega) (by omega)
  · intro p q h1 h2 h3 h4; rw [x3 p h1 h2, x4 q h3]; exact hg _ _ (by omega) (by omega) (by omega) (by omega)
  · intro p q h1 h2 h3 h4
    by_cases hp : p < s
    · rw [x1 p hp]
      by_cases hq : q < en
      · rw [x3 q h3 hq]; exact hs1 _ _ h1 (by omega) (by omega)
      · rw [x4 q (by omega)]
        have hl : lt (d en) (d (s - 1)) = false := hlow (by omega)
        have h5 : lt (d q) (d (s - 1)) = false := mono_right' ho hs2 (k := q) (h := en) (by omega) (by omega) h4 hl
        rcases Nat.lt_or_eq_of_le (show p ≤ s - 1 by omega) with h6 | rfl
        · exact ho.trans _ _ _ (hs1 p (s - 1) h1 h6 (by omega)) h5
        · exact h5
    · rw [x2 p (by omega) h2]
      by_cases hq : q < en
      · rw [x3 q h3 hq]
        have hl : lt (d (en - 1)) (d s) = true := hhigh (by omega)
        have h5 := ho.asymm _ _ hl
        have h6 : lt (d (q - (en - m))) (d (en - 1)) = false := by
          rcases Nat.lt_or_eq_of_le (show s ≤ q - (en - m) by omega) with h7 | h7
          · exact ho.trans _ _ _ h5 (hs1 _ _ (by omega) h7 (by omega))
          · rw [← h7]; exact h5
        rcases Nat.lt_or_eq_of_le (show p + (m - s) ≤ en - 1 by omega) with h7 | h7
        · exact ho.trans _ _ _ (hs2 _ _ (by omega) h7 (by omega)) h6
        · rw [h7]; exact h6
      · rw [x4 q (by omega)]; exact hs2 _ _ (by omega) (by omega) h4

/-- The end of a merge: both halves are merged. -/
theorem merge_end {cf : Ty → Ty → Int} {lt : Ty → Ty → Bool} {a s mid en b : Nat} {d e f h : Fn'} (hp : Parts cf lt a s mid en b e) (h1 : PermIn a b d e) (h2 : PermIn a mid e f) (h3 : SortedIn lt a mid f) (h4 : PermIn mid b f h) (h5 : SortedIn lt mid b h) (ham : a ≤ mid) (hmb : mid ≤ b) :
    PermIn a b d h ∧ SortedIn lt a b h := by
  refine ⟨(h1.trans (h2.mono (Nat.le_refl _) hmb)).trans (h4.mono ham (Nat.le_refl _)), sorted_join (h3.congr fun k k1 k2 => h4.out (Or.inl k2)) h5 ?_⟩
  intro p q p1 p2 q1 q2
  rw [h4.out (k := p) (Or.inl p2)]
  obtain ⟨j, j1, j2, j3⟩ := h2.from p p1 p2
  obtain ⟨i, i1, i2, i3⟩ := h4.from q q1 q2
  rw [j3, i3, h2.out (k := i) (Or.inr i1)]
  exact hp.cross j i j1 j2 i1 i2
/-- A half that needs no merging. -/
theorem merge_none {lt : Ty → Ty → Bool} {a s b : Nat} {e : Fn'} (h1 : SortedIn lt a s e) (h2 : SortedIn lt s b e) (h : s = a ∨ s = b) : SortedIn lt a b e := by
  rcases h with rfl | rfl
  · exact h2
  · exact h1
end Go.Proofs.Ytlaodkolkoefgaa
