/-
  A row sorted stretch by stretch, in plain Lean.
-/
import Derived.Test.YtlaodkolkoefgaaMg22
import Derived.Test.YtlaodkolkoefgaaSortM
namespace Go.Proofs.Ytlaodkolkoefgaa
set_option linter.unusedSimpArgs false
set_option linter.unusedVariables false

/-- Ahead of x all is in stretches of s ticks, each sorted; each stretch holds what stood in it at the start. -/
structure Str (lt : Ty → Ty → Bool) (n s : Nat) (d0 : Fn') (x : Nat) (d : Fn') : Prop where
  so : ∀ a, s ∣ a → a < x → SortedIn lt a (min (a + s) n) d
  ho : ∀ a, s ∣ a → ∀ k, a ≤ k → k < a + s → k < n → ∃ q, a ≤ q ∧ q < a + s ∧ q < n ∧ d k = d0 q
  pm : PermIn 0 n d0 d

section
variable {lt : Ty → Ty → Bool} {n s x : Nat} {d0 d e : Fn'}
theorem Str.start (lt : Ty → Ty → Bool) (n s : Nat) (d0 : Fn') : Str lt n s d0 0 d0 where
  so a _ h := absurd h (by omega)
  ho a _ k h1 h2 h3 := ⟨k, h1, h2, h3, rfl⟩
  pm := .refl
theorem dvd_apart {s a b : Nat} (ha : s ∣ a) (hb : s ∣ b) (h : a < b) : a + s ≤ b := by
  have h1 : s ∣ b - a := Nat.dvd_sub hb ha
  have := Nat.le_of_dvd (by omega) h1
  omega
theorem Str.step {b : Nat} {d' : Fn'} (h : Str lt n s d0 x d) (hs : 0 < s) (hx : s ∣ x) (hb : b = min (x + s) n) (hp : PermIn x b d d') (hd : SortedIn lt x b d') : Str lt n s d0 (x + s) d' where
  so a h1 h2 := by
    rcases Nat.lt_trichotomy a x with h3 | h3 | h3
    · have := dvd_apart h1 hx h3
      exact (h.so a h1 h3).congr fun k k1 k2 => hp.out (Or.inl (by omega))
    · subst h3 hb; exact hd
    · have := dvd_apart hx h1 h3; omega
  ho a h1 k k1 k2 k3 := by
    rcases Nat.lt_trichotomy a x with h3 | h3 | h3
    · have := dvd_apart h1 hx h3
      rw [hp.out (Or.inl (by omega))]; exact h.ho a h1 k k1 k2 k3
    · subst h3
      obtain ⟨j, j1, j2, j3⟩ := hp.from k k1 (by omega)
      obtain ⟨q, q1, q2, q3, q4⟩ := h.ho a h1 j j1 (by omega) (by omega)
      exact ⟨q, q1, q2, q3, by rw [j3, q4]⟩
    · have := dvd_apart hx h1 h3
      rw [hp.out (Or.inr (by omega))]; exact h.ho a h1 k k1 k2 k3
  pm := h.pm.trans (hp.mono (Nat.zero_le _) (by omega))
/-- Two stretches as one: nothing of it is sorted yet. -/
theorem Str.twice (h : Str lt n s d0 x d) : Str lt n (2 * s) d0 0 d where
  so a _ h := absurd h (by omega)
  ho a h1 k k1 k2 k3 := by
    have h2 : s ∣ a := Nat.dvd_trans ⟨2, by rw [Nat.mul_comm]⟩ h1
    by_cases hk : k < a + s
    · obtain ⟨q, q1, q2, q3, q4⟩ := h.ho a h2 k k1 hk k3
      exact ⟨q, q1, by omega, q3, q4⟩
    · obtain ⟨q, q1, q2, q3, q4⟩ := h.ho (a + s) (Nat.dvd_add h2 (Nat.dvd_refl _)) k (by omega) (by omega) k3
      exact ⟨q, by omega, by omega, q3, q4⟩
  pm := h.pm
theorem Str.sorted (h : Str lt n s d0 x d) (hx : n ≤ x) (hs : n ≤ s) : SortedIn lt 0 n d := by
  by_cases hn : 0 < x
  · have := h.so 0 (Nat.dvd_zero _) hn
    rw [show min (0 + s) n = n by omega] at this
    exact this
  · exact SortedIn.small (by omega)
theorem Str.so' (h : Str lt n s d0 x d) (hx : n ≤ x) {a : Nat} (ha : s ∣ a) : SortedIn lt a (min (a + s) n) d := by
  by_cases h1 : a < x
  · exact h.so a ha h1
  · exact SortedIn.small (by omega)
/-- What merging two stretches that nothing has touched wants. -/
theorem Str.merge {cf : Ty → Ty → Int} {a m b : Nat} (h : Str lt n s d0 x e) (hx : n ≤ x) (ha : 2 * s ∣ a) (hm : m = a + s) (hmn : m < n) (hb : b = min (a + 2 * s) n) (ht : ∀ k, a ≤ k → d k = e k)
    (hg : ∀ p q, p < q → q < n → decide (cf (d0 q) (d0 p) < 0) = lt (d0 q) (d0 p)) : SortedIn lt a m d ∧ SortedIn lt m b d ∧ GoodM cf lt a m b d := by
  have h2 : s ∣ a := Nat.dvd_trans ⟨2, by rw [Nat.mul_comm]⟩ ha
  have h3 : s ∣ m := by subst hm; exact Nat.dvd_add h2 (Nat.dvd_refl _)
  refine ⟨?_, ?_, ?_⟩
  · have := h.so' hx h2
    rw [show min (a + s) n = m by omega] at this
    exact this.congr fun k k1 _ => ht k k1
  · have := h.so' hx h3
    rw [show min (m + s) n = b by omega] at this
    exact this.congr fun k k1 _ => ht k (by omega)
  · intro p q p1 p2 q1 q2
    obtain ⟨i, i1, i2, i3, i4⟩ := h.ho a h2 p p1 (by omega) (by omega)
    obtain ⟨j, j1, j2, j3, j4⟩ := h.ho m h3 q q1 (by omega) (by omega)
    rw [ht p p1, ht q (by omega), i4, j4]
    exact hg i j (by omega) j3
end
end Go.Proofs.Ytlaodkolkoefgaa

/-
  The library's stable sort of ticks: stretches of twenty, then merged two by two.
-/
namespace Go.Proofs.Ytlaodkolkoefgaa
open Go.RowKit
set_option linter.unusedSimpArgs false
set_option linter.unusedVariables false

set_option maxRecDepth 100000 in
set_option maxHeartbeats 8000000 in
theorem stable_calls (cf : Ty → Ty → Int) (hcmp : CmpOk cf) (lt : Ty → Ty → Bool) (ho : LtOk lt) (g n cap : Nat) (R : List Value) (hnc : n ≤ cap) (hcap : cap ≤ maxLen) (hn : n ≤ 1000000) (d : Fn') (w : World) (hrow : RowB w g n d R)
    (hgood : ∀ p q, p < q → q < n → decide (cf (d q) (d p) < 0) = lt (d q) (d p)) :
    Calls Try.prog 60 #[.slice (some ⟨g, 0, none⟩) n cap, .int .i64 n, .func (.func 40) #[] #[]] w fun e w' => e = .returned (.tuple #[]) ∧ ∃ d', RowB w' g n d' R ∧ But g w w' ∧ PermIn 0 n d d' ∧ SortedIn lt 0 n d' := by
  have hins := fun (a b : Nat) (e : Fn') (W : World) (h : RowB W g n e R) (h1 : a ≤ b) (h2 : b ≤ n) => isort_calls cf hcmp lt ho g n cap a b e R W h h1 h2 hnc hcap hn
  have hmer := merge_calls cf hcmp lt ho g n cap R hnc hcap hn
  replace hins := Lib.hid hins
  replace hmer := Lib.hid hmer
  replace hgood := Lib.hid hgood
  replace ho := Lib.hid ho
  clear hcmp
  unfold maxLen at hcap
  go_enter Try.func60, Try.ntmps60
  go_wp2_with fail
  go_loopw [7, 8] (fun v u W => ∃ (a : Nat) (e : Fn'), v = .int .i64 a ∧ u = .int .i64 ((a : Int) + 20) ∧ a ≤ n ∧ 20 ∣ a ∧ RowB W g n e R ∧ But g w W ∧ Str lt n 20 d a e ∧ ∀ k, a ≤ k → e k = d k) (fun v u _ => n - (intOf v).toNat)
  case atStart => exact ⟨0, d, rfl, rfl, Nat.zero_le _, Nat.dvd_zero _, hrow, But.refl _ _, Str.start _ _ _ _, fun k _ => rfl⟩
  case round =>
    obtain ⟨a, e, rfl, rfl, han, hda, hre, hbu, hst, hta⟩ := hrel
    clear hrow
    replace hst := Lib.hid hst
    replace hbu := Lib.hid hbu
    by_cases hlt : a + 20 ≤ n
    · have hc := hins.out a (a + 20) e wr hre (by omega) hlt (fun p q h1 h2 h3 => by rw [hta p h1, hta q (by omega)]; exact hgood.out p q h2 (by omega))
      replace hc := Lib.hid hc
      replace hta := Lib.hid hta
      replace hre := Lib.hid hre
      replace hda := Lib.hid hda
      have q1 : (a : Int) + 20 ≤ (n : Int) := by omega
      go_wp2_with fail
      refine hc.out.mono ?_
      rintro e1 W1 ⟨rfl, f, r1, b1, p1, s1⟩
      have b2 := hbu.out.trans b1
      have hs2 := hst.out.step (by omega) hda.out (by omega) p1 s1
      have ht2 : ∀ k, a + 20 ≤ k → f k = d k := fun k hk => by rw [p1.out (Or.inr hk)]; exact hta.out k (by omega)
      replace r1 := Lib.hid r1
      replace b2 := Lib.hid b2
      replace hs2 := Lib.hid hs2
      replace ht2 := Lib.hid ht2
      clear b1 p1 s1 hc
      go_wp2_with fail
      go_roundw
      case rel => exact ⟨a + 20, f, by go_num, by go_num, hlt, Nat.dvd_add hda.out (Nat.dvd_refl _), r1.out, b2.out, hs2.out, ht2.out⟩
      case measure => simp [intOf]; omega
    · have hc := hins.out a n e wr hre han (Nat.le_refl _) (fun p q h1 h2 h3 => by rw [hta p h1, hta q (by omega)]; exact hgood.out p q h2 (by omega))
      replace hc := Lib.hid hc
      replace hta := Lib.hid hta
      replace hre := Lib.hid hre
      replace hda := Lib.hid hda
      have q1 : ¬ (a : Int) + 20 ≤ (n : Int) := by omega
      go_wp2_with fail
      refine hc.out.mono ?_
      rintro e1 W1 ⟨rfl, f, r1, b1, p1, s1⟩
      have b2 := hbu.out.trans b1
      have hs2 := hst.out.step (by omega) hda.out (by omega) p1 s1
      have hx : n ≤ a + 20 := by omega
      generalize a + 20 = x at hs2 hx
      clear b1 p1 s1 hc hta hre hda hst hbu hins
      replace hs2 := Lib.hid hs2
      go_wp2_with fail
      go_loopw [6, 7, 8, 9] (fun v _ _ _ W => ∃ (s x : Nat) (e : Fn'), v = .int .i64 s ∧ 0 < s ∧ s ≤ 2 * n + 20 ∧ n ≤ x ∧ RowB W g n e R ∧ But g w W ∧ Str lt n s d x e) (fun v _ _ _ _ => 2 * n + 21 - (intOf v).toNat)
      case atStart => exact ⟨20, x, f, rfl, by omega, by omega, hx, r1, b2, hs2.out⟩
      case round =>
        obtain ⟨s, x, e, rfl, hs0, hsn, hx, hre, hbu, hst⟩ := hrel
        clear r1 b2 hs2
        by_cases hlt : s < n
        · have tw := hst.twice
          replace tw := Lib.hid tw
          replace hst := Lib.hid hst
          go_wp2_with fail
          go_loopw [7, 8] (fun v u W => ∃ (a : Nat) (f : Fn'), v = .int .i64 a ∧ u = .int .i64 ((a : Int) + 2 * (s : Int)) ∧ a ≤ n ∧ 2 * s ∣ a ∧ RowB W g n f R ∧ But g w W ∧ Str lt n (2 * s) d a f ∧ ∀ k, a ≤ k → f k = e k) (fun v u _ => n - (intOf v).toNat)
          case atStart => exact ⟨0, e, rfl, by go_num, Nat.zero_le _, Nat.dvd_zero _, hre, hbu, tw.out, fun k _ => rfl⟩
          case round =>
            obtain ⟨a, f, rfl, rfl, han, hda, hrf, hbf, hsf, htf⟩ := hrel
            clear hre hbu tw
            replace hsf := Lib.hid hsf
            replace hbf := Lib.hid hbf
            replace hda := Lib.hid hda
            by_cases hl2 : a + 2 * s ≤ n
            · obtain ⟨m1, m2, m3⟩ := hst.out.merge hx hda.out rfl (show a + s < n by omega) (show a + 2 * s = min (a + 2 * s) n by omega) htf hgood.out
              have hc := hmer.out (2 * s) a (a + s) (a + 2 * s) f wr (by omega) hrf (by omega) (by omega) hl2 m1 m2 m3
              clear m1 m2 m3
              replace hc := Lib.hid hc
              replace htf := Lib.hid htf
              replace hrf := Lib.hid hrf
              have q1 : (a : Int) + 2 * (s : Int) ≤ (n : Int) := by omega
              go_wp2_with fail
              refine hc.out.mono ?_
              rintro e1 W1 ⟨rfl, h, r1, b1, p1, s1⟩
              have b2 := hbf.out.trans b1
              have hs2 := hsf.out.step (by omega) hda.out (by omega) p1 s1
              have ht2 : ∀ k, a + 2 * s ≤ k → h k = e k := fun k hk => by rw [p1.out (Or.inr hk)]; exact htf.out k (by omega)
              replace r1 := Lib.hid r1
              replace b2 := Lib.hid b2
              replace hs2 := Lib.hid hs2
              replace ht2 := Lib.hid ht2
              clear b1 p1 s1 hc
              go_wp2_with fail
              go_roundw
              case rel => exact ⟨a + 2 * s, h, by go_num, by go_num, hl2, Nat.dvd_add hda.out (Nat.dvd_refl _), r1.out, b2.out, hs2.out, ht2.out⟩
              case measure => simp [intOf]; omega
            · have q1 : ¬ (a : Int) + 2 * (s : Int) ≤ (n : Int) := by omega
              by_cases hm : a + s < n
              · obtain ⟨m1, m2, m3⟩ := hst.out.merge hx hda.out rfl hm (show n = min (a + 2 * s) n by omega) htf hgood.out
                have hc := hmer.out (n - a) a (a + s) n f wr (by omega) hrf (by omega) (by omega) (Nat.le_refl _) m1 m2 m3
                clear m1 m2 m3
                replace hc := Lib.hid hc
                replace htf := Lib.hid htf
                replace hrf := Lib.hid hrf
                have q2 : (a : Int) + (s : Int) < (n : Int) := by omega
                go_wp2_with fail
                refine hc.out.mono ?_
                rintro e1 W1 ⟨rfl, h, r1, b1, p1, s1⟩
                have b2 := hbf.out.trans b1
                have hs2 := hsf.out.step (by omega) hda.out (by omega) p1 s1
                replace r1 := Lib.hid r1
                replace b2 := Lib.hid b2
                replace hs2 := Lib.hid hs2
                clear b1 p1 s1 hc
                go_wp2_with fail
                go_roundw
                case rel => exact ⟨2 * s, a + 2 * s, h, by go_num, by omega, by omega, by omega, r1.out, b2.out, hs2.out⟩
                case measure => simp [intOf]; omega
              · have hs2 := hsf.out.step (b := n) (d' := f) (by omega) hda.out (by omega) .refl (by
                  have h2 : s ∣ a := Nat.dvd_trans ⟨2, by rw [Nat.mul_comm]⟩ hda.out
                  have := hst.out.so' hx h2
                  rw [show min (a + s) n = n by omega] at this
                  exact this.congr fun k k1 _ => htf k k1)
                replace hs2 := Lib.hid hs2
                replace htf := Lib.hid htf
                replace hrf := Lib.hid hrf
                have q2 : ¬ (a : Int) + (s : Int) < (n : Int) := by omega
                go_wp2_with fail
                go_roundw
                case rel => exact ⟨2 * s, a + 2 * s, f, by go_num, by omega, by omega, by omega, hrf.out, hbf.out, hs2.out⟩
                case measure => simp [intOf]; omega
        · have hd := hst.sorted hx (by omega)
          have hp := hst.pm
          clear hst
          replace hd := Lib.hid hd
          replace hp := Lib.hid hp
          go_wp2_with fail
          refine bodyPost_end (results_none rfl _ _ _) rfl ?_
          exact ⟨rfl, e, hre, hbu, hp.out, hd.out⟩
end Go.Proofs.Ytlaodkolkoefgaa
