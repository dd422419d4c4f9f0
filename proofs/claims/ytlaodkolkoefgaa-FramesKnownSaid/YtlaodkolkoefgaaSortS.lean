/-
  A row sorted stretch by stretch, in plain Lean.
-/
import Derived.Test.YtlaodkolkoefgaaSortQ
namespace Go.Proofs.Ytlaodkolkoefgaa
set_option linter.unusedSimpArgs false
set_option linter.unusedVariables false

/-- Ahead of x all is in stretches of s ticks, each sorted; each stretch holds what stood in it at the start. -/
structure Str (lt : Ty → Ty → Bool) (n s : Nat) (d0 : Fn') (x : Nat) (d : Fn') : Prop where
  so : ∀ a, s ∣ a → a < x → SortedIn lt a (min (a + s) n) d
  ho : ∀ a, s ∣ a → ∀ k, a ≤ k → k < a + s → k < n → ∃ q, a ≤ q ∧ q < a + s ∧ q < n ∧ d k = d0 q
  pm : PermIn 0 n d0 d

section
variable {lt : Ty → Ty → Bool} {n s x : Nat} {d0 d e : Fn'}
theorem Str.start (lt : Ty → Ty → Bool) (n s : Nat) (d0 : Fn') : Str lt n s d0 0 d0 where
  so a _ h := absurd h (by omega)
  ho a _ k h1 h2 h3 := ⟨k, h1, h2, h3, rfl⟩
  pm := .refl
theorem dvd_apart {s a b : Nat} (ha : s ∣ a) (hb : s ∣ b) (h : a < b) : a + s ≤ b := by
  have h1 : s ∣ b - a := Nat.dvd_sub hb ha
  have := Nat.le_of_dvd (by omega) h1
  omega
theorem Str.step {b : Nat} {d' : Fn'} (h : Str lt n s d0 x d) (hs : 0 < s) (hx : s ∣ x) (hb : b = min (x + s) n) (hp : PermIn x b d d') (hd : SortedIn lt x b d') : Str lt n s d0 (x + s) d' where
  so a h1 h2 := by
    rcases Nat.lt_trichotomy a x with h3 | h3 | h3
    · have := dvd_apart h1 hx h3
      exact (h.so a h1 h3).congr fun k k1 k2 => hp.out (Or.inl (by omega))
    · subst h3 hb; exact hd
    · have := dvd_apart hx h1 h3; omega
  ho a h1 k k1 k2 k3 := by
    rcases Nat.lt_trichotomy a x with h3 | h3 | h3
    · have := dvd_apart h1 hx h3
      rw [hp.out (Or.inl (by omega))]; exact h.ho a h1 k k1 k2 k3
    · subst h3
      obtain ⟨j, j1, j2, j3⟩ := hp.from k k1 (by omega)
      obtain ⟨q, q1, q2, q3, q4⟩ := h.ho a h1 j j1 (by omega) (by omega)
      exact ⟨q, q1, q2, q3, by rw [j3, q4]⟩
    · have := dvd_apart hx h1 h3
      rw [hp.out (Or.inr (by omega))]; exact h.ho a h1 k k1 k2 k3
  pm := h.pm.trans (hp.mono (Nat.zero_le _) (by omega))
/-- Two stretches as one: nothing of it is sorted yet. -/
theorem Str.twice (h : Str lt n s d0 x d) : Str lt n (2 * s) d0 0 d where
  so a _ h := absurd h (by omega)
  ho a h1 k k1 k2 k3 := by
    have h2 : s ∣ a := Nat.dvd_trans ⟨2, by rw [Nat.mul_comm]⟩ h1
    by_cases hk : k < a + s
    · obtain ⟨q, q1, q2, q3, q4⟩ := h.ho a h2 k k1 hk k3
      exact ⟨q, q1, by omega, q3, q4⟩
    · obtain ⟨q, q1, q2, q3, q4⟩ := h.ho (a + s) (Nat.dvd_add h2 (Nat.dvd_refl _)) k (by omega) (by omega) k3
      exact ⟨q, by omega, by omega, q3, q4⟩
  pm := h.pm
theorem Str.sorted (h : Str lt n s d0 x d) (hx : n ≤ x) (hs : n ≤ s) : SortedIn lt 0 n d := by
  by_cases hn : 0 < x
  · have := h.so 0 (Nat.dvd_zero _) hn
    rw [show min (0 + s) n = n by omega] at this
    exact this
  · exact SortedIn.small (by omega)
theorem Str.so' (h : Str lt n s d0 x d) (hx : n ≤ x) {a : Nat} (ha : s ∣ a) : SortedIn lt a (min (a + s) n) d := by
  by_cases h1 : a < x
  · exact h.so a ha h1
  · exact SortedIn.small (by omega)
/-- What merging two stretches that nothing has touched wants. -/
theorem Str.merge {cf : Ty → Ty → Int} {a m b : Nat} (h : Str lt n s d0 x e) (hx : n ≤ x) (ha : 2 * s ∣ a) (hm : m = a + s) (hmn : m < n) (hb : b = min (a + 2 * s) n) (ht : ∀ k, a ≤ k → d k = e k)
    (hg : ∀ p q, p < q → q < n → decide (cf (d0 q) (d0 p) < 0) = lt (d0 q) (d0 p)) : SortedIn lt a m d ∧ SortedIn lt m b d ∧ GoodM cf lt a m b d := by
  have h2 : s ∣ a := Nat.dvd_trans ⟨2, by rw [Nat.mul_comm]⟩ ha
  have h3 : s ∣ m := by subst hm; exact Nat.dvd_add h2 (Nat.dvd_refl _)
  refine ⟨?_, ?_, ?_⟩
  · have := h.so' hx h2
    rw [show min (a + s) n = m by omega] at this
    exact this.congr fun k k1 _ => ht k k1
  · have := h.so' hx h3
    rw [show min (m + s) n = b by omega] at this
    exact this.congr fun k k1 _ => ht k (by omega)
  · intro p q p1 p2 q1 q2
    obtain ⟨i, i1, i2, i3, i4⟩ := h.ho a h2 p p1 (by omega) (by omega)
    obtain ⟨j, j1, j2, j3, j4⟩ := h.ho m h3 q q1 (by omega) (by omega)
    rw [ht p p1, ht q (by omega), i4, j4]
    exact hg i j (by omega) j3
end
end Go.Proofs.Ytlaodkolkoefgaa
