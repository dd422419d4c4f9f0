/-
  What symmetric merging does, in plain Lean.
-/
import Derived.Test.YtlaodkolkoefgaaSortP
import Derived.Test.YtlaodkolkoefgaaSortR
namespace Go.Proofs.Ytlaodkolkoefgaa
set_option linter.unusedSimpArgs false
set_option linter.unusedVariables false

def GoodM (cf : Ty → Ty → Int) (lt : Ty → Ty → Bool) (a m b : Nat) (d : Fn') : Prop := ∀ p q, a ≤ p → p < m → m ≤ q → q < b → decide (cf (d q) (d p) < 0) = lt (d q) (d p)

structure Parts (cf : Ty → Ty → Int) (lt : Ty → Ty → Bool) (a s mid en b : Nat) (e : Fn') : Prop where
  s1 : SortedIn lt a s e
  s2 : SortedIn lt s mid e
  s3 : SortedIn lt mid en e
  s4 : SortedIn lt en b e
  g1 : GoodM cf lt a s mid e
  g2 : GoodM cf lt mid en b e
  cross : ∀ p q, a ≤ p → p < mid → mid ≤ q → q < b → lt (e q) (e p) = false

theorem rot_at {d : Fn'} {s m en mid k : Nat} (hs : s ≤ m) (he : m ≤ en) (hmid : s + (en - m) = mid) :
    (k < s → rotF d s m en k = d k) ∧ (s ≤ k → k < mid → rotF d s m en k = d (k + (m - s))) ∧ (mid ≤ k → k < en → rotF d s m en k = d (k - (en - m))) ∧ (en ≤ k → rotF d s m en k = d k) :=
  ⟨fun h => rotF_other ⟨hs, he⟩ (Or.inl h), fun h1 h2 => rotF_left ⟨h1, by omega⟩, fun h1 h2 => rotF_right ⟨by omega, h2⟩, fun h => rotF_other ⟨hs, he⟩ (Or.inr h)⟩

theorem merge_parts {cf : Ty → Ty → Int} {lt : Ty → Ty → Bool} (ho : LtOk lt) {a m b mid s en s0 r0 : Nat} {d : Fn'} (hs1 : SortedIn lt a m d) (hs2 : SortedIn lt m b d) (hg : GoodM cf lt a m b d)
    (hcase : (mid < m ∧ s0 = mid + m - b ∧ r0 = mid) ∨ (m ≤ mid ∧ s0 = a ∧ r0 = m)) (has : a ≤ s0) (hss : s0 ≤ s) (hsr : s ≤ r0) (hen : en + s = mid + m) (heb : en ≤ b) (hmb : m ≤ b)
    (hlow : s0 < s → lt (d en) (d (s - 1)) = false) (hhigh : s < r0 → lt (d (en - 1)) (d s) = true) : Parts cf lt a s mid en b (rotF d s m en) := by
  have hsm : s ≤ m := by omega
  have hme : m ≤ en := by omega
  have hsmid : s ≤ mid := by omega
  have hmen : mid ≤ en := by omega
  have hat := fun k => rot_at (d := d) (k := k) hsm hme (show s + (en - m) = mid by omega)
  have x1 : ∀ k, k < s → rotF d s m en k = d k := fun k => (hat k).1
  have x2 : ∀ k, s ≤ k → k < mid → rotF d s m en k = d (k + (m - s)) := fun k => (hat k).2.1
  have x3 : ∀ k, mid ≤ k → k < en → rotF d s m en k = d (k - (en - m)) := fun k => (hat k).2.2.1
  have x4 : ∀ k, en ≤ k → rotF d s m en k = d k := fun k => (hat k).2.2.2
  clear hat
  generalize rotF d s m en = e at *
  refine ⟨?_, ?_, ?_, ?_, ?_, ?_, ?_⟩
  · intro p q h1 h2 h3; rw [x1 p (by omega), x1 q h3]; exact hs1 p q h1 h2 (by omega)
  · intro p q h1 h2 h3; rw [x2 p h1 (by omega), x2 q (by omega) h3]; exact hs2 _ _ (by omega) (by omega) (by omega)
  · intro p q h1 h2 h3; rw [x3 p h1 (by omega), x3 q (by omega) h3]; exact hs1 _ _ (by omega) (by omega) (by omega)
  · intro p q h1 h2 h3; rw [x4 p h1, x4 q (by omega)]; exact hs2 p q (by omega) h2 h3
  · intro p q h1 h2 h3 h4; rw [x1 p h2, x2 q h3 h4]; exact hg _ _ (by omega) (by omega) (by omega) (by omega)
  · intro p q h1 h2 h3 h4; rw [x3 p h1 h2, x4 q h3]; exact hg _ _ (by omega) (by omega) (by omega) (by omega)
  · intro p q h1 h2 h3 h4
    by_cases hp : p < s
    · rw [x1 p hp]
      by_cases hq : q < en
      · rw [x3 q h3 hq]; exact hs1 _ _ h1 (by omega) (by omega)
      · rw [x4 q (by omega)]
        have hl : lt (d en) (d (s - 1)) = false := hlow (by omega)
        have h5 : lt (d q) (d (s - 1)) = false := mono_right' ho hs2 (k := q) (h := en) (by omega) (by omega) h4 hl
        rcases Nat.lt_or_eq_of_le (show p ≤ s - 1 by omega) with h6 | rfl
        · exact ho.trans _ _ _ (hs1 p (s - 1) h1 h6 (by omega)) h5
        · exact h5
    · rw [x2 p (by omega) h2]
      by_cases hq : q < en
      · rw [x3 q h3 hq]
        have hl : lt (d (en - 1)) (d s) = true := hhigh (by omega)
        have h5 := ho.asymm _ _ hl
        have h6 : lt (d (q - (en - m))) (d (en - 1)) = false := by
          rcases Nat.lt_or_eq_of_le (show s ≤ q - (en - m) by omega) with h7 | h7
          · exact ho.trans _ _ _ h5 (hs1 _ _ (by omega) h7 (by omega))
          · rw [← h7]; exact h5
        rcases Nat.lt_or_eq_of_le (show p + (m - s) ≤ en - 1 by omega) with h7 | h7
        · exact ho.trans _ _ _ (hs2 _ _ (by omega) h7 (by omega)) h6
        · rw [h7]; exact h6
      · rw [x4 q (by omega)]; exact hs2 _ _ (by omega) (by omega) h4

/-- The end of a merge: both halves are merged. -/
theorem merge_end {cf : Ty → Ty → Int} {lt : Ty → Ty → Bool} {a s mid en b : Nat} {d e f h : Fn'} (hp : Parts cf lt a s mid en b e) (h1 : PermIn a b d e) (h2 : PermIn a mid e f) (h3 : SortedIn lt a mid f) (h4 : PermIn mid b f h) (h5 : SortedIn lt mid b h) (ham : a ≤ mid) (hmb : mid ≤ b) :
    PermIn a b d h ∧ SortedIn lt a b h := by
  refine ⟨(h1.trans (h2.mono (Nat.le_refl _) hmb)).trans (h4.mono ham (Nat.le_refl _)), sorted_join (h3.congr fun k k1 k2 => h4.out (Or.inl k2)) h5 ?_⟩
  intro p q p1 p2 q1 q2
  rw [h4.out (k := p) (Or.inl p2)]
  obtain ⟨j, j1, j2, j3⟩ := h2.from p p1 p2
  obtain ⟨i, i1, i2, i3⟩ := h4.from q q1 q2
  rw [j3, i3, h2.out (k := i) (Or.inr i1)]
  exact hp.cross j i j1 j2 i1 i2
/-- A half that needs no merging. -/
theorem merge_none {lt : Ty → Ty → Bool} {a s b : Nat} {e : Fn'} (h1 : SortedIn lt a s e) (h2 : SortedIn lt s b e) (h : s = a ∨ s = b) : SortedIn lt a b e := by
  rcases h with rfl | rfl
  · exact h2
  · exact h1
end Go.Proofs.Ytlaodkolkoefgaa
