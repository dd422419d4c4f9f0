/-
  What is ready of a rising list of ticks, and its least due: in plain Lean.
-/
import Derived.Test.YtmpnpanlabkkdaaOrderP
import Derived.Test.YtmpnpanlabkkdaaChunkZ
namespace Go.Proofs.Ytmpnpanlabkkdaa
set_option linter.unusedSimpArgs false
set_option linter.unusedVariables false

theorem least_foldl (r : List Tk) : ∀ m : Int, (r.foldl (fun m u => if u.2 < m then u.2 else m) m ≤ m ∧ ∀ u ∈ r, r.foldl (fun m u => if u.2 < m then u.2 else m) m ≤ u.2) ∧ (r.foldl (fun m u => if u.2 < m then u.2 else m) m = m ∨ ∃ u ∈ r, r.foldl (fun m u => if u.2 < m then u.2 else m) m = u.2) := by
  induction r with
  | nil => intro m; exact ⟨⟨Int.le_refl _, fun u h => by cases h⟩, Or.inl rfl⟩
  | cons t r ih =>
    intro m
    have := ih (if t.2 < m then t.2 else m)
    rw [List.foldl_cons]
    obtain ⟨⟨h1, h2⟩, h3⟩ := this
    refine ⟨⟨?_, fun u hu => ?_⟩, ?_⟩
    · refine Int.le_trans h1 ?_
      split <;> omega
    · rcases List.mem_cons.1 hu with rfl | hu
      · refine Int.le_trans h1 ?_
        split <;> omega
      · exact h2 u hu
    · rcases h3 with h3 | ⟨u, hu, h3⟩
      · rw [h3]
        by_cases hlt : t.2 < m
        · rw [if_pos hlt]; exact Or.inr ⟨t, List.mem_cons_self, rfl⟩
        · rw [if_neg hlt]; exact Or.inl rfl
      · exact Or.inr ⟨u, List.mem_cons_of_mem _ hu, h3⟩
theorem leastL_spec {ts : List Tk} (h : ts ≠ []) : (∀ u ∈ ts, leastL ts ≤ u.2) ∧ ∃ u ∈ ts, leastL ts = u.2 := by
  cases ts with
  | nil => exact absurd rfl h
  | cons t r =>
    obtain ⟨⟨h1, h2⟩, h3⟩ := least_foldl r t.2
    refine ⟨fun u hu => ?_, ?_⟩
    · rcases List.mem_cons.1 hu with rfl | hu
      · exact h1
      · exact h2 u hu
    · rcases h3 with h3 | ⟨u, hu, h3⟩
      · exact ⟨t, List.mem_cons_self, h3⟩
      · exact ⟨u, List.mem_cons_of_mem _ hu, h3⟩
section
variable {ts : List Tk} {D : Nat → Int}
/-- What is ready rises. -/
theorem Rise.ready (h : Rise ts D) {now : Int} {r : List Tk} (hp : r.Perm (ts.filter (dueF now))) (hs : r.Pairwise (fun x y => ltR y x = false)) {i : Nat} {a b : Tk} (ha : r[i]? = some a) (hb : r[i + 1]? = some b) : ¬ b.2 < a.2 ∧ ¬ (a.2 = b.2 ∧ b.1 ≤ a.1) := by
  obtain ⟨hi1, e1⟩ := List.getElem?_eq_some_iff.1 ha
  obtain ⟨hi2, e2⟩ := List.getElem?_eq_some_iff.1 hb
  have h1 := List.pairwise_iff_getElem.1 hs i (i + 1) hi1 hi2 (by omega)
  rw [e1, e2] at h1
  have hne : r.Pairwise (fun x y : Tk => x.1 ≠ y.1) := by
    refine (hp.pairwise_iff (fun {x y} hxy => Ne.symm hxy)).2 ?_
    refine (h.up.sublist List.filter_sublist).imp (fun {x y} hxy => ?_)
    have : x.1 < y.1 := hxy
    omega
  have h2 := List.pairwise_iff_getElem.1 hne i (i + 1) hi1 hi2 (by omega)
  rw [e1, e2] at h2
  have h2' : a.1 ≠ b.1 := h2
  unfold ltR at h1
  simp at h1
  omega
/-- The first that is ready is the least. -/
theorem ready_least {now : Int} {r : List Tk} (hp : r.Perm (ts.filter (dueF now))) (hs : r.Pairwise (fun x y => ltR y x = false)) {a : Tk} (ha : r[0]? = some a) : a.2 = leastL ts := by
  obtain ⟨hi1, e1⟩ := List.getElem?_eq_some_iff.1 ha
  have ham : a ∈ ts.filter (dueF now) := hp.mem_iff.1 (List.mem_of_getElem? ha)
  rw [List.mem_filter] at ham
  have hne : ts ≠ [] := fun e => by rw [e] at ham; exact absurd ham.1 (by simp)
  obtain ⟨hl1, u, hu, hl2⟩ := leastL_spec hne
  have h1 := hl1 a ham.1
  have hnow : a.2 ≤ now := by simpa [dueF] using ham.2
  have hur : u ∈ r := hp.mem_iff.2 (List.mem_filter.2 ⟨hu, by simp [dueF]; omega⟩)
  obtain ⟨j, hj, ej⟩ := List.getElem_of_mem hur
  rcases Nat.eq_zero_or_pos j with rfl | hpos
  · have : a = u := by rw [← e1, ej]
    rw [this]; exact hl2.symm
  · have h2 := List.pairwise_iff_getElem.1 hs 0 j hi1 hj hpos
    rw [e1, ej] at h2
    unfold ltR at h2
    simp at h2
    omega
theorem ready_nil_iff {now : Int} {r : List Tk} (hp : r.Perm (ts.filter (dueF now))) : r.length ≤ ts.length := by
  rw [hp.length_eq]; exact List.length_filter_le _ _
end
end Go.Proofs.Ytmpnpanlabkkdaa
