/-
  What is ready of a list of ticks, taken one by one, the first ahead: in plain Lean.
-/
import Derived.Test.YtlaodkolkoefgaaChunkP
import Derived.Test.YtlaodkolkoefgaaSortP
namespace Go.Proofs.Ytlaodkolkoefgaa
set_option linter.unusedSimpArgs false
set_option linter.unusedVariables false

def ltR (x y : Ty) : Bool := decide (x.2 < y.2 ∨ x.2 = y.2 ∧ x.1 < y.1)
theorem ltR_trans (x y z : Ty) (h1 : ltR x y = true) (h2 : ltR y z = true) : ltR x z = true := by unfold ltR at *; simp at *; omega
theorem ltR_irrefl (x : Ty) : ltR x x = false := by unfold ltR; simp
theorem ltR_eq (x y : Ty) (h1 : ltR x y = false) (h2 : ltR y x = false) : x = y := by
  unfold ltR at *
  simp at h1 h2
  exact Prod.ext (by omega) (by omega)
def dueF (now : Int) : Ty → Bool := fun t => decide (t.2 ≤ now)
theorem filter_step {now : Int} {ts : List Ty} {k : Nat} {t : Ty} (h : ts[k]? = some t) : (ts.take (k + 1)).filter (dueF now) = (ts.take k).filter (dueF now) ++ (if t.2 ≤ now then [t] else []) := by
  rw [List.take_add_one, h, Option.toList_some, List.filter_append]
  congr 1
  unfold dueF
  by_cases h1 : t.2 ≤ now <;> simp [h1]

/-- The indexes of what is left: due, and not gone. -/
def leftI (ts : List Tk) (now : Int) (G : Nat → Bool) : List Nat := (List.range ts.length).filter (fun i => !G i && dueF now (ts.getD i (0, 0)))
def leftL (ts : List Tk) (now : Int) (G : Nat → Bool) : List Tk := (leftI ts now G).map (fun i => ts.getD i (0, 0))
section
variable {ts us : List Tk} {now : Int} {G : Nat → Bool} {m k : Nat}
theorem mem_leftI : k ∈ leftI ts now G ↔ k < ts.length ∧ G k = false ∧ (ts.getD k (0, 0)).2 ≤ now := by
  unfold leftI dueF
  rw [List.mem_filter, List.mem_range]
  simp
theorem getD_of {t : Tk} (h : ts[k]? = some t) : ts.getD k (0, 0) = t := by simp [List.getD, h]
theorem leftL_start : leftL ts now (fun _ => false) = ts.filter (dueF now) := by
  have h : (List.range ts.length).map (fun i => ts.getD i (0, 0)) = ts := by
    apply List.ext_getElem?
    intro j
    rw [List.getElem?_map]
    by_cases hj : j < ts.length
    · rw [List.getElem?_range hj, List.getElem?_eq_getElem hj]
      simp [List.getD, List.getElem?_eq_getElem hj]
    · rw [List.getElem?_eq_none (by simpa using hj), List.getElem?_eq_none (by omega)]; rfl
  have h2 : ts.filter (dueF now) = ((List.range ts.length).map (fun i => ts.getD i (0, 0))).filter (dueF now) := by rw [h]
  rw [h2, List.filter_map]
  unfold leftL leftI
  congr 1
theorem leftI_nodup : (leftI ts now G).Nodup := List.Nodup.sublist List.filter_sublist List.nodup_range
theorem leftI_take : leftI ts now (fun i => if i = m then true else G i) = (leftI ts now G).erase m := by
  rw [List.Nodup.erase_eq_filter leftI_nodup]
  unfold leftI
  rw [List.filter_filter]
  apply List.filter_congr
  intro i _
  by_cases h : i = m
  · subst h; simp
  · simp [h]
theorem leftL_take (hm : m ∈ leftI ts now G) : (leftL ts now G).Perm (ts.getD m (0, 0) :: leftL ts now (fun i => if i = m then true else G i)) := by
  unfold leftL
  rw [leftI_take]
  exact (List.perm_cons_erase hm).map _

/-- What has been taken: it rises; what is left stands behind it. -/
structure Sel (ts : List Tk) (now : Int) (G : Nat → Bool) (us : List Tk) : Prop where
  perm : (us ++ leftL ts now G).Perm (ts.filter (dueF now))
  sorted : us.Pairwise (fun x y => ltR y x = false)
  below : ∀ u ∈ us, ∀ r ∈ leftL ts now G, ltR r u = false
theorem Sel.start : Sel ts now (fun _ => false) [] := ⟨by rw [leftL_start]; exact List.Perm.refl _, List.Pairwise.nil, fun u h => by cases h⟩
theorem mem_leftL (hk : k ∈ leftI ts now G) : ts.getD k (0, 0) ∈ leftL ts now G := List.mem_map.2 ⟨k, hk, rfl⟩
theorem Sel.step (h : Sel ts now G us) (hm : m ∈ leftI ts now G) (hmin : ∀ j ∈ leftI ts now G, ltR (ts.getD j (0, 0)) (ts.getD m (0, 0)) = false) : Sel ts now (fun i => if i = m then true else G i) (us ++ [ts.getD m (0, 0)]) := by
  have hp := leftL_take hm
  have hsub : ∀ r, r ∈ leftL ts now (fun i => if i = m then true else G i) → r ∈ leftL ts now G := fun r hr => hp.mem_iff.2 (List.mem_cons_of_mem _ hr)
  refine ⟨?_, ?_, ?_⟩
  · rw [List.append_assoc]
    exact (List.Perm.append_left us hp.symm).trans h.perm
  · rw [List.pairwise_append]
    exact ⟨h.sorted, List.pairwise_singleton _ _, fun a ha b hb => by
      rw [List.mem_singleton] at hb
      subst hb
      exact h.below a ha _ (mem_leftL hm)⟩
  · intro u hu r hr
    rcases List.mem_append.1 hu with hu | hu
    · exact h.below u hu r (hsub r hr)
    · rw [List.mem_singleton] at hu
      subst hu
      obtain ⟨j, hj, rfl⟩ := List.mem_map.1 (hsub r hr)
      exact hmin j hj
theorem Sel.done (h : Sel ts now G us) (hno : ∀ j, j < ts.length → j ∉ leftI ts now G) : us.Perm (ts.filter (dueF now)) := by
  have h1 := h.perm
  have h2 : leftI ts now G = [] := List.eq_nil_iff_forall_not_mem.2 fun j hj => hno j (mem_leftI.1 hj).1 hj
  rw [leftL, h2] at h1
  simpa using h1
theorem Sel.len (h : Sel ts now G us) : us.length ≤ ts.length := by
  have h1 := h.perm.length_eq
  have h2 := List.length_filter_le (dueF now) ts
  rw [List.length_append] at h1
  omega
theorem Sel.more (h : Sel ts now G us) (hm : m ∈ leftI ts now G) : us.length < ts.length := by
  have h1 := h.perm.length_eq
  have h2 := List.length_filter_le (dueF now) ts
  have h3 := List.length_pos_of_mem (mem_leftL hm)
  rw [List.length_append] at h1
  omega

/-- The first of what is left among the first k. -/
def Best (ts : List Tk) (now : Int) (G : Nat → Bool) (k : Nat) : Option Nat → Prop
  | none => ∀ j, j < k → j ∉ leftI ts now G
  | some m => m < k ∧ m ∈ leftI ts now G ∧ ∀ j, j < k → j ∈ leftI ts now G → ltR (ts.getD j (0, 0)) (ts.getD m (0, 0)) = false
theorem Best.skip {b : Option Nat} (h : Best ts now G k b) (hk : k ∉ leftI ts now G) : Best ts now G (k + 1) b := by
  cases b with
  | none =>
    intro j hj
    by_cases e : j = k
    · subst e; exact hk
    · exact h j (by omega)
  | some m =>
    refine ⟨by have := h.1; omega, h.2.1, fun j hj hjl => ?_⟩
    by_cases e : j = k
    · subst e; exact absurd hjl hk
    · exact h.2.2 j (by omega) hjl
theorem Best.first (h : Best ts now G k none) (hk : k ∈ leftI ts now G) : Best ts now G (k + 1) (some k) := by
  refine ⟨by omega, hk, fun j hj hjl => ?_⟩
  by_cases e : j = k
  · subst e; exact ltR_irrefl _
  · exact absurd hjl (h j (by omega))
theorem Best.less (h : Best ts now G k (some m)) (hk : k ∈ leftI ts now G) (hl : ltR (ts.getD k (0, 0)) (ts.getD m (0, 0)) = true) : Best ts now G (k + 1) (some k) := by
  refine ⟨by omega, hk, fun j hj hjl => ?_⟩
  by_cases e : j = k
  · subst e; exact ltR_irrefl _
  · have h1 := h.2.2 j (by omega) hjl
    cases h2 : ltR (ts.getD j (0, 0)) (ts.getD k (0, 0)) with
    | false => rfl
    | true => rw [ltR_trans _ _ _ h2 hl] at h1; cases h1
theorem Best.keep (h : Best ts now G k (some m)) (hl : ltR (ts.getD k (0, 0)) (ts.getD m (0, 0)) = false) : Best ts now G (k + 1) (some m) := by
  refine ⟨by have := h.1; omega, h.2.1, fun j hj hjl => ?_⟩
  by_cases e : j = k
  · subst e; exact hl
  · exact h.2.2 j (by omega) hjl
end
end Go.Proofs.Ytlaodkolkoefgaa
