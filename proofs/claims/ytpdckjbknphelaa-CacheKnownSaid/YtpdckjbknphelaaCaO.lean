/-
  Rows of elements of some cells each that a call owns; append of one element onto them.
-/
import Derived.Test.YtpdckjbknphelaaChunkO
namespace Go.Proofs.Ytpdckjbknphelaa
open Go.RowKit
set_option linter.unusedSimpArgs false
set_option linter.unusedVariables false

theorem flat_at {z : Nat} : ∀ {xs : List (List Value)} {j i : Nat} {x : List Value}, (∀ x ∈ xs, x.length = z) → xs[j]? = some x → i < z → xs.flatten[j * z + i]? = x[i]?
  | [], j, i, x, _, h, _ => by simp at h
  | y :: r, 0, i, x, hz, h, hi => by
    obtain rfl : y = x := by simpa using h
    rw [List.flatten_cons, Nat.zero_mul, Nat.zero_add, List.getElem?_append_left (by rw [hz y List.mem_cons_self]; exact hi)]
  | y :: r, j + 1, i, x, hz, h, hi => by
    have := flat_at (xs := r) (j := j) (i := i) (x := x) (fun x hx => hz x (List.mem_cons_of_mem _ hx)) (by simpa using h) hi
    rw [List.flatten_cons, List.getElem?_append_right (by rw [hz y List.mem_cons_self, Nat.add_mul]; omega), hz y List.mem_cons_self]
    rw [show (j + 1) * z + i - z = j * z + i by rw [Nat.add_mul]; omega]
    exact this
def ROwn (w : World) (B : Nat) (E : TypeId) (z : Nat) (v : Value) (xs : List (List Value)) : Prop := w.ownsRow B E z v xs.length xs.flatten ∧ ∀ x ∈ xs, x.length = z ∧ ∀ u ∈ x, u.oneCell' = true
section
variable {w w' : World} {B z : Nat} {E : TypeId} {v : Value} {xs : List (List Value)}
theorem ROwn.nil (w : World) (B : Nat) (E : TypeId) (z : Nat) : ROwn w B E z (.slice none 0 0) [] := ⟨World.ownsRow_nil w B _ z, fun x h => by cases h⟩
theorem ROwn.block (h : ROwn w B E z v xs) (hb : ∀ g, v.ownBlock = some g → w'.heap[g]? = w.heap[g]?) : ROwn w' B E z v xs := by
  refine ⟨⟨h.1.1, ?_⟩, h.2⟩
  rcases h.1.2 with hn | ⟨g, cap, cur, hv, hbg, hg, rest⟩
  · exact .inl hn
  · exact .inr ⟨g, cap, cur, hv, hbg, (hb g (by rw [hv]; rfl)).trans hg, rest⟩
theorem ROwn.lt (h : ROwn w B E z v xs) {g : Nat} (hg : v.ownBlock = some g) : B ≤ g ∧ g < w.heap.size := World.ownsRow.lt h.1 g hg
theorem ROwn.keep (h : ROwn w B E z v xs) (hb : Below w.heap.size w w') : ROwn w' B E z v xs := h.block fun g hg => hb.block g (h.lt hg).2
theorem ROwn.but {b : Nat} (h : ROwn w B E z v xs) (hb : But b w w') (hne : v.ownBlock ≠ some b) : ROwn w' B E z v xs := h.block fun g hg => hb.block g (h.lt hg).2 (fun e => hne (by rw [← e]; exact hg))
theorem ROwn.grown {r : Option Nat} (h : ROwn w B E z v xs) (hb : w.grownBy w' r) (hne : ∀ g, v.ownBlock = some g → some g ≠ r) : ROwn w' B E z v xs := h.block fun g hg => hb.block g (h.lt hg).2 (hne g hg)
theorem ROwn.blk (h : ROwn w B E z v xs) {g : Nat} (hg : v.ownBlock = some g) : ∃ cs, Blk w g cs E := by
  rcases h.1.2 with ⟨rfl, _⟩ | ⟨g', cap, cur, rfl, hbg, hgg, rest⟩
  · simp [Value.ownBlock] at hg
  · simp [Value.ownBlock] at hg
    subst hg
    exact ⟨cur.toList, by unfold Blk; simpa using hgg⟩
/-- It lies in no block of another kind. -/
theorem ROwn.ne (h : ROwn w B E z v xs) {b : Nat} {cs : List Value} {T : TypeId} (k : Blk w b cs T) (hT : T ≠ E) : v.ownBlock ≠ some b := fun e => by
  obtain ⟨cs', k'⟩ := h.blk e
  unfold Blk at k k'
  rw [k] at k'
  injection k' with k'
  injection k' with _ k2
  exact hT k2
theorem ROwn.open (h : ROwn w B E z v xs) : ∃ base cap, v = .slice base xs.length cap ∧ xs.length ≤ cap ∧ cap ≤ maxLen ∧
    (xs ≠ [] → ∃ g, base = some ⟨g, 0, none⟩ ∧ B ≤ g ∧ ∀ j x, xs[j]? = some x → ∀ i u, x[i]? = some u → w.cell? ⟨g, j * z + i, none⟩ = some u) := by
  have hc := fun g (hg : v.ownBlock = some g) => h.1.cells hg
  rcases h.1.2 with ⟨rfl, h0⟩ | ⟨g, cap, cur, rfl, hbg, hgg, hnc, hcm, hcs, htake⟩
  · exact ⟨none, 0, by rw [h0], by omega, Nat.zero_le _, fun hne => absurd (List.eq_nil_of_length_eq_zero h0) hne⟩
  · refine ⟨some ⟨g, 0, none⟩, cap, rfl, hnc, hcm, fun _ => ⟨g, rfl, hbg, fun j x hx i u hu => ?_⟩⟩
    have hadd : ∀ j, (⟨g, 0, none⟩ : Addr).add j = ⟨g, j, none⟩ := fun j => by unfold Addr.add; split <;> simp_all
    rw [← hadd]
    refine hc g rfl _ _ ?_
    have hlen := (h.2 x (List.mem_of_getElem? hx)).1
    rw [flat_at (fun x hx => (h.2 x hx).1) hx (by have := (List.getElem?_eq_some_iff.1 hu).1; omega)]
    exact hu
/-- One element, that lies in a block of its own, is appended. -/
theorem ROwn.append {S : TypeId} {zv : Value} {by_ b : Nat} {x : List Value} (h : ROwn w B E z v xs) (ty : TypeId) (hS : Try.prog.underlying S = some (.slice E)) (hinf : (Try.prog.info? E).map (fun i => (i.zero, i.size, i.bytes)) = some (some zv, z, by_)) (hzv : zv.cells.size = z) (hz0 : 0 < z)
    (hb : Blk w b x E) (hx : x.length = z) (hx1 : ∀ u ∈ x, u.oneCell' = true) (hlen : xs.length ≤ 1000000) (hby : by_ ≤ 1000) (hB : B ≤ w.heap.size) :
    ∃ v' w', (Builtin.append_ #[S, S] ty #[v, .slice (some ⟨b, 0, none⟩) 1 1]).run Try.prog w = .ok v' w' ∧ ROwn w' B E z v' (xs ++ [x]) ∧ w.grownBy w' v.ownBlock ∧ (v'.ownBlock = v.ownBlock ∨ v'.ownBlock = some w.heap.size) := by
  obtain ⟨i0, hi, hz0', hz1, hz2⟩ := info_parts hinf
  have hadd : ∀ j, (⟨b, 0, none⟩ : Addr).add j = ⟨b, j, none⟩ := fun j => by unfold Addr.add; split <;> simp_all
  have hb2 : (xs.length + 1) * by_ ≤ 140737488355328 := Nat.le_trans (Nat.mul_le_mul (show xs.length + 1 ≤ 1000001 by omega) hby) (by decide)
  obtain ⟨v', w', hr, h4, h5, h6, h7⟩ := run_append_own_at (P := Try.prog) w B S ty E i0 zv z by_ hS hi hz0' hz1 hz2 hzv hz0 v xs.length xs.flatten h.1
    ⟨b, 0, none⟩ 1 1 x (by rw [Nat.one_mul]; exact hx) (fun j u hj => by rw [hadd]; exact hb.cell j hj) hx1 (by unfold maxLen; omega) hb2 hB
  refine ⟨v', w', hr, ⟨?_, fun y hy => ?_⟩, h5, h7⟩
  · rw [List.length_append, List.flatten_append]
    simpa using h4
  · rcases List.mem_append.1 hy with hy | hy
    · exact h.2 y hy
    · obtain rfl : y = x := by simpa using hy
      exact ⟨hx, hx1⟩
end
end Go.Proofs.Ytpdckjbknphelaa
