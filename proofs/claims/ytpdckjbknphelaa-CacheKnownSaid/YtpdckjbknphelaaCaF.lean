/-
  The cache's search for a frame: in plain Lean.
-/
import Derived.Test.YtpdckjbknphelaaCaV
import Derived.Deep.LoopGhost
namespace Go.Proofs.Ytpdckjbknphelaa
open Go.RowKit
set_option linter.unusedSimpArgs false
set_option linter.unusedVariables false

theorem stepM_u (g : Nat → Sl) (i j : Nat) : (stepM g i j).sp = (g j).sp ∧ (stepM g i j).full = (g j).full ∧ (stepM g i j).dirty = (g j).dirty ∧ (stepM g i j).pins = (g j).pins ∧ ((g j).mark = false → (stepM g i j).mark = false) := by
  unfold stepM updS
  split
  · rename_i e
    subst e
    exact ⟨rfl, rfl, rfl, rfl, fun _ => rfl⟩
  · exact ⟨rfl, rfl, rfl, rfl, fun h => h⟩
theorem findIt_near {n : Nat} (hn : 0 < n) : ∀ (d F : Nat) (g : Nat → Sl) (h u : Nat), d < F → (h + d) % n = u → h < n → (g u).pins ≤ 0 → (g u).mark = false → findIt n F g h ≠ none
  | d, 0, g, h, u, hd, _, _, _, _ => absurd hd (Nat.not_lt_zero _)
  | 0, F + 1, g, h, u, hd, hu, hh, hp, hm => by
    rw [Nat.add_zero, Nat.mod_eq_of_lt hh] at hu
    subst hu
    unfold findIt
    rw [if_neg (by omega), if_neg (by rw [hm]; simp)]
    simp
  | d + 1, F + 1, g, h, u, hd, hu, hh, hp, hm => by
    have hu' : ((h + 1) % n + d) % n = u := by rw [Nat.mod_add_mod, ← hu]; congr 1; omega
    unfold findIt
    split
    · exact findIt_near hn d F g _ u (by omega) hu' (Nat.mod_lt _ hn) hp hm
    · split
      · have := stepM_u g h u
        exact findIt_near hn d F _ _ u (by omega) hu' (Nat.mod_lt _ hn) (by rw [this.2.2.2.1]; exact hp) (this.2.2.2.2 hm)
      · simp
theorem findIt_some {n : Nat} (hn : 0 < n) : ∀ (d F : Nat) (g : Nat → Sl) (h u : Nat), d + n < F → (h + d) % n = u → h < n → (g u).pins ≤ 0 → findIt n F g h ≠ none
  | d, 0, g, h, u, hd, _, _, _ => absurd hd (Nat.not_lt_zero _)
  | 0, F + 1, g, h, u, hd, hu, hh, hp => by
    rw [Nat.add_zero, Nat.mod_eq_of_lt hh] at hu
    subst hu
    unfold findIt
    rw [if_neg (by omega)]
    split
    · refine findIt_near hn (n - 1) F _ _ h (by omega) ?_ (Nat.mod_lt _ hn) (by rw [(stepM_u g h h).2.2.2.1]; exact hp) (by unfold stepM; rw [updS_same])
      rw [Nat.mod_add_mod, show h + 1 + (n - 1) = h + n by omega, Nat.add_mod_right, Nat.mod_eq_of_lt hh]
    · simp
  | d + 1, F + 1, g, h, u, hd, hu, hh, hp => by
    have hu' : ((h + 1) % n + d) % n = u := by rw [Nat.mod_add_mod, ← hu]; congr 1; omega
    unfold findIt
    split
    · exact findIt_some hn d F g _ u (by omega) hu' (Nat.mod_lt _ hn) hp
    · split
      · exact findIt_some hn d F _ _ u (by omega) hu' (Nat.mod_lt _ hn) (by rw [(stepM_u g h u).2.2.2.1]; exact hp)
      · simp
/-- The slots but for their marks. -/
def SameBut (g g' : Nat → Sl) : Prop := ∀ j, (g' j).sp = (g j).sp ∧ (g' j).full = (g j).full ∧ (g' j).dirty = (g j).dirty ∧ (g' j).pins = (g j).pins
theorem SameBut.refl (g : Nat → Sl) : SameBut g g := fun j => ⟨rfl, rfl, rfl, rfl⟩
theorem SameBut.step {g g' : Nat → Sl} {h : Nat} (k : SameBut (stepM g h) g') : SameBut g g' := fun j => by
  obtain ⟨a1, a2, a3, a4⟩ := k j
  obtain ⟨b1, b2, b3, b4, _⟩ := stepM_u g h j
  exact ⟨a1.trans b1, a2.trans b2, a3.trans b3, a4.trans b4⟩
theorem findIt_res {n : Nat} (hn : 0 < n) : ∀ (F : Nat) (g : Nat → Sl) (h i : Nat) (g' : Nat → Sl) (h' : Nat), h < n → findIt n F g h = some (i, g', h') → i < n ∧ (g' i).pins ≤ 0 ∧ SameBut g g' ∧ h' < n
  | 0, g, h, i, g', h', _, e => by cases e
  | F + 1, g, h, i, g', h', hh, e => by
    unfold findIt at e
    split at e
    · exact findIt_res hn F g _ i g' h' (Nat.mod_lt _ hn) e
    · split at e
      · obtain ⟨h1, h2, h3, h4⟩ := findIt_res hn F _ _ i g' h' (Nat.mod_lt _ hn) e
        exact ⟨h1, h2, h3.step, h4⟩
      · cases e
        exact ⟨hh, by omega, SameBut.refl _, Nat.mod_lt _ hn⟩
theorem emptyAt_some {n k : Nat} {g : Nat → Sl} (h : ∀ j, j < k → (g j).full = true) (hk : k < n) (hf : (g k).full = false) : emptyAt n g = some k := by
  unfold emptyAt
  rw [List.find?_eq_some_iff_append]
  refine ⟨by simp [hf], List.range k, (List.range (n - k - 1)).map (· + (k + 1)), ?_, fun a ha => by simp [h a (List.mem_range.1 ha)]⟩
  rw [show n = k + ((n - k - 1) + 1) by omega, List.range_add, List.range_succ_eq_map]
  simp
  intro a _
  omega
theorem emptyAt_none {n : Nat} {g : Nat → Sl} (h : ∀ j, j < n → (g j).full = true) : emptyAt n g = none := by
  unfold emptyAt
  rw [List.find?_eq_none]
  intro a ha
  simp [h a (List.mem_range.1 ha)]
theorem pinnedN_le (g : Nat → Sl) : ∀ k, pinnedN g k ≤ k
  | 0 => Nat.le_refl _
  | k + 1 => by
    have := pinnedN_le g k
    unfold pinnedN
    split <;> omega
theorem pinnedN_lt {g : Nat → Sl} : ∀ {n : Nat}, pinnedN g n ≠ n → ∃ u, u < n ∧ (g u).pins ≤ 0
  | 0, h => absurd rfl h
  | n + 1, h => by
    unfold pinnedN at h
    by_cases hp : 0 < (g n).pins
    · rw [if_pos hp] at h
      obtain ⟨u, h1, h2⟩ := pinnedN_lt (n := n) (fun e => h (by rw [e]))
      exact ⟨u, by omega, h2⟩
    · exact ⟨n, by omega, by omega⟩
theorem findIt_go {n : Nat} {g : Nat → Sl} {h : Nat} (hn : 0 < n) (hh : h < n) (hp : pinnedN g n ≠ n) : findIt n (2 * n + 1) g h ≠ none := by
  obtain ⟨u, hu, hpu⟩ := pinnedN_lt hp
  refine findIt_some hn ((u + n - h) % n) _ g h u ?_ ?_ hh hpu
  · have := Nat.mod_lt (u + n - h) hn
    omega
  · rw [Nat.add_mod_mod, show h + (u + n - h) = u + n by omega, Nat.add_mod_right, Nat.mod_eq_of_lt hu]
section
variable {w W W' : World} {b : Bc} {c : Cs} {fail stop : Int}
/-- A slot's cells. -/
theorem Cv.slotAt (h : Cv w W b c fail stop) {i k : Nat} (hi : i < b.n) (hk : k < 7) : W.cell? ⟨b.sb, i * 7 + k, none⟩ = some ((slL (c.sl i)).getD k undef) := by
  rw [h.slots.cell (by omega), slF_at _ _ _ hk]
theorem slF_upd {n : Nat} (g : Nat → Sl) (i k : Nat) (x : Sl) (v : Value) (hk : k < 7) (hx : slL x = (slL (g i)).set k v) : ∀ j, j < n * 7 → slF (updS g i x) j = if j = i * 7 + k then v else slF g j := fun j hj => by
  unfold slF updS
  by_cases e : j / 7 = i
  · rw [if_pos e, hx, List.getD_eq_getElem?_getD, List.getElem?_set]
    by_cases e2 : j % 7 = k
    · rw [if_pos e2.symm, if_pos (by omega : j = i * 7 + k), if_pos (show k < (slL (g i)).length from hk)]
      rfl
    · rw [if_neg (Ne.symm e2), if_neg (by omega), e, List.getD_eq_getElem?_getD]
  · rw [if_neg e, if_neg (by omega)]
/-- A mark, whether it is dirty, its pins: one cell of a slot changes. -/
theorem Cv.setOne (h : Cv w W b c fail stop) {i k : Nat} {x : Sl} {v : Value} (hi : i < b.n) (hk : k < 7) (hx : slL x = (slL (c.sl i)).set k v) (hsp : x.sp = (c.sl i).sp) (hfu : x.full = (c.sl i).full) : Cv w (W.setCell ⟨b.sb, i * 7 + k, none⟩ v) b { c with sl := updS c.sl i x } fail stop := by
  have hall : ∀ j, (updS c.sl i x j).sp = (c.sl j).sp ∧ (updS c.sl i x j).full = (c.sl j).full := fun j => by
    unfold updS
    split
    · rename_i e; subst e; exact ⟨hsp, hfu⟩
    · exact ⟨rfl, rfl⟩
  refine h.setSlots ((But.refl _ _).setCell _ _) ((h.slots.set (i * 7 + k) v).congr fun j hj => ?_) (fun s j => ?_) (fun j hj => ?_)
  · rw [slF_upd (n := b.n) c.sl i k x v hk hx j hj]
  · rw [(hall j).1, (hall j).2]; exact h.whOk s j
  · rw [(hall j).2] at hj
    rw [(hall j).1]; exact h.spOk j hj
end
end Go.Proofs.Ytpdckjbknphelaa
