/-
  What is saved, and when: in plain Lean.
-/
import Derived.Test.YtpdckjbknphelaaCpD
namespace Go.Proofs.Ytpdckjbknphelaa
open Go.RowKit
set_option linter.unusedSimpArgs false
set_option linter.unusedVariables false
set_option linter.unusedSectionVars false

/-- Nothing is dirty. -/
def Nd (c : Cs) : Prop := ∀ j, (c.sl j).dirty = false
theorem get_nd {stop : Int} {n : Nat} {c : Cs} {t : Sp} (hw : Wl n c) (hv : Vl n c) (hd : Nd c) : Nd (getS (-1) stop n c t).2.2 ∧ (getS (-1) stop n c t).2.2.kept = c.kept := by
  cases hm : mayS t.1 t.2.1 t.2.2 with
  | false => rw [getS_not hm]; exact ⟨hd, rfl⟩
  | true =>
    cases h : c.wh t with
    | some i =>
      rw [getS_hit hm h]
      refine ⟨fun j => ?_, rfl⟩
      show (updS c.sl i { c.sl i with mark := true } j).dirty = false
      unfold updS
      split
      · exact hd i
      · exact hd j
    | none =>
      obtain ⟨⟨i, g, k⟩, hf⟩ := find_free hw hv
      obtain ⟨c', he, h1, h2, h3, h4, h5, h6⟩ := getS_miss (stop := stop) hm h hf
      obtain ⟨q1, q2, q3, q4⟩ := findS_res hw.n1 hw.hand hf
      rw [he]
      refine ⟨fun j => ?_, ?_⟩
      · show (c'.sl j).dirty = false
        by_cases e : j = i
        · rw [e, h2]
        · rw [h1 j e, (q3 j).2.2.1]; exact hd j
      · show c'.kept = c.kept
        rw [h5, if_neg]
        rintro ⟨_, h⟩
        rw [(q3 i).2.2.1, hd i] at h
        cases h
/-- Get keeps the values' law, whatever is asked. -/
theorem get_vl {stop : Int} {n : Nat} {c : Cs} {t : Sp} (hw : Wl n c) (hv : Vl n c) : Vl n (getS (-1) stop n c t).2.2 ∧ (getS (-1) stop n c t).2.2.calls.length ≤ c.calls.length + 2 ∧ (getS (-1) stop n c t).2.2.kept.length ≤ c.kept.length + 1 := by
  cases hm : mayS t.1 t.2.1 t.2.2 with
  | false => rw [getS_not hm]; exact ⟨hv, Nat.le_add_right _ _, Nat.le_add_right _ _⟩
  | true =>
    obtain ⟨i, c', h1, _, _, h2, _, h3, h4⟩ := get_val (stop := stop) hw hv hm
    rw [h1]
    exact ⟨h2, h3, h4⟩
theorem selN_none {g : Nat → Sl} {p : Sl → Bool} : ∀ {k : Nat}, (∀ j, j < k → (g j).full = true → p (g j) = false) → selN g p k = []
  | 0, _ => rfl
  | k + 1, h => by
    unfold selN
    rw [selN_none (k := k) (fun j hj => h j (by omega)), if_neg]
    · rfl
    · rintro ⟨h1, h2⟩
      rw [h k (by omega) h1] at h2
      cases h2
theorem dirts_none {n : Nat} {c : Cs} (h : ∀ j, j < n → (c.sl j).full = true → (c.sl j).dirty = false) : dirts n c = [] := by
  have := dirts_len n c
  rw [selN_none h] at this
  exact List.eq_nil_of_length_eq_zero this
theorem flush_none {fail stop : Int} {n : Nat} {c : Cs} (h : dirts n c = []) : flushS fail stop n c = (0, c) := by
  unfold flushS
  rw [h]
  rfl
theorem selN_nodup {g : Nat → Sl} {p : Sl → Bool} : ∀ {k : Nat}, (∀ i j, i < k → j < k → (g i).full = true → (g j).full = true → (g i).sp = (g j).sp → i = j) → (selN g p k).Nodup
  | 0, _ => List.nodup_nil
  | k + 1, h => by
    unfold selN
    refine List.pairwise_append.2 ⟨selN_nodup (k := k) (fun i j hi hj => h i j (by omega) (by omega)), ?_, ?_⟩
    · split <;> simp
    · intro a ha b hb e
      split at hb
      · rename_i hk
        obtain rfl : b = (g k).sp := by simpa using hb
        obtain ⟨i, h1, h2, _, h3⟩ := mem_selN ha
        have := h i k (by omega) (by omega) h2 hk.1 (by rw [h3, e])
        omega
      · cases hb
theorem dirts_nodup {n : Nat} {c : Cs} (hw : Wl n c) : (dirts n c).Nodup := by
  refine (sortSp_perm _).nodup_iff.2 (selN_nodup fun i j hi hj h1 h2 h3 => ?_)
  have e1 := (hw.wh (c.sl i).sp i).2 ⟨hi, h1, rfl⟩
  have e2 := (hw.wh (c.sl i).sp j).2 ⟨hj, h2, h3.symm⟩
  rw [e1] at e2
  exact Option.some.inj e2
theorem flushL_all {stop : Int} {n : Nat} : ∀ (l : List Sp) (c : Cs), Wl n c → l.Nodup → (∀ s ∈ l, ∃ i, c.wh s = some i ∧ (c.sl i).dirty = true) →
    ∃ c', flushL (-1) stop l c = (0, c') ∧ c'.kept.length = c.kept.length + l.length ∧ c'.calls.length = c.calls.length + l.length ∧ ∀ j, (c'.sl j).full = (c.sl j).full ∧ (c'.sl j).sp = (c.sl j).sp ∧ (j < n → (c.sl j).full = true → (c'.sl j).dirty = true → (c.sl j).dirty = true ∧ (c.sl j).sp ∉ l)
  | [], c, _, _, _ => ⟨c, rfl, rfl, rfl, fun j => ⟨rfl, rfl, fun _ _ h => ⟨h, by simp⟩⟩⟩
  | s :: l, c, hw, hnd, hm => by
    obtain ⟨i, hi, hdi⟩ := hm s List.mem_cons_self
    obtain ⟨hin, hfi, hsi⟩ := (hw.wh s i).1 hi
    have hcl : cleanS (-1) stop c i (vOf c i) = (0, { c with calls := c.calls ++ [(true, (c.sl i).sp, vOf c i)], kept := c.kept ++ [((c.sl i).sp, vOf c i)], sl := updS c.sl i { c.sl i with dirty := false } }) := by
      unfold cleanS
      rw [if_pos ⟨hfi, hdi⟩]
      simp [badB_no, errB]
    rw [flushL_cons hi, hcl]
    simp only [if_true]
    have hup : ∀ j, (updS c.sl i { c.sl i with dirty := false } j).full = (c.sl j).full ∧ (updS c.sl i { c.sl i with dirty := false } j).sp = (c.sl j).sp ∧ (updS c.sl i { c.sl i with dirty := false } j).dirty = if j = i then false else (c.sl j).dirty := fun j => by
      unfold updS
      by_cases e : j = i
      · rw [if_pos e, if_pos e, e]; exact ⟨rfl, rfl, rfl⟩
      · rw [if_neg e, if_neg e]; exact ⟨rfl, rfl, rfl⟩
    have hnd2 := List.nodup_cons.1 hnd
    obtain ⟨c', h1, h2, h3, h4⟩ := flushL_all (stop := stop) (n := n) l { c with calls := c.calls ++ [(true, (c.sl i).sp, vOf c i)], kept := c.kept ++ [((c.sl i).sp, vOf c i)], sl := updS c.sl i { c.sl i with dirty := false } } ⟨fun u j => by
        show c.wh u = some j ↔ j < n ∧ (updS c.sl i { c.sl i with dirty := false } j).full = true ∧ (updS c.sl i { c.sl i with dirty := false } j).sp = u
        rw [(hup j).1, (hup j).2.1]
        exact hw.wh u j, hw.hand, hw.n1⟩ hnd2.2 (fun u hu => by
        obtain ⟨j, hj, hdj⟩ := hm u (List.mem_cons_of_mem _ hu)
        refine ⟨j, hj, ?_⟩
        show (updS c.sl i { c.sl i with dirty := false } j).dirty = true
        rw [(hup j).2.2, if_neg]
        · exact hdj
        · intro e
          obtain ⟨_, _, k3⟩ := (hw.wh u j).1 hj
          rw [e, hsi] at k3
          rw [k3] at hnd2
          exact hnd2.1 hu)
    refine ⟨c', h1, ?_, ?_, fun j => ?_⟩
    · rw [h2]; simp; omega
    · rw [h3]; simp; omega
    · obtain ⟨k1, k2, k3⟩ := h4 j
      refine ⟨k1.trans (hup j).1, k2.trans (hup j).2.1, fun hj hf hd => ?_⟩
      obtain ⟨k4, k5⟩ := k3 hj ((hup j).1.trans hf) hd
      have k4' : (updS c.sl i { c.sl i with dirty := false } j).dirty = true := k4
      have k5' : (updS c.sl i { c.sl i with dirty := false } j).sp ∉ l := k5
      rw [(hup j).2.2] at k4'
      rw [(hup j).2.1] at k5'
      by_cases e : j = i
      · rw [if_pos e] at k4'; cases k4'
      · rw [if_neg e] at k4'
        refine ⟨k4', fun hmem => ?_⟩
        rcases List.mem_cons.1 hmem with h | h
        · have k6 := (hw.wh s j).2 ⟨hj, hf, h⟩
          rw [hi] at k6
          exact e (Option.some.inj k6).symm
        · exact k5' h
/-- A Flush saves all that is dirty. -/
theorem flush_all {stop : Int} {n : Nat} {c : Cs} (hw : Wl n c) : ∃ c', flushS (-1) stop n c = (0, c') ∧ c'.kept.length = c.kept.length + (dirts n c).length ∧ c'.calls.length ≤ c.calls.length + n ∧ dirts n c' = [] := by
  obtain ⟨c', h1, h2, h3, h4⟩ := flushL_all (stop := stop) (n := n) (dirts n c) c hw (dirts_nodup hw) (fun s hs => by
    obtain ⟨i, k1, _, _, k2, _⟩ := mem_dirts hw hs
    exact ⟨i, k1, k2⟩)
  refine ⟨c', h1, h2, ?_, dirts_none fun j hj hf => ?_⟩
  · rw [h3, dirts_len]
    have := selN_len c.sl (fun x => x.dirty) n
    omega
  · obtain ⟨k1, k2, k3⟩ := h4 j
    rw [k1] at hf
    cases hd : (c'.sl j).dirty with
    | false => rfl
    | true =>
      obtain ⟨k4, k5⟩ := k3 hj hf hd
      exact absurd ((sortSp_perm _).mem_iff.2 (selN_mem (p := fun x => x.dirty) hf k4 hj)) k5
end Go.Proofs.Ytpdckjbknphelaa
