/-
  The chapter's examples, in plain Lean; how pins change.
-/
import Derived.Test.YtpdckjbknphelaaCaNo
namespace Go.Proofs.Ytpdckjbknphelaa
open Go.RowKit
set_option linter.unusedSimpArgs false
set_option linter.unusedVariables false

/-- No frame has more pins than so many. -/
def Pb (B : Int) (c : Cs) : Prop := ∀ i, 0 ≤ (c.sl i).pins ∧ (c.sl i).pins ≤ B
theorem Pb.le {B B' : Int} {c : Cs} (h : Pb B c) (hB : B ≤ B') : Pb B' c := fun i => ⟨(h i).1, Int.le_trans (h i).2 hB⟩
theorem clean_pins (fail stop : Int) (c : Cs) (i : Nat) (v : Int) (j : Nat) : ((cleanS fail stop c i v).2.sl j).pins = (c.sl j).pins := by
  unfold cleanS
  split
  · simp only
    split
    · rfl
    · unfold updS
      split
      · rename_i e; rw [e]
      · rfl
  · rfl
theorem getL_pins (fail stop : Int) (c : Cs) (i : Nat) (s : Sp) (j : Nat) : ((getL fail stop c i s).2.2.sl j).pins = (c.sl j).pins ∨ ((getL fail stop c i s).2.2.sl j).pins = 0 := by
  unfold getL
  split
  · exact .inl rfl
  · simp only [enterS, loadS, updS]
    split
    · exact .inr rfl
    · exact .inl rfl
theorem get_pins {fail stop : Int} {n : Nat} {c : Cs} {t : Sp} (hw : Wl n c) (j : Nat) : ((getS fail stop n c t).2.2.sl j).pins = (c.sl j).pins ∨ ((getS fail stop n c t).2.2.sl j).pins = 0 := by
  unfold getS
  split
  · exact .inl rfl
  · cases h : c.wh t with
    | some i =>
      simp only [updS]
      split
      · rename_i e; exact .inl (by rw [e])
      · exact .inl rfl
    | none =>
      simp only
      cases hf : findS n c.sl c.hand with
      | none => exact .inl rfl
      | some r =>
        obtain ⟨i, g, k⟩ := r
        obtain ⟨q1, q2, q3, q4⟩ := findS_res hw.n1 hw.hand hf
        simp only
        have h1 := clean_pins fail stop { c with sl := g, hand := k } i (vOf c i) j
        obtain ⟨⟨er, cE⟩, hR⟩ : ∃ R, cleanS fail stop { c with sl := g, hand := k } i (vOf c i) = R := ⟨_, rfl⟩
        rw [hR] at h1 ⊢
        simp only at h1
        rw [(q3 j).2.2.2] at h1
        unfold getT
        split
        · rcases getL_pins fail stop (if (cE.sl i).full = true then evictS cE i else cE) i t j with h | h
          · rw [h]
            split
            · simp only [evictS, updS]
              split
              · exact .inr rfl
              · exact .inl h1
            · exact .inl h1
          · exact .inr h
        · exact .inl h1
theorem Pb.get {B fail stop : Int} {n : Nat} {c : Cs} {t : Sp} (h : Pb B c) (hB : 0 ≤ B) (hw : Wl n c) : Pb B (getS fail stop n c t).2.2 := fun j => by
  rcases get_pins (fail := fail) (stop := stop) (t := t) hw j with e | e
  · rw [e]; exact h j
  · rw [e]; exact ⟨Int.le_refl _, hB⟩
theorem Pb.dirty {B : Int} {c : Cs} {t : Sp} (h : Pb B c) : Pb B (dirtyS c t).2 := fun j => by
  unfold dirtyS
  split
  · exact h j
  · simp only [updS]
    split
    · exact h _
    · exact h j
theorem Pb.pin {B : Int} {c : Cs} {t : Sp} (h : Pb B c) : Pb (B + 1) (pinS c t).2 := fun j => by
  have h1 := h j
  unfold pinS
  split
  · simp only; omega
  · rename_i i _
    have h2 := h i
    simp only [updS]
    split
    · simp only; omega
    · omega
theorem Pb.unpin {B : Int} {c : Cs} {t : Sp} (h : Pb B c) : Pb B (unpinS c t).2 := fun j => by
  have h1 := h j
  unfold unpinS
  split
  · exact h1
  · rename_i i _
    have h2 := h i
    split
    · exact h1
    · simp only [updS]
      split
      · simp only; omega
      · exact h1
def k1 : Cs := (getS (-1) 0 2 cs0 (1, 0, 0)).2.2
def k2 : Cs := (getS (-1) 0 2 k1 (2, 0, 0)).2.2
def k3 : Cs := (getS (-1) 0 2 k2 (1, 0, 0)).2.2
def k4 : Cs := (getS (-1) 0 2 k3 (3, 0, 0)).2.2
def k5 : Cs := (dirtyS k4 (2, 0, 0)).2
def k6 : Cs := (getS (-1) 0 2 k5 (1, 0, 0)).2.2
def k7 : Cs := (pinS k6 (1, 0, 0)).2
def k8 : Cs := (pinS k7 (3, 0, 0)).2
def k9 : Cs := (getS (-1) 0 2 k8 (2, 0, 0)).2.2
def k10 : Cs := (dirtyS k9 (4, 0, 0)).2
def k11 : Cs := (unpinS k10 (3, 0, 0)).2
def k12 : Cs := (unpinS k11 (3, 0, 0)).2
theorem e1 : getS (-1) 0 2 cs0 (1, 0, 0) = (0, 0, k1) := Prod.ext (by kernel_rfl) (Prod.ext (by kernel_rfl) rfl)
theorem e2 : getS (-1) 0 2 k1 (2, 0, 0) = (1, 0, k2) := Prod.ext (by kernel_rfl) (Prod.ext (by kernel_rfl) rfl)
theorem e3 : getS (-1) 0 2 k2 (1, 0, 0) = (0, 0, k3) := Prod.ext (by kernel_rfl) (Prod.ext (by kernel_rfl) rfl)
theorem e4 : getS (-1) 0 2 k3 (3, 0, 0) = (0, 0, k4) := Prod.ext (by kernel_rfl) (Prod.ext (by kernel_rfl) rfl)
theorem e5 : dirtyS k4 (2, 0, 0) = (0, k5) := Prod.ext (by kernel_rfl) rfl
theorem e6 : getS (-1) 0 2 k5 (1, 0, 0) = (1, 0, k6) := Prod.ext (by kernel_rfl) (Prod.ext (by kernel_rfl) rfl)
theorem e7 : pinS k6 (1, 0, 0) = (0, k7) := Prod.ext (by kernel_rfl) rfl
theorem e8 : pinS k7 (3, 0, 0) = (0, k8) := Prod.ext (by kernel_rfl) rfl
theorem e9 : getS (-1) 0 2 k8 (2, 0, 0) = (0, 20, k9) := Prod.ext (by kernel_rfl) (Prod.ext (by kernel_rfl) rfl)
theorem e10 : dirtyS k9 (4, 0, 0) = (5, k10) := Prod.ext (by kernel_rfl) rfl
theorem e11 : unpinS k10 (3, 0, 0) = (0, k11) := Prod.ext (by kernel_rfl) rfl
theorem e12 : unpinS k11 (3, 0, 0) = (12, k12) := Prod.ext (by kernel_rfl) rfl
theorem e13 : getS (-1) 0 2 k12 (0, 4, 0) = (0, 10, k12) := getS_not (by kernel_rfl)
theorem l1 : k1.calls.length = 1 ∧ k1.kept.length = 0 := ⟨by kernel_rfl, by kernel_rfl⟩
theorem l2 : k2.calls.length = 2 ∧ k2.kept.length = 0 := ⟨by kernel_rfl, by kernel_rfl⟩
theorem l3 : k3.calls.length = 2 ∧ k3.kept.length = 0 := ⟨by kernel_rfl, by kernel_rfl⟩
theorem l5 : k5.calls.length = 3 ∧ k5.kept.length = 0 := ⟨by kernel_rfl, by kernel_rfl⟩
theorem l8 : k8.calls.length = 5 ∧ k8.kept.length = 1 := ⟨by kernel_rfl, by kernel_rfl⟩
theorem l12 : k12.calls.length = 5 ∧ k12.kept.length = 1 := ⟨by kernel_rfl, by kernel_rfl⟩
theorem calls4 : k4.calls = [(false, (1, 0, 0), 0), (false, (2, 0, 0), 0), (false, (3, 0, 0), 0)] := by kernel_rfl
theorem calls6 : k6.calls = [(false, (1, 0, 0), 0), (false, (2, 0, 0), 0), (false, (3, 0, 0), 0), (true, (2, 0, 0), 0), (false, (1, 0, 0), 0)] := by kernel_rfl
theorem pb0 : Pb 0 cs0 := fun _ => ⟨Int.le_refl _, Int.le_refl _⟩
/-- A world's calls, as cells. -/
theorem Wv.callCells {W : World} {B wb : Nat} {kept : List (Sp × Int)} {calls : List (Bool × Sp × Int)} {fail stop : Int} (h : Wv W B wb kept calls fail stop) (hne : calls ≠ []) : ∃ g cap, calls.length ≤ cap ∧ cap ≤ maxLen ∧ W.cell? ⟨wb, 1, none⟩ = some (.slice (some ⟨g, 0, none⟩) calls.length cap) ∧ ∀ j x, calls[j]? = some x → ∀ i u, (callL x)[i]? = some u → W.cell? ⟨g, j * 5 + i, none⟩ = some u := by
  obtain ⟨hBw, kv, cv, hb, hkr, hcr⟩ := h
  obtain ⟨base, cap, rfl, hnc, hcap, hrow⟩ := hcr.open
  have x1 := hb.cell 1 rfl
  rw [List.length_map] at x1 hnc
  obtain ⟨g, rfl, _, hc⟩ := hrow (fun e => hne (List.map_eq_nil_iff.1 e))
  exact ⟨g, cap, hnc, hcap, x1, fun j x hx i u hu => hc j (callL x) (by rw [List.getElem?_map, hx]; rfl) i u hu⟩
end Go.Proofs.Ytpdckjbknphelaa
