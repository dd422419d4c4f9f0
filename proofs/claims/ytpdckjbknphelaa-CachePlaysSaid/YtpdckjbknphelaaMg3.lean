/-
  The contracts of kind.May, kind.Movable, and of the document's.
-/
import Derived.Test.YtpdckjbknphelaaKind
import Derived.LoopTactic
import Derived.Test.YtpdckjbknphelaaMg1
import Derived.Deep.DeepCutAuto
namespace Go.Proofs.Ytpdckjbknphelaa
open Go.RowKit
set_option linter.unusedSimpArgs false
set_option linter.unusedVariables false

def kMost' (k : Int) : Int := if k = 11 then 15 else if k = 12 then 3 else if k = 13 then 7 else if k = 14 then 1 else 0
def mayK (k l : Int) : Bool := decide (k < 15 ∧ l ≤ kMost' k ∧ (k = 11 → 1 ≤ l))
def movK (k : Int) : Bool := decide (2 ≤ k ∧ k ≤ 9)

theorem kIs_and (kk : Nat) (h : kk < 15) : bits .and .u8 (kIs.getD kk 0) 2 = if movK kk then 2 else 0 := by
  obtain rfl | rfl | rfl | rfl | rfl | rfl | rfl | rfl | rfl | rfl | rfl | rfl | rfl | rfl | rfl : kk = 0 ∨ kk = 1 ∨ kk = 2 ∨ kk = 3 ∨ kk = 4 ∨ kk = 5 ∨ kk = 6 ∨ kk = 7 ∨ kk = 8 ∨ kk = 9 ∨ kk = 10 ∨ kk = 11 ∨ kk = 12 ∨ kk = 13 ∨ kk = 14 := by omega
  all_goals decide
theorem kNames_ne (kk : Nat) (h : kk < 15) : (kNames.getD kk ⟨#[]⟩).toList ≠ [] ∧ kNames.getD kk ⟨#[]⟩ ≠ ⟨#[]⟩ := by
  obtain rfl | rfl | rfl | rfl | rfl | rfl | rfl | rfl | rfl | rfl | rfl | rfl | rfl | rfl | rfl : kk = 0 ∨ kk = 1 ∨ kk = 2 ∨ kk = 3 ∨ kk = 4 ∨ kk = 5 ∨ kk = 6 ∨ kk = 7 ∨ kk = 8 ∨ kk = 9 ∨ kk = 10 ∨ kk = 11 ∨ kk = 12 ∨ kk = 13 ∨ kk = 14 := by omega
  all_goals exact ⟨by decide +kernel, by decide +kernel⟩
theorem kLim (kk : Nat) (h : kk < 15) : kMost.getD kk 0 = kMost' kk ∧ kLeast.getD kk 0 = if kk = 11 then 1 else 0 := by
  obtain rfl | rfl | rfl | rfl | rfl | rfl | rfl | rfl | rfl | rfl | rfl | rfl | rfl | rfl | rfl : kk = 0 ∨ kk = 1 ∨ kk = 2 ∨ kk = 3 ∨ kk = 4 ∨ kk = 5 ∨ kk = 6 ∨ kk = 7 ∨ kk = 8 ∨ kk = 9 ∨ kk = 10 ∨ kk = 11 ∨ kk = 12 ∨ kk = 13 ∨ kk = 14 := by omega
  all_goals decide


set_option maxRecDepth 100000 in
set_option maxHeartbeats 2000000 in
theorem kmay_calls (k l : Int) (w : World) (h0 : 0 ≤ k) (h1 : k ≤ 255) (l0 : 0 ≤ l) :
    Calls Try.prog 41 #[.agg #[.int .u8 k, .int .u8 l]] w fun e w' => e = .returned (.bool (mayK k l)) ∧ Below w.heap.size w w' := by
  by_cases h : k < 15
  · obtain ⟨kk, rfl⟩ : ∃ kk : Nat, k = kk := ⟨k.toNat, by omega⟩
    have hc := fun w => of_calls kk w (by omega)
    obtain ⟨hs1, hs2⟩ := kNames_ne kk (by omega)
    obtain ⟨hl1, hl2⟩ := kLim kk (by omega)
    generalize kIs.getD kk 0 = a at *
    generalize kNames.getD kk ⟨#[]⟩ = s at *
    generalize kLeast.getD kk 0 = b at *
    generalize kMost.getD kk 0 = c at *
    have hm : mayK kk l = decide (b ≤ l ∧ l ≤ c) := by
      unfold mayK
      rw [hl1, hl2, Bool.eq_iff_iff]
      simp
      split <;> omega
    rw [hm]
    clear hm h h0 h1 hl1 hl2
    have hs3 : (s.toList == []) = false := by simpa using hs1
    have hs4 : s.toList.isEmpty = false := by simpa using hs1
    replace hc := Lib.hid hc
    go_enter Try.func41, Try.ntmps41
    go_wp2_with fail
    refine (hc.out _).mono ?_
    rintro e w1 ⟨rfl, hb⟩
    unfold kRow
    have HB := Lib.hid (below_step ((Below.refl w.heap.size w).alloc (by first | exact Nat.le_refl _ | (simp; done) | (simp; omega) | omega) _) (by first | exact Nat.le_refl _ | (simp; done) | (simp; omega) | omega) hb)
    have b0 := (Blk.new_at (w := w) (n := w.heap.size) #[.int .u8 kk, .int .u8 l] 51 (by simp)).below hb (by first | exact Nat.le_refl _ | (simp; done) | (simp; omega) | omega)
    clear hb
    have b0_l := b0.lt
    have b0_0 := b0.cell 0 rfl
    have b0_1 := b0.cell 1 rfl
    go_wp2_with fail
    all_goals go_ret
    all_goals refine ⟨ret_bool ?_, HB.out.alloc (by have := HB.out.size; omega) _⟩
    all_goals (rw [Bool.eq_iff_iff]; simp; try omega)
  · have hm : mayK k l = false := by simp [mayK]; omega
    rw [hm]
    clear hm
    have hc := fun w => of_none k w (by omega) h1
    replace hc := Lib.hid hc
    go_enter Try.func41, Try.ntmps41
    go_wp2_with fail
    refine (hc.out _).mono ?_
    rintro e w1 ⟨rfl, hb⟩
    unfold kRow
    have HB := Lib.hid (below_step ((Below.refl w.heap.size w).alloc (by first | exact Nat.le_refl _ | (simp; done) | (simp; omega) | omega) _) (by first | exact Nat.le_refl _ | (simp; done) | (simp; omega) | omega) hb)
    have b0 := (Blk.new_at (w := w) (n := w.heap.size) #[.int .u8 k, .int .u8 l] 51 (by simp)).below hb (by first | exact Nat.le_refl _ | (simp; done) | (simp; omega) | omega)
    clear hb
    have b0_l := b0.lt
    have b0_0 := b0.cell 0 rfl
    have b0_1 := b0.cell 1 rfl
    go_wp2_with fail
    go_ret
    exact ⟨rfl, HB.out.alloc (by have := HB.out.size; omega) _⟩

end Go.Proofs.Ytpdckjbknphelaa

/-
  How many of a chunk's cells are movable.
-/
namespace Go.Proofs.Ytpdckjbknphelaa
open Go.RowKit
set_option linter.unusedSimpArgs false
set_option linter.unusedVariables false

def movN (ce : Nat → Int × Int) : Nat → Int
  | 0 => 0
  | n + 1 => movN ce n + if movK (ce n).1 then 1 else 0
theorem movN_bd (ce : Nat → Int × Int) : ∀ n : Nat, 0 ≤ movN ce n ∧ movN ce n ≤ n
  | 0 => by simp [movN]
  | n + 1 => by have := movN_bd ce n; unfold movN; split <;> omega
/-- Each number fits in a byte. -/
def U8 (f : Nat → Int × Int) : Prop := ∀ i, 0 ≤ (f i).1 ∧ (f i).1 ≤ 255 ∧ 0 ≤ (f i).2 ∧ (f i).2 ≤ 255
theorem U8.zero : U8 zeroP := fun i => by simp [zeroP]
theorem U8.upd {f : Nat → Int × Int} (h : U8 f) (i : Nat) {x y : Int} (hx : 0 ≤ x ∧ x ≤ 255) (hy : 0 ≤ y ∧ y ≤ 255) : U8 (updP f i (x, y)) := fun j => by
  unfold updP
  split
  · exact ⟨hx.1, hx.2, hy.1, hy.2⟩
  · exact h j


end Go.Proofs.Ytpdckjbknphelaa
