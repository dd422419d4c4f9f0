/-
  How many of a chunk's cells are movable.
-/
import Derived.Test.YtmpnpanlabkkdaaChunkV
import Derived.Test.YtmpnpanlabkkdaaKind2
import Derived.Deep.DeepCutAuto
namespace Go.Proofs.Ytmpnpanlabkkdaa
open Go.RowKit
set_option linter.unusedSimpArgs false
set_option linter.unusedVariables false

def movN (ce : Nat → Int × Int) : Nat → Int
  | 0 => 0
  | n + 1 => movN ce n + if movK (ce n).1 then 1 else 0
theorem movN_bd (ce : Nat → Int × Int) : ∀ n : Nat, 0 ≤ movN ce n ∧ movN ce n ≤ n
  | 0 => by simp [movN]
  | n + 1 => by have := movN_bd ce n; unfold movN; split <;> omega
/-- Each number fits in a byte. -/
def U8 (f : Nat → Int × Int) : Prop := ∀ i, 0 ≤ (f i).1 ∧ (f i).1 ≤ 255 ∧ 0 ≤ (f i).2 ∧ (f i).2 ≤ 255
theorem U8.zero : U8 zeroP := fun i => by simp [zeroP]
theorem U8.upd {f : Nat → Int × Int} (h : U8 f) (i : Nat) {x y : Int} (hx : 0 ≤ x ∧ x ≤ 255) (hy : 0 ≤ y ∧ y ≤ 255) : U8 (updP f i (x, y)) := fun j => by
  unfold updP
  split
  · exact ⟨hx.1, hx.2, hy.1, hy.2⟩
  · exact h j

set_option maxRecDepth 100000 in
set_option maxHeartbeats 2000000 in
theorem movable_calls (b : Nat) (ce li : Nat → Int × Int) (s : Value) (w : World) (h : Ck w b ce li s) (hu : U8 ce) :
    Calls Try.prog 13 #[.pointer (some ⟨b, 0, none⟩)] w fun e w' => e = .returned (.int .i64 (movN ce 4096)) ∧ Below w.heap.size w w' := by
  replace hu := Lib.hid hu
  go_enter Try.func13, Try.ntmps13
  go_wp2_with fail
  go_loopw [2, 6] (fun n i W => ∃ k : Nat, k ≤ 4096 ∧ i = .int .i64 k ∧ n = .int .i64 (movN ce k) ∧ Below w.heap.size w W) (fun _ i _ => 4096 - (intOf i).toNat)
  case atStart => exact ⟨0, by omega, rfl, rfl, Below.refl _ _⟩
  case round =>
    obtain ⟨k, hk, rfl, rfl, HB⟩ := hrel
    have hW := h.below HB h.lt
    have hb := movN_bd ce k
    by_cases hlt : k < 4096
    · have c0 := hW.c0 hlt
      have hz := HB.size
      have bd := hu.out k
      have hm : movN ce (k + 1) = movN ce k + if movK (ce k).1 then 1 else 0 := rfl
      replace hm := Lib.hid hm
      obtain ⟨x, hx⟩ : ∃ x, (ce k).1 = x := ⟨_, rfl⟩
      rw [hx] at c0 bd hm
      clear hx
      replace HB := Lib.hid HB
      cases hv : movK x
      all_goals
        have hcal := kmov_calls x
        rw [hv] at hm hcal
        clear hv
        replace hcal := Lib.hid hcal
        go_wp2_with fail
        refine (hcal.out _ bd.1 bd.2.1).mono ?_
        rintro e w1 ⟨rfl, hb⟩
        replace HB := Lib.hid (below_step HB.out hz hb)
        go_wp2_with fail
        go_roundw
        case rel => exact ⟨k + 1, by omega, by go_num, by rw [hm.out]; first | rfl | (simp; done), HB.out⟩
        case measure => simp [intOf]; omega
    · obtain rfl : k = 4096 := by omega
      replace HB := Lib.hid HB
      go_wp2_with fail
      go_ret
      exact ⟨rfl, HB.out⟩

set_option maxRecDepth 100000 in
set_option maxHeartbeats 2000000 in
theorem rmovable_calls (b : Nat) (ce li : Nat → Int × Int) (s : Value) (w : World) (h : Ck w b ce li s) :
    Calls Try.prog 14 #[.pointer (some ⟨b, 0, none⟩)] w fun e w' => e = .returned (.int .i64 (movN ce 4096)) ∧ Below w.heap.size w w' := by
  go_enter Try.func14, Try.ntmps14
  go_wp2_with fail
  go_loopw [3, 4] (fun n i W => ∃ k : Nat, k ≤ 4096 ∧ i = .int .i64 k ∧ n = .int .i64 (movN ce k) ∧ Below w.heap.size w W) (fun _ i _ => 4096 - (intOf i).toNat)
  case atStart => exact ⟨0, by omega, rfl, rfl, Below.refl _ _⟩
  case round =>
    obtain ⟨k, hk, rfl, rfl, HB⟩ := hrel
    have hW := h.below HB h.lt
    have hb := movN_bd ce k
    by_cases hlt : k < 4096
    · have c0 := hW.c0 hlt
      have hz := HB.size
      have hm : movN ce (k + 1) = movN ce k + if movK (ce k).1 then 1 else 0 := rfl
      replace hm := Lib.hid hm
      obtain ⟨x, hx⟩ : ∃ x, (ce k).1 = x := ⟨_, rfl⟩
      rw [hx] at c0 hm
      clear hx
      replace HB := Lib.hid HB
      cases hv : movK x
      all_goals
        have hcal := rmov_calls x
        rw [hv] at hm hcal
        clear hv
        replace hcal := Lib.hid hcal
        go_wp2_with fail
        refine (hcal.out _).mono ?_
        rintro e w1 ⟨rfl, hb⟩
        replace HB := Lib.hid (below_step HB.out hz hb)
        go_wp2_with fail
        go_roundw
        case rel => exact ⟨k + 1, by omega, by go_num, by rw [hm.out]; first | rfl | (simp; done), HB.out⟩
        case measure => simp [intOf]; omega
    · obtain rfl : k = 4096 := by omega
      replace HB := Lib.hid HB
      go_wp2_with fail
      go_ret
      exact ⟨rfl, HB.out⟩

end Go.Proofs.Ytmpnpanlabkkdaa
