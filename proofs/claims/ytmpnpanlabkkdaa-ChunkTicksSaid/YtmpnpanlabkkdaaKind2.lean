/-
  The contracts of kind.May, kind.Movable, and of the document's.
-/
import Derived.Test.YtmpnpanlabkkdaaKind
import Derived.LoopTactic
namespace Go.Proofs.Ytmpnpanlabkkdaa
open Go.RowKit
set_option linter.unusedSimpArgs false
set_option linter.unusedVariables false

def kMost' (k : Int) : Int := if k = 11 then 15 else if k = 12 then 3 else if k = 13 then 7 else if k = 14 then 1 else 0
def mayK (k l : Int) : Bool := decide (k < 15 ∧ l ≤ kMost' k ∧ (k = 11 → 1 ≤ l))
def movK (k : Int) : Bool := decide (2 ≤ k ∧ k ≤ 9)

theorem kIs_and (kk : Nat) (h : kk < 15) : bits .and .u8 (kIs.getD kk 0) 2 = if movK kk then 2 else 0 := by
  obtain rfl | rfl | rfl | rfl | rfl | rfl | rfl | rfl | rfl | rfl | rfl | rfl | rfl | rfl | rfl : kk = 0 ∨ kk = 1 ∨ kk = 2 ∨ kk = 3 ∨ kk = 4 ∨ kk = 5 ∨ kk = 6 ∨ kk = 7 ∨ kk = 8 ∨ kk = 9 ∨ kk = 10 ∨ kk = 11 ∨ kk = 12 ∨ kk = 13 ∨ kk = 14 := by omega
  all_goals decide
theorem kNames_ne (kk : Nat) (h : kk < 15) : (kNames.getD kk ⟨#[]⟩).toList ≠ [] ∧ kNames.getD kk ⟨#[]⟩ ≠ ⟨#[]⟩ := by
  obtain rfl | rfl | rfl | rfl | rfl | rfl | rfl | rfl | rfl | rfl | rfl | rfl | rfl | rfl | rfl : kk = 0 ∨ kk = 1 ∨ kk = 2 ∨ kk = 3 ∨ kk = 4 ∨ kk = 5 ∨ kk = 6 ∨ kk = 7 ∨ kk = 8 ∨ kk = 9 ∨ kk = 10 ∨ kk = 11 ∨ kk = 12 ∨ kk = 13 ∨ kk = 14 := by omega
  all_goals exact ⟨by decide +kernel, by decide +kernel⟩
theorem kLim (kk : Nat) (h : kk < 15) : kMost.getD kk 0 = kMost' kk ∧ kLeast.getD kk 0 = if kk = 11 then 1 else 0 := by
  obtain rfl | rfl | rfl | rfl | rfl | rfl | rfl | rfl | rfl | rfl | rfl | rfl | rfl | rfl | rfl : kk = 0 ∨ kk = 1 ∨ kk = 2 ∨ kk = 3 ∨ kk = 4 ∨ kk = 5 ∨ kk = 6 ∨ kk = 7 ∨ kk = 8 ∨ kk = 9 ∨ kk = 10 ∨ kk = 11 ∨ kk = 12 ∨ kk = 13 ∨ kk = 14 := by omega
  all_goals decide

theorem field_row1 (s : ByteArray) (a b c : Int) (W : World) : (Instr.field 84 (.agg #[.string s, .int .u8 a, .int .u8 b, .int .u8 c]) 1).run Try.prog W = .ok (.int .u8 a) W := by rfl

set_option maxRecDepth 100000 in
set_option maxHeartbeats 1000000 in
theorem kmov_calls (k : Int) (w : World) (h0 : 0 ≤ k) (h1 : k ≤ 255) :
    Calls Try.prog 34 #[.int .u8 k] w fun e w' => e = .returned (.bool (movK k)) ∧ Below w.heap.size w w' := by
  by_cases h : k < 15
  · obtain ⟨kk, rfl⟩ : ∃ kk : Nat, k = kk := ⟨k.toNat, by omega⟩
    have hc := of_calls kk w (by omega)
    have ha := kIs_and kk (by omega)
    cases hm : movK kk
    all_goals
      rw [hm] at ha
      simp only [Bool.false_eq_true, if_true, if_false] at ha
      generalize kIs.getD kk 0 = a at *
      generalize kNames.getD kk ⟨#[]⟩ = s at *
      generalize kLeast.getD kk 0 = b at *
      generalize kMost.getD kk 0 = c at *
      clear hm h h0 h1
      replace hc := Lib.hid hc
      go_enter Try.func34, Try.ntmps34
      go_wp2_with fail
      refine hc.out.mono ?_
      rintro e w1 ⟨rfl, hb⟩
      replace hb := Lib.hid hb
      unfold kRow
      have hf := field_row1 s a b c w1
      go_wp2_with fail
      go_ret
      exact ⟨rfl, hb.out⟩
  · have hm : movK k = false := by simp [movK]; omega
    rw [hm]
    clear hm
    have hc := of_none k w (by omega) h1
    replace hc := Lib.hid hc
    go_enter Try.func34, Try.ntmps34
    go_wp2_with fail
    refine hc.out.mono ?_
    rintro e w1 ⟨rfl, hb⟩
    replace hb := Lib.hid hb
    unfold kRow
    have hf := field_row1 ⟨#[]⟩ 0 0 0 w1
    go_wp2_with fail
    go_ret
    exact ⟨rfl, hb.out⟩

set_option maxRecDepth 100000 in
set_option maxHeartbeats 2000000 in
theorem kmay_calls (k l : Int) (w : World) (h0 : 0 ≤ k) (h1 : k ≤ 255) (l0 : 0 ≤ l) :
    Calls Try.prog 32 #[.agg #[.int .u8 k, .int .u8 l]] w fun e w' => e = .returned (.bool (mayK k l)) ∧ Below w.heap.size w w' := by
  by_cases h : k < 15
  · obtain ⟨kk, rfl⟩ : ∃ kk : Nat, k = kk := ⟨k.toNat, by omega⟩
    have hc := fun w => of_calls kk w (by omega)
    obtain ⟨hs1, hs2⟩ := kNames_ne kk (by omega)
    obtain ⟨hl1, hl2⟩ := kLim kk (by omega)
    generalize kIs.getD kk 0 = a at *
    generalize kNames.getD kk ⟨#[]⟩ = s at *
    generalize kLeast.getD kk 0 = b at *
    generalize kMost.getD kk 0 = c at *
    have hm : mayK kk l = decide (b ≤ l ∧ l ≤ c) := by
      unfold mayK
      rw [hl1, hl2, Bool.eq_iff_iff]
      simp
      split <;> omega
    rw [hm]
    clear hm h h0 h1 hl1 hl2
    have hs3 : (s.toList == []) = false := by simpa using hs1
    have hs4 : s.toList.isEmpty = false := by simpa using hs1
    replace hc := Lib.hid hc
    go_enter Try.func32, Try.ntmps32
    go_wp2_with fail
    refine (hc.out _).mono ?_
    rintro e w1 ⟨rfl, hb⟩
    unfold kRow
    have HB := Lib.hid (below_step ((Below.refl w.heap.size w).alloc (by first | exact Nat.le_refl _ | (simp; done) | (simp; omega) | omega) _) (by first | exact Nat.le_refl _ | (simp; done) | (simp; omega) | omega) hb)
    have b0 := (Blk.new_at (w := w) (n := w.heap.size) #[.int .u8 kk, .int .u8 l] 36 (by simp)).below hb (by first | exact Nat.le_refl _ | (simp; done) | (simp; omega) | omega)
    clear hb
    have b0_l := b0.lt
    have b0_0 := b0.cell 0 rfl
    have b0_1 := b0.cell 1 rfl
    go_wp2_with fail
    all_goals go_ret
    all_goals refine ⟨ret_bool ?_, HB.out.alloc (by have := HB.out.size; omega) _⟩
    all_goals (rw [Bool.eq_iff_iff]; simp; try omega)
  · have hm : mayK k l = false := by simp [mayK]; omega
    rw [hm]
    clear hm
    have hc := fun w => of_none k w (by omega) h1
    replace hc := Lib.hid hc
    go_enter Try.func32, Try.ntmps32
    go_wp2_with fail
    refine (hc.out _).mono ?_
    rintro e w1 ⟨rfl, hb⟩
    unfold kRow
    have HB := Lib.hid (below_step ((Below.refl w.heap.size w).alloc (by first | exact Nat.le_refl _ | (simp; done) | (simp; omega) | omega) _) (by first | exact Nat.le_refl _ | (simp; done) | (simp; omega) | omega) hb)
    have b0 := (Blk.new_at (w := w) (n := w.heap.size) #[.int .u8 k, .int .u8 l] 36 (by simp)).below hb (by first | exact Nat.le_refl _ | (simp; done) | (simp; omega) | omega)
    clear hb
    have b0_l := b0.lt
    have b0_0 := b0.cell 0 rfl
    have b0_1 := b0.cell 1 rfl
    go_wp2_with fail
    go_ret
    exact ⟨rfl, HB.out.alloc (by have := HB.out.size; omega) _⟩

/-! The document's. -/
theorem rLevels (k : Int) (w : World) : Calls Try.prog 52 #[.int .u8 k] w fun e w' => e = .returned (.int .u8 (kMost' k)) ∧ w' = w := by
  by_cases h1 : k = 11
  · subst h1
    go_enter Try.func52, Try.ntmps52
    go_wp2
    go_ret
    exact ⟨rfl, rfl⟩
  by_cases h2 : k = 12
  · subst h2
    go_enter Try.func52, Try.ntmps52
    go_wp2
    go_ret
    exact ⟨rfl, rfl⟩
  by_cases h3 : k = 13
  · subst h3
    go_enter Try.func52, Try.ntmps52
    go_wp2
    go_ret
    exact ⟨rfl, rfl⟩
  by_cases h4 : k = 14
  · subst h4
    go_enter Try.func52, Try.ntmps52
    go_wp2
    go_ret
    exact ⟨rfl, rfl⟩
  have e : kMost' k = 0 := by unfold kMost'; simp [h1, h2, h3, h4]
  rw [e]
  clear e
  go_enter Try.func52, Try.ntmps52
  go_wp2
  go_ret
  exact ⟨rfl, rfl⟩

set_option maxHeartbeats 2000000 in
theorem rmayk_calls (k l : Int) (w : World) (h0 : 0 ≤ k) (h1 : k ≤ 255) (l0 : 0 ≤ l) :
    Calls Try.prog 33 #[.agg #[.int .u8 k, .int .u8 l]] w fun e w' => e = .returned (.bool (mayK k l)) ∧ Below w.heap.size w w' := by
  by_cases h : k < 15
  · have hd : decide (15 ≤ k) = false := by simp; omega
    go_enter Try.func33, Try.ntmps33
    go_wp2_with fail
    go_quiet ((go_at_call 52; exact Calls.quiet_of_same (rLevels _ _)))
    go_wp2_with fail
    all_goals go_ret
    all_goals refine ⟨ret_bool (by rw [Bool.eq_iff_iff]; simp [mayK]; try omega), below_drewN ((Below.refl _ _).alloc (Nat.le_refl _) _) _⟩
  · have hd : decide (15 ≤ k) = true := by simp; omega
    go_enter Try.func33, Try.ntmps33
    go_wp2_with fail
    go_quiet (fail)
    go_wp2_with fail
    go_ret
    exact ⟨ret_bool (by simp [mayK]; omega), below_drewN ((Below.refl _ _).alloc (Nat.le_refl _) _) _⟩

def movL : List Int := [2, 3, 4, 5, 6, 7, 8, 9]
set_option maxHeartbeats 2000000 in
theorem rin_calls (k : Int) (b : Nat) (w : World) (hb : Blk w b (movL.map (Value.int .u8)) 5) :
    Calls Try.prog 53 #[.int .u8 k, .slice (some ⟨b, 0, none⟩) 8 8] w fun e w' => e = .returned (.bool (movK k)) ∧ w' = w := by
  have hc : ∀ j, j < 8 → w.cell? ⟨b, j, none⟩ = some (.int .u8 (j + 2)) := fun j hj => by
    have : j = 0 ∨ j = 1 ∨ j = 2 ∨ j = 3 ∨ j = 4 ∨ j = 5 ∨ j = 6 ∨ j = 7 := by omega
    obtain rfl | rfl | rfl | rfl | rfl | rfl | rfl | rfl := this <;> exact hb.cell _ rfl
  go_enter Try.func53, Try.ntmps53
  go_wp2_with fail
  go_loop [5] (fun i => ∃ j : Nat, j ≤ 8 ∧ i = .int .i64 j ∧ ∀ m : Nat, m < j → k ≠ m + 2) (fun i => 8 - (intOf i).toNat)
  case atStart => exact ⟨0, by omega, rfl, fun m h => absurd h (Nat.not_lt_zero _)⟩
  case round =>
    obtain ⟨j, hj, rfl, hm⟩ := hrel
    have hm' := Lib.hid hm
    clear hm
    by_cases hlt : j < 8
    · have hcj := hc j hlt
      replace hc := Lib.hid hc
      by_cases he : k = (j : Int) + 2
      · have he' : ((j : Int) + 2 == k) = true := by simp [he]
        replace he := Lib.hid he
        go_wp2_with fail
        go_ret
        exact ⟨ret_bool (by rw [he.out]; simp [movK]; omega), rfl⟩
      · have he' : ((j : Int) + 2 == k) = false := by simp; omega
        replace he := Lib.hid he
        go_wp2_with fail
        go_round
        case rel =>
          exact ⟨j + 1, by omega, by go_num, fun m h => by
            by_cases e : m < j
            · exact hm'.out m e
            · have : m = j := by omega
              subst this; exact he.out⟩
        case measure => simp [intOf]; omega
    · go_wp2_with fail
      go_ret
      exact ⟨ret_bool (by
        have e : j = 8 := by omega
        subst e
        have := fun m h => hm'.out m h
        simp only [movK]
        symm
        rw [decide_eq_false_iff_not]
        intro ⟨g1, g2⟩
        exact this (k.toNat - 2) (by omega) (by omega)), rfl⟩

set_option maxHeartbeats 2000000 in
theorem rmov_calls (k : Int) (w : World) :
    Calls Try.prog 35 #[.int .u8 k] w fun e w' => e = .returned (.bool (movK k)) ∧ Below w.heap.size w w' := by
  have hcal := fun W hb => rin_calls k w.heap.size W hb
  replace hcal := Lib.hid hcal
  go_enter Try.func35, Try.ntmps35
  go_wp2_with fail
  refine (hcal.out _ (Blk.new w _ _)).mono ?_
  rintro e w1 ⟨rfl, rfl⟩
  go_wp2_with fail
  go_ret
  exact ⟨rfl, (Below.refl _ _).alloc (Nat.le_refl _) _⟩

end Go.Proofs.Ytmpnpanlabkkdaa
