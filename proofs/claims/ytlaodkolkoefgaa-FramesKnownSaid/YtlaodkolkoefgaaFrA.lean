/-
  frames.due and frames.setDue: when a cell is due, as six bytes, the lowest first.
-/
import Derived.Test.YtlaodkolkoefgaaFrV
import Derived.BigQuiet
namespace Go.Proofs.Ytlaodkolkoefgaa
open Go.RowKit
set_option linter.unusedSimpArgs false
set_option linter.unusedVariables false

theorem div_small {d : Int} (h0 : 0 ≤ d) (h1 : d < 281474976710656) : d / 256 ^ 6 = 0 := by
  show d / 281474976710656 = 0
  omega
theorem div_step (d : Int) (k : Nat) : d / 256 ^ (k + 1) = d / 256 ^ k / 256 := by
  rw [Int.pow_succ, Int.ediv_ediv_of_nonneg (Int.le_of_lt (Int.pow_pos (by omega)))]
theorem i64_shl_or (x : Int) (h0 : 0 ≤ x) (h1 : x < 281474976710656) : bits .or .i64 (x / 256 * 256) (x % 256) = x := by
  rw [i64_or 8 (x / 256 * 256) (x % 256) (by omega) (by omega) (by omega) (by omega) (by omega) (by omega)]
  omega

set_option maxRecDepth 100000 in
set_option maxHeartbeats 4000000 in
theorem fdue_calls (g o L C : Nat) (d : Int) (w : World) (hd : 0 ≤ d) (hd1 : d < 281474976710656) (hL : 10 ≤ L) (hC : C ≤ 1000000000) (hLC : L ≤ C)
    (h : ∀ b, b < 6 → w.cell? ⟨g, o + (4 + b), none⟩ = some (.int .u8 (byteN d b))) :
    Calls Try.prog 35 #[.slice (some ⟨g, o, none⟩) L C] w fun e w' => e = .returned (.int .i64 d) ∧ w' = w := by
  go_enter Try.func35, Try.ntmps35
  go_wp2_with fail
  go_loop [2, 3] (fun v i => ∃ k : Nat, k ≤ 6 ∧ i = .int .i64 ((k : Int) + 3) ∧ v = .int .i64 (d / 256 ^ k)) (fun _ i => (intOf i).toNat)
  case atStart => exact ⟨6, by omega, rfl, by rw [div_small hd hd1]⟩
  case round =>
    obtain ⟨k, hk, rfl, rfl⟩ := hrel
    by_cases hz : k = 0
    · subst hz
      go_wp2_with fail
      go_ret
      exact ⟨ret_int (by simp), rfl⟩
    · obtain ⟨j, rfl⟩ : ∃ j, k = j + 1 := ⟨k - 1, by omega⟩
      have hc := h j (by omega)
      rw [show 4 + j = j + 1 + 3 by omega] at hc
      have hs := div_step d j
      have hx0 : 0 ≤ d / 256 ^ j := Int.ediv_nonneg hd (Int.le_of_lt (Int.pow_pos (by omega)))
      have hx1 : d / 256 ^ j < 281474976710656 := Int.lt_of_le_of_lt (Int.ediv_le_self _ hd) hd1
      unfold byteN at hc
      obtain ⟨x, hx⟩ : ∃ x, d / 256 ^ j = x := ⟨_, rfl⟩
      rw [hx] at hc hs hx0 hx1
      rw [hs]
      have ho := i64_shl_or x hx0 hx1
      have hw : wrap64 (x / 256 * 256) = x / 256 * 256 := by unfold wrap64; omega
      have hlt : ((j : Int) + 1 + 3) < (L : Int) := by omega
      replace hx := Lib.hid hx
      replace h := Lib.hid h
      clear hs
      go_wp2_with fail
      go_round
      case rel => exact ⟨j, by omega, by go_num, by rw [hx.out]⟩
      case measure => simp [intOf]; omega

def dueK (S : Nat → Value) (o : Nat) (d : Int) (k : Nat) (j : Nat) : Value := if o + 4 ≤ j ∧ j < o + 4 + k then .int .u8 (byteN d (j - o - 4)) else S j
set_option maxRecDepth 100000 in
set_option maxHeartbeats 4000000 in
theorem fsetdue_calls (g o L C N : Nat) (d : Int) (T : TypeId) (S : Nat → Value) (w : World) (hr : Row1 w g T N S) (hN : o + 10 ≤ N) (hd : 0 ≤ d) (hL : 10 ≤ L) (hC : C ≤ 1000000000) (hLC : L ≤ C) :
    Calls Try.prog 30 #[.slice (some ⟨g, o, none⟩) L C, .int .i64 d] w fun e w' => e = .returned (.tuple #[]) ∧ Row1 w' g T N (dueS S o d) ∧ But g w w' := by
  have h0 : Row1 w g T N (dueK S o d 0) := hr.congr fun j _ => by unfold dueK; rw [if_neg (by omega)]
  clear hr
  replace h0 := Lib.hid h0
  go_enter Try.func30, Try.ntmps30
  go_wp2_with fail
  go_loopw [1, 4] (fun v i W => ∃ k : Nat, k ≤ 6 ∧ i = .int .i64 ((k : Int) + 4) ∧ v = .int .i64 (d / 256 ^ k) ∧ Row1 W g T N (dueK S o d k) ∧ But g w W) (fun _ i _ => 10 - (intOf i).toNat)
  case atStart => exact ⟨0, by omega, rfl, by simp, h0.out, But.refl _ _⟩
  case round =>
    obtain ⟨k, hk, rfl, rfl, hR, hB⟩ := hrel
    clear h0
    by_cases hz : k < 6
    · have hc := hR.cell (i := o + (k + 4)) (by omega)
      have hf := hR.frozen (o + (k + 4))
      obtain ⟨v, hv⟩ : ∃ v, dueK S o d k (o + (k + 4)) = v := ⟨_, rfl⟩
      rw [hv] at hc
      clear hv
      have hs := hR.set (o + (k + 4)) (.int .u8 (byteN d k))
      have hs2 : Row1 (wr.setCell ⟨g, o + (k + 4), none⟩ (.int .u8 (byteN d k))) g T N (dueK S o d (k + 1)) := hs.congr fun j _ => by
        unfold dueK
        by_cases e : j = o + (k + 4)
        · subst e; rw [if_pos rfl, if_pos (by omega), show o + (k + 4) - o - 4 = k by omega]
        · rw [if_neg e]
          by_cases e2 : o + 4 ≤ j ∧ j < o + 4 + k
          · rw [if_pos e2, if_pos (by omega)]
          · rw [if_neg e2, if_neg (by omega)]
      have hB2 := hB.setCell (o + (k + 4)) (.int .u8 (byteN d k))
      have hlt0 := hR.lt
      have hdv := div_step d k
      have hx0 : 0 ≤ d / 256 ^ k := Int.ediv_nonneg hd (Int.le_of_lt (Int.pow_pos (by omega)))
      unfold byteN at hs2 hB2
      obtain ⟨x, hx⟩ : ∃ x, d / 256 ^ k = x := ⟨_, rfl⟩
      rw [hx] at hs2 hB2 hdv hx0 ⊢
      clear hs hR hB hx
      have hlt : ((k : Int) + 4) < (L : Int) := by omega
      replace hs2 := Lib.hid hs2
      replace hB2 := Lib.hid hB2
      replace hdv := Lib.hid hdv
      go_wp2_with fail
      go_roundw
      case rel => exact ⟨k + 1, by omega, by go_num, by rw [hdv.out], hs2.out, hB2.out⟩
      case measure => simp [intOf]; omega
    · obtain rfl : k = 6 := by omega
      have hend : Row1 wr g T N (dueS S o d) := hR
      replace hend := Lib.hid hend
      replace hB := Lib.hid hB
      clear hR
      go_wp2_with fail
      refine bodyPost_end (results_none rfl _ _ _) rfl ?_
      exact ⟨rfl, hend.out, hB.out⟩
end Go.Proofs.Ytlaodkolkoefgaa
