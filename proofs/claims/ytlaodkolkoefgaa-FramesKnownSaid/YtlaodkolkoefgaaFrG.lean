/-
  A frame is taken, given; how many are taken.
-/
import Derived.Test.YtlaodkolkoefgaaFrF
import Derived.Test.YtlaodkolkoefgaaRuns
namespace Go.Proofs.Ytlaodkolkoefgaa
open Go.RowKit
set_option linter.unusedSimpArgs false
set_option linter.unusedVariables false

/-- The first frame that is not taken. -/
def Fst (n : Nat) (tk : Nat → Bool) (r : Option Nat) : Prop := (∀ k, r = some k → k < n ∧ tk k = false ∧ ∀ j, j < k → tk j = true) ∧ (r = none → ∀ j, j < n → tk j = true)
theorem Fst.unique {n : Nat} {tk : Nat → Bool} {r s : Option Nat} (h : Fst n tk r) (k : Fst n tk s) : r = s := by
  cases r with
  | none =>
    cases s with
    | none => rfl
    | some b => obtain ⟨h1, h2, _⟩ := k.1 b rfl; rw [h.2 rfl b h1] at h2; cases h2
  | some a =>
    obtain ⟨a1, a2, a3⟩ := h.1 a rfl
    cases s with
    | none => rw [k.2 rfl a a1] at a2; cases a2
    | some b =>
      obtain ⟨b1, b2, b3⟩ := k.1 b rfl
      rcases Nat.lt_trichotomy a b with e | e | e
      · rw [b3 a e] at a2; cases a2
      · rw [e]
      · rw [a3 b e] at b2; cases b2
def tkSet (tk : Nat → Bool) (i : Nat) (v : Bool) : Nat → Bool := fun j => if j = i then v else tk j
def takenT (tk : Nat → Bool) : Option Nat → Nat → Bool
  | some k => tkSet tk k true
  | none => tk
def optN : Option Nat → Int
  | some k => k
  | none => 0
theorem Po.setTk {w : World} {pb sb tb n : Nat} {ce li : Nat → Int × Int} {du : Nat → Int} {tk : Nat → Bool} (h : Po w pb sb tb n ce li du tk) (k : Nat) (v : Bool) : Po (w.setCell ⟨tb, k, none⟩ (.bool v)) pb sb tb n ce li du (tkSet tk k v) :=
  { h with pool := h.pool.set_other _ h.ne2, slab := h.slab.set_other _ h.ne3, take := (h.take.set k _).congr fun i _ => (by unfold tkSet; split <;> rfl) }
set_option maxRecDepth 100000 in
set_option maxHeartbeats 4000000 in
theorem ptake_calls (pb sb tb n : Nat) (ce li : Nat → Int × Int) (du : Nat → Int) (tk : Nat → Bool) (w : World) (h : Po w pb sb tb n ce li du tk) :
    Calls Try.prog 19 #[.pointer (some ⟨pb, 0, none⟩)] w fun e w' => ∃ r, e = .returned (.tuple #[.int .i64 (optN r), .bool r.isSome]) ∧ Fst n tk r ∧ Po w' pb sb tb n ce li du (takenT tk r) ∧ But tb w w' := by
  have hc := index_calls tb n tk w h.take h.n64
  have c1 := h.c1
  have hpl := h.pool.lt
  have htl := h.take.lt
  have hn64 := h.n64
  replace hc := Lib.hid hc
  replace h := Lib.hid h
  go_enter Try.func19, Try.ntmps19
  go_wp2_with fail
  refine hc.out.mono ?_
  rintro e w1 ⟨⟨r, rfl, hr1, hr2⟩, rfl⟩
  clear hc
  have hf : Fst n tk r := ⟨hr1, hr2⟩
  clear hr1 hr2
  cases r with
  | none =>
    replace hf := Lib.hid hf
    go_wp2_with fail
    go_ret2
    exact ⟨none, rfl, hf.out, h.out, But.refl _ _⟩
  | some k =>
    obtain ⟨hk, hk2, _⟩ := hf.1 k rfl
    have cb := h.out.take.cell hk
    rw [hk2] at cb
    have fb := h.out.take.frozen k
    have hend := h.out.setTk k true
    have hkz : (k : Int) < (n : Int) := by omega
    have hkd : decide ((k : Int) < 0) = false := by simp
    replace hf := Lib.hid hf
    replace hend := Lib.hid hend
    clear hk2
    go_wp2_with fail
    go_ret2
    exact ⟨some k, rfl, hf.out, hend.out, (But.refl _ _).setCell _ _⟩
set_option maxRecDepth 100000 in
set_option maxHeartbeats 4000000 in
theorem ptake_nil (w : World) : Calls Try.prog 19 #[.pointer none] w fun e w' => e = .returned (.tuple #[.int .i64 0, .bool false]) ∧ w' = w := by
  go_enter Try.func19, Try.ntmps19
  go_wp2_with fail
  go_ret2
  exact ⟨rfl, rfl⟩

/-- So many of the first k are taken. -/
def usedN (tk : Nat → Bool) : Nat → Nat
  | 0 => 0
  | k + 1 => usedN tk k + if tk k then 1 else 0
theorem usedN_le (tk : Nat → Bool) : ∀ k, usedN tk k ≤ k
  | 0 => Nat.le_refl _
  | k + 1 => by
    have := usedN_le tk k
    unfold usedN
    split <;> omega
set_option maxRecDepth 100000 in
set_option maxHeartbeats 4000000 in
theorem pused_calls (pb sb tb n : Nat) (ce li : Nat → Int × Int) (du : Nat → Int) (tk : Nat → Bool) (w : World) (h : Po w pb sb tb n ce li du tk) :
    Calls Try.prog 24 #[.pointer (some ⟨pb, 0, none⟩)] w fun e w' => e = .returned (.int .i64 (usedN tk n : Nat)) ∧ w' = w := by
  have c1 := h.c1
  have hn64 := h.n64
  have ht := h.take
  clear h
  replace ht := Lib.hid ht
  go_enter Try.func24, Try.ntmps24
  go_wp2_with fail
  go_loop [2, 12] (fun v i => ∃ k : Nat, k ≤ n ∧ i = .int .i64 k ∧ v = .int .i64 (usedN tk k : Nat)) (fun _ i => n - (intOf i).toNat)
  case atStart => exact ⟨0, by omega, rfl, rfl⟩
  case round =>
    obtain ⟨k, hk, rfl, rfl⟩ := hrel
    have hul := usedN_le tk k
    by_cases hlt : k < n
    · have c0 := ht.out.cell hlt
      have hkz : (k : Int) < (n : Int) := by omega
      have hst : usedN tk (k + 1) = usedN tk k + if tk k then 1 else 0 := rfl
      obtain ⟨v, hv⟩ : ∃ v, tk k = v := ⟨_, rfl⟩
      rw [hv] at c0 hst
      obtain ⟨U, hU⟩ : ∃ U, usedN tk k = U := ⟨_, rfl⟩
      rw [hU] at hst hul ⊢
      clear hv hU
      cases v with
      | false =>
        replace hst := Lib.hid hst
        go_wp2_with fail
        go_round
        case rel => exact ⟨k + 1, by omega, by go_num, by rw [hst.out]; rfl⟩
        case measure => simp [intOf]; omega
      | true =>
        replace hst := Lib.hid hst
        go_wp2_with fail
        go_round
        case rel => exact ⟨k + 1, by omega, by go_num, by rw [hst.out]; go_num⟩
        case measure => simp [intOf]; omega
    · obtain rfl : k = n := by omega
      go_wp2_with fail
      go_ret
      exact ⟨rfl, rfl⟩
end Go.Proofs.Ytlaodkolkoefgaa
