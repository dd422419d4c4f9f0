/-
  Where an index's tick stands: slices.IndexFunc with the two closures, chunk.place, chunk.Due.
-/
import Derived.Test.YtmpnpanlabkkdaaChunkE
namespace Go.Proofs.Ytmpnpanlabkkdaa
open Go.RowKit
set_option linter.unusedSimpArgs false
set_option linter.unusedVariables false

def isatP (x : Int) (t : Tk) : Bool := t.1 == x
set_option maxHeartbeats 1000000 in
theorem isat_calls (a d x : Int) (ib : Nat) (w : World) (hc : w.cell? ⟨ib, 0, none⟩ = some (.int .i64 x)) :
    Calls Try.prog 57 #[.agg #[.int .i64 a, .int .i64 d], .pointer (some ⟨ib, 0, none⟩)] w fun e w' => e = .returned (.bool (isatP x (a, d))) ∧ Below w.heap.size w w' := by
  have hlt := World.block_lt_of_cell? _ _ hc
  go_enter Try.func57, Try.ntmps57
  go_wp2_with fail
  go_ret
  exact ⟨ret_bool (by simp [isatP]), (Below.refl _ _).alloc (Nat.le_refl _) _⟩

set_option maxRecDepth 100000 in
set_option maxHeartbeats 4000000 in
theorem index_isat (s : Value) (ts : List (Int × Int)) (x : Int) (ib : Nat) (w : World) (ht : TRow w s ts) (hc : w.cell? ⟨ib, 0, none⟩ = some (.int .i64 x)) :
    Calls Try.prog 48 #[s, .func (.func 57) #[] #[.pointer (some ⟨ib, 0, none⟩)]] w fun e w' => e = .returned (.int .i64 (optI (ts.findIdx? (isatP x)))) ∧ Below w.heap.size w w' := by
  obtain ⟨base, cap, rfl, hn, hcap, hr⟩ := ht.open
  obtain ⟨n, hnn⟩ : ∃ n, ts.length = n := ⟨_, rfl⟩
  rw [hnn] at hn ⊢
  replace hnn := Lib.hid hnn
  replace hr := Lib.hid hr
  unfold maxLen at hcap
  go_enter Try.func48, Try.ntmps48
  go_wp2_with fail
  go_loopw [8] (fun i W => ∃ k : Nat, k ≤ n ∧ i = .int .i64 k ∧ (∀ (j : Nat) (t : Tk), j < k → ts[j]? = some t → isatP x t = false) ∧ Below w.heap.size w W) (fun i _ => n - (intOf i).toNat)
  case atStart => exact ⟨0, by omega, rfl, fun _ _ h => absurd h (Nat.not_lt_zero _), Below.refl _ _⟩
  case round =>
    obtain ⟨k, hk, rfl, hno, HB⟩ := hrel
    replace hno := Lib.hid hno
    by_cases hlt : k < n
    · have hne : ts ≠ [] := fun e => by have := hnn.out; rw [e] at this; simp at this; omega
      obtain ⟨tb, off, rfl, hcell⟩ := hr.out hne
      obtain ⟨t, hkt⟩ : ∃ t, ts[k]? = some t := ⟨_, List.getElem?_eq_getElem (by rw [hnn.out]; exact hlt)⟩
      obtain ⟨d0, d1⟩ := hcell k t hkt
      replace d0 := (HB.cell (World.block_lt_of_cell? _ _ d0)).trans d0
      replace d1 := (HB.cell (World.block_lt_of_cell? _ _ d1)).trans d1
      have hcx := (HB.cell (World.block_lt_of_cell? _ _ hc)).trans hc
      have hz := HB.size
      replace hcell := Lib.hid hcell
      replace hkt := Lib.hid hkt
      replace HB := Lib.hid HB
      obtain ⟨a, d⟩ := t
      simp only at d0 d1
      have hcal := isat_calls a d x ib wr hcx
      cases hp : isatP x (a, d)
      all_goals
        rw [hp] at hcal
        replace hp := Lib.hid hp
        replace hcal := Lib.hid hcal
        go_wp2_with fail
        refine hcal.out.mono ?_
        rintro e w1 ⟨rfl, hb⟩
        replace HB := Lib.hid (below_step HB.out hz hb)
        clear hb hcal
        go_wp2_with fail
      · go_roundw
        case rel => exact ⟨k + 1, by omega, by go_num, fun j t' hj h' => by
          by_cases e : j = k
          · subst e
            rw [hkt.out] at h'
            obtain rfl := Option.some.inj h'
            exact hp.out
          · exact hno.out j t' (by omega) h', HB.out⟩
        case measure => simp [intOf]; omega
      · go_ret
        exact ⟨ret_int (by rw [findIdx?_first hkt.out hp.out hno.out]; rfl), HB.out⟩
    · obtain rfl : k = n := by omega
      replace HB := Lib.hid HB
      go_wp2_with fail
      go_ret
      exact ⟨ret_int (by rw [findIdx?_no (fun j t' h' => hno.out j t' (by have := (List.getElem?_eq_some_iff.1 h').1; rw [hnn.out] at this; exact this) h')]; rfl), HB.out⟩
def aboveP (x : Int) (t : Tk) : Bool := decide (x < t.1)
set_option maxHeartbeats 1000000 in
theorem above_calls (a d x : Int) (ib : Nat) (w : World) (hc : w.cell? ⟨ib, 0, none⟩ = some (.int .i64 x)) :
    Calls Try.prog 49 #[.agg #[.int .i64 a, .int .i64 d], .pointer (some ⟨ib, 0, none⟩)] w fun e w' => e = .returned (.bool (aboveP x (a, d))) ∧ Below w.heap.size w w' := by
  have hlt := World.block_lt_of_cell? _ _ hc
  go_enter Try.func49, Try.ntmps49
  go_wp2_with fail
  go_ret
  exact ⟨ret_bool (by simp [aboveP]), (Below.refl _ _).alloc (Nat.le_refl _) _⟩

set_option maxRecDepth 100000 in
set_option maxHeartbeats 4000000 in
theorem index_above (s : Value) (ts : List (Int × Int)) (x : Int) (ib : Nat) (w : World) (ht : TRow w s ts) (hc : w.cell? ⟨ib, 0, none⟩ = some (.int .i64 x)) :
    Calls Try.prog 48 #[s, .func (.func 49) #[] #[.pointer (some ⟨ib, 0, none⟩)]] w fun e w' => e = .returned (.int .i64 (optI (ts.findIdx? (aboveP x)))) ∧ Below w.heap.size w w' := by
  obtain ⟨base, cap, rfl, hn, hcap, hr⟩ := ht.open
  obtain ⟨n, hnn⟩ : ∃ n, ts.length = n := ⟨_, rfl⟩
  rw [hnn] at hn ⊢
  replace hnn := Lib.hid hnn
  replace hr := Lib.hid hr
  unfold maxLen at hcap
  go_enter Try.func48, Try.ntmps48
  go_wp2_with fail
  go_loopw [8] (fun i W => ∃ k : Nat, k ≤ n ∧ i = .int .i64 k ∧ (∀ (j : Nat) (t : Tk), j < k → ts[j]? = some t → aboveP x t = false) ∧ Below w.heap.size w W) (fun i _ => n - (intOf i).toNat)
  case atStart => exact ⟨0, by omega, rfl, fun _ _ h => absurd h (Nat.not_lt_zero _), Below.refl _ _⟩
  case round =>
    obtain ⟨k, hk, rfl, hno, HB⟩ := hrel
    replace hno := Lib.hid hno
    by_cases hlt : k < n
    · have hne : ts ≠ [] := fun e => by have := hnn.out; rw [e] at this; simp at this; omega
      obtain ⟨tb, off, rfl, hcell⟩ := hr.out hne
      obtain ⟨t, hkt⟩ : ∃ t, ts[k]? = some t := ⟨_, List.getElem?_eq_getElem (by rw [hnn.out]; exact hlt)⟩
      obtain ⟨d0, d1⟩ := hcell k t hkt
      replace d0 := (HB.cell (World.block_lt_of_cell? _ _ d0)).trans d0
      replace d1 := (HB.cell (World.block_lt_of_cell? _ _ d1)).trans d1
      have hcx := (HB.cell (World.block_lt_of_cell? _ _ hc)).trans hc
      have hz := HB.size
      replace hcell := Lib.hid hcell
      replace hkt := Lib.hid hkt
      replace HB := Lib.hid HB
      obtain ⟨a, d⟩ := t
      simp only at d0 d1
      have hcal := above_calls a d x ib wr hcx
      cases hp : aboveP x (a, d)
      all_goals
        rw [hp] at hcal
        replace hp := Lib.hid hp
        replace hcal := Lib.hid hcal
        go_wp2_with fail
        refine hcal.out.mono ?_
        rintro e w1 ⟨rfl, hb⟩
        replace HB := Lib.hid (below_step HB.out hz hb)
        clear hb hcal
        go_wp2_with fail
      · go_roundw
        case rel => exact ⟨k + 1, by omega, by go_num, fun j t' hj h' => by
          by_cases e : j = k
          · subst e
            rw [hkt.out] at h'
            obtain rfl := Option.some.inj h'
            exact hp.out
          · exact hno.out j t' (by omega) h', HB.out⟩
        case measure => simp [intOf]; omega
      · go_ret
        exact ⟨ret_int (by rw [findIdx?_first hkt.out hp.out hno.out]; rfl), HB.out⟩
    · obtain rfl : k = n := by omega
      replace HB := Lib.hid HB
      go_wp2_with fail
      go_ret
      exact ⟨ret_int (by rw [findIdx?_no (fun j t' h' => hno.out j t' (by have := (List.getElem?_eq_some_iff.1 h').1; rw [hnn.out] at this; exact this) h')]; rfl), HB.out⟩

set_option maxRecDepth 100000 in
set_option maxHeartbeats 4000000 in
theorem place_calls (b : Nat) (ce li : Nat → Int × Int) (s : Value) (ts : List (Int × Int)) (x : Int) (w : World) (h : Ck w b ce li s) (ht : TRow w s ts) :
    Calls Try.prog 45 #[.pointer (some ⟨b, 0, none⟩), .int .i64 x] w fun e w' => e = .returned (.int .i64 (optI (placeL ts x))) ∧ Below w.heap.size w w' := by
  have ct := h.tk
  have hlt := h.lt
  have hcal := index_isat s ts x w.heap.size (w.alloc (.cells #[.int .i64 x] 3)) (ht.keep ((Below.refl _ _).alloc (Nat.le_refl _) _)) ((Blk.new w _ _).cell 0 rfl)
  clear h
  by_cases h0 : 0 ≤ x
  · by_cases h1 : x < 4096
    · have hp : placeL ts x = ts.findIdx? (isatP x) := by unfold placeL; rw [if_pos ⟨h0, h1⟩]; rfl
      rw [hp]
      replace hcal := Lib.hid hcal
      clear hp
      go_enter Try.func45, Try.ntmps45
      have hmf : ∀ (fn : Fn) (first cap : Array Value) (w : World), (Instr.makeFunc fn first cap).run Try.prog w = .ok (.func fn first cap) w := fun _ _ _ _ => rfl
      go_wp2_with fail
      refine hcal.out.mono ?_
      rintro e w1 ⟨rfl, hb⟩
      replace hb := Lib.hid (below_step ((Below.refl w.heap.size w).alloc (Nat.le_refl _) _) (by simp) hb)
      clear hcal
      go_wp2_with fail
      go_ret
      exact ⟨rfl, hb.out⟩
    · rw [placeL_out (by omega)]
      replace hcal := Lib.hid hcal
      clear ht
      unfold optI
      go_enter Try.func45, Try.ntmps45
      go_wp2_with fail
      go_ret
      exact ⟨rfl, (Below.refl _ _).alloc (Nat.le_refl _) _⟩
  · rw [placeL_out (by omega)]
    replace hcal := Lib.hid hcal
    clear ht
    unfold optI
    go_enter Try.func45, Try.ntmps45
    go_wp2_with fail
    go_ret
    exact ⟨rfl, (Below.refl _ _).alloc (Nat.le_refl _) _⟩

set_option maxRecDepth 100000 in
set_option maxHeartbeats 4000000 in
theorem due_calls (b : Nat) (ce li : Nat → Int × Int) (s : Value) (ts : List (Int × Int)) (x : Int) (w : World) (h : Ck w b ce li s) (ht : TRow w s ts) :
    Calls Try.prog 27 #[.pointer (some ⟨b, 0, none⟩), .int .i64 x] w fun e w' => e = .returned (.int .i64 (dueL ts x)) ∧ Below w.heap.size w w' := by
  have hcal := place_calls b ce li s ts x w h ht
  cases hp : placeL ts x with
  | none =>
    rw [dueL_none hp]
    rw [hp] at hcal
    unfold optI at hcal
    replace hcal := Lib.hid hcal
    clear hp h ht
    go_enter Try.func27, Try.ntmps27
    go_wp2_with fail
    refine hcal.out.mono ?_
    rintro e w1 ⟨rfl, hb⟩
    replace hb := Lib.hid hb
    go_wp2_with fail
    go_ret
    exact ⟨rfl, hb.out⟩
  | some k =>
    obtain ⟨h0, h1, hk, t, hkt, _⟩ := placeL_inv hp
    rw [dueL_some hp hkt]
    rw [hp] at hcal
    unfold optI at hcal
    replace hcal := Lib.hid hcal
    go_enter Try.func27, Try.ntmps27
    go_wp2_with fail
    refine hcal.out.mono ?_
    rintro e w1 ⟨rfl, hb⟩
    have ct := (h.keep hb).tk
    obtain ⟨base, cap, rfl, hn, hcap, hr⟩ := (ht.keep hb).open
    obtain ⟨tb, off, rfl, hcell⟩ := hr (fun e => by subst e; simp at hk)
    obtain ⟨d0, d1⟩ := hcell k t hkt
    replace hb := Lib.hid hb
    unfold maxLen at hcap
    clear hp h ht hr hcell hkt hcal
    go_wp2_with fail
    go_ret
    exact ⟨rfl, hb.out⟩
end Go.Proofs.Ytmpnpanlabkkdaa
