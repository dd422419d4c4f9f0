/-
  The document's answers of layer 7 that read a list of ticks: place, Due, Least, Ticks.
-/
import Derived.Test.YtlaodkolkoefgaaChunkO
import Derived.Test.YtlaodkolkoefgaaChunkP
namespace Go.Proofs.Ytlaodkolkoefgaa
open Go.RowKit
set_option linter.unusedSimpArgs false
set_option linter.unusedVariables false

set_option maxRecDepth 100000 in
set_option maxHeartbeats 2000000 in
theorem rplace_calls (s : Value) (ts : List (Int × Int)) (x : Int) (w : World) (ht : TRow w s ts) :
    Calls Try.prog 67 #[s, .int .i64 x] w fun e w' => e = .returned (.int .i64 (optI (placeL ts x))) ∧ w' = w := by
  obtain ⟨base, cap, rfl, hn, hc, hr⟩ := ht.open
  obtain ⟨n, hnn⟩ : ∃ n, ts.length = n := ⟨_, rfl⟩
  rw [hnn] at hn ⊢
  replace hnn := Lib.hid hnn
  replace hr := Lib.hid hr
  unfold maxLen at hc
  go_enter Try.func67, Try.ntmps67
  go_wp2_with fail
  go_loop [5] (fun i => ∃ k : Nat, k ≤ n ∧ i = .int .i64 k ∧ (0 < k → 0 ≤ x ∧ x < 4096) ∧ (∀ (j : Nat) (t : Tk), j < k → ts[j]? = some t → t.1 ≠ x)) (fun i => n - (intOf i).toNat)
  case atStart => exact ⟨0, by omega, rfl, fun h => by omega, fun _ _ h => absurd h (Nat.not_lt_zero _)⟩
  case round =>
    obtain ⟨k, hk, rfl, hr1, hno⟩ := hrel
    replace hno := Lib.hid hno
    replace hr1 := Lib.hid hr1
    have hend : (¬ (0 ≤ x ∧ x < 4096)) → optI (placeL ts x) = -1 := fun h => by rw [placeL_out h]; rfl
    by_cases hlt : k < n
    · by_cases q1 : 0 ≤ x
      · by_cases q2 : x ≤ 4095
        · have hne : ts ≠ [] := fun e => by have := hnn.out; rw [e] at this; simp at this; omega
          obtain ⟨tb, off, rfl, hcell⟩ := hr.out hne
          obtain ⟨t, hkt⟩ : ∃ t, ts[k]? = some t := ⟨_, List.getElem?_eq_getElem (by rw [hnn.out]; exact hlt)⟩
          obtain ⟨d0, d1⟩ := hcell k t hkt
          replace hcell := Lib.hid hcell
          replace hkt := Lib.hid hkt
          replace hend := Lib.hid hend
          obtain ⟨u, hu⟩ : ∃ u, t.1 = u := ⟨_, rfl⟩
          rw [hu] at d0
          replace hu := Lib.hid hu
          by_cases q3 : u = x
          · have q3' : (u == x) = true := by simp [q3]
            replace q3 := Lib.hid q3
            go_wp2_with fail
            go_ret
            exact ⟨ret_int (by rw [placeL_some q1 (by omega) hkt.out (by rw [hu.out]; exact q3.out) hno.out]; rfl), rfl⟩
          · have q3' : (u == x) = false := by simp [q3]
            replace q3 := Lib.hid q3
            go_wp2_with fail
            go_round
            case rel => exact ⟨k + 1, by omega, by go_num, fun _ => by omega, fun j t' hj h' => by
              by_cases e : j = k
              · subst e
                rw [hkt.out] at h'
                obtain rfl := Option.some.inj h'
                rw [hu.out]; exact q3.out
              · exact hno.out j t' (by omega) h'⟩
            case measure => simp [intOf]; omega
        · replace hend := Lib.hid hend
          go_wp2_with fail
          go_ret
          exact ⟨ret_int (hend.out (by omega)).symm, rfl⟩
      · replace hend := Lib.hid hend
        go_wp2_with fail
        go_ret
        exact ⟨ret_int (hend.out (by omega)).symm, rfl⟩
    · obtain rfl : k = n := by omega
      replace hend := Lib.hid hend
      go_wp2_with fail
      go_ret
      exact ⟨ret_int (by rw [placeL_none (fun j t' h' => hno.out j t' (by have := (List.getElem?_eq_some_iff.1 h').1; rw [hnn.out] at this; exact this) h')]; rfl), rfl⟩

set_option maxRecDepth 100000 in
set_option maxHeartbeats 2000000 in
theorem rdue_calls (s : Value) (ts : List (Int × Int)) (x : Int) (w : World) (ht : TRow w s ts) :
    Calls Try.prog 50 #[s, .int .i64 x] w fun e w' => e = .returned (.int .i64 (dueL ts x)) ∧ w' = w := by
  have hcal := rplace_calls s ts x w ht
  obtain ⟨base, cap, rfl, hn, hc, hr⟩ := ht.open
  unfold maxLen at hc
  cases hp : placeL ts x with
  | none =>
    have hd := dueL_none hp
    rw [hp] at hcal
    rw [hd]
    replace hcal := Lib.hid hcal
    clear hp hd hr
    go_enter Try.func50, Try.ntmps50
    go_wp2_with fail
    refine hcal.out.mono ?_
    rintro e w1 ⟨rfl, rfl⟩
    unfold optI
    go_wp2_with fail
    go_ret
    exact ⟨rfl, rfl⟩
  | some k =>
    obtain ⟨h0, h1, hk, t, hkt, _⟩ := placeL_inv hp
    have hd := dueL_some hp hkt
    rw [hp] at hcal
    rw [hd]
    obtain ⟨tb, off, rfl, hcell⟩ := hr (fun e => by subst e; simp at hk)
    obtain ⟨d0, d1⟩ := hcell k t hkt
    replace hcal := Lib.hid hcal
    replace hkt := Lib.hid hkt
    clear hp hd hr hcell
    go_enter Try.func50, Try.ntmps50
    go_wp2_with fail
    refine hcal.out.mono ?_
    rintro e w1 ⟨rfl, rfl⟩
    unfold optI
    go_wp2_with fail
    go_ret
    exact ⟨rfl, rfl⟩

set_option maxRecDepth 100000 in
set_option maxHeartbeats 2000000 in
theorem rleast_calls (s : Value) (ts : List (Int × Int)) (w : World) (ht : TRow w s ts) :
    Calls Try.prog 54 #[s] w fun e w' => e = .returned (.int .i64 (leastL ts)) ∧ w' = w := by
  obtain ⟨base, cap, rfl, hn, hc, hr⟩ := ht.open
  obtain ⟨n, hnn⟩ : ∃ n, ts.length = n := ⟨_, rfl⟩
  rw [hnn] at hn ⊢
  replace hnn := Lib.hid hnn
  replace hr := Lib.hid hr
  unfold maxLen at hc
  go_enter Try.func54, Try.ntmps54
  go_wp2_with fail
  go_loop [3, 4] (fun m i => ∃ k : Nat, k ≤ n ∧ i = .int .i64 k ∧ m = .int .i64 (leastL (ts.take k))) (fun _ i => n - (intOf i).toNat)
  case atStart => exact ⟨0, by omega, rfl, rfl⟩
  case round =>
    obtain ⟨k, hk, rfl, rfl⟩ := hrel
    by_cases hlt : k < n
    · have hne : ts ≠ [] := fun e => by have := hnn.out; rw [e] at this; simp at this; omega
      obtain ⟨tb, off, rfl, hcell⟩ := hr.out hne
      obtain ⟨t, hkt⟩ : ∃ t, ts[k]? = some t := ⟨_, List.getElem?_eq_getElem (by rw [hnn.out]; exact hlt)⟩
      obtain ⟨d0, d1⟩ := hcell k t hkt
      have hst := leastL_step hkt
      replace hst := Lib.hid hst
      replace hcell := Lib.hid hcell
      replace hkt := Lib.hid hkt
      obtain ⟨L, hL⟩ : ∃ L, leastL (ts.take k) = L := ⟨_, rfl⟩
      obtain ⟨u, hu⟩ : ∃ u, t.2 = u := ⟨_, rfl⟩
      rw [hu] at d1
      rw [hL]
      replace hu := Lib.hid hu
      replace hL := Lib.hid hL
      by_cases k0 : k = 0
      · subst k0
        go_wp2_with fail
        go_round
        case rel => exact ⟨1, by omega, by go_num, by rw [hst.out, if_pos rfl, hu.out]⟩
        case measure => simp [intOf]; omega
      · by_cases q : u < L
        · go_wp2_with fail
          go_round
          case rel => exact ⟨k + 1, by omega, by go_num, by rw [hst.out, if_neg k0, hu.out, hL.out, if_pos q]⟩
          case measure => simp [intOf]; omega
        · go_wp2_with fail
          go_round
          case rel => exact ⟨k + 1, by omega, by go_num, by rw [hst.out, if_neg k0, hu.out, hL.out, if_neg q]⟩
          case measure => simp [intOf]; omega
    · obtain rfl : k = n := by omega
      go_wp2_with fail
      go_ret
      exact ⟨ret_int (by rw [List.take_of_length_le (by rw [hnn.out]; omega)]), rfl⟩
end Go.Proofs.Ytlaodkolkoefgaa
