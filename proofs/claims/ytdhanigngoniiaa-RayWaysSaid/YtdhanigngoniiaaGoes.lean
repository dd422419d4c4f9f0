/-
  The contracts of the laws' own small functions: goes, no, awake.
-/
import Derived.Test.YtdhanigngoniiaaWay
namespace Go.Proofs.Ytdhanigngoniiaa
open Go.RowKit
set_option linter.unusedSimpArgs false
set_option linter.unusedVariables false

/-- What a way's row lays: nothing at all, or a block whose first cells are the places'. -/
theorem own_cases {W : World} {base : Nat} {v : Value} {L : List (Int × Int × Int)} (h : W.ownsRow base 23 3 v L.length (cellsP L)) :
    (v = .slice none 0 0 ∧ L = []) ∨ ∃ g cap cs, v = .slice (some ⟨g, 0, none⟩) L.length cap ∧ base ≤ g ∧ Blk W g cs 23 ∧ ∀ j, j < L.length * 3 → cs[j]? = (cellsP L)[j]? := by
  obtain ⟨h1, h2 | ⟨g, cap, cur, hv, hg, hh, hc, _, hs, ht⟩⟩ := h
  · exact .inl ⟨h2.1, List.length_eq_zero_iff.1 h2.2⟩
  · refine .inr ⟨g, cap, cur.toList, hv, hg, ?_, fun j hj => ?_⟩
    · show W.heap[g]? = _
      rw [hh]
    · rw [← ht, List.getElem?_take, if_pos hj]

theorem cellsP_at {L : List (Int × Int × Int)} {k : Nat} {p : Int × Int × Int} (h : L[k]? = some p) : (cellsP L)[k * 3]? = some (.int .i64 p.1) ∧ (cellsP L)[k * 3 + 1]? = some (.int .i64 p.2.1) ∧ (cellsP L)[k * 3 + 2]? = some (.int .i64 p.2.2) := by
  induction L generalizing k with
  | nil => cases h
  | cons q L ih =>
    cases k with
    | zero =>
      obtain rfl := Option.some.inj h
      exact ⟨rfl, rfl, rfl⟩
    | succ k =>
      have h' := ih (k := k) (by simpa using h)
      have e : ∀ j, (cellsP (q :: L))[(k + 1) * 3 + j]? = (cellsP L)[k * 3 + j]? := fun j => by
        show (V3 q.1 q.2.1 q.2.2 ++ cellsP L)[(k + 1) * 3 + j]? = _
        rw [List.getElem?_append_right (by simp [V3]; omega)]
        congr 1
        simp [V3]; omega
      have e0 := e 0
      simp only [Nat.add_zero] at e0
      rw [e0, e 1, e 2]
      exact h'

set_option maxRecDepth 100000 in
set_option maxHeartbeats 4000000 in
theorem goes_nil (x y z d0 d1 d2 n : Int) (a : Option Addr) (c : Nat) (w : World) (hE : wayE x y z d0 d1 d2 n = 0) (hP : wayP x y z d0 d1 d2 n = []) :
    Calls Try.prog 11 #[.agg #[.int .i64 x, .int .i64 y, .int .i64 z], .agg #[.int .i64 d0, .int .i64 d1, .int .i64 d2], .int .i64 n, .slice a 0 c] w fun e w' =>
      e = .returned (.bool true) ∧ Below w.heap.size w w' := by
  go_enter Try.func11, Try.ntmps11
  go_wp2_with fail
  refine (way_calls _ _ _ _ _ _ _ _).mono ?_
  rintro e w1 ⟨v, rfl, hown, hb⟩
  rw [hP] at hown
  rw [hE]
  have hvn : ∃ a1 c1, v = .slice a1 0 c1 := by obtain ⟨a1, c1, h⟩ := owns_form hown; exact ⟨a1, c1, h⟩
  obtain ⟨a1, c1, rfl⟩ := hvn
  have hB : Below w.heap.size w w1 := below_step (((Below.refl _ _).alloc (Nat.le_refl _) _).alloc (by simp) _) (by simp; omega) hb
  replace hB := Lib.hid hB
  clear hown hb hE hP
  go_wp2_with fail
  go_loopw [11] (fun i W => i = .int .i64 0 ∧ W = w1) (fun _ _ => 0)
  case atStart => exact ⟨rfl, rfl⟩
  case round =>
    obtain ⟨rfl, rfl⟩ := hrel
    go_wp2_with fail
    try rw [Exit.noGoto_ret]
    go_ret
    exact ⟨rfl, hB.out⟩

set_option maxRecDepth 100000 in
set_option maxHeartbeats 4000000 in
theorem goes_some (x y z d0 d1 d2 n : Int) (b c : Nat) (L : List (Int × Int × Int)) (w : World) (hE : wayE x y z d0 d1 d2 n = 0) (hP : wayP x y z d0 d1 d2 n = L) (hL : L ≠ []) (hl : L.length ≤ 256) (hblk : Blk w b (cellsP L) 3) :
    Calls Try.prog 11 #[.agg #[.int .i64 x, .int .i64 y, .int .i64 z], .agg #[.int .i64 d0, .int .i64 d1, .int .i64 d2], .int .i64 n, .slice (some ⟨b, 0, none⟩) (3 * L.length) c] w fun e w' =>
      e = .returned (.bool true) ∧ Below w.heap.size w w' := by
  go_enter Try.func11, Try.ntmps11
  go_wp2_with fail
  refine (way_calls _ _ _ _ _ _ _ _).mono ?_
  rintro e w1 ⟨v, rfl, hown, hb⟩
  rw [hP] at hown
  rw [hE]
  obtain ⟨_, h⟩ | ⟨g, cap, cs, rfl, hg, hgb, hcs⟩ := own_cases hown
  · exact absurd h hL
  have hB : Below w.heap.size w w1 := below_step (((Below.refl _ _).alloc (Nat.le_refl _) _).alloc (by simp) _) (by simp; omega) hb
  have hbb : Blk w1 b (cellsP L) 3 := ((hblk.alloc _).alloc _).below hb ((hblk.alloc _).alloc _).lt
  replace hB := Lib.hid hB
  clear hown hb hE hP hblk hg
  obtain ⟨n1, hn1⟩ : ∃ n1, L.length = n1 := ⟨_, rfl⟩
  rw [hn1] at hl
  replace hcs := Lib.hid hcs
  replace hgb := Lib.hid hgb
  replace hbb := Lib.hid hbb
  simp only [hn1]
  replace hn1 := Lib.hid hn1
  have h3 : IntKind.i64.wrap (3 * (n1 : Int)) = 3 * (n1 : Int) := IntWalk.i64_in _ (by omega)
  go_wp2_with fail
  go_loopw [11] (fun i W => ∃ k : Nat, k ≤ n1 ∧ i = .int .i64 k ∧ ∃ q, W = w1.drewN q) (fun i _ => n1 - (intOf i).toNat)
  case atStart => exact ⟨0, by omega, rfl, 0, rfl⟩
  case round =>
    obtain ⟨k, hk, rfl, q, rfl⟩ := hrel
    by_cases hkn : k = n1
    · subst hkn
      go_wp2_with fail
      try rw [Exit.noGoto_ret]
      go_ret
      exact ⟨rfl, below_drewN hB.out q⟩
    · have hk' : k < n1 := by omega
      clear hkn
      obtain ⟨⟨px, py, pz⟩, hp⟩ : ∃ p, L[k]? = some p := ⟨L[k]'(by rw [hn1.out]; exact hk'), List.getElem?_eq_getElem _⟩
      obtain ⟨c0, c1, c2⟩ := cellsP_at hp
      have gb := hgb.out
      have bb := hbb.out
      have cc := hcs.out
      have y0 : w1.cell? ⟨g, k * 3, none⟩ = some (.int .i64 px) := gb.cell _ (by rw [cc _ (by rw [hn1.out]; omega)]; exact c0)
      have y1 : w1.cell? ⟨g, k * 3 + 1, none⟩ = some (.int .i64 py) := gb.cell _ (by rw [cc _ (by rw [hn1.out]; omega)]; exact c1)
      have y2 : w1.cell? ⟨g, k * 3 + 2, none⟩ = some (.int .i64 pz) := gb.cell _ (by rw [cc _ (by rw [hn1.out]; omega)]; exact c2)
      obtain ⟨j0, hj0⟩ : ∃ j : Nat, k * 3 = j := ⟨_, rfl⟩
      obtain ⟨j1, hj1⟩ : ∃ j : Nat, k * 3 + 1 = j := ⟨_, rfl⟩
      obtain ⟨j2, hj2⟩ : ∃ j : Nat, k * 3 + 2 = j := ⟨_, rfl⟩
      have x0 : w1.cell? ⟨b, j0, none⟩ = some (.int .i64 px) := hj0 ▸ bb.cell _ c0
      have x1 : w1.cell? ⟨b, j1, none⟩ = some (.int .i64 py) := hj1 ▸ bb.cell _ c1
      have x2 : w1.cell? ⟨b, j2, none⟩ = some (.int .i64 pz) := hj2 ▸ bb.cell _ c2
      have v0 : IntKind.i64.wrap (3 * (k : Int)) = (j0 : Int) := (IntWalk.i64_in _ (by omega)).trans (by omega)
      have v1 : IntKind.i64.wrap ((j0 : Int) + 1) = (j1 : Int) := (IntWalk.i64_in _ (by omega)).trans (by omega)
      have v2 : IntKind.i64.wrap ((j0 : Int) + 2) = (j2 : Int) := (IntWalk.i64_in _ (by omega)).trans (by omega)
      have l0 : j0 < 3 * n1 := by omega
      have l1 : j1 < 3 * n1 := by omega
      have l2 : j2 < 3 * n1 := by omega
      clear gb bb cc c0 c1 c2
      replace hp := Lib.hid hp
      replace hj0 := Lib.hid hj0
      replace hj1 := Lib.hid hj1
      replace hj2 := Lib.hid hj2
      go_wp2_with fail
      go_quiet (fail)
      go_wp2_with fail
      exact ⟨⟨k + 1, by omega, rfl, q + nq, rfl⟩, by simp [intOf]; omega⟩

theorem no_calls (x y z d0 d1 d2 n e : Int) (w : World) :
    Calls Try.prog 12 #[.agg #[.int .i64 x, .int .i64 y, .int .i64 z], .agg #[.int .i64 d0, .int .i64 d1, .int .i64 d2], .int .i64 n, .int .i64 e] w fun r w' =>
      r = .returned (.bool (wayE x y z d0 d1 d2 n == e && (wayP x y z d0 d1 d2 n).length == 0)) ∧ Below w.heap.size w w' := by
  go_enter Try.func12, Try.ntmps12
  go_wp2_with fail
  refine (way_calls _ _ _ _ _ _ _ _).mono ?_
  rintro e w1 ⟨v, rfl, hown, hb⟩
  obtain ⟨a1, c1, rfl⟩ := owns_form hown
  have hB : Below w.heap.size w w1 := below_step (((Below.refl _ _).alloc (Nat.le_refl _) _).alloc (by simp) _) (by simp; omega) hb
  replace hB := Lib.hid hB
  clear hown hb
  obtain ⟨m, hm⟩ : ∃ m, (wayP x y z d0 d1 d2 n).length = m := ⟨_, rfl⟩
  obtain ⟨r, hr⟩ : ∃ r, wayE x y z d0 d1 d2 n = r := ⟨_, rfl⟩
  rw [hm, hr]
  replace hm := Lib.hid hm
  replace hr := Lib.hid hr
  by_cases h1 : r = e
  · subst h1
    go_wp2_with fail
    go_ret
    all_goals refine ⟨ret_bool ?_, hB.out⟩
    all_goals rw [hr.out, hm.out]
    all_goals cases m <;> simp <;> omega
  · have h1' : (r == e) = false := by simpa using h1
    go_wp2_with fail
    go_ret
    all_goals refine ⟨ret_bool ?_, hB.out⟩
    all_goals rw [hr.out, hm.out, h1']; rfl

theorem wayE_awake : wayE 0 20 0 1 1 1 3 = 0 := by decide
theorem wayP_awake : wayP 0 20 0 1 1 1 3 = [(1, 20, 0), (1, 20, 1), (1, 21, 1)] := by decide
theorem wayE_awake2 : wayE 0 64 0 0 0 0 1 = 10 := by decide

theorem awake_calls (w : World) : Calls Try.prog 10 #[] w fun r w' => r = .returned (.bool true) ∧ Below w.heap.size w w' := by
  go_enter Try.func10, Try.ntmps10
  go_wp2_with fail
  refine (goes_some 0 20 0 1 1 1 3 _ _ [(1, 20, 0), (1, 20, 1), (1, 21, 1)] _ wayE_awake wayP_awake (by simp) (by decide) (Blk.new _ _ _)).mono ?_
  rintro e w1 ⟨rfl, hb⟩
  have HB : Below w.heap.size w w1 := below_step ((Below.refl _ _).alloc (Nat.le_refl _) _) (by simp) hb
  clear hb
  go_wp2_with fail
  refine (no_calls _ _ _ _ _ _ _ _ _).mono ?_
  rintro e w2 ⟨rfl, hb⟩
  have h2 : (wayE 0 64 0 0 0 0 1 == 10 && (wayP 0 64 0 0 0 0 1).length == 0) = true := by decide
  rw [h2]
  have HB2 := below_step HB HB.size hb
  go_wp2_with fail
  go_ret
  exact ⟨rfl, HB2⟩
end Go.Proofs.Ytdhanigngoniiaa
