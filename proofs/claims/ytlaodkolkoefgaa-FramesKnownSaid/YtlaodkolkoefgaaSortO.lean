/-
  slices.SortStableFunc on an owned row of ticks.
-/
import Derived.Test.YtlaodkolkoefgaaSortZ
namespace Go.Proofs.Ytlaodkolkoefgaa
open Go.RowKit
set_option linter.unusedSimpArgs false
set_option linter.unusedVariables false

theorem isort_nil (F : Value) (w : World) : Calls Try.prog 68 #[.slice none 0 0, .int .i64 0, .int .i64 0, F] w fun e w' => e = .returned (.tuple #[]) ∧ w' = w := by
  go_enter Try.func68, Try.ntmps68
  go_wp2_with fail
  go_loopw [8] (fun v W => v = .int .i64 1 ∧ W = w) (fun v _ => 0)
  case atStart => exact ⟨rfl, rfl⟩
  case round =>
    obtain ⟨rfl, rfl⟩ := hrel
    go_wp2_with fail
    refine bodyPost_end (results_none rfl _ _ _) rfl ?_
    exact ⟨rfl, rfl⟩
theorem stable_nil (F : Value) (w : World) : Calls Try.prog 60 #[.slice none 0 0, .int .i64 0, F] w fun e w' => e = .returned (.tuple #[]) ∧ w' = w := by
  have hins := isort_nil F
  go_enter Try.func60, Try.ntmps60
  go_wp2_with fail
  go_loopw [7, 8] (fun v u W => v = .int .i64 0 ∧ u = .int .i64 20 ∧ W = w) (fun v u _ => 0)
  case atStart => exact ⟨rfl, rfl, rfl⟩
  case round =>
    obtain ⟨rfl, rfl, rfl⟩ := hrel
    go_wp2_with fail
    refine (hins _).mono ?_
    rintro e1 W1 ⟨rfl, rfl⟩
    go_wp2_with fail
    go_loopw [6, 7, 8, 9] (fun v _ _ _ W => v = .int .i64 20 ∧ W1 = W) (fun v _ _ _ _ => 0)
    case atStart => exact ⟨rfl, rfl⟩
    case round =>
      obtain ⟨rfl, rfl⟩ := hrel
      go_wp2_with fail
      refine bodyPost_end (results_none rfl _ _ _) rfl ?_
      exact ⟨rfl, rfl⟩

set_option maxRecDepth 100000 in
set_option maxHeartbeats 4000000 in
theorem sort_calls (cf : Ty → Ty → Int) (hcmp : CmpOk cf) (lt : Ty → Ty → Bool) (ho : LtOk lt) (B : Nat) (v : Value) (ts : List Ty) (w : World) (hown : TOwn w B v ts) (hn : ts.length ≤ 1000000)
    (hgood : ∀ (p q : Nat) (x y : Ty), p < q → ts[p]? = some x → ts[q]? = some y → decide (cf y x < 0) = lt y x) :
    Calls Try.prog 39 #[v, .func (.func 40) #[] #[]] w fun e w' => e = .returned (.tuple #[]) ∧ ∃ ts', TOwn w' B v ts' ∧ Below B w w' ∧ ts'.Perm ts ∧ ts'.Pairwise (fun x y => lt y x = false) := by
  rcases hown.2 with ⟨rfl, h0⟩ | ⟨g, cap, cur, rfl, hb, hg, hnc, hcm, hcs, htake⟩
  · have hst := stable_nil (.func (.func 40) #[] #[]) w
    obtain rfl : ts = [] := List.eq_nil_of_length_eq_zero h0
    replace hst := Lib.hid hst
    go_enter Try.func39, Try.ntmps39
    go_wp2_with fail
    refine hst.out.mono ?_
    rintro e W ⟨rfl, rfl⟩
    go_wp2_with fail
    refine bodyPost_end (results_none rfl _ _ _) rfl ?_
    exact ⟨rfl, [], TOwn.nil _ _, Below.refl _ _, List.Perm.refl _, List.Pairwise.nil⟩
  · obtain ⟨d, hd⟩ := lst_of ts
    have hglt := (Array.getElem?_eq_some_iff.1 hg).1
    have hlen : cur.toList.length = cap * 2 := by rw [Array.length_toList]; exact hcs
    have hrow : RowB w g ts.length d (cur.toList.drop (ts.length * 2)) := by
      unfold RowB rowL Blk
      rw [hd, ← htake, List.take_append_drop]
      exact hg
    have hc := stable_calls cf hcmp lt ho g ts.length cap (cur.toList.drop (ts.length * 2)) hnc hcm hn d w hrow (fun p q h1 h2 => hgood p q (d p) (d q) h1 (by rw [← hd]; exact lst_at d (by omega)) (by rw [← hd]; exact lst_at d h2))
    have hdl : (cur.toList.drop (ts.length * 2)).length + ts.length * 2 = cap * 2 := by rw [List.length_drop]; omega
    generalize cur.toList.drop (ts.length * 2) = R at hc hdl
    clear hgood hcmp hrow htake hg hcs hlen
    replace hc := Lib.hid hc
    replace hd := Lib.hid hd
    replace hdl := Lib.hid hdl
    clear hown
    go_enter Try.func39, Try.ntmps39
    go_wp2_with fail
    refine hc.out.mono ?_
    rintro e W ⟨rfl, d', r1, b1, p1, s1⟩
    replace r1 := Lib.hid r1
    replace b1 := Lib.hid b1
    replace p1 := Lib.hid p1
    replace s1 := Lib.hid s1
    go_wp2_with fail
    refine bodyPost_end (results_none rfl _ _ _) rfl ?_
    refine ⟨rfl, lst ts.length d', ?_, b1.out.below hb (by omega), ?_, lst_sorted s1.out⟩
    · refine ⟨by rw [cellsT_len, lst_len], .inr ⟨g, cap, _, by rw [lst_len], hb, r1.out, by rw [lst_len]; exact hnc, hcm, ?_, ?_⟩⟩
      · rw [List.size_toArray, rowL_len]; have := hdl.out; omega
      · rw [List.toList_toArray, lst_len]; unfold rowL; rw [List.take_left' (by rw [cellsT_len, lst_len])]
    · have := p1.out.perm (n := ts.length) (Nat.le_refl _)
      rw [hd.out] at this
      exact this
end Go.Proofs.Ytlaodkolkoefgaa
