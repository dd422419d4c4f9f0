/-
  The document's Wake where there is no tick.
-/
import Derived.Test.YtlaodkolkoefgaaChunkRW
namespace Go.Proofs.Ytlaodkolkoefgaa
open Go.RowKit
set_option linter.unusedSimpArgs false
set_option linter.unusedVariables false

/-- What is there ahead of place k, the new tick put in at place u. -/
def insK (ts : List Tk) (u : Nat) (t : Tk) (k : Nat) : List Tk := if u < k then insL (ts.take k) u t else ts.take k
theorem insK_step {ts : List Tk} {u k : Nat} {t e : Tk} (h : ts[k]? = some e) : insK ts u t (k + 1) = insK ts u t k ++ (if u = k then [t, e] else [e]) := by
  have hk := (List.getElem?_eq_some_iff.1 h).1
  have hl : (ts.take k).length = k := by rw [List.length_take]; omega
  have ht : ts.take (k + 1) = ts.take k ++ [e] := by rw [List.take_add_one, h]; rfl
  unfold insK insL
  rw [ht]
  rcases Nat.lt_trichotomy u k with h1 | h1 | h1
  · rw [if_pos (by omega), if_pos h1, if_neg (by omega), List.take_append_of_le_length (by omega), List.drop_append_of_le_length (by omega)]
    simp
  · subst h1
    rw [if_pos (by omega), if_neg (by omega), if_pos rfl, List.take_append_of_le_length (by omega), List.drop_append_of_le_length (by omega), List.take_of_length_le (by omega), List.drop_of_length_le (by omega)]
    rfl
  · rw [if_neg (by omega), if_neg (by omega), if_neg (by omega)]
theorem insK_len (ts : List Tk) (u : Nat) (t : Tk) (k : Nat) : (insK ts u t k).length ≤ k + 1 := by
  unfold insK insL
  split <;> simp [List.length_take, List.length_drop] <;> omega

set_option maxRecDepth 100000 in
set_option maxHeartbeats 2000000 in
/-- There is none: it is put in. -/
theorem rwake_none (s : Value) (ts : List Tk) (x d : Int) (w : World) (ht : TRow w s ts) (hlen : ts.length ≤ 900000) (h0 : 0 ≤ x) (h1 : x < 4096) (h1d : 1 ≤ d) (hq : placeL ts x = none) :
    Calls Try.prog 65 #[s, .int .i64 x, .int .i64 d] w fun e w' => ∃ v, e = .returned v ∧ TOwn w' w.heap.size v (insL ts (upL ts x) (x, d)) ∧ Below w.heap.size w w' := by
  have hcal := rplace_calls s ts x w ht
  obtain ⟨base, cap, rfl, hnc, hc, hr⟩ := ht.open
  obtain ⟨n, hnn⟩ : ∃ n, ts.length = n := ⟨_, rfl⟩
  rw [hq] at hcal
  rw [hnn] at hcal hnc hlen ⊢
  have hcal2 : Calls Try.prog 67 #[.slice base n cap, .int .i64 x] w fun e w' => e = .returned (.int .i64 (-1)) ∧ w' = w := hcal
  clear hcal
  have hcal := Lib.hid hcal2
  clear hcal2
  have hun := upL_le ts x
  obtain ⟨u, hu⟩ : ∃ u, upL ts x = u := ⟨_, rfl⟩
  have hub : ∀ (j : Nat) (t : Tk), j < u → ts[j]? = some t → t.1 ≤ x := fun j t hj h => upL_before (by rw [hu]; exact hj) h
  have hua : ∀ t : Tk, ts[u]? = some t → x < t.1 := fun t h => upL_at (by rw [hu]; exact h)
  rw [hu, hnn] at hun
  rw [hu]
  replace hub := Lib.hid hub
  replace hua := Lib.hid hua
  replace hu := Lib.hid hu
  replace hnn := Lib.hid hnn
  replace hr := Lib.hid hr
  replace hq := Lib.hid hq
  unfold maxLen at hc
  clear ht
  have p1 : ¬ x < 0 := by omega
  have p2 : ¬ 4095 < x := by omega
  have p3 : ¬ d < 1 := by omega
  go_enter Try.func65, Try.ntmps65
  go_wp2_with fail
  refine hcal.out.mono ?_
  rintro e w1 ⟨rfl, rfl⟩
  clear hcal
  go_wp2_with fail
  go_loopw [7, 9, 10] (fun v b i W => ∃ k : Nat, k ≤ n ∧ i = .int .i64 k ∧ b = .bool (decide (u < k)) ∧ TOwn W w1.heap.size v (insK ts u (x, d) k) ∧ Below w1.heap.size w1 W) (fun _ _ i => fun _ => n - (intOf i).toNat)
  case atStart => exact ⟨0, by omega, rfl, by simp, by unfold insK; rw [if_neg (by omega)]; exact TOwn.nil _ _, Below.refl _ _⟩
  case round =>
    obtain ⟨k, hk, rfl, rfl, hown, HB⟩ := hrel
    have hz := HB.size
    have hfl := insK_len ts u (x, d) k
    by_cases hlt : k < n
    · have hne : ts ≠ [] := fun e => by have := hnn.out; rw [e] at this; simp at this; omega
      obtain ⟨tb, off, rfl, hcell⟩ := hr.out hne
      obtain ⟨t, hkt⟩ : ∃ t, ts[k]? = some t := ⟨_, List.getElem?_eq_getElem (by rw [hnn.out]; exact hlt)⟩
      obtain ⟨d0', d1'⟩ := hcell k t hkt
      have d0 := (HB.cell (World.block_lt_of_cell? _ _ d0')).trans d0'
      have d1 := (HB.cell (World.block_lt_of_cell? _ _ d1')).trans d1'
      have hst := insK_step (u := u) (t := (x, d)) hkt
      have hsm : k < u → t.1 ≤ x := fun h => hub.out k t h hkt
      have hgr : k = u → x < t.1 := fun h => hua.out t (by rw [← h]; exact hkt)
      generalize insK ts u (x, d) k = fs at *
      obtain ⟨x1, y1⟩ := t
      simp only at d0 d1 d0' d1' hst hsm hgr
      have d0'' := Lib.hid d0'
      have d1'' := Lib.hid d1'
      clear d0' d1'
      replace hkt := Lib.hid hkt
      replace hcell := Lib.hid hcell
      replace HB := Lib.hid HB
      replace hown := Lib.hid hown
      have g1 : ¬ (k : Int) = -1 := by omega
      rcases Nat.lt_trichotomy u k with hc | hc | hc
      · rw [if_neg (by omega)] at hst
        have e1 : decide (u < k) = true := by simp; omega
        have e2 : decide (u < k + 1) = true := by simp; omega
        rw [e1]
        replace hst := Lib.hid hst
        replace hsm := Lib.hid hsm
        replace hgr := Lib.hid hgr
        replace e1 := Lib.hid e1
        replace e2 := Lib.hid e2
        go_wp2_with (at_builtin; refine wpList_append_ticks rfl (.tmp 69) (.tmp 71) rfl rfl rfl ((hown.out.alloc _).alloc _) (trow_one (Blk.new_at _ _ (by simp))) (by simp; omega) (by simp; omega) ?_)
        intro v' w' h4 h5 h6
        have HB2 := below_own ((HB.out.alloc hz _).alloc (by simp; omega) _) ((hown.out.alloc _).alloc _) h5 (by simp; omega)
        rw [← hst.out] at h4
        replace h4 := Lib.hid h4
        replace HB2 := Lib.hid HB2
        clear h5 h6
        go_wp2_with fail
        go_roundw
        case rel => exact ⟨k + 1, by omega, by go_num, by rw [e2.out], h4.out, HB2.out⟩
        case measure => simp [intOf]; omega
      · subst hc
        have hg := hgr rfl
        rw [if_pos rfl] at hst
        have e1 : decide (u < u) = false := by simp
        have e2 : decide (u < u + 1) = true := by simp
        rw [e1]
        clear hsm hgr
        replace hst := Lib.hid hst
        replace e1 := Lib.hid e1
        replace e2 := Lib.hid e2
        go_wp2_with (at_builtin; refine wpList_append_ticks rfl (.tmp 48) (.tmp 52) rfl rfl rfl (hown.out.alloc _) (trow_one (Blk.new_at _ _ (by simp))) (by simp; omega) (by simp; omega) ?_)
        intro v' w' h4 h5 h6
        have HB2 := below_own (HB.out.alloc hz _) (hown.out.alloc _) h5 (by simp; omega)
        have d0 := (HB2.cell (World.block_lt_of_cell? _ _ d0''.out)).trans d0''.out
        have d1 := (HB2.cell (World.block_lt_of_cell? _ _ d1''.out)).trans d1''.out
        have hz2 := HB2.size
        have hfl2 : (fs ++ [(x, d)]).length ≤ u + 2 := by simp; omega
        replace h4 := Lib.hid h4
        replace HB2 := Lib.hid HB2
        clear h5 h6
        go_wp2_with (at_builtin; refine wpList_append_ticks rfl (.tmp 69) (.tmp 71) rfl rfl rfl ((h4.out.alloc _).alloc _) (trow_one (Blk.new_at _ _ (by simp))) (by simp at hfl2 ⊢; omega) (by simp; omega) ?_)
        intro v2 w2 k4 k5 k6
        have HB3 := below_own ((HB2.out.alloc hz2 _).alloc (by simp; omega) _) ((h4.out.alloc _).alloc _) k5 (by simp; omega)
        try rw [List.append_assoc] at k4
        have k4' : TOwn w2 w1.heap.size v2 (insK ts u (x, d) (u + 1)) := by rw [hst.out]; exact k4
        replace k4' := Lib.hid k4'
        replace HB3 := Lib.hid HB3
        clear k4 k5 k6
        go_wp2_with fail
        go_roundw
        case rel => exact ⟨u + 1, by omega, by go_num, by rw [e2.out], k4'.out, HB3.out⟩
        case measure => simp [intOf]; omega
      · have hg := hsm hc
        have hg' : ¬ x < x1 := by omega
        rw [if_neg (by omega)] at hst
        have e1 : decide (u < k) = false := by simp; omega
        have e2 : decide (u < k + 1) = false := by simp; omega
        rw [e1]
        clear hsm hgr
        replace hst := Lib.hid hst
        replace e1 := Lib.hid e1
        replace e2 := Lib.hid e2
        go_wp2_with (at_builtin; refine wpList_append_ticks rfl (.tmp 69) (.tmp 71) rfl rfl rfl ((hown.out.alloc _).alloc _) (trow_one (Blk.new_at _ _ (by simp))) (by simp; omega) (by simp; omega) ?_)
        intro v' w' h4 h5 h6
        have HB2 := below_own ((HB.out.alloc hz _).alloc (by simp; omega) _) ((hown.out.alloc _).alloc _) h5 (by simp; omega)
        rw [← hst.out] at h4
        replace h4 := Lib.hid h4
        replace HB2 := Lib.hid HB2
        clear h5 h6
        go_wp2_with fail
        go_roundw
        case rel => exact ⟨k + 1, by omega, by go_num, by rw [e2.out], h4.out, HB2.out⟩
        case measure => simp [intOf]; omega
    · obtain rfl : k = n := by omega
      have hta : ts.take k = ts := List.take_of_length_le (by rw [hnn.out]; omega)
      have hEnd : u < k → insK ts u (x, d) k = insL ts u (x, d) := fun h => by unfold insK; rw [if_pos h, hta]
      have hEnd2 : ¬ u < k → insK ts u (x, d) k ++ [(x, d)] = insL ts u (x, d) := fun h => by
        unfold insK insL
        rw [if_neg h, hta, List.take_of_length_le (by rw [hnn.out]; omega), List.drop_of_length_le (by rw [hnn.out]; omega)]
      generalize insK ts u (x, d) k = fs at *
      replace hta := Lib.hid hta
      replace hown := Lib.hid hown
      replace HB := Lib.hid HB
      by_cases hc : u < k
      · have he := hEnd hc
        clear hEnd hEnd2
        subst he
        have e1 : decide (u < k) = true := by simp; omega
        rw [e1]
        replace e1 := Lib.hid e1
        go_wp2_with fail
        go_ret
        exact ⟨_, rfl, hown.out, HB.out⟩
      · have he := hEnd2 hc
        clear hEnd hEnd2
        replace he := Lib.hid he
        have e1 : decide (u < k) = false := by simp; omega
        rw [e1]
        replace e1 := Lib.hid e1
        go_wp2_with (at_builtin; refine wpList_append_ticks rfl (.tmp 75) (.tmp 79) rfl rfl rfl (hown.out.alloc _) (trow_one (Blk.new_at _ _ (by simp))) (by simp; omega) (by simp; omega) ?_)
        intro v' w' h4 h5 h6
        have HB2 := below_own (HB.out.alloc hz _) (hown.out.alloc _) h5 (by simp; omega)
        rw [he.out] at h4
        replace h4 := Lib.hid h4
        replace HB2 := Lib.hid HB2
        clear h5 h6
        go_wp2_with fail
        go_ret
        exact ⟨_, rfl, h4.out, HB2.out⟩

set_option maxRecDepth 100000 in
set_option maxHeartbeats 2000000 in
theorem rwake_calls (s : Value) (ts : List Tk) (x d : Int) (w : World) (ht : TRow w s ts) (hlen : ts.length ≤ 900000) :
    Calls Try.prog 65 #[s, .int .i64 x, .int .i64 d] w fun e w' => ∃ v, e = .returned v ∧ TOwn w' w.heap.size v (wakeL ts x d) ∧ Below w.heap.size w w' := by
  by_cases hok : 0 ≤ x ∧ x < 4096 ∧ 1 ≤ d
  · obtain ⟨h0, h1, h1d⟩ := hok
    cases hq : placeL ts x with
    | none => rw [wakeL_ins h0 h1 h1d hq]; exact rwake_none s ts x d w ht hlen h0 h1 h1d hq
    | some q =>
      obtain ⟨_, _, hql, u, hu, _⟩ := placeL_inv hq
      rw [wakeL_set h1d hq hu]
      exact rwake_some s ts x d q u w ht hlen h1d hq hu
  · rw [wakeL_no hok]
    have hrow := ht
    have hlen' := hlen
    obtain ⟨base, cap, rfl, hnc, hc, hr⟩ := ht.open
    obtain ⟨n, hnn⟩ : ∃ n, ts.length = n := ⟨_, rfl⟩
    rw [hnn] at hrow hnc hlen' ⊢
    replace hrow := Lib.hid hrow
    replace hnn := Lib.hid hnn
    have hnil := TOwn.nil w w.heap.size
    replace hnil := Lib.hid hnil
    clear hr ht
    by_cases hq : x < 0
    · go_enter Try.func65, Try.ntmps65
      go_wp2_with (at_builtin; refine wpList_append_ticks rfl (.tmp 22) (.tmp 23) rfl rfl rfl hnil.out hrow.out (by simp; omega) (Nat.le_refl _) ?_)
      intro v' w' h4 h5 h6
      have HB2 := below_own (Below.refl _ _) hnil.out h5 (Nat.le_refl _)
      try rw [List.nil_append] at h4
      replace h4 := Lib.hid h4
      replace HB2 := Lib.hid HB2
      clear h5 h6
      go_wp2_with fail
      go_ret
      exact ⟨_, rfl, h4.out, HB2.out⟩
    by_cases hq : 4095 < x
    · go_enter Try.func65, Try.ntmps65
      go_wp2_with (at_builtin; refine wpList_append_ticks rfl (.tmp 22) (.tmp 23) rfl rfl rfl hnil.out hrow.out (by simp; omega) (Nat.le_refl _) ?_)
      intro v' w' h4 h5 h6
      have HB2 := below_own (Below.refl _ _) hnil.out h5 (Nat.le_refl _)
      try rw [List.nil_append] at h4
      replace h4 := Lib.hid h4
      replace HB2 := Lib.hid HB2
      clear h5 h6
      go_wp2_with fail
      go_ret
      exact ⟨_, rfl, h4.out, HB2.out⟩
    by_cases hq : d < 1
    · go_enter Try.func65, Try.ntmps65
      go_wp2_with (at_builtin; refine wpList_append_ticks rfl (.tmp 22) (.tmp 23) rfl rfl rfl hnil.out hrow.out (by simp; omega) (Nat.le_refl _) ?_)
      intro v' w' h4 h5 h6
      have HB2 := below_own (Below.refl _ _) hnil.out h5 (Nat.le_refl _)
      try rw [List.nil_append] at h4
      replace h4 := Lib.hid h4
      replace HB2 := Lib.hid HB2
      clear h5 h6
      go_wp2_with fail
      go_ret
      exact ⟨_, rfl, h4.out, HB2.out⟩
    omega
end Go.Proofs.Ytlaodkolkoefgaa
