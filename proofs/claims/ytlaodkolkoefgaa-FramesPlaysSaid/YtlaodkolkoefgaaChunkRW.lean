/-
  The document's Drop and Wake of a list of ticks.
-/
import Derived.Test.YtlaodkolkoefgaaMg11
namespace Go.Proofs.Ytlaodkolkoefgaa
open Go.RowKit
set_option linter.unusedSimpArgs false
set_option linter.unusedVariables false

def eraseO (l : List Tk) : Option Nat → List Tk
  | some p => l.eraseIdx p
  | none => l
theorem eraseO_len (l : List Tk) (p : Option Nat) : (eraseO l p).length ≤ l.length := by
  cases p with
  | none => exact Nat.le_refl _
  | some p => simp only [eraseO]; rw [List.length_eraseIdx]; split <;> omega
theorem eraseO_drop (ts : List Tk) (x : Int) : eraseO ts (placeL ts x) = dropL ts x := by
  unfold dropL eraseO
  cases placeL ts x <;> rfl
theorem eraseO_step {ts : List Tk} {k : Nat} {t : Tk} (p : Option Nat) (h : ts[k]? = some t) : eraseO (ts.take (k + 1)) p = eraseO (ts.take k) p ++ (if optI p = (k : Int) then [] else [t]) := by
  have hk := (List.getElem?_eq_some_iff.1 h).1
  have hl : (ts.take k).length = k := by rw [List.length_take]; omega
  rw [List.take_add_one, h, Option.toList_some]
  cases p with
  | none => rw [if_neg (show ¬ optI none = (k : Int) by simp [optI])]; rfl
  | some p =>
    have hO : optI (some p) = (p : Int) := rfl
    change (ts.take k ++ [t]).eraseIdx p = (ts.take k).eraseIdx p ++ _
    by_cases h1 : p < k
    · rw [if_neg (show ¬ optI (some p) = (k : Int) by omega), List.eraseIdx_append_of_lt_length (by omega)]
    · rw [List.eraseIdx_append_of_length_le (by omega), hl]
      by_cases h2 : p = k
      · subst h2
        rw [if_pos hO, Nat.sub_self, List.eraseIdx_of_length_le (l := ts.take p) (by omega)]
        rfl
      · rw [if_neg (show ¬ optI (some p) = (k : Int) by omega), List.eraseIdx_of_length_le (l := ts.take k) (by omega), List.eraseIdx_of_length_le (l := [t]) (by simp; omega)]

set_option maxRecDepth 100000 in
set_option maxHeartbeats 4000000 in
theorem rdrop_calls (s : Value) (ts : List Tk) (x : Int) (w : World) (ht : TRow w s ts) (hlen : ts.length ≤ 900000) :
    Calls Try.prog 66 #[s, .int .i64 x] w fun e w' => ∃ v, e = .returned v ∧ TOwn w' w.heap.size v (dropL ts x) ∧ Below w.heap.size w w' := by
  have hcal := rplace_calls s ts x w ht
  have hpl := (optI_lt : -1 ≤ optI (placeL ts x) ∧ optI (placeL ts x) < ts.length)
  obtain ⟨base, cap, rfl, hnc, hc, hr⟩ := ht.open
  obtain ⟨n, hnn⟩ : ∃ n, ts.length = n := ⟨_, rfl⟩
  rw [← eraseO_drop]
  obtain ⟨p, hp⟩ : ∃ p, placeL ts x = p := ⟨_, rfl⟩
  rw [hp] at hcal hpl ⊢
  rw [hnn] at hcal hnc hlen hpl ⊢
  obtain ⟨A, hA⟩ : ∃ A, optI p = A := ⟨_, rfl⟩
  rw [hA] at hcal hpl
  replace hcal := Lib.hid hcal
  replace hp := Lib.hid hp
  replace hA := Lib.hid hA
  replace hnn := Lib.hid hnn
  replace hr := Lib.hid hr
  unfold maxLen at hc
  clear ht
  go_enter Try.func66, Try.ntmps66
  go_wp2_with fail
  refine hcal.out.mono ?_
  rintro e w1 ⟨rfl, rfl⟩
  clear hcal
  go_wp2_with fail
  go_loopw [6, 7] (fun v i W => ∃ k : Nat, k ≤ n ∧ i = .int .i64 k ∧ TOwn W w1.heap.size v (eraseO (ts.take k) p) ∧ Below w1.heap.size w1 W) (fun _ i => fun _ => n - (intOf i).toNat)
  case atStart => exact ⟨0, by omega, rfl, by cases p <;> exact TOwn.nil _ _, Below.refl _ _⟩
  case round =>
    obtain ⟨k, hk, rfl, hown, HB⟩ := hrel
    have hz := HB.size
    have hfl : (eraseO (ts.take k) p).length ≤ k := Nat.le_trans (eraseO_len _ _) (by rw [List.length_take]; omega)
    by_cases hlt : k < n
    · have hne : ts ≠ [] := fun e => by have := hnn.out; rw [e] at this; simp at this; omega
      obtain ⟨tb, off, rfl, hcell⟩ := hr.out hne
      obtain ⟨t, hkt⟩ : ∃ t, ts[k]? = some t := ⟨_, List.getElem?_eq_getElem (by rw [hnn.out]; exact hlt)⟩
      obtain ⟨d0', d1'⟩ := hcell k t hkt
      have d0 := (HB.cell (World.block_lt_of_cell? _ _ d0')).trans d0'
      have d1 := (HB.cell (World.block_lt_of_cell? _ _ d1')).trans d1'
      clear d0' d1'
      have hst := eraseO_step p hkt
      rw [hA.out] at hst
      generalize eraseO (ts.take k) p = fs at *
      obtain ⟨x1, y1⟩ := t
      simp only at d0 d1 hst
      replace hst := Lib.hid hst
      replace hkt := Lib.hid hkt
      replace hcell := Lib.hid hcell
      replace HB := Lib.hid HB
      replace hown := Lib.hid hown
      by_cases hq : A = (k : Int)
      · have hq' : (k : Int) = A := hq.symm
        replace hq := Lib.hid hq
        subst hq'
        go_wp2_with fail
        go_roundw
        case rel => exact ⟨k + 1, by omega, by go_num, by rw [hst.out, if_pos rfl, List.append_nil]; exact hown.out, HB.out⟩
        case measure => simp [intOf]; omega
      · have hq' : ¬ (k : Int) = A := fun h => hq h.symm
        replace hst := Lib.hid (hst.out.trans (by rw [if_neg hq]))
        go_wp2_with (at_builtin; refine wpList_append_ticks rfl (.tmp 20) (.tmp 25) rfl rfl rfl (hown.out.alloc _) (trow_one (Blk.new_at _ _ (by simp))) (by simp; omega) (by simp; omega) ?_)
        intro v' w' h4 h5 h6
        have HB2 := below_own (HB.out.alloc hz _) (hown.out.alloc _) h5 (by simp; omega)
        rw [← hst.out] at h4
        replace h4 := Lib.hid h4
        replace HB2 := Lib.hid HB2
        clear h5 h6
        go_wp2_with fail
        go_roundw
        case rel => exact ⟨k + 1, by omega, by go_num, h4.out, HB2.out⟩
        case measure => simp [intOf]; omega
    · obtain rfl : k = n := by omega
      rw [List.take_of_length_le (by rw [hnn.out]; omega)] at hown
      replace hown := Lib.hid hown
      replace HB := Lib.hid HB
      clear hlt
      go_wp2_with fail
      go_ret
      exact ⟨_, rfl, hown.out, HB.out⟩

theorem set_step {ts : List Tk} {k q : Nat} {t u : Tk} (h : ts[k]? = some t) : (ts.set q u).take (k + 1) = (ts.set q u).take k ++ [if q = k then u else t] := by
  have hk := (List.getElem?_eq_some_iff.1 h).1
  have : (ts.set q u)[k]? = some (if q = k then u else t) := by
    rw [List.getElem?_set]
    by_cases hq : q = k
    · subst hq; rw [if_pos rfl, if_pos hk, if_pos rfl]
    · rw [if_neg hq, if_neg hq]; exact h
  rw [List.take_add_one, this]
  rfl

set_option maxRecDepth 100000 in
set_option maxHeartbeats 8000000 in
/-- There is one: it may come to be due earlier. -/
theorem rwake_some (s : Value) (ts : List Tk) (x d : Int) (q : Nat) (u : Tk) (w : World) (ht : TRow w s ts) (hlen : ts.length ≤ 900000) (h1d : 1 ≤ d) (hq : placeL ts x = some q) (hu : ts[q]? = some u) :
    Calls Try.prog 65 #[s, .int .i64 x, .int .i64 d] w fun e w' => ∃ v, e = .returned v ∧ TOwn w' w.heap.size v (ts.set q (x, minI u.2 d)) ∧ Below w.heap.size w w' := by
  have hcal := rplace_calls s ts x w ht
  obtain ⟨h0, h1, hql, u', hu', hux, _⟩ := placeL_inv hq
  obtain rfl : u = u' := Option.some.inj (hu.symm.trans hu')
  obtain ⟨base, cap, rfl, hnc, hc, hr⟩ := ht.open
  obtain ⟨n, hnn⟩ : ∃ n, ts.length = n := ⟨_, rfl⟩
  rw [hq] at hcal
  rw [hnn] at hcal hnc hlen hql ⊢
  have hcal : (Calls Try.prog 67 #[.slice base n cap, .int .i64 x] w fun e w' => e = .returned (.int .i64 (q : Int)) ∧ w' = w) := hcal
  replace hcal := Lib.hid hcal
  replace hnn := Lib.hid hnn
  replace hr := Lib.hid hr
  replace hux := Lib.hid hux
  replace hu := Lib.hid hu
  replace hq := Lib.hid hq
  unfold maxLen at hc
  clear ht hu'
  have p1 : ¬ x < 0 := by omega
  have p2 : ¬ 4095 < x := by omega
  have p3 : ¬ d < 1 := by omega
  go_enter Try.func65, Try.ntmps65
  go_wp2_with fail
  refine hcal.out.mono ?_
  rintro e w1 ⟨rfl, rfl⟩
  clear hcal
  go_wp2_with fail
  go_loopw [7, 9, 10] (fun v b i W => ∃ k : Nat, k ≤ n ∧ i = .int .i64 k ∧ b = .bool true ∧ TOwn W w1.heap.size v ((ts.set q (x, minI u.2 d)).take k) ∧ Below w1.heap.size w1 W) (fun _ _ i => fun _ => n - (intOf i).toNat)
  case atStart => exact ⟨0, by omega, rfl, rfl, TOwn.nil _ _, Below.refl _ _⟩
  case round =>
    obtain ⟨k, hk, rfl, rfl, hown, HB⟩ := hrel
    have hz := HB.size
    have hfl : ((ts.set q (x, minI u.2 d)).take k).length ≤ k := by rw [List.length_take]; omega
    by_cases hlt : k < n
    · have hne : ts ≠ [] := fun e => by have := hnn.out; rw [e] at this; simp at this; omega
      obtain ⟨tb, off, rfl, hcell⟩ := hr.out hne
      obtain ⟨t, hkt⟩ : ∃ t, ts[k]? = some t := ⟨_, List.getElem?_eq_getElem (by rw [hnn.out]; exact hlt)⟩
      obtain ⟨d0', d1'⟩ := hcell k t hkt
      have d0 := (HB.cell (World.block_lt_of_cell? _ _ d0')).trans d0'
      have d1 := (HB.cell (World.block_lt_of_cell? _ _ d1')).trans d1'
      clear d0' d1'
      have hst := set_step (q := q) (u := (x, minI u.2 d)) hkt
      by_cases hkq : q = k
      · subst hkq
        obtain rfl : u = t := Option.some.inj (hu.out.symm.trans hkt)
        rw [if_pos rfl] at hst
        generalize (ts.set q (x, minI u.2 d)).take q = fs at *
        obtain ⟨x1, y1⟩ := u
        obtain rfl : x1 = x := hux.out
        simp only at d0 d1 hst
        replace hkt := Lib.hid hkt
        replace hcell := Lib.hid hcell
        replace HB := Lib.hid HB
        replace hown := Lib.hid hown
        by_cases hd : d < y1
        · have hmn : minI y1 d = d := by unfold minI; rw [if_pos hd]
          rw [hmn] at hst
          replace hst := Lib.hid hst
          replace hmn := Lib.hid hmn
          go_wp2_with (at_builtin; refine wpList_append_ticks rfl (.tmp 69) (.tmp 71) rfl rfl rfl ((hown.out.alloc _).alloc _) (trow_one (Blk.new_at _ _ (by simp))) (by simp; omega) (by simp; omega) ?_)
          intro v' w' h4 h5 h6
          have HB2 := below_own ((HB.out.alloc hz _).alloc (by simp; omega) _) ((hown.out.alloc _).alloc _) h5 (by simp; omega)
          rw [← hst.out] at h4
          replace h4 := Lib.hid h4
          replace HB2 := Lib.hid HB2
          clear h5 h6
          go_wp2_with fail
          go_roundw
          case rel => exact ⟨q + 1, by omega, by go_num, rfl, by rw [hmn.out]; exact h4.out, HB2.out⟩
          case measure => simp [intOf]; omega
        · have hmn : minI y1 d = y1 := by unfold minI; rw [if_neg hd]
          rw [hmn] at hst
          replace hst := Lib.hid hst
          replace hmn := Lib.hid hmn
          go_wp2_with (at_builtin; refine wpList_append_ticks rfl (.tmp 69) (.tmp 71) rfl rfl rfl ((hown.out.alloc _).alloc _) (trow_one (Blk.new_at _ _ (by simp))) (by simp; omega) (by simp; omega) ?_)
          intro v' w' h4 h5 h6
          have HB2 := below_own ((HB.out.alloc hz _).alloc (by simp; omega) _) ((hown.out.alloc _).alloc _) h5 (by simp; omega)
          rw [← hst.out] at h4
          replace h4 := Lib.hid h4
          replace HB2 := Lib.hid HB2
          clear h5 h6
          go_wp2_with fail
          go_roundw
          case rel => exact ⟨q + 1, by omega, by go_num, rfl, by rw [hmn.out]; exact h4.out, HB2.out⟩
          case measure => simp [intOf]; omega
      · rw [if_neg hkq] at hst
        generalize (ts.set q (x, minI u.2 d)).take k = fs at *
        obtain ⟨x1, y1⟩ := t
        simp only at d0 d1 hst
        replace hst := Lib.hid hst
        replace hkt := Lib.hid hkt
        replace hcell := Lib.hid hcell
        replace HB := Lib.hid HB
        replace hown := Lib.hid hown
        have g1 : ¬ (k : Int) = (q : Int) := by omega
        go_wp2_with (at_builtin; refine wpList_append_ticks rfl (.tmp 69) (.tmp 71) rfl rfl rfl ((hown.out.alloc _).alloc _) (trow_one (Blk.new_at _ _ (by simp))) (by simp; omega) (by simp; omega) ?_)
        intro v' w' h4 h5 h6
        have HB2 := below_own ((HB.out.alloc hz _).alloc (by simp; omega) _) ((hown.out.alloc _).alloc _) h5 (by simp; omega)
        rw [← hst.out] at h4
        replace h4 := Lib.hid h4
        replace HB2 := Lib.hid HB2
        clear h5 h6
        go_wp2_with fail
        go_roundw
        case rel => exact ⟨k + 1, by omega, by go_num, rfl, h4.out, HB2.out⟩
        case measure => simp [intOf]; omega
    · obtain rfl : k = n := by omega
      rw [List.take_of_length_le (by rw [List.length_set, hnn.out]; omega)] at hown
      replace hown := Lib.hid hown
      replace HB := Lib.hid HB
      clear hlt
      go_wp2_with fail
      go_ret
      exact ⟨_, rfl, hown.out, HB.out⟩

end Go.Proofs.Ytlaodkolkoefgaa
