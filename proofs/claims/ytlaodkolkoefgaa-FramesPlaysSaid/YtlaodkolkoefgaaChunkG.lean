/-
  Two lists of ticks, two chunks: are they the same?
-/
import Derived.Test.YtlaodkolkoefgaaMg11
import Derived.Test.YtlaodkolkoefgaaMg17
namespace Go.Proofs.Ytlaodkolkoefgaa
open Go.RowKit
set_option linter.unusedSimpArgs false
set_option linter.unusedVariables false

theorem drewN_two (w : World) (a b : Nat) : (w.drewN a).drewN b = w.drewN (a + b) := by simp [World.drewN, Nat.add_assoc]

set_option maxRecDepth 100000 in
set_option maxHeartbeats 4000000 in
theorem ticks_calls (s s' : Value) (ts us : List (Int × Int)) (w : World) (ht : TRow w s ts) (hu : TRow w s' us) :
    Calls Try.prog 55 #[s, s'] w fun e w' => e = .returned (.bool (decide (ts = us))) ∧ ∃ q, w' = w.drewN q := by
  obtain ⟨base, cap, rfl, hn, hc, hr⟩ := ht.open
  obtain ⟨base', cap', rfl, hn', hc', hr'⟩ := hu.open
  obtain ⟨n, hnn⟩ : ∃ n, ts.length = n := ⟨_, rfl⟩
  obtain ⟨m, hmm⟩ : ∃ m, us.length = m := ⟨_, rfl⟩
  rw [hnn] at hn ⊢
  rw [hmm] at hn' ⊢
  replace hnn := Lib.hid hnn
  replace hmm := Lib.hid hmm
  replace hr := Lib.hid hr
  replace hr' := Lib.hid hr'
  unfold maxLen at hc hc'
  by_cases hnm : n = m
  · subst hnm
    go_enter Try.func55, Try.ntmps55
    go_wp2_with fail
    go_loopw [5] (fun i W => ∃ k : Nat, k ≤ n ∧ i = .int .i64 k ∧ (∀ j, j < k → ts[j]? = us[j]?) ∧ ∃ q, W = w.drewN q) (fun i _ => n - (intOf i).toNat)
    case atStart => exact ⟨0, by omega, rfl, fun _ h => absurd h (Nat.not_lt_zero _), 0, rfl⟩
    case round =>
      obtain ⟨k, hk, rfl, hall, q, rfl⟩ := hrel
      replace hall := Lib.hid hall
      by_cases hlt : k < n
      · have hne : ts ≠ [] := fun e => by have := hnn.out; rw [e] at this; simp at this; omega
        have hne' : us ≠ [] := fun e => by have := hmm.out; rw [e] at this; simp at this; omega
        obtain ⟨tb, off, rfl, hcell⟩ := hr.out hne
        obtain ⟨tb', off', rfl, hcell'⟩ := hr'.out hne'
        obtain ⟨t, hkt⟩ : ∃ t, ts[k]? = some t := ⟨_, List.getElem?_eq_getElem (by rw [hnn.out]; exact hlt)⟩
        obtain ⟨u, hku⟩ : ∃ t, us[k]? = some t := ⟨_, List.getElem?_eq_getElem (by rw [hmm.out]; exact hlt)⟩
        obtain ⟨d0, d1⟩ := hcell k t hkt
        obtain ⟨e0, e1⟩ := hcell' k u hku
        have hz : (k : Int) < (n : Int) := by omega
        replace hcell := Lib.hid hcell
        replace hcell' := Lib.hid hcell'
        replace hkt := Lib.hid hkt
        replace hku := Lib.hid hku
        obtain ⟨x, y⟩ := t
        obtain ⟨x', y'⟩ := u
        simp only at d0 d1 e0 e1
        by_cases hx : x = x'
        · by_cases hy : y = y'
          · have h1 : (x == x') = true := by simp [hx]
            have h2 : (y == y') = true := by simp [hy]
            replace hx := Lib.hid hx
            replace hy := Lib.hid hy
            go_wp2_with fail
            go_quiet (fail)
            go_wp2_with fail
            go_roundw
            case rel => exact ⟨k + 1, by omega, by go_num, fun j hj => by
              by_cases e : j = k
              · subst e; rw [hkt.out, hku.out, hx.out, hy.out]
              · exact hall.out j (by omega), _, rfl⟩
            case measure => simp [intOf]; omega
          · have h1 : (x == x') = true := by simp [hx]
            have h2 : (y == y') = false := by simp [hy]
            replace hx := Lib.hid hx
            replace hy := Lib.hid hy
            go_wp2_with fail
            go_quiet (fail)
            go_wp2_with fail
            go_ret
            exact ⟨ret_bool (by
              symm
              rw [decide_eq_false_iff_not]
              intro e
              subst e
              rw [hkt.out] at hku
              have := hku.out
              simp at this
              exact hy.out this.2), _, drewN_two _ _ _⟩
        · have h1 : (x == x') = false := by simp [hx]
          replace hx := Lib.hid hx
          go_wp2_with fail
          go_quiet (fail)
          go_wp2_with fail
          go_ret
          exact ⟨ret_bool (by
            symm
            rw [decide_eq_false_iff_not]
            intro e
            subst e
            rw [hkt.out] at hku
            have := hku.out
            simp at this
            exact hx.out this.1), _, drewN_two _ _ _⟩
      · obtain rfl : k = n := by omega
        go_wp2_with fail
        go_ret
        exact ⟨ret_bool (by
          symm
          rw [decide_eq_true_iff]
          refine List.ext_getElem? fun j => ?_
          by_cases hj : j < k
          · exact hall.out j hj
          · rw [List.getElem?_eq_none (by rw [hnn.out]; omega), List.getElem?_eq_none (by rw [hmm.out]; omega)]), q, rfl⟩
  · have hd : decide (ts = us) = false := by
      rw [decide_eq_false_iff_not]
      intro e
      subst e
      rw [hnn.out] at hmm
      exact hnm hmm.out
    rw [hd]
    have hnm' : ((n : Int) == (m : Int)) = false := by simp; omega
    clear hd
    go_enter Try.func55, Try.ntmps55
    go_wp2_with fail
    go_ret
    exact ⟨rfl, 0, rfl⟩
set_option maxRecDepth 100000 in
set_option maxHeartbeats 4000000 in
theorem equal_calls (s s' : Value) (ts us : List (Int × Int)) (w : World) (ht : TRow w s ts) (hu : TRow w s' us) :
    Calls Try.prog 32 #[s, s'] w fun e w' => e = .returned (.bool (decide (ts = us))) ∧ ∃ q, w' = w.drewN q := by
  obtain ⟨base, cap, rfl, hn, hc, hr⟩ := ht.open
  obtain ⟨base', cap', rfl, hn', hc', hr'⟩ := hu.open
  obtain ⟨n, hnn⟩ : ∃ n, ts.length = n := ⟨_, rfl⟩
  obtain ⟨m, hmm⟩ : ∃ m, us.length = m := ⟨_, rfl⟩
  rw [hnn] at hn ⊢
  rw [hmm] at hn' ⊢
  replace hnn := Lib.hid hnn
  replace hmm := Lib.hid hmm
  replace hr := Lib.hid hr
  replace hr' := Lib.hid hr'
  unfold maxLen at hc hc'
  by_cases hnm : n = m
  · subst hnm
    go_enter Try.func32, Try.ntmps32
    go_wp2_with fail
    go_loopw [13] (fun i W => ∃ k : Nat, k ≤ n ∧ i = .int .i64 k ∧ (∀ j, j < k → ts[j]? = us[j]?) ∧ ∃ q, W = w.drewN q) (fun i _ => n - (intOf i).toNat)
    case atStart => exact ⟨0, by omega, rfl, fun _ h => absurd h (Nat.not_lt_zero _), 0, rfl⟩
    case round =>
      obtain ⟨k, hk, rfl, hall, q, rfl⟩ := hrel
      replace hall := Lib.hid hall
      by_cases hlt : k < n
      · have hne : ts ≠ [] := fun e => by have := hnn.out; rw [e] at this; simp at this; omega
        have hne' : us ≠ [] := fun e => by have := hmm.out; rw [e] at this; simp at this; omega
        obtain ⟨tb, off, rfl, hcell⟩ := hr.out hne
        obtain ⟨tb', off', rfl, hcell'⟩ := hr'.out hne'
        obtain ⟨t, hkt⟩ : ∃ t, ts[k]? = some t := ⟨_, List.getElem?_eq_getElem (by rw [hnn.out]; exact hlt)⟩
        obtain ⟨u, hku⟩ : ∃ t, us[k]? = some t := ⟨_, List.getElem?_eq_getElem (by rw [hmm.out]; exact hlt)⟩
        obtain ⟨d0, d1⟩ := hcell k t hkt
        obtain ⟨e0, e1⟩ := hcell' k u hku
        have hz : (k : Int) < (n : Int) := by omega
        replace hcell := Lib.hid hcell
        replace hcell' := Lib.hid hcell'
        replace hkt := Lib.hid hkt
        replace hku := Lib.hid hku
        obtain ⟨x, y⟩ := t
        obtain ⟨x', y'⟩ := u
        simp only at d0 d1 e0 e1
        by_cases hx : x = x'
        · by_cases hy : y = y'
          · have h1 : (x == x') = true := by simp [hx]
            have h2 : (y == y') = true := by simp [hy]
            replace hx := Lib.hid hx
            replace hy := Lib.hid hy
            go_wp2_with fail
            go_quiet (fail)
            go_wp2_with fail
            go_roundw
            case rel => exact ⟨k + 1, by omega, by go_num, fun j hj => by
              by_cases e : j = k
              · subst e; rw [hkt.out, hku.out, hx.out, hy.out]
              · exact hall.out j (by omega), _, rfl⟩
            case measure => simp [intOf]; omega
          · have h1 : (x == x') = true := by simp [hx]
            have h2 : (y == y') = false := by simp [hy]
            replace hx := Lib.hid hx
            replace hy := Lib.hid hy
            go_wp2_with fail
            go_quiet (fail)
            go_wp2_with fail
            go_ret
            exact ⟨ret_bool (by
              symm
              rw [decide_eq_false_iff_not]
              intro e
              subst e
              rw [hkt.out] at hku
              have := hku.out
              simp at this
              exact hy.out this.2), _, drewN_two _ _ _⟩
        · have h1 : (x == x') = false := by simp [hx]
          replace hx := Lib.hid hx
          go_wp2_with fail
          go_quiet (fail)
          go_wp2_with fail
          go_ret
          exact ⟨ret_bool (by
            symm
            rw [decide_eq_false_iff_not]
            intro e
            subst e
            rw [hkt.out] at hku
            have := hku.out
            simp at this
            exact hx.out this.1), _, drewN_two _ _ _⟩
      · obtain rfl : k = n := by omega
        go_wp2_with fail
        go_ret
        exact ⟨ret_bool (by
          symm
          rw [decide_eq_true_iff]
          refine List.ext_getElem? fun j => ?_
          by_cases hj : j < k
          · exact hall.out j hj
          · rw [List.getElem?_eq_none (by rw [hnn.out]; omega), List.getElem?_eq_none (by rw [hmm.out]; omega)]), q, rfl⟩
  · have hd : decide (ts = us) = false := by
      rw [decide_eq_false_iff_not]
      intro e
      subst e
      rw [hnn.out] at hmm
      exact hnm hmm.out
    rw [hd]
    have hnm' : ((n : Int) == (m : Int)) = false := by simp; omega
    clear hd
    go_enter Try.func32, Try.ntmps32
    go_wp2_with fail
    go_ret
    exact ⟨rfl, 0, rfl⟩

def sameB (ce ce' li li' : Nat → Int × Int) (ts ts' : List (Int × Int)) : Bool :=
  allN (fun i => decide (ce i = ce' i ∧ li i = li' i)) 4096 && decide (ts = ts')
theorem sameB_no {ce ce' li li' : Nat → Int × Int} {ts ts' : List (Int × Int)} {i : Nat} (hi : i < 4096) (h : ¬ (ce i = ce' i ∧ li i = li' i)) : sameB ce ce' li li' ts ts' = false := by
  unfold sameB
  rw [allN_no hi (by simpa using h)]
  rfl
theorem sameB_all {ce ce' li li' : Nat → Int × Int} {ts ts' : List (Int × Int)} (h : ∀ i, i < 4096 → ce i = ce' i ∧ li i = li' i) : sameB ce ce' li li' ts ts' = decide (ts = ts') := by
  unfold sameB
  rw [(allN_iff _ _).2 (fun i hi => by simpa using h i hi)]
  simp
theorem sameB_iff {ce ce' li li' : Nat → Int × Int} {ts ts' : List (Int × Int)} : sameB ce ce' li li' ts ts' = true ↔ (∀ i, i < 4096 → ce i = ce' i ∧ li i = li' i) ∧ ts = ts' := by
  unfold sameB
  rw [Bool.and_eq_true, allN_iff, decide_eq_true_iff]
  simp
theorem sameB_symm (ce ce' li li' : Nat → Int × Int) (ts ts' : List (Int × Int)) : sameB ce ce' li li' ts ts' = sameB ce' ce li' li ts' ts := by
  rw [Bool.eq_iff_iff, sameB_iff, sameB_iff]
  exact ⟨fun ⟨h1, h2⟩ => ⟨fun i hi => ⟨(h1 i hi).1.symm, (h1 i hi).2.symm⟩, h2.symm⟩, fun ⟨h1, h2⟩ => ⟨fun i hi => ⟨(h1 i hi).1.symm, (h1 i hi).2.symm⟩, h2.symm⟩⟩
theorem sameB_refl (ce li : Nat → Int × Int) (ts : List (Int × Int)) : sameB ce ce li li ts ts = true := sameB_iff.2 ⟨fun _ _ => ⟨rfl, rfl⟩, rfl⟩

set_option maxRecDepth 100000 in
set_option maxHeartbeats 4000000 in
theorem rsame_calls (b b' : Nat) (ce ce' li li' : Nat → Int × Int) (s s' : Value) (ts us : List (Int × Int)) (w : World) (h : Ck w b ce li s) (h' : Ck w b' ce' li' s') (ht : TRow w s ts) (hu : TRow w s' us) :
    Calls Try.prog 28 #[.pointer (some ⟨b, 0, none⟩), .pointer (some ⟨b', 0, none⟩)] w fun e w' => e = .returned (.bool (sameB ce ce' li li' ts us)) ∧ ∃ q, w' = w.drewN q := by
  have hcal := fun q => ticks_calls s s' ts us (w.drewN q) ht hu
  replace hcal := Lib.hid hcal
  go_enter Try.func28, Try.ntmps28
  go_wp2_with fail
  go_loopw [5] (fun i W => ∃ k : Nat, k ≤ 4096 ∧ i = .int .i64 k ∧ (∀ j, j < k → ce j = ce' j ∧ li j = li' j) ∧ ∃ q, W = w.drewN q) (fun i _ => 4096 - (intOf i).toNat)
  case atStart => exact ⟨0, by omega, rfl, fun _ h => absurd h (Nat.not_lt_zero _), 0, rfl⟩
  case round =>
    obtain ⟨k, hk, rfl, hall, q, rfl⟩ := hrel
    replace hall := Lib.hid hall
    by_cases hlt : k < 4096
    · have c0 := h.c0 hlt
      have c1 := h.c1 hlt
      have c2 := h.l0 hlt
      have c3 := h.l1 hlt
      have e0 := h'.c0 hlt
      have e1 := h'.c1 hlt
      have e2 := h'.l0 hlt
      have e3 := h'.l1 hlt
      have hz : (k : Int) < 4096 := by omega
      have hno : ¬ (ce k = ce' k ∧ li k = li' k) → sameB ce ce' li li' ts us = false := fun h => sameB_no hlt h
      have hst : (ce k = ce' k ∧ li k = li' k) → ∀ j, j < k + 1 → ce j = ce' j ∧ li j = li' j := fun h j hj => by
        by_cases e : j = k
        · subst e; exact h
        · exact hall.out j (by omega)
      clear hcal h h' ht hu
      generalize ce k = p at *
      generalize ce' k = p' at *
      generalize li k = l at *
      generalize li' k = l' at *
      obtain ⟨x, y⟩ := p
      obtain ⟨x', y'⟩ := p'
      obtain ⟨u, v⟩ := l
      obtain ⟨u', v'⟩ := l'
      simp only [Prod.mk.injEq] at c0 c1 c2 c3 e0 e1 e2 e3 hno hst
      replace hno := Lib.hid hno
      replace hst := Lib.hid hst
      by_cases hx : x = x'
      · have h1 : (x == x') = true := by simp [hx]
        replace hx := Lib.hid hx
        by_cases hy : y = y'
        · have h2 : (y == y') = true := by simp [hy]
          replace hy := Lib.hid hy
          by_cases hu : u = u'
          · have h3 : (u == u') = true := by simp [hu]
            replace hu := Lib.hid hu
            by_cases hv : v = v'
            · have h4 : (v == v') = true := by simp [hv]
              replace hv := Lib.hid hv
              go_wp2_with fail
              go_quiet (fail)
              go_wp2_with fail
              go_roundw
              case rel => exact ⟨k + 1, by omega, by go_num, hst.out ⟨⟨hx.out, hy.out⟩, hu.out, hv.out⟩, _, rfl⟩
              case measure => simp [intOf]; omega
            · have h4 : (v == v') = false := by simp [hv]
              replace hv := Lib.hid hv
              go_wp2_with fail
              go_quiet (fail)
              go_wp2_with fail
              go_ret
              exact ⟨ret_bool (hno.out fun h => hv.out h.2.2).symm, _, drewN_two _ _ _⟩
          · have h3 : (u == u') = false := by simp [hu]
            replace hu := Lib.hid hu
            go_wp2_with fail
            go_quiet (fail)
            go_wp2_with fail
            go_ret
            exact ⟨ret_bool (hno.out fun h => hu.out h.2.1).symm, _, drewN_two _ _ _⟩
        · have h2 : (y == y') = false := by simp [hy]
          replace hy := Lib.hid hy
          go_wp2_with fail
          go_quiet (fail)
          go_wp2_with fail
          go_ret
          exact ⟨ret_bool (hno.out fun h => hy.out h.1.2).symm, _, drewN_two _ _ _⟩
      · have h1 : (x == x') = false := by simp [hx]
        replace hx := Lib.hid hx
        go_wp2_with fail
        go_quiet (fail)
        go_wp2_with fail
        go_ret
        exact ⟨ret_bool (hno.out fun h => hx.out h.1.1).symm, _, drewN_two _ _ _⟩
    · obtain rfl : k = 4096 := by omega
      have hr := sameB_all (ts := ts) (ts' := us) hall.out
      have ct := (h.drewN q).tk
      have ct' := (h'.drewN q).tk
      have hcq : ∀ n, Calls Try.prog 55 #[s, s'] ((w.drewN q).drewN n) fun e w' => e = .returned (.bool (decide (ts = us))) ∧ ∃ q', w' = ((w.drewN q).drewN n).drewN q' := fun n => by rw [drewN_two]; exact hcal.out _
      have hend : ∀ n, ∃ q', (w.drewN q).drewN n = w.drewN q' := fun n => ⟨_, drewN_two _ _ _⟩
      clear hcal h h' ht hu
      generalize w.drewN q = W at *
      generalize decide (ts = us) = r at *
      replace hcq := Lib.hid hcq
      replace hend := Lib.hid hend
      replace hr := Lib.hid hr
      go_wp2_with fail
      go_quiet ((go_at_call 55; exact Calls.quiet_of (hcq.out _)))
      go_wp2_with fail
      go_ret
      exact ⟨ret_bool hr.out.symm, hend.out _⟩

/-! '==' at whole arrays of cells, of lights. -/
def CellsA (A : Array Value) (f : Nat → Int × Int) : Prop := A.size = 8192 ∧ ∀ i, i < 4096 → A[i * 2]? = some (.int .u8 (f i).1) ∧ A[i * 2 + 1]? = some (.int .u8 (f i).2)
theorem range_all (p : Nat → Bool) : ∀ n, (List.range n).all p = allN p n
  | 0 => rfl
  | n + 1 => by rw [List.range_succ, List.all_append, range_all p n]; simp [allN]
theorem pair_beq (p q : Int × Int) : (p.1 == q.1 && p.2 == q.2) = decide (p = q) := by
  rw [Bool.eq_iff_iff]
  simp [Prod.ext_iff]
theorem eqN_run (d : Nat) (t e : TypeId) (ht : Try.prog.underlying t = some (.array 4096 e)) (hs : ∀ w, (sizeOf e).run Try.prog w = .ok 2 w) (hag : ∀ w, (isAgg e).run Try.prog w = .ok true w)
    (he : ∀ (d : Nat) (x y x' y' : Int) (w : World), (Op.equalIn (d + 2) e (.agg #[.int .u8 x, .int .u8 y]) (.agg #[.int .u8 x', .int .u8 y'])).run Try.prog w = .ok (x == x' && y == y') w)
    (A A' : Array Value) (f f' : Nat → Int × Int) (hA : CellsA A f) (hA' : CellsA A' f') (w : World) :
    (Op.equalIn (d + 3) t (.agg A) (.agg A')).run Try.prog w = .ok (allN (fun i => decide (f i = f' i)) 4096) w := by
  have hp : ∀ (B : Array Value) (g : Nat → Int × Int), CellsA B g → ∀ i, i < 4096 → (part e B (i * 2)).run Try.prog w = .ok (.agg #[.int .u8 (g i).1, .int .u8 (g i).2]) w := fun B g hB i hi => by
    obtain ⟨hz, hc⟩ := hB
    obtain ⟨h0, h1⟩ := hc i hi
    have hex : B.extract (i * 2) (i * 2 + 2) = #[.int .u8 (g i).1, .int .u8 (g i).2] := by
      refine Array.ext_getElem? fun j => ?_
      rw [Array.getElem?_extract]
      match j with
      | 0 => rw [if_pos (by omega), Nat.add_zero, h0]; rfl
      | 1 => rw [if_pos (by omega), h1]; rfl
      | j + 2 => rw [if_neg (by omega)]; simp
    simp only [part, Sem.run_bind, hag, Result.andThen_ok, if_true, hs, Sem.run_pure, hex]
  rw [run_equalIn_array (d + 2) t e 4096 2 A A' ht hs (fun i => decide (f i = f' i)) (fun i hi => ⟨_, _, hp A f hA i hi, hp A' f' hA' i hi, by rw [he, pair_beq]⟩), range_all]

theorem eq_cell (d : Nat) (x y x' y' : Int) (w : World) : (Op.equalIn (d + 2) 25 (.agg #[.int .u8 x, .int .u8 y]) (.agg #[.int .u8 x', .int .u8 y'])).run Try.prog w = .ok (x == x' && y == y') w := by
  go_simp
  by_cases hx : x = x' <;> by_cases hy : y = y' <;> simp [hx, hy]
theorem eq_light (d : Nat) (x y x' y' : Int) (w : World) : (Op.equalIn (d + 2) 42 (.agg #[.int .u8 x, .int .u8 y]) (.agg #[.int .u8 x', .int .u8 y'])).run Try.prog w = .ok (x == x' && y == y') w := by
  go_simp
  by_cases hx : x = x' <;> by_cases hy : y = y' <;> simp [hx, hy]
theorem eql_cells (A A' : Array Value) (f f' : Nat → Int × Int) (hA : CellsA A f) (hA' : CellsA A' f') (w : World) :
    (binOp .eql 43 (.agg A) (.agg A')).run Try.prog w = .ok (.bool (allN (fun i => decide (f i = f' i)) 4096)) w := by
  rw [run_eql_struct, eqN_run 9997 43 25 (by kernel_rfl) (by go_simp) (by go_simp) eq_cell A A' f f' hA hA']
  rfl
theorem eql_lights (A A' : Array Value) (f f' : Nat → Int × Int) (hA : CellsA A f) (hA' : CellsA A' f') (w : World) :
    (binOp .eql 44 (.agg A) (.agg A')).run Try.prog w = .ok (.bool (allN (fun i => decide (f i = f' i)) 4096)) w := by
  rw [run_eql_struct, eqN_run 9997 44 42 (by kernel_rfl) (by go_simp) (by go_simp) eq_light A A' f f' hA hA']
  rfl
end Go.Proofs.Ytlaodkolkoefgaa
