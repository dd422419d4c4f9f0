/-
  slices.DeleteFunc of what is not due; frames.Ready.
-/
import Derived.Test.YtlaodkolkoefgaaOwnT
import Derived.Test.YtlaodkolkoefgaaSortO
import Derived.Test.YtlaodkolkoefgaaReadyP
import Derived.Test.YtlaodkolkoefgaaFrP
namespace Go.Proofs.Ytlaodkolkoefgaa
open Go.RowKit
set_option linter.unusedSimpArgs false
set_option linter.unusedVariables false

def cmpI (a b : Int) : Int := if a < b then -1 else if b < a then 1 else 0
set_option maxHeartbeats 400000 in
theorem nan64_calls (a : Int) (w : World) : Calls Try.prog 61 #[.int .i64 a] w fun e w' => e = .returned (.bool false) ∧ w' = w := by
  go_enter Try.func61, Try.ntmps61
  go_wp2_with fail
  go_ret
  exact ⟨rfl, rfl⟩
set_option maxHeartbeats 1000000 in
theorem cmp64_calls (a b : Int) (w : World) : Calls Try.prog 41 #[.int .i64 a, .int .i64 b] w fun e w' => e = .returned (.int .i64 (cmpI a b)) ∧ w' = w := by
  by_cases h1 : a < b
  · have e : cmpI a b = -1 := by unfold cmpI; rw [if_pos h1]
    rw [e]
    clear e
    go_enter Try.func41, Try.ntmps41
    go_wp2_with (go_at_call 61; refine (nan64_calls _ _).mono ?_; rintro e w' ⟨rfl, rfl⟩)
    go_ret
    exact ⟨rfl, rfl⟩
  · by_cases h2 : b < a
    · have e : cmpI a b = 1 := by unfold cmpI; rw [if_neg h1, if_pos h2]
      rw [e]
      clear e
      go_enter Try.func41, Try.ntmps41
      go_wp2_with (go_at_call 61; refine (nan64_calls _ _).mono ?_; rintro e w' ⟨rfl, rfl⟩)
      go_ret
      exact ⟨rfl, rfl⟩
    · have e : cmpI a b = 0 := by unfold cmpI; rw [if_neg h1, if_neg h2]
      rw [e]
      clear e
      go_enter Try.func41, Try.ntmps41
      go_wp2_with (go_at_call 61; refine (nan64_calls _ _).mono ?_; rintro e w' ⟨rfl, rfl⟩)
      go_ret
      exact ⟨rfl, rfl⟩
def cfD (x y : Ty) : Int := cmpI x.2 y.2
set_option maxHeartbeats 1000000 in
theorem dues_ok : CmpOk cfD := by
  intro a b c d w
  go_enter Try.func40, Try.ntmps40
  go_wp2_with fail
  refine (cmp64_calls _ _ _).mono ?_
  rintro e w1 ⟨rfl, rfl⟩
  go_wp2_with fail
  go_ret
  exact ⟨rfl, ((Below.refl _ _).alloc (Nat.le_refl _) _).alloc (by simp) _⟩
theorem ltR_lt : LtOk ltR where
  trans x y z h1 h2 := by unfold ltR at *; simp at *; omega
  asymm x y h := by unfold ltR at *; simp at *; omega
theorem cfD_lt {x y : Ty} (h : x.1 < y.1) : decide (cfD y x < 0) = ltR y x := by
  unfold cfD ltR cmpI
  by_cases h1 : y.2 < x.2
  · simp [h1]
  · by_cases h2 : x.2 < y.2
    · have h3 : ¬ y.2 = x.2 := by omega
      simp [h1, h2, h3]
    · have h3 : ¬ y.1 < x.1 := by omega
      simp [h1, h2, h3]

def lateP (now : Int) (t : Tk) : Bool := decide (now < t.2)
theorem late_due (now : Int) (t : Tk) : dueF now t = !lateP now t := by
  unfold dueF lateP
  by_cases h : t.2 ≤ now
  · have h2 : ¬ now < t.2 := by omega
    simp [h, h2]
  · have h2 : now < t.2 := by omega
    simp [h, h2]
set_option maxHeartbeats 1000000 in
theorem late_calls (a d x : Int) (ib : Nat) (w : World) (hc : w.cell? ⟨ib, 0, none⟩ = some (.int .i64 x)) :
    Calls Try.prog 38 #[.agg #[.int .i64 a, .int .i64 d], .pointer (some ⟨ib, 0, none⟩)] w fun e w' => e = .returned (.bool (lateP x (a, d))) ∧ Below w.heap.size w w' := by
  have hlt := World.block_lt_of_cell? _ _ hc
  go_enter Try.func38, Try.ntmps38
  go_wp2_with fail
  go_ret
  exact ⟨ret_bool (by simp [lateP]), (Below.refl _ _).alloc (Nat.le_refl _) _⟩
set_option maxRecDepth 100000 in
set_option maxHeartbeats 4000000 in
theorem index_late (s : Value) (ts : List (Int × Int)) (x : Int) (ib : Nat) (w : World) (ht : TRow w s ts) (hc : w.cell? ⟨ib, 0, none⟩ = some (.int .i64 x)) :
    Calls Try.prog 59 #[s, .func (.func 38) #[] #[.pointer (some ⟨ib, 0, none⟩)]] w fun e w' => e = .returned (.int .i64 (optI (ts.findIdx? (lateP x)))) ∧ Below w.heap.size w w' := by
  obtain ⟨base, cap, rfl, hn, hcap, hr⟩ := ht.open
  obtain ⟨n, hnn⟩ : ∃ n, ts.length = n := ⟨_, rfl⟩
  rw [hnn] at hn ⊢
  replace hnn := Lib.hid hnn
  replace hr := Lib.hid hr
  unfold maxLen at hcap
  go_enter Try.func59, Try.ntmps59
  go_wp2_with fail
  go_loopw [8] (fun i W => ∃ k : Nat, k ≤ n ∧ i = .int .i64 k ∧ (∀ (j : Nat) (t : Tk), j < k → ts[j]? = some t → lateP x t = false) ∧ Below w.heap.size w W) (fun i _ => n - (intOf i).toNat)
  case atStart => exact ⟨0, by omega, rfl, fun _ _ h => absurd h (Nat.not_lt_zero _), Below.refl _ _⟩
  case round =>
    obtain ⟨k, hk, rfl, hno, HB⟩ := hrel
    replace hno := Lib.hid hno
    by_cases hlt : k < n
    · have hne : ts ≠ [] := fun e => by have := hnn.out; rw [e] at this; simp at this; omega
      obtain ⟨tb, off, rfl, hcell⟩ := hr.out hne
      obtain ⟨t, hkt⟩ : ∃ t, ts[k]? = some t := ⟨_, List.getElem?_eq_getElem (by rw [hnn.out]; exact hlt)⟩
      obtain ⟨d0, d1⟩ := hcell k t hkt
      replace d0 := (HB.cell (World.block_lt_of_cell? _ _ d0)).trans d0
      replace d1 := (HB.cell (World.block_lt_of_cell? _ _ d1)).trans d1
      have hcx := (HB.cell (World.block_lt_of_cell? _ _ hc)).trans hc
      have hz := HB.size
      replace hcell := Lib.hid hcell
      replace hkt := Lib.hid hkt
      replace HB := Lib.hid HB
      obtain ⟨a, d⟩ := t
      simp only at d0 d1
      have hcal := late_calls a d x ib wr hcx
      cases hp : lateP x (a, d)
      all_goals
        rw [hp] at hcal
        replace hp := Lib.hid hp
        replace hcal := Lib.hid hcal
        go_wp2_with fail
        refine hcal.out.mono ?_
        rintro e w1 ⟨rfl, hb⟩
        replace HB := Lib.hid (below_step HB.out hz hb)
        clear hb hcal
        go_wp2_with fail
      · go_roundw
        case rel => exact ⟨k + 1, by omega, by go_num, fun j t' hj h' => by
          by_cases e : j = k
          · subst e
            rw [hkt.out] at h'
            obtain rfl := Option.some.inj h'
            exact hp.out
          · exact hno.out j t' (by omega) h', HB.out⟩
        case measure => simp [intOf]; omega
      · go_ret
        exact ⟨ret_int (by rw [findIdx?_first hkt.out hp.out hno.out]; rfl), HB.out⟩
    · obtain rfl : k = n := by omega
      go_wp2_with fail
      go_ret
      exact ⟨ret_int (by rw [findIdx?_no (fun j t h => hno.out j t (by have := (List.getElem?_eq_some_iff.1 h).1; rw [hnn.out] at this; exact this) h)]; rfl), HB⟩

/-- What DeleteFunc has done when it looks at tick j: i of the first j stay, at the front. -/
structure Del (ts us : List Tk) (now : Int) (i j : Nat) : Prop where
  len : us.length = ts.length
  front : us.take i = (ts.take j).filter (dueF now)
  rest : us.drop j = ts.drop j
  lt : i < j
theorem Del.start {ts : List Tk} {now : Int} {k : Nat} (h : ts.findIdx? (lateP now) = some k) : Del ts ts now k (k + 1) := by
  rw [List.findIdx?_eq_some_iff_getElem] at h
  obtain ⟨hk, hp, hb⟩ := h
  refine ⟨rfl, ?_, rfl, by omega⟩
  rw [List.take_succ_eq_append_getElem hk, List.filter_append, List.filter_eq_self.2 (fun t ht => by
    obtain ⟨j, hj, e⟩ := List.getElem_of_mem ht
    rw [List.length_take] at hj
    rw [List.getElem_take] at e
    rw [late_due, ← e]
    simpa using hb j (by omega))]
  have : [ts[k]].filter (dueF now) = [] := by
    rw [List.filter_cons, if_neg (by rw [late_due, hp]; simp)]; rfl
  rw [this, List.append_nil]
theorem Del.at {ts us : List Tk} {now : Int} {i j : Nat} (h : Del ts us now i j) {t : Tk} (ht : ts[j]? = some t) : us[j]? = some t := by
  have := congrArg (fun l => l[0]?) h.rest
  simp only [List.getElem?_drop, Nat.add_zero] at this
  rw [this]; exact ht
theorem Del.skip {ts us : List Tk} {now : Int} {i j : Nat} (h : Del ts us now i j) {t : Tk} (ht : ts[j]? = some t) (hl : lateP now t = true) : Del ts us now i (j + 1) := by
  refine ⟨h.len, ?_, ?_, by have := h.lt; omega⟩
  · rw [List.take_add_one, ht, Option.toList_some, List.filter_append, List.filter_cons, if_neg (by rw [late_due, hl]; simp), h.front]
    simp
  · have := congrArg List.tail h.rest
    simpa [List.tail_drop] using this
theorem Del.keepT {ts us : List Tk} {now : Int} {i j : Nat} (h : Del ts us now i j) {t : Tk} (ht : ts[j]? = some t) (hl : lateP now t = false) : Del ts (us.set i t) now (i + 1) (j + 1) := by
  have hj := (List.getElem?_eq_some_iff.1 ht).1
  have hlt := h.lt
  have hlen := h.len
  refine ⟨by rw [List.length_set]; exact h.len, ?_, ?_, by omega⟩
  · rw [List.take_add_one, List.getElem?_set, if_pos rfl, if_pos (by omega), Option.toList_some, List.take_set, List.set_eq_of_length_le (by rw [List.length_take]; omega), h.front]
    rw [List.take_add_one, ht, Option.toList_some, List.filter_append, List.filter_cons, if_pos (by rw [late_due, hl]; rfl)]
    rfl
  · have := congrArg List.tail h.rest
    rw [List.drop_set, if_pos (by omega)]
    simpa [List.tail_drop] using this
theorem Del.done {ts us : List Tk} {now : Int} {i : Nat} (h : Del ts us now i ts.length) : us.take i = ts.filter (dueF now) := by
  have := h.front
  rw [List.take_length] at this
  exact this

end Go.Proofs.Ytlaodkolkoefgaa
