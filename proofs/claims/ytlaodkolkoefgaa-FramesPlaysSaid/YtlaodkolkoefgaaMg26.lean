/-
  slices.SortStableFunc on an owned row of ticks.
-/
import Derived.Test.YtlaodkolkoefgaaMg25
import Derived.Test.YtlaodkolkoefgaaMg10
import Derived.Test.YtlaodkolkoefgaaMg14
import Derived.Test.YtlaodkolkoefgaaMg20
namespace Go.Proofs.Ytlaodkolkoefgaa
open Go.RowKit
set_option linter.unusedSimpArgs false
set_option linter.unusedVariables false

theorem isort_nil (F : Value) (w : World) : Calls Try.prog 68 #[.slice none 0 0, .int .i64 0, .int .i64 0, F] w fun e w' => e = .returned (.tuple #[]) ∧ w' = w := by
  go_enter Try.func68, Try.ntmps68
  go_wp2_with fail
  go_loopw [8] (fun v W => v = .int .i64 1 ∧ W = w) (fun v _ => 0)
  case atStart => exact ⟨rfl, rfl⟩
  case round =>
    obtain ⟨rfl, rfl⟩ := hrel
    go_wp2_with fail
    refine bodyPost_end (results_none rfl _ _ _) rfl ?_
    exact ⟨rfl, rfl⟩
theorem stable_nil (F : Value) (w : World) : Calls Try.prog 60 #[.slice none 0 0, .int .i64 0, F] w fun e w' => e = .returned (.tuple #[]) ∧ w' = w := by
  have hins := isort_nil F
  go_enter Try.func60, Try.ntmps60
  go_wp2_with fail
  go_loopw [7, 8] (fun v u W => v = .int .i64 0 ∧ u = .int .i64 20 ∧ W = w) (fun v u _ => 0)
  case atStart => exact ⟨rfl, rfl, rfl⟩
  case round =>
    obtain ⟨rfl, rfl, rfl⟩ := hrel
    go_wp2_with fail
    refine (hins _).mono ?_
    rintro e1 W1 ⟨rfl, rfl⟩
    go_wp2_with fail
    go_loopw [6, 7, 8, 9] (fun v _ _ _ W => v = .int .i64 20 ∧ W1 = W) (fun v _ _ _ _ => 0)
    case atStart => exact ⟨rfl, rfl⟩
    case round =>
      obtain ⟨rfl, rfl⟩ := hrel
      go_wp2_with fail
      refine bodyPost_end (results_none rfl _ _ _) rfl ?_
      exact ⟨rfl, rfl⟩

set_option maxRecDepth 100000 in
set_option maxHeartbeats 4000000 in
theorem sort_calls (cf : Ty → Ty → Int) (hcmp : CmpOk cf) (lt : Ty → Ty → Bool) (ho : LtOk lt) (B : Nat) (v : Value) (ts : List Ty) (w : World) (hown : TOwn w B v ts) (hn : ts.length ≤ 1000000)
    (hgood : ∀ (p q : Nat) (x y : Ty), p < q → ts[p]? = some x → ts[q]? = some y → decide (cf y x < 0) = lt y x) :
    Calls Try.prog 39 #[v, .func (.func 40) #[] #[]] w fun e w' => e = .returned (.tuple #[]) ∧ ∃ ts', TOwn w' B v ts' ∧ Below B w w' ∧ ts'.Perm ts ∧ ts'.Pairwise (fun x y => lt y x = false) := by
  rcases hown.2 with ⟨rfl, h0⟩ | ⟨g, cap, cur, rfl, hb, hg, hnc, hcm, hcs, htake⟩
  · have hst := stable_nil (.func (.func 40) #[] #[]) w
    obtain rfl : ts = [] := List.eq_nil_of_length_eq_zero h0
    replace hst := Lib.hid hst
    go_enter Try.func39, Try.ntmps39
    go_wp2_with fail
    refine hst.out.mono ?_
    rintro e W ⟨rfl, rfl⟩
    go_wp2_with fail
    refine bodyPost_end (results_none rfl _ _ _) rfl ?_
    exact ⟨rfl, [], TOwn.nil _ _, Below.refl _ _, List.Perm.refl _, List.Pairwise.nil⟩
  · obtain ⟨d, hd⟩ := lst_of ts
    have hglt := (Array.getElem?_eq_some_iff.1 hg).1
    have hlen : cur.toList.length = cap * 2 := by rw [Array.length_toList]; exact hcs
    have hrow : RowB w g ts.length d (cur.toList.drop (ts.length * 2)) := by
      unfold RowB rowL Blk
      rw [hd, ← htake, List.take_append_drop]
      exact hg
    have hc := stable_calls cf hcmp lt ho g ts.length cap (cur.toList.drop (ts.length * 2)) hnc hcm hn d w hrow (fun p q h1 h2 => hgood p q (d p) (d q) h1 (by rw [← hd]; exact lst_at d (by omega)) (by rw [← hd]; exact lst_at d h2))
    have hdl : (cur.toList.drop (ts.length * 2)).length + ts.length * 2 = cap * 2 := by rw [List.length_drop]; omega
    generalize cur.toList.drop (ts.length * 2) = R at hc hdl
    clear hgood hcmp hrow htake hg hcs hlen
    replace hc := Lib.hid hc
    replace hd := Lib.hid hd
    replace hdl := Lib.hid hdl
    clear hown
    go_enter Try.func39, Try.ntmps39
    go_wp2_with fail
    refine hc.out.mono ?_
    rintro e W ⟨rfl, d', r1, b1, p1, s1⟩
    replace r1 := Lib.hid r1
    replace b1 := Lib.hid b1
    replace p1 := Lib.hid p1
    replace s1 := Lib.hid s1
    go_wp2_with fail
    refine bodyPost_end (results_none rfl _ _ _) rfl ?_
    refine ⟨rfl, lst ts.length d', ?_, b1.out.below hb (by omega), ?_, lst_sorted s1.out⟩
    · refine ⟨by rw [cellsT_len, lst_len], .inr ⟨g, cap, _, by rw [lst_len], hb, r1.out, by rw [lst_len]; exact hnc, hcm, ?_, ?_⟩⟩
      · rw [List.size_toArray, rowL_len]; have := hdl.out; omega
      · rw [List.toList_toArray, lst_len]; unfold rowL; rw [List.take_left' (by rw [cellsT_len, lst_len])]
    · have := p1.out.perm (n := ts.length) (Nat.le_refl _)
      rw [hd.out] at this
      exact this
end Go.Proofs.Ytlaodkolkoefgaa

/-
  What is ready of a list of ticks, taken one by one, the first ahead: in plain Lean.
-/
namespace Go.Proofs.Ytlaodkolkoefgaa
set_option linter.unusedSimpArgs false
set_option linter.unusedVariables false

def ltR (x y : Ty) : Bool := decide (x.2 < y.2 ∨ x.2 = y.2 ∧ x.1 < y.1)
theorem ltR_trans (x y z : Ty) (h1 : ltR x y = true) (h2 : ltR y z = true) : ltR x z = true := by unfold ltR at *; simp at *; omega
theorem ltR_irrefl (x : Ty) : ltR x x = false := by unfold ltR; simp
theorem ltR_eq (x y : Ty) (h1 : ltR x y = false) (h2 : ltR y x = false) : x = y := by
  unfold ltR at *
  simp at h1 h2
  exact Prod.ext (by omega) (by omega)
def dueF (now : Int) : Ty → Bool := fun t => decide (t.2 ≤ now)
theorem filter_step {now : Int} {ts : List Ty} {k : Nat} {t : Ty} (h : ts[k]? = some t) : (ts.take (k + 1)).filter (dueF now) = (ts.take k).filter (dueF now) ++ (if t.2 ≤ now then [t] else []) := by
  rw [List.take_add_one, h, Option.toList_some, List.filter_append]
  congr 1
  unfold dueF
  by_cases h1 : t.2 ≤ now <;> simp [h1]

/-- The indexes of what is left: due, and not gone. -/
def leftI (ts : List Tk) (now : Int) (G : Nat → Bool) : List Nat := (List.range ts.length).filter (fun i => !G i && dueF now (ts.getD i (0, 0)))
def leftL (ts : List Tk) (now : Int) (G : Nat → Bool) : List Tk := (leftI ts now G).map (fun i => ts.getD i (0, 0))
section
variable {ts us : List Tk} {now : Int} {G : Nat → Bool} {m k : Nat}
theorem mem_leftI : k ∈ leftI ts now G ↔ k < ts.length ∧ G k = false ∧ (ts.getD k (0, 0)).2 ≤ now := by
  unfold leftI dueF
  rw [List.mem_filter, List.mem_range]
  simp
theorem getD_of {t : Tk} (h : ts[k]? = some t) : ts.getD k (0, 0) = t := by simp [List.getD, h]
theorem leftL_start : leftL ts now (fun _ => false) = ts.filter (dueF now) := by
  have h : (List.range ts.length).map (fun i => ts.getD i (0, 0)) = ts := by
    apply List.ext_getElem?
    intro j
    rw [List.getElem?_map]
    by_cases hj : j < ts.length
    · rw [List.getElem?_range hj, List.getElem?_eq_getElem hj]
      simp [List.getD, List.getElem?_eq_getElem hj]
    · rw [List.getElem?_eq_none (by simpa using hj), List.getElem?_eq_none (by omega)]; rfl
  have h2 : ts.filter (dueF now) = ((List.range ts.length).map (fun i => ts.getD i (0, 0))).filter (dueF now) := by rw [h]
  rw [h2, List.filter_map]
  unfold leftL leftI
  congr 1
theorem leftI_nodup : (leftI ts now G).Nodup := List.Nodup.sublist List.filter_sublist List.nodup_range
theorem leftI_take : leftI ts now (fun i => if i = m then true else G i) = (leftI ts now G).erase m := by
  rw [List.Nodup.erase_eq_filter leftI_nodup]
  unfold leftI
  rw [List.filter_filter]
  apply List.filter_congr
  intro i _
  by_cases h : i = m
  · subst h; simp
  · simp [h]
theorem leftL_take (hm : m ∈ leftI ts now G) : (leftL ts now G).Perm (ts.getD m (0, 0) :: leftL ts now (fun i => if i = m then true else G i)) := by
  unfold leftL
  rw [leftI_take]
  exact (List.perm_cons_erase hm).map _

/-- What has been taken: it rises; what is left stands behind it. -/
structure Sel (ts : List Tk) (now : Int) (G : Nat → Bool) (us : List Tk) : Prop where
  perm : (us ++ leftL ts now G).Perm (ts.filter (dueF now))
  sorted : us.Pairwise (fun x y => ltR y x = false)
  below : ∀ u ∈ us, ∀ r ∈ leftL ts now G, ltR r u = false
theorem Sel.start : Sel ts now (fun _ => false) [] := ⟨by rw [leftL_start]; exact List.Perm.refl _, List.Pairwise.nil, fun u h => by cases h⟩
theorem mem_leftL (hk : k ∈ leftI ts now G) : ts.getD k (0, 0) ∈ leftL ts now G := List.mem_map.2 ⟨k, hk, rfl⟩
theorem Sel.step (h : Sel ts now G us) (hm : m ∈ leftI ts now G) (hmin : ∀ j ∈ leftI ts now G, ltR (ts.getD j (0, 0)) (ts.getD m (0, 0)) = false) : Sel ts now (fun i => if i = m then true else G i) (us ++ [ts.getD m (0, 0)]) := by
  have hp := leftL_take hm
  have hsub : ∀ r, r ∈ leftL ts now (fun i => if i = m then true else G i) → r ∈ leftL ts now G := fun r hr => hp.mem_iff.2 (List.mem_cons_of_mem _ hr)
  refine ⟨?_, ?_, ?_⟩
  · rw [List.append_assoc]
    exact (List.Perm.append_left us hp.symm).trans h.perm
  · rw [List.pairwise_append]
    exact ⟨h.sorted, List.pairwise_singleton _ _, fun a ha b hb => by
      rw [List.mem_singleton] at hb
      subst hb
      exact h.below a ha _ (mem_leftL hm)⟩
  · intro u hu r hr
    rcases List.mem_append.1 hu with hu | hu
    · exact h.below u hu r (hsub r hr)
    · rw [List.mem_singleton] at hu
      subst hu
      obtain ⟨j, hj, rfl⟩ := List.mem_map.1 (hsub r hr)
      exact hmin j hj
theorem Sel.done (h : Sel ts now G us) (hno : ∀ j, j < ts.length → j ∉ leftI ts now G) : us.Perm (ts.filter (dueF now)) := by
  have h1 := h.perm
  have h2 : leftI ts now G = [] := List.eq_nil_iff_forall_not_mem.2 fun j hj => hno j (mem_leftI.1 hj).1 hj
  rw [leftL, h2] at h1
  simpa using h1
theorem Sel.len (h : Sel ts now G us) : us.length ≤ ts.length := by
  have h1 := h.perm.length_eq
  have h2 := List.length_filter_le (dueF now) ts
  rw [List.length_append] at h1
  omega
theorem Sel.more (h : Sel ts now G us) (hm : m ∈ leftI ts now G) : us.length < ts.length := by
  have h1 := h.perm.length_eq
  have h2 := List.length_filter_le (dueF now) ts
  have h3 := List.length_pos_of_mem (mem_leftL hm)
  rw [List.length_append] at h1
  omega

/-- The first of what is left among the first k. -/
def Best (ts : List Tk) (now : Int) (G : Nat → Bool) (k : Nat) : Option Nat → Prop
  | none => ∀ j, j < k → j ∉ leftI ts now G
  | some m => m < k ∧ m ∈ leftI ts now G ∧ ∀ j, j < k → j ∈ leftI ts now G → ltR (ts.getD j (0, 0)) (ts.getD m (0, 0)) = false
theorem Best.skip {b : Option Nat} (h : Best ts now G k b) (hk : k ∉ leftI ts now G) : Best ts now G (k + 1) b := by
  cases b with
  | none =>
    intro j hj
    by_cases e : j = k
    · subst e; exact hk
    · exact h j (by omega)
  | some m =>
    refine ⟨by have := h.1; omega, h.2.1, fun j hj hjl => ?_⟩
    by_cases e : j = k
    · subst e; exact absurd hjl hk
    · exact h.2.2 j (by omega) hjl
theorem Best.first (h : Best ts now G k none) (hk : k ∈ leftI ts now G) : Best ts now G (k + 1) (some k) := by
  refine ⟨by omega, hk, fun j hj hjl => ?_⟩
  by_cases e : j = k
  · subst e; exact ltR_irrefl _
  · exact absurd hjl (h j (by omega))
theorem Best.less (h : Best ts now G k (some m)) (hk : k ∈ leftI ts now G) (hl : ltR (ts.getD k (0, 0)) (ts.getD m (0, 0)) = true) : Best ts now G (k + 1) (some k) := by
  refine ⟨by omega, hk, fun j hj hjl => ?_⟩
  by_cases e : j = k
  · subst e; exact ltR_irrefl _
  · have h1 := h.2.2 j (by omega) hjl
    cases h2 : ltR (ts.getD j (0, 0)) (ts.getD k (0, 0)) with
    | false => rfl
    | true => rw [ltR_trans _ _ _ h2 hl] at h1; cases h1
theorem Best.keep (h : Best ts now G k (some m)) (hl : ltR (ts.getD k (0, 0)) (ts.getD m (0, 0)) = false) : Best ts now G (k + 1) (some m) := by
  refine ⟨by have := h.1; omega, h.2.1, fun j hj hjl => ?_⟩
  by_cases e : j = k
  · subst e; exact hl
  · exact h.2.2 j (by omega) hjl
end
end Go.Proofs.Ytlaodkolkoefgaa

/-
  slices.DeleteFunc of what is not due; frames.Ready.
-/
namespace Go.Proofs.Ytlaodkolkoefgaa
open Go.RowKit
set_option linter.unusedSimpArgs false
set_option linter.unusedVariables false

def cmpI (a b : Int) : Int := if a < b then -1 else if b < a then 1 else 0
set_option maxHeartbeats 400000 in
theorem nan64_calls (a : Int) (w : World) : Calls Try.prog 61 #[.int .i64 a] w fun e w' => e = .returned (.bool false) ∧ w' = w := by
  go_enter Try.func61, Try.ntmps61
  go_wp2_with fail
  go_ret
  exact ⟨rfl, rfl⟩
set_option maxHeartbeats 1000000 in
theorem cmp64_calls (a b : Int) (w : World) : Calls Try.prog 41 #[.int .i64 a, .int .i64 b] w fun e w' => e = .returned (.int .i64 (cmpI a b)) ∧ w' = w := by
  by_cases h1 : a < b
  · have e : cmpI a b = -1 := by unfold cmpI; rw [if_pos h1]
    rw [e]
    clear e
    go_enter Try.func41, Try.ntmps41
    go_wp2_with (go_at_call 61; refine (nan64_calls _ _).mono ?_; rintro e w' ⟨rfl, rfl⟩)
    go_ret
    exact ⟨rfl, rfl⟩
  · by_cases h2 : b < a
    · have e : cmpI a b = 1 := by unfold cmpI; rw [if_neg h1, if_pos h2]
      rw [e]
      clear e
      go_enter Try.func41, Try.ntmps41
      go_wp2_with (go_at_call 61; refine (nan64_calls _ _).mono ?_; rintro e w' ⟨rfl, rfl⟩)
      go_ret
      exact ⟨rfl, rfl⟩
    · have e : cmpI a b = 0 := by unfold cmpI; rw [if_neg h1, if_neg h2]
      rw [e]
      clear e
      go_enter Try.func41, Try.ntmps41
      go_wp2_with (go_at_call 61; refine (nan64_calls _ _).mono ?_; rintro e w' ⟨rfl, rfl⟩)
      go_ret
      exact ⟨rfl, rfl⟩
def cfD (x y : Ty) : Int := cmpI x.2 y.2
set_option maxHeartbeats 1000000 in
theorem dues_ok : CmpOk cfD := by
  intro a b c d w
  go_enter Try.func40, Try.ntmps40
  go_wp2_with fail
  refine (cmp64_calls _ _ _).mono ?_
  rintro e w1 ⟨rfl, rfl⟩
  go_wp2_with fail
  go_ret
  exact ⟨rfl, ((Below.refl _ _).alloc (Nat.le_refl _) _).alloc (by simp) _⟩
theorem ltR_lt : LtOk ltR where
  trans x y z h1 h2 := by unfold ltR at *; simp at *; omega
  asymm x y h := by unfold ltR at *; simp at *; omega
theorem cfD_lt {x y : Ty} (h : x.1 < y.1) : decide (cfD y x < 0) = ltR y x := by
  unfold cfD ltR cmpI
  by_cases h1 : y.2 < x.2
  · simp [h1]
  · by_cases h2 : x.2 < y.2
    · have h3 : ¬ y.2 = x.2 := by omega
      simp [h1, h2, h3]
    · have h3 : ¬ y.1 < x.1 := by omega
      simp [h1, h2, h3]

def lateP (now : Int) (t : Tk) : Bool := decide (now < t.2)
theorem late_due (now : Int) (t : Tk) : dueF now t = !lateP now t := by
  unfold dueF lateP
  by_cases h : t.2 ≤ now
  · have h2 : ¬ now < t.2 := by omega
    simp [h, h2]
  · have h2 : now < t.2 := by omega
    simp [h, h2]
set_option maxHeartbeats 1000000 in
theorem late_calls (a d x : Int) (ib : Nat) (w : World) (hc : w.cell? ⟨ib, 0, none⟩ = some (.int .i64 x)) :
    Calls Try.prog 38 #[.agg #[.int .i64 a, .int .i64 d], .pointer (some ⟨ib, 0, none⟩)] w fun e w' => e = .returned (.bool (lateP x (a, d))) ∧ Below w.heap.size w w' := by
  have hlt := World.block_lt_of_cell? _ _ hc
  go_enter Try.func38, Try.ntmps38
  go_wp2_with fail
  go_ret
  exact ⟨ret_bool (by simp [lateP]), (Below.refl _ _).alloc (Nat.le_refl _) _⟩
set_option maxRecDepth 100000 in
set_option maxHeartbeats 4000000 in
theorem index_late (s : Value) (ts : List (Int × Int)) (x : Int) (ib : Nat) (w : World) (ht : TRow w s ts) (hc : w.cell? ⟨ib, 0, none⟩ = some (.int .i64 x)) :
    Calls Try.prog 59 #[s, .func (.func 38) #[] #[.pointer (some ⟨ib, 0, none⟩)]] w fun e w' => e = .returned (.int .i64 (optI (ts.findIdx? (lateP x)))) ∧ Below w.heap.size w w' := by
  obtain ⟨base, cap, rfl, hn, hcap, hr⟩ := ht.open
  obtain ⟨n, hnn⟩ : ∃ n, ts.length = n := ⟨_, rfl⟩
  rw [hnn] at hn ⊢
  replace hnn := Lib.hid hnn
  replace hr := Lib.hid hr
  unfold maxLen at hcap
  go_enter Try.func59, Try.ntmps59
  go_wp2_with fail
  go_loopw [8] (fun i W => ∃ k : Nat, k ≤ n ∧ i = .int .i64 k ∧ (∀ (j : Nat) (t : Tk), j < k → ts[j]? = some t → lateP x t = false) ∧ Below w.heap.size w W) (fun i _ => n - (intOf i).toNat)
  case atStart => exact ⟨0, by omega, rfl, fun _ _ h => absurd h (Nat.not_lt_zero _), Below.refl _ _⟩
  case round =>
    obtain ⟨k, hk, rfl, hno, HB⟩ := hrel
    replace hno := Lib.hid hno
    by_cases hlt : k < n
    · have hne : ts ≠ [] := fun e => by have := hnn.out; rw [e] at this; simp at this; omega
      obtain ⟨tb, off, rfl, hcell⟩ := hr.out hne
      obtain ⟨t, hkt⟩ : ∃ t, ts[k]? = some t := ⟨_, List.getElem?_eq_getElem (by rw [hnn.out]; exact hlt)⟩
      obtain ⟨d0, d1⟩ := hcell k t hkt
      replace d0 := (HB.cell (World.block_lt_of_cell? _ _ d0)).trans d0
      replace d1 := (HB.cell (World.block_lt_of_cell? _ _ d1)).trans d1
      have hcx := (HB.cell (World.block_lt_of_cell? _ _ hc)).trans hc
      have hz := HB.size
      replace hcell := Lib.hid hcell
      replace hkt := Lib.hid hkt
      replace HB := Lib.hid HB
      obtain ⟨a, d⟩ := t
      simp only at d0 d1
      have hcal := late_calls a d x ib wr hcx
      cases hp : lateP x (a, d)
      all_goals
        rw [hp] at hcal
        replace hp := Lib.hid hp
        replace hcal := Lib.hid hcal
        go_wp2_with fail
        refine hcal.out.mono ?_
        rintro e w1 ⟨rfl, hb⟩
        replace HB := Lib.hid (below_step HB.out hz hb)
        clear hb hcal
        go_wp2_with fail
      · go_roundw
        case rel => exact ⟨k + 1, by omega, by go_num, fun j t' hj h' => by
          by_cases e : j = k
          · subst e
            rw [hkt.out] at h'
            obtain rfl := Option.some.inj h'
            exact hp.out
          · exact hno.out j t' (by omega) h', HB.out⟩
        case measure => simp [intOf]; omega
      · go_ret
        exact ⟨ret_int (by rw [findIdx?_first hkt.out hp.out hno.out]; rfl), HB.out⟩
    · obtain rfl : k = n := by omega
      go_wp2_with fail
      go_ret
      exact ⟨ret_int (by rw [findIdx?_no (fun j t h => hno.out j t (by have := (List.getElem?_eq_some_iff.1 h).1; rw [hnn.out] at this; exact this) h)]; rfl), HB⟩

/-- What DeleteFunc has done when it looks at tick j: i of the first j stay, at the front. -/
structure Del (ts us : List Tk) (now : Int) (i j : Nat) : Prop where
  len : us.length = ts.length
  front : us.take i = (ts.take j).filter (dueF now)
  rest : us.drop j = ts.drop j
  lt : i < j
theorem Del.start {ts : List Tk} {now : Int} {k : Nat} (h : ts.findIdx? (lateP now) = some k) : Del ts ts now k (k + 1) := by
  rw [List.findIdx?_eq_some_iff_getElem] at h
  obtain ⟨hk, hp, hb⟩ := h
  refine ⟨rfl, ?_, rfl, by omega⟩
  rw [List.take_succ_eq_append_getElem hk, List.filter_append, List.filter_eq_self.2 (fun t ht => by
    obtain ⟨j, hj, e⟩ := List.getElem_of_mem ht
    rw [List.length_take] at hj
    rw [List.getElem_take] at e
    rw [late_due, ← e]
    simpa using hb j (by omega))]
  have : [ts[k]].filter (dueF now) = [] := by
    rw [List.filter_cons, if_neg (by rw [late_due, hp]; simp)]; rfl
  rw [this, List.append_nil]
theorem Del.at {ts us : List Tk} {now : Int} {i j : Nat} (h : Del ts us now i j) {t : Tk} (ht : ts[j]? = some t) : us[j]? = some t := by
  have := congrArg (fun l => l[0]?) h.rest
  simp only [List.getElem?_drop, Nat.add_zero] at this
  rw [this]; exact ht
theorem Del.skip {ts us : List Tk} {now : Int} {i j : Nat} (h : Del ts us now i j) {t : Tk} (ht : ts[j]? = some t) (hl : lateP now t = true) : Del ts us now i (j + 1) := by
  refine ⟨h.len, ?_, ?_, by have := h.lt; omega⟩
  · rw [List.take_add_one, ht, Option.toList_some, List.filter_append, List.filter_cons, if_neg (by rw [late_due, hl]; simp), h.front]
    simp
  · have := congrArg List.tail h.rest
    simpa [List.tail_drop] using this
theorem Del.keepT {ts us : List Tk} {now : Int} {i j : Nat} (h : Del ts us now i j) {t : Tk} (ht : ts[j]? = some t) (hl : lateP now t = false) : Del ts (us.set i t) now (i + 1) (j + 1) := by
  have hj := (List.getElem?_eq_some_iff.1 ht).1
  have hlt := h.lt
  have hlen := h.len
  refine ⟨by rw [List.length_set]; exact h.len, ?_, ?_, by omega⟩
  · rw [List.take_add_one, List.getElem?_set, if_pos rfl, if_pos (by omega), Option.toList_some, List.take_set, List.set_eq_of_length_le (by rw [List.length_take]; omega), h.front]
    rw [List.take_add_one, ht, Option.toList_some, List.filter_append, List.filter_cons, if_pos (by rw [late_due, hl]; rfl)]
    rfl
  · have := congrArg List.tail h.rest
    rw [List.drop_set, if_pos (by omega)]
    simpa [List.tail_drop] using this
theorem Del.done {ts us : List Tk} {now : Int} {i : Nat} (h : Del ts us now i ts.length) : us.take i = ts.filter (dueF now) := by
  have := h.front
  rw [List.take_length] at this
  exact this

end Go.Proofs.Ytlaodkolkoefgaa
