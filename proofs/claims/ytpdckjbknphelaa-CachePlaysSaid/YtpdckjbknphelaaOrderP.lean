/-
  Whatever is put into a list of ticks and taken out: in plain Lean.
-/
import Derived.Test.YtpdckjbknphelaaMg10
namespace Go.Proofs.Ytpdckjbknphelaa
set_option linter.unusedSimpArgs false
set_option linter.unusedVariables false

/-- The ticks rise, and each index is due as D says (0: not at all). -/
structure Rise (ts : List Tk) (D : Nat → Int) : Prop where
  up : ts.Pairwise (fun a b => a.1 < b.1)
  bd : ∀ t ∈ ts, 0 ≤ t.1 ∧ t.1 < 4096 ∧ 1 ≤ t.2
  iff : ∀ i : Nat, i < 4096 → ∀ d : Int, (((i : Int), d) ∈ ts ↔ D i = d ∧ d ≠ 0)
theorem Rise.nil : Rise [] (fun _ => 0) := ⟨List.Pairwise.nil, (fun t h => by cases h), fun i _ d => ⟨fun h => (by cases h), fun ⟨h1, h2⟩ => absurd h1.symm h2⟩⟩
section
variable {ts : List Tk} {D : Nat → Int}
/-- One index has one tick. -/
theorem Rise.one (h : Rise ts D) {a b : Tk} (ha : a ∈ ts) (hb : b ∈ ts) (e : a.1 = b.1) : a = b := by
  obtain ⟨a0, a1, a2⟩ := h.bd a ha
  have hi : ((a.1.toNat : Nat) : Int) = a.1 := by omega
  have h1 := (h.iff a.1.toNat (by omega) a.2).1 (by rw [hi]; exact ha)
  have h2 := (h.iff a.1.toNat (by omega) b.2).1 (by rw [hi, e]; exact hb)
  exact Prod.ext e (h1.1.symm.trans h2.1)
theorem Rise.due (h : Rise ts D) {i : Nat} (hi : i < 4096) : dueL ts (i : Int) = D i := by
  cases hp : placeL ts (i : Int) with
  | none =>
    rw [dueL_none hp]
    have hno := placeL_none_inv (by omega) (by omega) hp
    by_cases hD : D i = 0
    · exact hD.symm
    · have := (h.iff i hi (D i)).2 ⟨rfl, hD⟩
      obtain ⟨j, hj, e⟩ := List.getElem_of_mem this
      exact absurd rfl (hno j _ (by rw [List.getElem?_eq_getElem hj, e]))
  | some k =>
    obtain ⟨_, _, hk, t, ht, hx, _⟩ := placeL_inv hp
    rw [dueL_some hp ht]
    have hm : ((i : Int), t.2) ∈ ts := by rw [← hx]; exact List.mem_of_getElem? ht
    exact ((h.iff i hi t.2).1 hm).1.symm
theorem dropL_none {ts : List Tk} {x : Int} (h : placeL ts x = none) : dropL ts x = ts := by unfold dropL; rw [h]
theorem dropL_some {ts : List Tk} {x : Int} {k : Nat} (h : placeL ts x = some k) : dropL ts x = ts.eraseIdx k := by unfold dropL; rw [h]
theorem Rise.drop (h : Rise ts D) {i : Nat} (hi : i < 4096) : Rise (dropL ts (i : Int)) (fun j => if j = i then 0 else D j) := by
  cases hp : placeL ts (i : Int) with
  | none =>
    have hd := dropL_none hp
    have h0 := h.due hi
    rw [dueL_none hp] at h0
    have : (fun j => if j = i then 0 else D j) = D := by
      funext j
      by_cases hj : j = i
      · subst hj; simp [h0]
      · simp [hj]
    rw [hd, this]; exact h
  | some k =>
    obtain ⟨_, _, hk, t, ht, hx, _⟩ := placeL_inv hp
    have hd := dropL_some hp
    rw [hd]
    have hsub := List.eraseIdx_sublist ts k
    have hmem : ∀ u : Tk, u ∈ ts.eraseIdx k ↔ u ∈ ts ∧ u.1 ≠ (i : Int) := fun u => by
      rw [List.mem_eraseIdx_iff_getElem?]
      constructor
      · rintro ⟨j, hj, e⟩
        refine ⟨List.mem_of_getElem? e, fun hu => ?_⟩
        obtain ⟨hj1, e1⟩ := List.getElem?_eq_some_iff.1 e
        obtain ⟨hk1, e2⟩ := List.getElem?_eq_some_iff.1 ht
        have hpw := List.pairwise_iff_getElem.1 h.up
        rcases Nat.lt_trichotomy j k with hjk | hjk | hjk
        · have := hpw j k hj1 hk1 hjk; rw [e1, e2] at this; omega
        · exact hj hjk
        · have := hpw k j hk1 hj1 hjk; rw [e1, e2] at this; omega
      · rintro ⟨hu, hne⟩
        obtain ⟨j, hj, e⟩ := List.getElem_of_mem hu
        refine ⟨j, fun hjk => ?_, by rw [List.getElem?_eq_getElem hj, e]⟩
        subst hjk
        rw [List.getElem?_eq_getElem hj, e] at ht
        exact hne (by rw [Option.some.inj ht]; exact hx)
    refine ⟨h.up.sublist hsub, fun u hu => h.bd u (hsub.mem hu), fun j hj d => ?_⟩
    rw [hmem, h.iff j hj d]
    by_cases hji : j = i
    · subst hji
      rw [if_pos rfl]
      exact ⟨fun h1 => absurd rfl h1.2, fun h1 => absurd h1.1.symm h1.2⟩
    · rw [if_neg hji]
      exact ⟨fun h1 => h1.1, fun h1 => ⟨h1, fun e => hji (by have e' : (j : Int) = (i : Int) := e; omega)⟩⟩
theorem Rise.up_lt (h : Rise ts D) {x : Int} (hno : ∀ t ∈ ts, t.1 ≠ x) : (∀ t ∈ ts.take (upL ts x), t.1 < x) ∧ ∀ t ∈ ts.drop (upL ts x), x < t.1 := by
  constructor
  · intro t ht
    obtain ⟨j, hj, e⟩ := List.getElem_of_mem ht
    have hj2 : j < upL ts x := by rw [List.length_take] at hj; omega
    have hj3 : j < ts.length := by rw [List.length_take] at hj; omega
    rw [List.getElem_take] at e
    have := upL_before (t := t) hj2 (by rw [List.getElem?_eq_getElem hj3, e])
    have := hno t (List.mem_of_mem_take ht)
    omega
  · intro t ht
    obtain ⟨j, hj, e⟩ := List.getElem_of_mem ht
    rw [List.getElem_drop] at e
    rw [List.length_drop] at hj
    have h1 := upL_at (ts := ts) (x := x) (t := ts[upL ts x]'(by omega)) (List.getElem?_eq_getElem _)
    rcases Nat.eq_zero_or_pos j with rfl | hpos
    · rw [← e]; exact h1
    · have := List.pairwise_iff_getElem.1 h.up (upL ts x) (upL ts x + j) (by omega) (by omega) (by omega)
      rw [e] at this
      omega
/-- A list that is put into another. -/
theorem mem_insL {ts : List Tk} {k : Nat} {t u : Tk} : u ∈ insL ts k t ↔ u = t ∨ u ∈ ts := by
  unfold insL
  rw [List.mem_append, List.mem_cons]
  constructor
  · rintro (h1 | h1 | h1)
    · exact Or.inr (List.mem_of_mem_take h1)
    · exact Or.inl h1
    · exact Or.inr (List.mem_of_mem_drop h1)
  · rintro (h1 | h1)
    · exact Or.inr (Or.inl h1)
    · have h2 : u ∈ ts.take k ++ ts.drop k := by rw [List.take_append_drop]; exact h1
      rcases List.mem_append.1 h2 with h3 | h3
      · exact Or.inl h3
      · exact Or.inr (Or.inr h3)
theorem Rise.wake (h : Rise ts D) {i : Nat} (hi : i < 4096) (d : Int) : Rise (wakeL ts (i : Int) d) (fun j => if j = i ∧ 0 < d ∧ (D i = 0 ∨ d < D i) then d else D j) := by
  by_cases hd : 1 ≤ d
  case neg =>
    have hw := wakeL_no (ts := ts) (x := (i : Int)) (d := d) (by omega)
    have : (fun j => if j = i ∧ 0 < d ∧ (D i = 0 ∨ d < D i) then d else D j) = D := by
      funext j
      rw [if_neg (by omega)]
    rw [hw, this]; exact h
  have hdue := h.due hi
  cases hp : placeL ts (i : Int) with
  | none =>
    rw [dueL_none hp] at hdue
    have hno : ∀ t ∈ ts, t.1 ≠ (i : Int) := fun t ht => by
      obtain ⟨j, hj, e⟩ := List.getElem_of_mem ht
      exact placeL_none_inv (by omega) (by omega) hp j t (by rw [List.getElem?_eq_getElem hj, e])
    obtain ⟨hlo, hhi⟩ := h.up_lt hno
    rw [wakeL_ins (by omega) (by omega) hd hp]
    refine ⟨?_, fun t ht => ?_, fun j hj e => ?_⟩
    · unfold insL
      rw [List.pairwise_append, List.pairwise_cons]
      refine ⟨h.up.sublist (List.take_sublist _ _), ⟨hhi, h.up.sublist (List.drop_sublist _ _)⟩, fun a ha b hb => ?_⟩
      have h1 := hlo a ha
      rcases List.mem_cons.1 hb with rfl | hb
      · exact h1
      · have := hhi b hb; omega
    · rcases mem_insL.1 ht with rfl | ht
      · exact ⟨Int.natCast_nonneg i, Int.ofNat_lt.2 hi, hd⟩
      · exact h.bd t ht
    · rw [mem_insL, h.iff j hj e]
      by_cases hji : j = i
      · subst hji
        rw [if_pos ⟨rfl, by omega, Or.inl hdue.symm⟩, ← hdue]
        constructor
        · rintro (h1 | ⟨h1, h2⟩)
          · have e2 : e = d := congrArg Prod.snd h1
            exact ⟨e2.symm, by omega⟩
          · exact absurd h1.symm h2
        · rintro ⟨rfl, _⟩; exact Or.inl rfl
      · rw [if_neg (fun h1 => hji h1.1)]
        constructor
        · rintro (h1 | h1)
          · have e1 : (j : Int) = (i : Int) := congrArg Prod.fst h1
            omega
          · exact h1
        · exact Or.inr
  | some k =>
    obtain ⟨_, _, hk, t, ht, hx, _⟩ := placeL_inv hp
    rw [dueL_some hp ht] at hdue
    rw [wakeL_set hd hp ht]
    obtain ⟨hk1, et⟩ := List.getElem?_eq_some_iff.1 ht
    have htm : t ∈ ts := List.mem_of_getElem? ht
    have htb := h.bd t htm
    have hmin : minI t.2 d = if d < t.2 then d else t.2 := rfl
    have hmem : ∀ u : Tk, u ∈ ts.set k ((i : Int), minI t.2 d) ↔ u = ((i : Int), minI t.2 d) ∨ (u ∈ ts ∧ u.1 ≠ (i : Int)) := fun u => by
      rw [List.mem_iff_getElem?]
      constructor
      · rintro ⟨j, e⟩
        rw [List.getElem?_set] at e
        by_cases hjk : k = j
        · rw [if_pos hjk, if_pos hk1] at e
          exact Or.inl (Option.some.inj e).symm
        · rw [if_neg hjk] at e
          refine Or.inr ⟨List.mem_of_getElem? e, fun hu => ?_⟩
          obtain ⟨hj1, e1⟩ := List.getElem?_eq_some_iff.1 e
          have hpw := List.pairwise_iff_getElem.1 h.up
          rcases Nat.lt_trichotomy j k with h1 | h1 | h1
          · have := hpw j k hj1 hk1 h1; rw [e1, et] at this; omega
          · exact hjk h1.symm
          · have := hpw k j hk1 hj1 h1; rw [e1, et] at this; omega
      · rintro (rfl | ⟨hu, hne⟩)
        · exact ⟨k, by rw [List.getElem?_set, if_pos rfl, if_pos hk1]⟩
        · obtain ⟨j, hj, e⟩ := List.getElem_of_mem hu
          refine ⟨j, ?_⟩
          rw [List.getElem?_set, if_neg (fun hkj => ?_), List.getElem?_eq_getElem hj, e]
          subst hkj
          rw [← e, et] at hne
          exact hne hx
    refine ⟨?_, fun u hu => ?_, fun j hj e => ?_⟩
    · rw [List.pairwise_iff_getElem]
      intro a b ha hb hab
      rw [List.length_set] at ha hb
      have h0 := List.pairwise_iff_getElem.1 h.up a b ha hb hab
      rw [List.getElem_set, List.getElem_set]
      by_cases hka : k = a
      · subst hka
        rw [if_pos rfl, if_neg (by omega)]
        rw [et] at h0
        show (i : Int) < _
        omega
      · rw [if_neg hka]
        by_cases hkb : k = b
        · subst hkb
          rw [if_pos rfl]
          rw [et] at h0
          show _ < (i : Int)
          omega
        · rw [if_neg hkb]; exact h0
    · rcases (hmem u).1 hu with rfl | ⟨hu, _⟩
      · refine ⟨Int.natCast_nonneg i, Int.ofNat_lt.2 hi, ?_⟩
        show 1 ≤ minI t.2 d
        rw [hmin]; split <;> omega
      · exact h.bd u hu
    · rw [hmem]
      by_cases hji : j = i
      · subst hji
        have hval : (if j = j ∧ 0 < d ∧ (D j = 0 ∨ d < D j) then d else D j) = minI t.2 d := by
          rw [hmin, ← hdue]
          by_cases hlt : d < t.2
          · rw [if_pos hlt, if_pos ⟨rfl, by omega, Or.inr hlt⟩]
          · rw [if_neg hlt, if_neg (by omega)]
        rw [hval]
        constructor
        · rintro (h1 | ⟨_, h1⟩)
          · have e2 : e = minI t.2 d := congrArg Prod.snd h1
            refine ⟨e2.symm, ?_⟩
            rw [e2, hmin]; split <;> omega
          · exact absurd rfl h1
        · rintro ⟨rfl, _⟩; exact Or.inl rfl
      · rw [if_neg (fun h1 => hji h1.1), h.iff j hj e]
        constructor
        · rintro (h1 | h1)
          · have e1 : (j : Int) = (i : Int) := congrArg Prod.fst h1
            omega
          · exact h1.1
        · exact fun h1 => Or.inr ⟨h1, fun e1 => hji (by have e1' : (j : Int) = (i : Int) := e1; omega)⟩
/-- How many ticks stand below an index, one index on. -/
theorem Rise.next (h : Rise ts D) {i : Nat} (hi : i < 4096) : (D i = 0 → upL ts (i : Int) = upL ts ((i : Int) - 1)) ∧ (D i ≠ 0 → ts[upL ts ((i : Int) - 1)]? = some ((i : Int), D i) ∧ upL ts (i : Int) = upL ts ((i : Int) - 1) + 1) := by
  have hle := upL_le ts ((i : Int) - 1)
  have hpw := List.pairwise_iff_getElem.1 h.up
  constructor
  · intro h0
    refine upL_eq hle (fun j t hj ht => ?_) (fun t ht => ?_)
    · have := upL_before hj ht; omega
    · have h1 := upL_at ht
      have hm := List.mem_of_getElem? ht
      rcases Int.lt_or_eq_of_le (show (i : Int) ≤ t.1 by omega) with h2 | h2
      · exact h2
      · have := (h.iff i hi t.2).1 (by rw [h2]; exact hm)
        exact absurd (this.1.symm.trans h0) this.2
  · intro h0
    have hm := (h.iff i hi (D i)).2 ⟨rfl, h0⟩
    obtain ⟨j, hj, e⟩ := List.getElem_of_mem hm
    have hju : upL ts ((i : Int) - 1) = j := by
      refine upL_eq (by omega) (fun k t hk ht => ?_) (fun t ht => ?_)
      · obtain ⟨hk1, e1⟩ := List.getElem?_eq_some_iff.1 ht
        have := hpw k j hk1 hj hk
        rw [e1, e] at this
        have : t.1 < (i : Int) := this
        omega
      · rw [List.getElem?_eq_getElem hj, e] at ht
        obtain rfl := Option.some.inj ht
        show (i : Int) - 1 < (i : Int)
        omega
    rw [hju]
    refine ⟨by rw [List.getElem?_eq_getElem hj, e], upL_eq (by omega) (fun k t hk ht => ?_) (fun t ht => ?_)⟩
    · obtain ⟨hk1, e1⟩ := List.getElem?_eq_some_iff.1 ht
      rcases Nat.lt_or_ge k j with h1 | h1
      · have := hpw k j hk1 hj h1
        rw [e1, e] at this
        have : t.1 < (i : Int) := this
        omega
      · obtain rfl : k = j := by omega
        rw [← e1, e]; exact Int.le_refl _
    · obtain ⟨hk1, e1⟩ := List.getElem?_eq_some_iff.1 ht
      have := hpw j (j + 1) hj hk1 (by omega)
      rw [e1, e] at this
      exact this
theorem Rise.zero (h : Rise ts D) : upL ts (-1) = 0 := upL_eq (by omega) (fun j t hj _ => by omega) (fun t ht => by have := (h.bd t (List.mem_of_getElem? ht)).1; omega)
theorem Rise.last (h : Rise ts D) : upL ts 4095 = ts.length := upL_eq (Nat.le_refl _) (fun j t _ ht => by have := (h.bd t (List.mem_of_getElem? ht)).2.1; omega) (fun t ht => by rw [List.getElem?_eq_none (Nat.le_refl _)] at ht; cases ht)
theorem Rise.len (h : Rise ts D) : ts.length ≤ 4096 := by
  have : ∀ k : Nat, k ≤ 4096 → upL ts ((k : Int) - 1) ≤ k := by
    intro k
    induction k with
    | zero => intro _; rw [show ((0 : Nat) : Int) - 1 = -1 from rfl, h.zero]; exact Nat.le_refl _
    | succ k ih =>
      intro hk
      have h1 := ih (by omega)
      have h2 := h.next (i := k) (by omega)
      rw [show ((k + 1 : Nat) : Int) - 1 = (k : Int) from by omega]
      by_cases h0 : D k = 0
      · rw [h2.1 h0]; omega
      · rw [(h2.2 h0).2]; omega
  have h1 := this 4096 (Nat.le_refl _)
  rw [show ((4096 : Nat) : Int) - 1 = 4095 from rfl, h.last] at h1
  exact h1
end
end Go.Proofs.Ytpdckjbknphelaa
