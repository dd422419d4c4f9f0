/-
  Ticks as a function of the index, and back: in plain Lean.
-/
import Derived.Test.YtpdckjbknphelaaMg17
import Derived.Test.YtpdckjbknphelaaOrderP
import Derived.Test.YtpdckjbknphelaaSortP
import Derived.Test.YtpdckjbknphelaaChunkC
namespace Go.Proofs.Ytpdckjbknphelaa
set_option linter.unusedSimpArgs false
set_option linter.unusedVariables false

theorem pair_le {ts : List Tk} (h : ts.Pairwise (fun a b => a.1 < b.1)) : ts.Nodup := h.imp (fun {a b} hab e => by subst e; exact absurd hab (Int.lt_irrefl _))
def ltA (x y : Ty) : Bool := decide (x.1 < y.1 ∨ x.1 = y.1 ∧ x.2 < y.2)
theorem ltA_eq (x y : Ty) (h1 : ltA x y = false) (h2 : ltA y x = false) : x = y := by
  unfold ltA at *
  simp at h1 h2
  exact Prod.ext (by omega) (by omega)
theorem Rise.uniq {ts us : List Tk} {D E : Nat → Int} (h : Rise ts D) (k : Rise us E) (hD : ∀ i, i < 4096 → D i = E i) : ts = us := by
  have key : ∀ {ts us : List Tk} {D E : Nat → Int}, Rise ts D → Rise us E → (∀ i, i < 4096 → D i = E i) → ∀ t, t ∈ ts → t ∈ us := fun {ts us D E} h k hD t ht => by
    obtain ⟨b0, b1, b2⟩ := h.bd t ht
    have hi : ((t.1.toNat : Nat) : Int) = t.1 := by omega
    have h1 := (h.iff t.1.toNat (by omega) t.2).1 (by rw [hi]; exact ht)
    have h2 := (k.iff t.1.toNat (by omega) t.2).2 (by rw [← hD _ (by omega)]; exact h1)
    rw [hi] at h2
    exact h2
  have hp : ts.Perm us := (List.perm_ext_iff_of_nodup (pair_le h.up) (pair_le k.up)).2 fun t => ⟨key h k hD t, key k h (fun i hi => (hD i hi).symm) t⟩
  have hs : ∀ {l : List Tk}, l.Pairwise (fun a b => a.1 < b.1) → l.Pairwise (fun x y => ltA y x = false) := fun {l} hl => hl.imp (fun {a b} hab => by
    unfold ltA
    have : a.1 < b.1 := hab
    simp; omega)
  exact sorted_perm_eq ltA_eq ts us (hs h.up) (hs k.up) hp

theorem mem_tickD {g : Nat → Int} {t : Tk} : ∀ {k : Nat}, t ∈ tickD g k ↔ ∃ i, i < k ∧ t = ((i : Int), g i) ∧ 0 < g i
  | 0 => ⟨fun h => (by cases h), fun ⟨i, hi, _⟩ => absurd hi (Nat.not_lt_zero _)⟩
  | k + 1 => by
    unfold tickD
    rw [List.mem_append, mem_tickD]
    constructor
    · rintro (⟨i, hi, e, hp⟩ | h)
      · exact ⟨i, by omega, e, hp⟩
      · by_cases hp : 0 < g k
        · rw [if_pos hp, List.mem_singleton] at h
          exact ⟨k, by omega, h, hp⟩
        · rw [if_neg hp] at h; cases h
    · rintro ⟨i, hi, e, hp⟩
      by_cases hik : i = k
      · subst hik
        rw [if_pos hp, List.mem_singleton]
        exact Or.inr e
      · exact Or.inl ⟨i, by omega, e, hp⟩
theorem tickD_up (g : Nat → Int) : ∀ k, (tickD g k).Pairwise (fun a b => a.1 < b.1)
  | 0 => List.Pairwise.nil
  | k + 1 => by
    unfold tickD
    rw [List.pairwise_append]
    refine ⟨tickD_up g k, by split <;> simp, fun a ha b hb => ?_⟩
    obtain ⟨i, hi, rfl, _⟩ := mem_tickD.1 ha
    split at hb
    · rw [List.mem_singleton] at hb
      subst hb
      show (i : Int) < (k : Int)
      omega
    · cases hb
theorem tickD_rise {g : Nat → Int} (hg : ∀ i, 0 ≤ g i) : Rise (tickD g 4096) g := by
  refine ⟨tickD_up g 4096, fun t ht => ?_, fun i hi d => ?_⟩
  · obtain ⟨i, hi, rfl, hp⟩ := mem_tickD.1 ht
    exact ⟨Int.natCast_nonneg i, Int.ofNat_lt.2 hi, hp⟩
  · rw [mem_tickD]
    constructor
    · rintro ⟨j, hj, e, hp⟩
      have e1 : (i : Int) = (j : Int) := congrArg Prod.fst e
      have e2 : d = g j := congrArg Prod.snd e
      obtain rfl : i = j := by omega
      exact ⟨e2.symm, by omega⟩
    · rintro ⟨rfl, hd⟩
      exact ⟨i, hi, rfl, by have := hg i; omega⟩
theorem tickD_congr {g h : Nat → Int} : ∀ {k : Nat}, (∀ i, i < k → g i = h i) → tickD g k = tickD h k
  | 0, _ => rfl
  | k + 1, e => by
    unfold tickD
    rw [tickD_congr (fun i hi => e i (by omega)), e k (by omega)]

/-- When each index is due, of ticks. -/
def duF (ts : List Tk) : Nat → Int := ts.foldl (fun g t => updD g t.1.toNat t.2) (fun _ => 0)
theorem duF_step {ts : List Tk} {k : Nat} {t : Tk} (h : ts[k]? = some t) : duF (ts.take (k + 1)) = updD (duF (ts.take k)) t.1.toNat t.2 := by
  unfold duF
  rw [List.take_add_one, h, Option.toList_some, List.foldl_append]
  rfl
theorem fold_at : ∀ (ts : List Tk) (g : Nat → Int), ts.Pairwise (fun a b => a.1 < b.1) → (∀ t ∈ ts, 0 ≤ t.1) → (∀ t ∈ ts, ts.foldl (fun g t => updD g t.1.toNat t.2) g t.1.toNat = t.2) ∧ ∀ i : Nat, (∀ t ∈ ts, t.1 ≠ (i : Int)) → ts.foldl (fun g t => updD g t.1.toNat t.2) g i = g i
  | [], g, _, _ => ⟨fun t h => (by cases h), fun i _ => rfl⟩
  | u :: r, g, hp, h0 => by
    rw [List.pairwise_cons] at hp
    obtain ⟨h1, h2⟩ := fold_at r (updD g u.1.toNat u.2) hp.2 (fun t ht => h0 t (List.mem_cons_of_mem _ ht))
    have hu := h0 u List.mem_cons_self
    refine ⟨fun t ht => ?_, fun i hi => ?_⟩
    · rw [List.foldl_cons]
      rcases List.mem_cons.1 ht with rfl | ht
      · rw [h2 _ (fun v hv => by have := hp.1 v hv; omega), updD_same]
      · exact h1 t ht
    · rw [List.foldl_cons, h2 i (fun t ht => hi t (List.mem_cons_of_mem _ ht)), updD_other (by have := hi u List.mem_cons_self; omega)]
theorem tOk_inv : ∀ {ts : List Tk} {last : Int}, tOk last ts = true → ts.Pairwise (fun a b => a.1 < b.1) ∧ ∀ t ∈ ts, last < t.1 ∧ t.1 < 4096 ∧ 1 ≤ t.2 ∧ t.2 ≤ 2199023255552
  | [], _, _ => ⟨List.Pairwise.nil, fun t h => by cases h⟩
  | u :: r, last, h => by
    unfold tOk tickOk at h
    rw [Bool.and_eq_true, decide_eq_true_iff] at h
    obtain ⟨h1, h2⟩ := tOk_inv h.2
    refine ⟨List.pairwise_cons.2 ⟨fun t ht => (h2 t ht).1, h1⟩, fun t ht => ?_⟩
    rcases List.mem_cons.1 ht with rfl | ht
    · exact h.1
    · obtain ⟨a, b⟩ := h2 t ht
      exact ⟨by omega, b⟩
theorem tOk_rise {ts : List Tk} (h : tOk (-1) ts = true) : Rise ts (duF ts) := by
  obtain ⟨h1, h2⟩ := tOk_inv h
  obtain ⟨k1, k2⟩ := fold_at ts (fun _ => 0) h1 (fun t ht => by have := (h2 t ht).1; omega)
  refine ⟨h1, fun t ht => by have := h2 t ht; omega, fun i hi d => ?_⟩
  constructor
  · intro hm
    have := k1 _ hm
    simp only [Int.toNat_natCast] at this
    exact ⟨this, by have := (h2 _ hm).2.2.1; simp only at this; omega⟩
  · rintro ⟨e, hd⟩
    by_cases hx : ∃ t ∈ ts, t.1 = (i : Int)
    · obtain ⟨t, ht, e2⟩ := hx
      have := k1 t ht
      rw [e2, Int.toNat_natCast] at this
      have e3 : t = ((i : Int), d) := Prod.ext e2 (this.symm.trans e)
      rw [← e3]; exact ht
    · have := k2 i (fun t ht e2 => hx ⟨t, ht, e2⟩)
      exact absurd (e.symm.trans this) hd
theorem duF_ok {ts : List Tk} (h : tOk (-1) ts = true) (i : Nat) : 0 ≤ duF ts i ∧ duF ts i ≤ 2199023255552 := by
  obtain ⟨h1, h2⟩ := tOk_inv h
  obtain ⟨k1, k2⟩ := fold_at ts (fun _ => 0) h1 (fun t ht => by have := (h2 t ht).1; omega)
  by_cases hx : ∃ t ∈ ts, t.1 = (i : Int)
  · obtain ⟨t, ht, e2⟩ := hx
    have := k1 t ht
    rw [e2, Int.toNat_natCast] at this
    have h3 := h2 t ht
    unfold duF
    rw [this]; omega
  · have := k2 i (fun t ht e2 => hx ⟨t, ht, e2⟩)
    unfold duF
    rw [this]; omega
theorem ticks_back {ts : List Tk} (h : tOk (-1) ts = true) : tickD (duF ts) 4096 = ts := (tickD_rise (fun i => (duF_ok h i).1)).uniq (tOk_rise h) (fun _ _ => rfl)
theorem checkE_inv {ce li : Nat → Int × Int} {ts : List Tk} (h : checkE ce li ts = 0) : (∀ i, i < 4096 → mayC ce i = true) ∧ (∀ i, i < 4096 → litC li i = true) ∧ tOk (-1) ts = true := by
  unfold checkE at h
  split at h
  · rename_i h1
    split at h
    · rename_i h2
      split at h
      · rename_i h3
        exact ⟨(allN_iff _ _).1 h1, (allN_iff _ _).1 h2, h3⟩
      · cases h
    · cases h
  · cases h
end Go.Proofs.Ytpdckjbknphelaa
