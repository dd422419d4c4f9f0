/-
  A stable sort in place, in plain Lean: exchanges, what they leave, what is sorted.
-/
import Derived.Test.YtpdckjbknphelaaMg0
import Derived.Test.YtpdckjbknphelaaMg10
import Derived.Test.YtpdckjbknphelaaOrderP
import Derived.Test.YtpdckjbknphelaaChunkC
namespace Go.Proofs.Ytpdckjbknphelaa
set_option linter.unusedSimpArgs false
set_option linter.unusedVariables false

abbrev Ty := Int × Int
abbrev Fn' := Nat → Ty
def swapF (d : Fn') (i j : Nat) : Fn' := fun k => if k = i then d j else if k = j then d i else d k
theorem swapF_left (d : Fn') (i j : Nat) : swapF d i j i = d j := by simp [swapF]
theorem swapF_right (d : Fn') (i j : Nat) : swapF d i j j = d i := by
  unfold swapF
  split
  · rename_i h; rw [h]
  · simp
theorem swapF_other {d : Fn'} {i j k : Nat} (h1 : k ≠ i) (h2 : k ≠ j) : swapF d i j k = d k := by simp [swapF, h1, h2]
def lst (n : Nat) (d : Fn') : List Ty := (List.range n).map d
theorem lst_len (n : Nat) (d : Fn') : (lst n d).length = n := by simp [lst]
theorem lst_at {n k : Nat} (d : Fn') (h : k < n) : (lst n d)[k]? = some (d k) := by simp [lst, h]
theorem lst_of (l : List Ty) : ∃ d : Fn', lst l.length d = l := ⟨fun k => l.getD k (0, 0), by
  apply List.ext_getElem?
  intro k
  by_cases h : k < l.length
  · rw [lst_at _ h]; simp [List.getD, h]
  · rw [List.getElem?_eq_none (by rw [lst_len]; omega), List.getElem?_eq_none (by omega)]⟩
theorem lst_congr {n : Nat} {d e : Fn'} (h : ∀ k, k < n → d k = e k) : lst n d = lst n e := List.map_congr_left fun k hk => h k (List.mem_range.1 hk)
theorem lst_swap_lt {n i j : Nat} (d : Fn') (hij : i < j) (hj : j < n) : (lst n (swapF d i j)).Perm (lst n d) := by
  have e : ∀ f : Fn', lst n f = (List.range' 0 i).map f ++ (f i :: ((List.range' (i + 1) (j - i - 1)).map f ++ (f j :: (List.range' (j + 1) (n - j - 1)).map f))) := fun f => by
    unfold lst
    rw [List.range_eq_range', show n = i + (1 + ((j - i - 1) + (1 + (n - j - 1)))) by omega, ← List.range'_append_1, ← List.range'_append_1, ← List.range'_append_1, ← List.range'_append_1]
    rw [show 0 + i = i by omega, show i + 1 + (j - i - 1) = j by omega, show i + (1 + (j - i - 1 + (1 + (n - j - 1)))) - j - 1 = n - j - 1 by omega]
    simp
  rw [e, e, swapF_left, swapF_right]
  have h1 : (List.range' 0 i).map (swapF d i j) = (List.range' 0 i).map d := List.map_congr_left fun k hk => swapF_other (by have := List.mem_range'_1.1 hk; omega) (by have := List.mem_range'_1.1 hk; omega)
  have h2 : (List.range' (i + 1) (j - i - 1)).map (swapF d i j) = (List.range' (i + 1) (j - i - 1)).map d := List.map_congr_left fun k hk => swapF_other (by have := List.mem_range'_1.1 hk; omega) (by have := List.mem_range'_1.1 hk; omega)
  have h3 : (List.range' (j + 1) (n - j - 1)).map (swapF d i j) = (List.range' (j + 1) (n - j - 1)).map d := List.map_congr_left fun k hk => swapF_other (by have := List.mem_range'_1.1 hk; omega) (by have := List.mem_range'_1.1 hk; omega)
  rw [h1, h2, h3]
  refine List.Perm.append_left _ ?_
  generalize (List.range' (i + 1) (j - i - 1)).map d = B
  generalize (List.range' (j + 1) (n - j - 1)).map d = C
  have p1 : (B ++ d i :: C).Perm (d i :: (B ++ C)) := List.perm_middle
  have p2 : (B ++ d j :: C).Perm (d j :: (B ++ C)) := List.perm_middle
  exact ((List.Perm.cons _ p1).trans (List.Perm.swap _ _ _)).trans (List.Perm.cons _ p2.symm)
theorem swapF_comm (d : Fn') (i j : Nat) : swapF d i j = swapF d j i := by
  funext k
  unfold swapF
  by_cases h1 : k = i <;> by_cases h2 : k = j
  · subst h1 h2; rfl
  · subst h1; rw [if_pos rfl, if_neg h2, if_pos rfl]
  · subst h2; rw [if_neg h1, if_pos rfl, if_pos rfl]
  · rw [if_neg h1, if_neg h2, if_neg h2, if_neg h1]
theorem lst_swap {n i j : Nat} (d : Fn') (hi : i < n) (hj : j < n) : (lst n (swapF d i j)).Perm (lst n d) := by
  rcases Nat.lt_trichotomy i j with h | h | h
  · exact lst_swap_lt d h hj
  · subst h
    have : swapF d i i = d := by funext k; unfold swapF; split <;> simp_all
    rw [this]
  · rw [swapF_comm]; exact lst_swap_lt d h hi

/-- Exchanges among the places from a on, ahead of b. -/
inductive PermIn (a b : Nat) (d : Fn') : Fn' → Prop
  | refl : PermIn a b d d
  | swap {d' : Fn'} (i j : Nat) (hi : a ≤ i ∧ i < b) (hj : a ≤ j ∧ j < b) (h : PermIn a b d d') : PermIn a b d (swapF d' i j)
section
variable {a b : Nat} {d d' d'' : Fn'}
theorem PermIn.trans (h : PermIn a b d d') (k : PermIn a b d' d'') : PermIn a b d d'' := by
  induction k with
  | refl => exact h
  | swap i j hi hj _ ih => exact .swap i j hi hj ih
theorem PermIn.mono {a' b' : Nat} (h : PermIn a b d d') (ha : a' ≤ a) (hb : b ≤ b') : PermIn a' b' d d' := by
  induction h with
  | refl => exact .refl
  | swap i j hi hj _ ih => exact .swap i j ⟨by omega, by omega⟩ ⟨by omega, by omega⟩ ih
theorem PermIn.out (h : PermIn a b d d') {k : Nat} (hk : k < a ∨ b ≤ k) : d' k = d k := by
  induction h with
  | refl => rfl
  | swap i j hi hj _ ih => rw [swapF_other (by omega) (by omega), ih]
theorem PermIn.from (h : PermIn a b d d') : ∀ k, a ≤ k → k < b → ∃ j, a ≤ j ∧ j < b ∧ d' k = d j := by
  induction h with
  | refl => exact fun k h1 h2 => ⟨k, h1, h2, rfl⟩
  | swap i j hi hj _ ih =>
    intro k h1 h2
    unfold swapF
    split
    · exact ih j hj.1 hj.2
    · split
      · exact ih i hi.1 hi.2
      · exact ih k h1 h2
theorem PermIn.perm {n : Nat} (h : PermIn a b d d') (hb : b ≤ n) : (lst n d').Perm (lst n d) := by
  induction h with
  | refl => exact List.Perm.refl _
  | swap i j hi hj _ ih => exact (lst_swap _ (by omega) (by omega)).trans ih
end

/-- 'y before x' is out of the question just where x is at most y. -/
structure LtOk (lt : Ty → Ty → Bool) : Prop where
  trans : ∀ x y z, lt y x = false → lt z y = false → lt z x = false
  asymm : ∀ x y, lt x y = true → lt y x = false
def SortedIn (lt : Ty → Ty → Bool) (a b : Nat) (d : Fn') : Prop := ∀ p q, a ≤ p → p < q → q < b → lt (d q) (d p) = false

section
variable {lt : Ty → Ty → Bool} {a b i j : Nat} {d : Fn'}
theorem SortedIn.small (h : b ≤ a + 1) : SortedIn lt a b d := fun p q h1 h2 h3 => by omega
theorem SortedIn.sub {a' b' : Nat} (h : SortedIn lt a b d) (ha : a ≤ a') (hb : b' ≤ b) : SortedIn lt a' b' d := fun p q h1 h2 h3 => h p q (by omega) h2 (by omega)
theorem SortedIn.congr {e : Fn'} (h : SortedIn lt a b d) (he : ∀ k, a ≤ k → k < b → e k = d k) : SortedIn lt a b e := fun p q h1 h2 h3 => by
  rw [he p (by omega) (by omega), he q (by omega) (by omega)]; exact h p q h1 h2 h3

/-! Insertion. -/
def Ins (lt : Ty → Ty → Bool) (a i j : Nat) (d : Fn') : Prop := ∀ p q, a ≤ p → p < q → q ≤ i → q ≠ j → lt (d q) (d p) = false
theorem Ins.start (h : SortedIn lt a i d) : Ins lt a i i d := fun p q h1 h2 h3 h4 => h p q h1 h2 (by omega)
theorem Ins.step (ho : LtOk lt) (h : Ins lt a i j d) (ha : a < j) (hj : j ≤ i) (hlt : lt (d j) (d (j - 1)) = true) : Ins lt a i (j - 1) (swapF d j (j - 1)) := by
  intro p q h1 h2 h3 h4
  by_cases hq : q = j
  · subst hq
    rw [swapF_left]
    by_cases hp : p = q - 1
    · subst hp; rw [swapF_right]; exact ho.asymm _ _ hlt
    · rw [swapF_other (by omega) hp]
      exact h p (q - 1) h1 (by omega) (by omega) (by omega)
  · rw [swapF_other hq h4]
    by_cases hp : p = j
    · subst hp; rw [swapF_left]; exact h (p - 1) q (by omega) (by omega) h3 hq
    · by_cases hp1 : p = j - 1
      · subst hp1; rw [swapF_right]; exact h j q (by omega) (by omega) h3 hq
      · rw [swapF_other hp hp1]; exact h p q h1 h2 h3 hq
theorem Ins.done (ho : LtOk lt) (h : Ins lt a i j d) (hj : j ≤ i) (hlt : a < j → lt (d j) (d (j - 1)) = false) : SortedIn lt a (i + 1) d := by
  intro p q h1 h2 h3
  by_cases hq : q = j
  · subst hq
    have h4 := hlt (by omega)
    by_cases hp : p = q - 1
    · subst hp; exact h4
    · exact ho.trans _ _ _ (h p (q - 1) h1 (by omega) (by omega) (by omega)) h4
  · exact h p q h1 h2 (by omega) hq

/-! One into the right part; one into the left part. -/
theorem mono_right (ho : LtOk lt) {m x : Nat} {v : Ty} (hs : SortedIn lt m b d) {k h : Nat} (hk : m ≤ k) (hkh : k ≤ h) (hh : h < b) (hv : lt (d h) v = true) : lt (d k) v = true := by
  rcases Nat.lt_or_eq_of_le hkh with hlt | rfl
  · cases hc : lt (d k) v with
    | true => rfl
    | false => rw [ho.trans _ _ _ hc (hs k h hk hlt hh)] at hv; cases hv
  · exact hv
theorem mono_right' (ho : LtOk lt) {m : Nat} {v : Ty} (hs : SortedIn lt m b d) {k h : Nat} (hk : m ≤ h) (hkh : h ≤ k) (hh : k < b) (hv : lt (d h) v = false) : lt (d k) v = false := by
  rcases Nat.lt_or_eq_of_le hkh with hlt | rfl
  · exact ho.trans _ _ _ hv (hs h k hk hlt hh)
  · exact hv
theorem mono_left (ho : LtOk lt) {m : Nat} {v : Ty} (hs : SortedIn lt a m d) {k h : Nat} (hk : a ≤ k) (hkh : k ≤ h) (hh : h < m) (hv : lt v (d h) = false) : lt v (d k) = false := by
  rcases Nat.lt_or_eq_of_le hkh with hlt | rfl
  · exact ho.trans _ _ _ (hs k h hk hlt hh) hv
  · exact hv
theorem mono_left' (ho : LtOk lt) {m : Nat} {v : Ty} (hs : SortedIn lt a m d) {k h : Nat} (hk : a ≤ h) (hkh : h ≤ k) (hh : k < m) (hv : lt v (d h) = true) : lt v (d k) = true := by
  cases hc : lt v (d k) with
  | true => rfl
  | false => rw [mono_left ho hs hk hkh hh hc] at hv; cases hv

/-- What stood at a has come to i - 1; what stood between has moved one to the left. -/
theorem sorted_up (ho : LtOk lt) {e : Fn'} (hai : a < i) (hib : i ≤ b) (hs : SortedIn lt (a + 1) b d) (h1 : ∀ k, a + 1 ≤ k → k < i → lt (d k) (d a) = true) (h2 : ∀ k, i ≤ k → k < b → lt (d k) (d a) = false)
    (he1 : ∀ k, a ≤ k → k + 1 < i → e k = d (k + 1)) (he2 : e (i - 1) = d a) (he3 : ∀ k, i ≤ k → k < b → e k = d k) : SortedIn lt a b e := by
  intro p q hp hpq hq
  rcases Nat.lt_trichotomy q (i - 1) with hqi | hqi | hqi
  · rw [he1 p hp (by omega), he1 q (by omega) (by omega)]
    exact hs _ _ (by omega) (by omega) (by omega)
  · subst hqi
    rw [he2, he1 p hp (by omega)]
    exact ho.asymm _ _ (h1 _ (by omega) (by omega))
  · rw [he3 q (by omega) hq]
    rcases Nat.lt_trichotomy p (i - 1) with hpi | hpi | hpi
    · rw [he1 p hp (by omega)]; exact hs _ _ (by omega) (by omega) hq
    · subst hpi; rw [he2]; exact h2 q (by omega) hq
    · rw [he3 p (by omega) (by omega)]; exact hs _ _ (by omega) hpq hq
/-- What stood at m (the last place) has come to i; what stood between has moved one to the right. -/
theorem sorted_down (ho : LtOk lt) {m : Nat} {e : Fn'} (hai : a ≤ i) (him : i ≤ m) (hs : SortedIn lt a m d) (h1 : ∀ k, a ≤ k → k < i → lt (d m) (d k) = false) (h2 : ∀ k, i ≤ k → k < m → lt (d m) (d k) = true)
    (he1 : ∀ k, i < k → k ≤ m → e k = d (k - 1)) (he2 : e i = d m) (he3 : ∀ k, a ≤ k → k < i → e k = d k) : SortedIn lt a (m + 1) e := by
  intro p q hp hpq hq
  rcases Nat.lt_trichotomy q i with hqi | hqi | hqi
  · rw [he3 p hp (by omega), he3 q (by omega) hqi]; exact hs _ _ hp hpq (by omega)
  · subst hqi; rw [he2, he3 p hp hpq]; exact h1 p hp hpq
  · rw [he1 q hqi (by omega)]
    rcases Nat.lt_trichotomy p i with hpi | hpi | hpi
    · rw [he3 p hp hpi]; exact hs _ _ hp (by omega) (by omega)
    · subst hpi; rw [he2]; exact ho.asymm _ _ (h2 _ (by omega) (by omega))
    · rw [he1 p hpi (by omega)]; exact hs _ _ (by omega) (by omega) (by omega)
/-- Two halves, each sorted, the left one nowhere above the right one. -/
theorem sorted_join {m : Nat} (h1 : SortedIn lt a m d) (h2 : SortedIn lt m b d) (h : ∀ p q, a ≤ p → p < m → m ≤ q → q < b → lt (d q) (d p) = false) : SortedIn lt a b d := by
  intro p q hp hpq hq
  by_cases h3 : q < m
  · exact h1 p q hp hpq h3
  · by_cases h4 : p < m
    · exact h p q hp h4 (by omega) hq
    · exact h2 p q (by omega) hpq hq
end

/-! A sorted permutation is one, where what is nowhere above each other is the same. -/
theorem sorted_perm_eq {lt : Ty → Ty → Bool} (ht : ∀ x y, lt x y = false → lt y x = false → x = y) : ∀ (l m : List Ty), l.Pairwise (fun x y => lt y x = false) → m.Pairwise (fun x y => lt y x = false) → l.Perm m → l = m
  | [], m, _, _, hp => by
    have := hp.length_eq
    exact (List.eq_nil_of_length_eq_zero this.symm).symm
  | x :: l, [], _, _, hp => by have := hp.length_eq; simp at this
  | x :: l, y :: m, hl, hm, hp => by
    have hxy : x = y := by
      have h1 : x ∈ y :: m := hp.mem_iff.1 List.mem_cons_self
      have h2 : y ∈ x :: l := hp.mem_iff.2 List.mem_cons_self
      rcases List.mem_cons.1 h1 with h1 | h1
      · exact h1
      · rcases List.mem_cons.1 h2 with h2 | h2
        · exact h2.symm
        · exact ht x y ((List.pairwise_cons.1 hm).1 x h1) ((List.pairwise_cons.1 hl).1 y h2)
    subst hxy
    rw [sorted_perm_eq ht l m (List.pairwise_cons.1 hl).2 (List.pairwise_cons.1 hm).2 ((List.perm_cons x).1 hp)]
theorem lst_sorted {lt : Ty → Ty → Bool} {n : Nat} {d : Fn'} (h : SortedIn lt 0 n d) : (lst n d).Pairwise (fun x y => lt y x = false) := by
  rw [List.pairwise_iff_getElem]
  intro i j hi hj hij
  rw [lst_len] at hi hj
  have e1 := lst_at d hi
  have e2 := lst_at d hj
  rw [List.getElem?_eq_getElem (by rw [lst_len]; exact hi)] at e1
  rw [List.getElem?_eq_getElem (by rw [lst_len]; exact hj)] at e2
  rw [Option.some.inj e1, Option.some.inj e2]
  exact h i j (Nat.zero_le _) hij hj
end Go.Proofs.Ytpdckjbknphelaa

/-
  Ticks as a function of the index, and back: in plain Lean.
-/
namespace Go.Proofs.Ytpdckjbknphelaa
set_option linter.unusedSimpArgs false
set_option linter.unusedVariables false

theorem pair_le {ts : List Tk} (h : ts.Pairwise (fun a b => a.1 < b.1)) : ts.Nodup := h.imp (fun {a b} hab e => by subst e; exact absurd hab (Int.lt_irrefl _))
def ltA (x y : Ty) : Bool := decide (x.1 < y.1 ∨ x.1 = y.1 ∧ x.2 < y.2)
theorem ltA_eq (x y : Ty) (h1 : ltA x y = false) (h2 : ltA y x = false) : x = y := by
  unfold ltA at *
  simp at h1 h2
  exact Prod.ext (by omega) (by omega)
theorem Rise.uniq {ts us : List Tk} {D E : Nat → Int} (h : Rise ts D) (k : Rise us E) (hD : ∀ i, i < 4096 → D i = E i) : ts = us := by
  have key : ∀ {ts us : List Tk} {D E : Nat → Int}, Rise ts D → Rise us E → (∀ i, i < 4096 → D i = E i) → ∀ t, t ∈ ts → t ∈ us := fun {ts us D E} h k hD t ht => by
    obtain ⟨b0, b1, b2⟩ := h.bd t ht
    have hi : ((t.1.toNat : Nat) : Int) = t.1 := by omega
    have h1 := (h.iff t.1.toNat (by omega) t.2).1 (by rw [hi]; exact ht)
    have h2 := (k.iff t.1.toNat (by omega) t.2).2 (by rw [← hD _ (by omega)]; exact h1)
    rw [hi] at h2
    exact h2
  have hp : ts.Perm us := (List.perm_ext_iff_of_nodup (pair_le h.up) (pair_le k.up)).2 fun t => ⟨key h k hD t, key k h (fun i hi => (hD i hi).symm) t⟩
  have hs : ∀ {l : List Tk}, l.Pairwise (fun a b => a.1 < b.1) → l.Pairwise (fun x y => ltA y x = false) := fun {l} hl => hl.imp (fun {a b} hab => by
    unfold ltA
    have : a.1 < b.1 := hab
    simp; omega)
  exact sorted_perm_eq ltA_eq ts us (hs h.up) (hs k.up) hp

theorem mem_tickD {g : Nat → Int} {t : Tk} : ∀ {k : Nat}, t ∈ tickD g k ↔ ∃ i, i < k ∧ t = ((i : Int), g i) ∧ 0 < g i
  | 0 => ⟨fun h => (by cases h), fun ⟨i, hi, _⟩ => absurd hi (Nat.not_lt_zero _)⟩
  | k + 1 => by
    unfold tickD
    rw [List.mem_append, mem_tickD]
    constructor
    · rintro (⟨i, hi, e, hp⟩ | h)
      · exact ⟨i, by omega, e, hp⟩
      · by_cases hp : 0 < g k
        · rw [if_pos hp, List.mem_singleton] at h
          exact ⟨k, by omega, h, hp⟩
        · rw [if_neg hp] at h; cases h
    · rintro ⟨i, hi, e, hp⟩
      by_cases hik : i = k
      · subst hik
        rw [if_pos hp, List.mem_singleton]
        exact Or.inr e
      · exact Or.inl ⟨i, by omega, e, hp⟩
theorem tickD_up (g : Nat → Int) : ∀ k, (tickD g k).Pairwise (fun a b => a.1 < b.1)
  | 0 => List.Pairwise.nil
  | k + 1 => by
    unfold tickD
    rw [List.pairwise_append]
    refine ⟨tickD_up g k, by split <;> simp, fun a ha b hb => ?_⟩
    obtain ⟨i, hi, rfl, _⟩ := mem_tickD.1 ha
    split at hb
    · rw [List.mem_singleton] at hb
      subst hb
      show (i : Int) < (k : Int)
      omega
    · cases hb
theorem tickD_rise {g : Nat → Int} (hg : ∀ i, 0 ≤ g i) : Rise (tickD g 4096) g := by
  refine ⟨tickD_up g 4096, fun t ht => ?_, fun i hi d => ?_⟩
  · obtain ⟨i, hi, rfl, hp⟩ := mem_tickD.1 ht
    exact ⟨Int.natCast_nonneg i, Int.ofNat_lt.2 hi, hp⟩
  · rw [mem_tickD]
    constructor
    · rintro ⟨j, hj, e, hp⟩
      have e1 : (i : Int) = (j : Int) := congrArg Prod.fst e
      have e2 : d = g j := congrArg Prod.snd e
      obtain rfl : i = j := by omega
      exact ⟨e2.symm, by omega⟩
    · rintro ⟨rfl, hd⟩
      exact ⟨i, hi, rfl, by have := hg i; omega⟩
theorem tickD_congr {g h : Nat → Int} : ∀ {k : Nat}, (∀ i, i < k → g i = h i) → tickD g k = tickD h k
  | 0, _ => rfl
  | k + 1, e => by
    unfold tickD
    rw [tickD_congr (fun i hi => e i (by omega)), e k (by omega)]

/-- When each index is due, of ticks. -/
def duF (ts : List Tk) : Nat → Int := ts.foldl (fun g t => updD g t.1.toNat t.2) (fun _ => 0)
theorem duF_step {ts : List Tk} {k : Nat} {t : Tk} (h : ts[k]? = some t) : duF (ts.take (k + 1)) = updD (duF (ts.take k)) t.1.toNat t.2 := by
  unfold duF
  rw [List.take_add_one, h, Option.toList_some, List.foldl_append]
  rfl
theorem fold_at : ∀ (ts : List Tk) (g : Nat → Int), ts.Pairwise (fun a b => a.1 < b.1) → (∀ t ∈ ts, 0 ≤ t.1) → (∀ t ∈ ts, ts.foldl (fun g t => updD g t.1.toNat t.2) g t.1.toNat = t.2) ∧ ∀ i : Nat, (∀ t ∈ ts, t.1 ≠ (i : Int)) → ts.foldl (fun g t => updD g t.1.toNat t.2) g i = g i
  | [], g, _, _ => ⟨fun t h => (by cases h), fun i _ => rfl⟩
  | u :: r, g, hp, h0 => by
    rw [List.pairwise_cons] at hp
    obtain ⟨h1, h2⟩ := fold_at r (updD g u.1.toNat u.2) hp.2 (fun t ht => h0 t (List.mem_cons_of_mem _ ht))
    have hu := h0 u List.mem_cons_self
    refine ⟨fun t ht => ?_, fun i hi => ?_⟩
    · rw [List.foldl_cons]
      rcases List.mem_cons.1 ht with rfl | ht
      · rw [h2 _ (fun v hv => by have := hp.1 v hv; omega), updD_same]
      · exact h1 t ht
    · rw [List.foldl_cons, h2 i (fun t ht => hi t (List.mem_cons_of_mem _ ht)), updD_other (by have := hi u List.mem_cons_self; omega)]
theorem tOk_inv : ∀ {ts : List Tk} {last : Int}, tOk last ts = true → ts.Pairwise (fun a b => a.1 < b.1) ∧ ∀ t ∈ ts, last < t.1 ∧ t.1 < 4096 ∧ 1 ≤ t.2 ∧ t.2 ≤ 2199023255552
  | [], _, _ => ⟨List.Pairwise.nil, fun t h => by cases h⟩
  | u :: r, last, h => by
    unfold tOk tickOk at h
    rw [Bool.and_eq_true, decide_eq_true_iff] at h
    obtain ⟨h1, h2⟩ := tOk_inv h.2
    refine ⟨List.pairwise_cons.2 ⟨fun t ht => (h2 t ht).1, h1⟩, fun t ht => ?_⟩
    rcases List.mem_cons.1 ht with rfl | ht
    · exact h.1
    · obtain ⟨a, b⟩ := h2 t ht
      exact ⟨by omega, b⟩
theorem tOk_rise {ts : List Tk} (h : tOk (-1) ts = true) : Rise ts (duF ts) := by
  obtain ⟨h1, h2⟩ := tOk_inv h
  obtain ⟨k1, k2⟩ := fold_at ts (fun _ => 0) h1 (fun t ht => by have := (h2 t ht).1; omega)
  refine ⟨h1, fun t ht => by have := h2 t ht; omega, fun i hi d => ?_⟩
  constructor
  · intro hm
    have := k1 _ hm
    simp only [Int.toNat_natCast] at this
    exact ⟨this, by have := (h2 _ hm).2.2.1; simp only at this; omega⟩
  · rintro ⟨e, hd⟩
    by_cases hx : ∃ t ∈ ts, t.1 = (i : Int)
    · obtain ⟨t, ht, e2⟩ := hx
      have := k1 t ht
      rw [e2, Int.toNat_natCast] at this
      have e3 : t = ((i : Int), d) := Prod.ext e2 (this.symm.trans e)
      rw [← e3]; exact ht
    · have := k2 i (fun t ht e2 => hx ⟨t, ht, e2⟩)
      exact absurd (e.symm.trans this) hd
theorem duF_ok {ts : List Tk} (h : tOk (-1) ts = true) (i : Nat) : 0 ≤ duF ts i ∧ duF ts i ≤ 2199023255552 := by
  obtain ⟨h1, h2⟩ := tOk_inv h
  obtain ⟨k1, k2⟩ := fold_at ts (fun _ => 0) h1 (fun t ht => by have := (h2 t ht).1; omega)
  by_cases hx : ∃ t ∈ ts, t.1 = (i : Int)
  · obtain ⟨t, ht, e2⟩ := hx
    have := k1 t ht
    rw [e2, Int.toNat_natCast] at this
    have h3 := h2 t ht
    unfold duF
    rw [this]; omega
  · have := k2 i (fun t ht e2 => hx ⟨t, ht, e2⟩)
    unfold duF
    rw [this]; omega
theorem ticks_back {ts : List Tk} (h : tOk (-1) ts = true) : tickD (duF ts) 4096 = ts := (tickD_rise (fun i => (duF_ok h i).1)).uniq (tOk_rise h) (fun _ _ => rfl)
theorem checkE_inv {ce li : Nat → Int × Int} {ts : List Tk} (h : checkE ce li ts = 0) : (∀ i, i < 4096 → mayC ce i = true) ∧ (∀ i, i < 4096 → litC li i = true) ∧ tOk (-1) ts = true := by
  unfold checkE at h
  split at h
  · rename_i h1
    split at h
    · rename_i h2
      split at h
      · rename_i h3
        exact ⟨(allN_iff _ _).1 h1, (allN_iff _ _).1 h2, h3⟩
      · cases h
    · cases h
  · cases h
end Go.Proofs.Ytpdckjbknphelaa
