/-
  Lists of ticks, in plain Lean: where an index's tick stands; what Wake, Drop, Due and Least make of a list.
-/
import Derived.Test.YtlaodkolkoefgaaBase
namespace Go.Proofs.Ytlaodkolkoefgaa
set_option linter.unusedSimpArgs false
set_option linter.unusedVariables false

abbrev Tk := Int × Int

def placeL (ts : List Tk) (x : Int) : Option Nat := if 0 ≤ x ∧ x < 4096 then ts.findIdx? (fun t => t.1 == x) else none
def optI : Option Nat → Int
  | some k => k
  | none => -1

theorem findIdx?_first {ts : List Tk} {p : Tk → Bool} {k : Nat} {t : Tk} (ht : ts[k]? = some t) (hp : p t = true) (hb : ∀ (j : Nat) (t' : Tk), j < k → ts[j]? = some t' → p t' = false) : ts.findIdx? p = some k := by
  rw [List.findIdx?_eq_some_iff_getElem]
  obtain ⟨hk, e⟩ := List.getElem?_eq_some_iff.1 ht
  refine ⟨hk, by rw [e]; exact hp, fun j hj => ?_⟩
  have := hb j ts[j] hj (List.getElem?_eq_getElem (by omega))
  rw [this]; simp
theorem findIdx?_no {ts : List Tk} {p : Tk → Bool} (hb : ∀ (j : Nat) (t' : Tk), ts[j]? = some t' → p t' = false) : ts.findIdx? p = none := by
  rw [List.findIdx?_eq_none_iff]
  intro t ht
  obtain ⟨j, hj, e⟩ := List.getElem_of_mem ht
  exact hb j t (by rw [List.getElem?_eq_getElem hj, e])

theorem placeL_some {ts : List Tk} {x : Int} {k : Nat} {t : Tk} (h0 : 0 ≤ x) (h1 : x < 4096) (ht : ts[k]? = some t) (hx : t.1 = x) (hb : ∀ (j : Nat) (t' : Tk), j < k → ts[j]? = some t' → t'.1 ≠ x) : placeL ts x = some k := by
  unfold placeL
  rw [if_pos ⟨h0, h1⟩]
  exact findIdx?_first ht (by simp [hx]) (fun j t' hj h => by simpa using hb j t' hj h)
theorem placeL_none {ts : List Tk} {x : Int} (hb : ∀ (j : Nat) (t' : Tk), ts[j]? = some t' → t'.1 ≠ x) : placeL ts x = none := by
  unfold placeL
  split
  · exact findIdx?_no (fun j t' h => by simpa using hb j t' h)
  · rfl
theorem placeL_out {ts : List Tk} {x : Int} (h : ¬ (0 ≤ x ∧ x < 4096)) : placeL ts x = none := by unfold placeL; rw [if_neg h]
theorem placeL_inv {ts : List Tk} {x : Int} {k : Nat} (h : placeL ts x = some k) : 0 ≤ x ∧ x < 4096 ∧ k < ts.length ∧ ∃ t, ts[k]? = some t ∧ t.1 = x ∧ ∀ (j : Nat) (t' : Tk), j < k → ts[j]? = some t' → t'.1 ≠ x := by
  unfold placeL at h
  split at h
  · rename_i hx
    rw [List.findIdx?_eq_some_iff_getElem] at h
    obtain ⟨hk, hp, hb⟩ := h
    refine ⟨hx.1, hx.2, hk, ts[k], List.getElem?_eq_getElem hk, by simpa using hp, fun j t' hj h' => ?_⟩
    have := hb j hj
    obtain ⟨hj', e⟩ := List.getElem?_eq_some_iff.1 h'
    rw [e] at this
    simpa using this
  · cases h
theorem placeL_none_inv {ts : List Tk} {x : Int} (h0 : 0 ≤ x) (h1 : x < 4096) (h : placeL ts x = none) : ∀ (j : Nat) (t' : Tk), ts[j]? = some t' → t'.1 ≠ x := by
  unfold placeL at h
  rw [if_pos ⟨h0, h1⟩, List.findIdx?_eq_none_iff] at h
  intro j t' ht
  have := h t' (List.mem_of_getElem? ht)
  simpa using this
theorem optI_lt {ts : List Tk} {x : Int} : -1 ≤ optI (placeL ts x) ∧ optI (placeL ts x) < ts.length := by
  cases h : placeL ts x with
  | none => simp [optI]; omega
  | some k => have := (placeL_inv h).2.2.1; simp [optI]; omega

def dueL (ts : List Tk) (x : Int) : Int := match placeL ts x with
  | some k => (ts.getD k (0, 0)).2
  | none => 0
theorem dueL_some {ts : List Tk} {x : Int} {k : Nat} {t : Tk} (h : placeL ts x = some k) (ht : ts[k]? = some t) : dueL ts x = t.2 := by
  unfold dueL; rw [h]; simp [List.getD, ht]
theorem dueL_none {ts : List Tk} {x : Int} (h : placeL ts x = none) : dueL ts x = 0 := by unfold dueL; rw [h]

/-- Where a tick of index x would be put. -/
def upL (ts : List Tk) (x : Int) : Nat := (ts.findIdx? (fun t => decide (x < t.1))).getD ts.length
theorem upL_le (ts : List Tk) (x : Int) : upL ts x ≤ ts.length := by
  unfold upL
  cases h : ts.findIdx? (fun t => decide (x < t.1)) with
  | none => simp
  | some k =>
    rw [List.findIdx?_eq_some_iff_getElem] at h
    obtain ⟨hk, _⟩ := h
    simp; omega
theorem upL_before {ts : List Tk} {x : Int} {j : Nat} {t : Tk} (hj : j < upL ts x) (ht : ts[j]? = some t) : t.1 ≤ x := by
  unfold upL at hj
  cases h : ts.findIdx? (fun t => decide (x < t.1)) with
  | none =>
    rw [List.findIdx?_eq_none_iff] at h
    have := h t (List.mem_of_getElem? ht)
    simpa using this
  | some k =>
    rw [h] at hj
    rw [List.findIdx?_eq_some_iff_getElem] at h
    obtain ⟨hk, _, hb⟩ := h
    have := hb j (by simpa using hj)
    obtain ⟨hj', e⟩ := List.getElem?_eq_some_iff.1 ht
    rw [e] at this
    simpa using this
theorem upL_at {ts : List Tk} {x : Int} {t : Tk} (ht : ts[upL ts x]? = some t) : x < t.1 := by
  unfold upL at ht
  cases h : ts.findIdx? (fun t => decide (x < t.1)) with
  | none =>
    rw [h] at ht
    simp at ht
  | some k =>
    rw [h] at ht
    rw [List.findIdx?_eq_some_iff_getElem] at h
    obtain ⟨hk, hp, _⟩ := h
    simp only [Option.getD_some] at ht
    obtain ⟨hj', e⟩ := List.getElem?_eq_some_iff.1 ht
    rw [e] at hp
    simpa using hp
theorem upL_eq {ts : List Tk} {x : Int} {k : Nat} (hk : k ≤ ts.length) (hb : ∀ (j : Nat) (t' : Tk), j < k → ts[j]? = some t' → t'.1 ≤ x) (ha : ∀ (t : Tk), ts[k]? = some t → x < t.1) : upL ts x = k := by
  rcases Nat.lt_trichotomy (upL ts x) k with h | h | h
  · exfalso
    have hlt : upL ts x < ts.length := by omega
    have h1 := upL_at (List.getElem?_eq_getElem hlt)
    have h2 := hb _ _ h (List.getElem?_eq_getElem hlt)
    omega
  · exact h
  · exfalso
    have hlt : k < ts.length := by have := upL_le ts x; omega
    have h1 := upL_before h (List.getElem?_eq_getElem hlt)
    have h2 := ha _ (List.getElem?_eq_getElem hlt)
    omega

def insL (ts : List Tk) (k : Nat) (t : Tk) : List Tk := ts.take k ++ t :: ts.drop k
def minI (a b : Int) : Int := if b < a then b else a

def wakeOk (x d : Int) : Bool := decide (0 ≤ x ∧ x < 4096 ∧ 1 ≤ d)
def wakeL (ts : List Tk) (x d : Int) : List Tk :=
  if wakeOk x d then (match placeL ts x with
    | some k => ts.set k (x, minI (ts.getD k (0, 0)).2 d)
    | none => insL ts (upL ts x) (x, d)) else ts
theorem wakeL_no {ts : List Tk} {x d : Int} (h : ¬ (0 ≤ x ∧ x < 4096 ∧ 1 ≤ d)) : wakeL ts x d = ts := by unfold wakeL; rw [if_neg]; simpa [wakeOk] using h
theorem wakeL_set {ts : List Tk} {x d : Int} {k : Nat} {t : Tk} (hd : 1 ≤ d) (h : placeL ts x = some k) (ht : ts[k]? = some t) : wakeL ts x d = ts.set k (x, minI t.2 d) := by
  obtain ⟨h0, h1, _⟩ := placeL_inv h
  unfold wakeL
  rw [if_pos (by simp [wakeOk]; omega), h]
  simp [List.getD, ht]
theorem wakeL_ins {ts : List Tk} {x d : Int} (h0 : 0 ≤ x) (h1 : x < 4096) (hd : 1 ≤ d) (h : placeL ts x = none) : wakeL ts x d = insL ts (upL ts x) (x, d) := by
  unfold wakeL
  rw [if_pos (by simp [wakeOk]; omega), h]
theorem wakeL_len (ts : List Tk) (x d : Int) : (wakeL ts x d).length ≤ ts.length + 1 := by
  unfold wakeL
  split
  · split
    · simp
    · have := upL_le ts x
      simp [insL, List.length_take, List.length_drop]; omega
  · omega

def dropL (ts : List Tk) (x : Int) : List Tk := match placeL ts x with
  | some k => ts.eraseIdx k
  | none => ts
theorem dropL_len (ts : List Tk) (x : Int) : (dropL ts x).length ≤ ts.length := by
  unfold dropL
  split
  · rw [List.length_eraseIdx]; split <;> omega
  · omega

def leastL : List Tk → Int
  | [] => 0
  | t :: r => r.foldl (fun m u => if u.2 < m then u.2 else m) t.2
theorem leastL_step {ts : List Tk} {k : Nat} {t : Tk} (ht : ts[k]? = some t) : leastL (ts.take (k + 1)) = if k = 0 then t.2 else if t.2 < leastL (ts.take k) then t.2 else leastL (ts.take k) := by
  obtain ⟨hk, e⟩ := List.getElem?_eq_some_iff.1 ht
  rw [List.take_succ_eq_append_getElem hk, e]
  cases ts with
  | nil => simp at hk
  | cons u r =>
    cases k with
    | zero => simp [leastL] at *
    | succ k =>
      simp only [List.take_succ_cons, List.cons_append, leastL, List.foldl_append, List.foldl_cons, List.foldl_nil]
      rw [if_neg (show ¬ (k + 1 = 0) by omega)]
      rfl
end Go.Proofs.Ytlaodkolkoefgaa
