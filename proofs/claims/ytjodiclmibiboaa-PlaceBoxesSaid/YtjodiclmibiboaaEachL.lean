/-
  The places of a box, in plain numbers: how many, and that each is there once.
-/
import Derived.Test.YtjodiclmibiboaaEach
namespace Go.Proofs.Ytjodiclmibiboaa
open Go.RowKit Go.Shelf
set_option linter.unusedSimpArgs false
set_option linter.unusedVariables false

theorem rx_len : ∀ (n : Nat) (x y z : Int), (rx n x y z).length = n
  | 0, _, _, _ => rfl
  | n + 1, x, y, z => by simp [rx, rx_len n]
theorem rz_len (nx : Nat) (x : Int) : ∀ (n : Nat) (y z : Int), (rz nx x n y z).length = n * nx
  | 0, _, _ => by simp [rz]
  | n + 1, y, z => by rw [rz, List.length_append, rx_len, rz_len nx x n, Nat.succ_mul]; omega
theorem ry_len (nx nz : Nat) (x z : Int) : ∀ (n : Nat) (y : Int), (ry nx nz x z n y).length = n * (nz * nx)
  | 0, _ => by simp [ry]
  | n + 1, y => by rw [ry, List.length_append, rz_len, ry_len nx nz x z n, Nat.succ_mul]; omega

/-- How often p comes. -/
def cnt (p : P3) (l : List P3) : Nat := l.countP (fun q => decide (q = p))
theorem cnt_append (p : P3) (l m : List P3) : cnt p (l ++ m) = cnt p l + cnt p m := List.countP_append
theorem cnt_cons (p q : P3) (l : List P3) : cnt p (q :: l) = cnt p l + if q = p then 1 else 0 := by unfold cnt; rw [List.countP_cons]; simp
theorem cnt_snoc (p q : P3) (l : List P3) : cnt p (l ++ [q]) = cnt p l + if q = p then 1 else 0 := by rw [cnt_append, cnt_cons]; simp [cnt]

theorem cnt_rx (p q r : Int) : ∀ (n : Nat) (x y z : Int), cnt (p, q, r) (rx n x y z) = if (q = y ∧ r = z) ∧ (x ≤ p ∧ p < x + n) then 1 else 0
  | 0, x, y, z => by rw [if_neg (by omega)]; rfl
  | n + 1, x, y, z => by
    rw [rx, cnt_cons, cnt_rx p q r n]
    by_cases h1 : q = y ∧ r = z
    · by_cases h2 : x = p
      · rw [if_neg (by omega), if_pos (by rw [h1.1, h1.2, h2]), if_pos (by omega)]
      · have hne : ¬ ((x, y, z) : P3) = (p, q, r) := fun h => h2 (by simp only [Prod.mk.injEq] at h; exact h.1)
        by_cases h3 : x + 1 ≤ p ∧ p < x + 1 + n
        · rw [if_pos ⟨h1, h3⟩, if_neg hne, if_pos (by omega)]
        · rw [if_neg (fun h => h3 h.2), if_neg hne, if_neg (by omega)]
    · rw [if_neg (fun h => h1 h.1), if_neg (fun h => h1 (by simp only [Prod.mk.injEq] at h; omega)), if_neg (fun h => h1 h.1)]
theorem cnt_rz (p q r : Int) (nx : Nat) (x : Int) : ∀ (n : Nat) (y z : Int), cnt (p, q, r) (rz nx x n y z) = if (q = y ∧ (z ≤ r ∧ r < z + n)) ∧ (x ≤ p ∧ p < x + nx) then 1 else 0
  | 0, y, z => by rw [if_neg (by omega)]; rfl
  | n + 1, y, z => by
    rw [rz, cnt_append, cnt_rx, cnt_rz p q r nx x n]
    by_cases h1 : q = y ∧ (x ≤ p ∧ p < x + nx)
    · by_cases h2 : r = z
      · rw [if_pos (by omega), if_neg (by omega), if_pos (by omega)]
      · by_cases h3 : z + 1 ≤ r ∧ r < z + 1 + n
        · rw [if_neg (by omega), if_pos (by omega), if_pos (by omega)]
        · rw [if_neg (by omega), if_neg (by omega), if_neg (by omega)]
    · rw [if_neg (by omega), if_neg (by omega), if_neg (by omega)]
theorem cnt_ry (p q r : Int) (nx nz : Nat) (x z : Int) : ∀ (n : Nat) (y : Int), cnt (p, q, r) (ry nx nz x z n y) = if ((y ≤ q ∧ q < y + n) ∧ (z ≤ r ∧ r < z + nz)) ∧ (x ≤ p ∧ p < x + nx) then 1 else 0
  | 0, y => by rw [if_neg (by omega)]; rfl
  | n + 1, y => by
    rw [ry, cnt_append, cnt_rz, cnt_ry p q r nx nz x z n]
    by_cases h1 : (z ≤ r ∧ r < z + nz) ∧ (x ≤ p ∧ p < x + nx)
    · by_cases h2 : q = y
      · rw [if_pos (by omega), if_neg (by omega), if_pos (by omega)]
      · by_cases h3 : y + 1 ≤ q ∧ q < y + 1 + n
        · rw [if_neg (by omega), if_pos (by omega), if_pos (by omega)]
        · rw [if_neg (by omega), if_neg (by omega), if_neg (by omega)]
    · rw [if_neg (by omega), if_neg (by omega), if_neg (by omega)]

theorem mn_swap (a b : Int) : mnI a b = mnI b a := by unfold mnI; split <;> split <;> omega
theorem mx_swap (a b : Int) : mxI a b = mxI b a := by unfold mxI; split <;> split <;> omega
theorem boxN_swap (a b : Int) : boxN a b = boxN b a := by unfold boxN; rw [mn_swap, mx_swap]
theorem boxOk_swap (x y z a b c : Int) : boxOk x y z a b c = boxOk a b c x y z := by
  unfold boxOk boxLong
  rw [boxN_swap x a, boxN_swap y b, boxN_swap z c, Bool.and_comm (mayB x y z)]
theorem boxPts_swap (x y z a b c : Int) : boxPts x y z a b c = boxPts a b c x y z := by
  unfold boxPts
  rw [boxOk_swap, boxN_swap x a, boxN_swap y b, boxN_swap z c, mn_swap x a, mn_swap y b, mn_swap z c]

theorem boxN_pos (a b : Int) : 1 ≤ boxN a b := by have := mxmn a b; unfold boxN; omega
theorem boxPts_len {x y z a b c : Int} (h : boxOk x y z a b c = true) : ((boxPts x y z a b c).length : Int) = boxMany x y z a b c := by
  unfold boxPts boxMany
  rw [if_pos h, if_pos h, ry_len]
  have h1 := boxN_pos x a
  have h2 := boxN_pos y b
  have h3 := boxN_pos z c
  have e1 : ((boxN x a).toNat : Int) = boxN x a := by omega
  have e2 : ((boxN y b).toNat : Int) = boxN y b := by omega
  have e3 : ((boxN z c).toNat : Int) = boxN z c := by omega
  rw [Int.natCast_mul, Int.natCast_mul, e1, e2, e3]
  ac_rfl

def inBox (x y z a b c p q r : Int) : Prop := (mnI x a ≤ p ∧ p ≤ mxI x a) ∧ (mnI y b ≤ q ∧ q ≤ mxI y b) ∧ (mnI z c ≤ r ∧ r ≤ mxI z c)
open Classical in
theorem boxPts_cnt {x y z a b c : Int} (h : boxOk x y z a b c = true) (p q r : Int) : cnt (p, q, r) (boxPts x y z a b c) = if inBox x y z a b c p q r then 1 else 0 := by
  unfold boxPts inBox
  rw [if_pos h, cnt_ry]
  have h1 := mxmn x a
  have h2 := mxmn y b
  have h3 := mxmn z c
  have e1 : ((boxN x a).toNat : Int) = mxI x a - mnI x a + 1 := by unfold boxN; omega
  have e2 : ((boxN y b).toNat : Int) = mxI y b - mnI y b + 1 := by unfold boxN; omega
  have e3 : ((boxN z c).toNat : Int) = mxI z c - mnI z c + 1 := by unfold boxN; omega
  rw [e1, e2, e3]
  by_cases hb : (mnI x a ≤ p ∧ p ≤ mxI x a) ∧ (mnI y b ≤ q ∧ q ≤ mxI y b) ∧ (mnI z c ≤ r ∧ r ≤ mxI z c)
  · rw [if_pos hb, if_pos (by omega)]
  · rw [if_neg hb, if_neg (by omega)]
theorem boxPts_le (x y z a b c : Int) : (boxPts x y z a b c).length ≤ 4096 := by
  cases h : boxOk x y z a b c
  · have : boxPts x y z a b c = [] := by unfold boxPts; rw [h]; rfl
    rw [this]; simp
  · have e := boxPts_len h
    unfold boxMany at e
    rw [if_pos h] at e
    unfold boxOk boxLong at h
    simp only [Bool.and_eq_true, Bool.not_eq_true', Bool.or_eq_false_iff, decide_eq_false_iff_not] at h
    omega
end Go.Proofs.Ytjodiclmibiboaa
