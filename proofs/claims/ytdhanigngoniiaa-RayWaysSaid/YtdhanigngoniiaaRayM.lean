/-
  The way of a ray, in plain numbers: what is computed, that it does not ask how long it is to be, that a direction three times as long goes the same, and that it keeps to the straight line.
-/
import Derived.Test.YtdhanigngoniiaaStep
namespace Go.Proofs.Ytdhanigngoniiaa
open Go.RowKit
set_option linter.unusedSimpArgs false
set_option linter.unusedVariables false

def sizeI (n : Int) : Int := if n < 0 then -n else n

/-- The axis that crosses next, out of sizes (X, Y, Z) and what comes next on each. The order is X, Z, Y; k axes have been looked at. -/
def bst (s0 s1 s2 a b c : Int) : Nat → Int
  | 0 => -1
  | 1 => if 0 < s0 then 0 else -1
  | 2 => if 0 < s2 ∧ (¬ 0 < s0 ∨ c * s0 < a * s2) then 2 else if 0 < s0 then 0 else -1
  | _ => if 0 < s1 ∧ (if 0 < s2 ∧ (¬ 0 < s0 ∨ c * s0 < a * s2) then b * s2 < c * s1 else (0 < s0 → b * s0 < a * s1)) then 1 else if 0 < s2 ∧ (¬ 0 < s0 ∨ c * s0 < a * s2) then 2 else if 0 < s0 then 0 else -1

def dirI (d0 d1 d2 best : Int) : Int := if best = 0 then (if d0 < 0 then 1 else 0) else if best = 1 then (if d1 < 0 then 5 else 4) else (if d2 < 0 then 3 else 2)

structure RS where
  x : Int
  y : Int
  z : Int
  a : Int
  b : Int
  c : Int

def RS.best (d0 d1 d2 : Int) (s : RS) : Int := bst (sizeI d0) (sizeI d1) (sizeI d2) s.a s.b s.c 3
def RS.dir (d0 d1 d2 : Int) (s : RS) : Int := dirI d0 d1 d2 (s.best d0 d1 d2)
def RS.ok (d0 d1 d2 : Int) (s : RS) : Bool := stepOk s.x s.y s.z (s.dir d0 d1 d2)
def RS.next (d0 d1 d2 : Int) (s : RS) : RS :=
  { x := stepX s.x (s.dir d0 d1 d2), y := stepY s.y (s.dir d0 d1 d2), z := stepZ s.z (s.dir d0 d1 d2),
    a := if s.best d0 d1 d2 = 0 then s.a + 2 else s.a, b := if s.best d0 d1 d2 = 1 then s.b + 2 else s.b, c := if s.best d0 d1 d2 = 2 then s.c + 2 else s.c }

def wayL (d0 d1 d2 : Int) : Nat → RS → List (Int × Int × Int)
  | 0, _ => []
  | k + 1, s => if s.ok d0 d1 d2 then ((s.next d0 d1 d2).x, (s.next d0 d1 d2).y, (s.next d0 d1 d2).z) :: wayL d0 d1 d2 k (s.next d0 d1 d2) else []

def start (x y z : Int) : RS := ⟨x, y, z, 1, 1, 1⟩

/-- Is the way asked for? 10: no place; 2: no direction or length. -/
def wayE (x y z d0 d1 d2 n : Int) : Int :=
  if mayB x y z then (if n < 0 ∨ 256 < n ∨ (d0 = 0 ∧ d1 = 0 ∧ d2 = 0) ∨ d0 < -1000 ∨ 1000 < d0 ∨ d1 < -1000 ∨ 1000 < d1 ∨ d2 < -1000 ∨ 1000 < d2 then 2 else 0) else 10

def wayP (x y z d0 d1 d2 n : Int) : List (Int × Int × Int) := if wayE x y z d0 d1 d2 n = 0 then wayL d0 d1 d2 n.toNat (start x y z) else []

theorem wayL_le (d0 d1 d2 : Int) : ∀ (k : Nat) (s : RS), (wayL d0 d1 d2 k s).length ≤ k
  | 0, _ => Nat.le_refl _
  | k + 1, s => by
    unfold wayL
    split
    · simp only [List.length_cons]; have := wayL_le d0 d1 d2 k (s.next d0 d1 d2); omega
    · simp

/-- A shorter way is the beginning of a longer one. -/
theorem wayL_take (d0 d1 d2 : Int) : ∀ (k m : Nat) (s : RS), k ≤ m → wayL d0 d1 d2 k s = (wayL d0 d1 d2 m s).take k
  | 0, m, s, _ => by simp [wayL]
  | k + 1, m + 1, s, h => by
    unfold wayL
    split
    · rw [List.take_succ_cons, wayL_take d0 d1 d2 k m _ (by omega)]
    · simp

theorem wayL_short (d0 d1 d2 : Int) : ∀ (k m : Nat) (s : RS), k ≤ m → (wayL d0 d1 d2 k s).length < k → wayL d0 d1 d2 m s = wayL d0 d1 d2 k s
  | k + 1, m + 1, s, h, hl => by
    unfold wayL at hl ⊢
    split
    · rename_i ho
      rw [if_pos ho, List.length_cons] at hl
      rw [wayL_short d0 d1 d2 k m _ (by omega) (by omega)]
    · rfl

theorem bst_three (s0 s1 s2 a b c : Int) : bst (3 * s0) (3 * s1) (3 * s2) a b c 3 = bst s0 s1 s2 a b c 3 := by
  have e0 : (0 < 3 * s0) = (0 < s0) := propext (by omega)
  have e1 : (0 < 3 * s1) = (0 < s1) := propext (by omega)
  have e2 : (0 < 3 * s2) = (0 < s2) := propext (by omega)
  have f1 : (c * (3 * s0) < a * (3 * s2)) = (c * s0 < a * s2) := propext (by rw [show c * (3 * s0) = 3 * (c * s0) by rw [Int.mul_left_comm], show a * (3 * s2) = 3 * (a * s2) by rw [Int.mul_left_comm]]; omega)
  have f2 : (b * (3 * s2) < c * (3 * s1)) = (b * s2 < c * s1) := propext (by rw [show b * (3 * s2) = 3 * (b * s2) by rw [Int.mul_left_comm], show c * (3 * s1) = 3 * (c * s1) by rw [Int.mul_left_comm]]; omega)
  have f3 : (b * (3 * s0) < a * (3 * s1)) = (b * s0 < a * s1) := propext (by rw [show b * (3 * s0) = 3 * (b * s0) by rw [Int.mul_left_comm], show a * (3 * s1) = 3 * (a * s1) by rw [Int.mul_left_comm]]; omega)
  simp only [bst, e0, e1, e2, f1, f2, f3]

theorem sizeI_three (d : Int) : sizeI (3 * d) = 3 * sizeI d := by unfold sizeI; split <;> split <;> omega

theorem wayL_three (d0 d1 d2 : Int) : ∀ (k : Nat) (s : RS), wayL (3 * d0) (3 * d1) (3 * d2) k s = wayL d0 d1 d2 k s
  | 0, _ => rfl
  | k + 1, s => by
    have hb : s.best (3 * d0) (3 * d1) (3 * d2) = s.best d0 d1 d2 := by unfold RS.best; rw [sizeI_three, sizeI_three, sizeI_three, bst_three]
    have hd : s.dir (3 * d0) (3 * d1) (3 * d2) = s.dir d0 d1 d2 := by
      unfold RS.dir; rw [hb]; unfold dirI
      simp only [show (3 * d0 < 0) = (d0 < 0) from propext (by omega), show (3 * d1 < 0) = (d1 < 0) from propext (by omega), show (3 * d2 < 0) = (d2 < 0) from propext (by omega)]
    have ho : s.ok (3 * d0) (3 * d1) (3 * d2) = s.ok d0 d1 d2 := by unfold RS.ok; rw [hd]
    have hn : s.next (3 * d0) (3 * d1) (3 * d2) = s.next d0 d1 d2 := by unfold RS.next; rw [hd, hb]
    unfold wayL
    rw [ho, hn, wayL_three d0 d1 d2 k _]

theorem bst_range (s0 s1 s2 a b c : Int) (h : 0 < s0 ∨ 0 < s1 ∨ 0 < s2) : (bst s0 s1 s2 a b c 3 = 0 ∧ 0 < s0) ∨ (bst s0 s1 s2 a b c 3 = 1 ∧ 0 < s1) ∨ (bst s0 s1 s2 a b c 3 = 2 ∧ 0 < s2) := by
  by_cases h0 : 0 < s0 <;> by_cases h1 : 0 < s1 <;> by_cases h2 : 0 < s2 <;> by_cases p : c * s0 < a * s2 <;> by_cases q : b * s2 < c * s1 <;> by_cases r : b * s0 < a * s1 <;>
    simp [bst, h0, h1, h2, p, q, r] <;> omega

theorem cross_le {p q r s0 s1 s2 : Int} (h1 : r * s0 ≤ p * s2) (h2 : q * s2 ≤ r * s1) (k0 : 0 ≤ s0) (k1 : 0 ≤ s1) (k2 : 0 < s2) : q * s0 ≤ p * s1 := by
  have a1 := Int.mul_le_mul_of_nonneg_right h2 k0
  have a2 := Int.mul_le_mul_of_nonneg_right h1 k1
  have e1 : q * s2 * s0 = q * s0 * s2 := by ac_rfl
  have e2 : r * s1 * s0 = r * s0 * s1 := by ac_rfl
  have e3 : p * s2 * s1 = p * s1 * s2 := by ac_rfl
  rw [e1, e2] at a1
  rw [e3] at a2
  exact Int.le_of_mul_le_mul_right (Int.le_trans a1 a2) k2

/-- It crosses first: no other axis comes ahead of it. -/
theorem bst_least (s0 s1 s2 a b c : Int) (n0 : 0 ≤ s0) (n1 : 0 ≤ s1) (n2 : 0 ≤ s2) :
    (bst s0 s1 s2 a b c 3 = 0 → (0 < s1 → a * s1 ≤ b * s0) ∧ (0 < s2 → a * s2 ≤ c * s0)) ∧
    (bst s0 s1 s2 a b c 3 = 1 → (0 < s0 → b * s0 ≤ a * s1) ∧ (0 < s2 → b * s2 ≤ c * s1)) ∧
    (bst s0 s1 s2 a b c 3 = 2 → (0 < s0 → c * s0 ≤ a * s2) ∧ (0 < s1 → c * s1 ≤ b * s2)) := by
  have x1 : 0 < s2 → c * s0 ≤ a * s2 → b * s2 ≤ c * s1 → b * s0 ≤ a * s1 := fun k h h' => cross_le h h' n0 n1 k
  have x2 : 0 < s0 → a * s2 ≤ c * s0 → b * s0 ≤ a * s1 → b * s2 ≤ c * s1 := fun k h h' => cross_le h h' n2 n1 k
  simp only [bst]
  generalize a * s1 = t1 at *
  generalize a * s2 = t2 at *
  generalize b * s0 = t3 at *
  generalize b * s2 = t4 at *
  generalize c * s0 = t5 at *
  generalize c * s1 = t6 at *
  refine ⟨fun h => ?_, fun h => ?_, fun h => ?_⟩
  all_goals
    repeat' (split at h)
    all_goals (first | (exfalso; omega) | (refine ⟨fun k => ?_, fun k => ?_⟩ <;> omega) | trace_state)
end Go.Proofs.Ytdhanigngoniiaa
