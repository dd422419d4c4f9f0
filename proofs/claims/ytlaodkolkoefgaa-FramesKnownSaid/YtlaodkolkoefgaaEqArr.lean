/-
  '==' at arrays, element by element.
-/
import Derived.Test.YtlaodkolkoefgaaBase
namespace Go.Proofs.Ytlaodkolkoefgaa
open Go.RowKit
set_option linter.unusedSimpArgs false
set_option linter.unusedVariables false

section
variable {P : Program} {w : World}

theorem run_equalIn_array (d : Nat) (t e len n : Nat) (xs ys : Array Value) (ht : P.underlying t = some (.array len e)) (hs : ∀ w, (sizeOf e).run P w = .ok n w) (b : Nat → Bool)
    (hb : ∀ i, i < len → ∃ x y, (part e xs (i * n)).run P w = .ok x w ∧ (part e ys (i * n)).run P w = .ok y w ∧ (Op.equalIn d e x y).run P w = .ok (b i) w) :
    (Op.equalIn (d + 1) t (.agg xs) (.agg ys)).run P w = .ok ((List.range len).all b) w := by
  simp only [Op.equalIn, Sem.run_bind, run_underlying ht, Result.andThen_ok, hs]
  rw [Std.Legacy.Range.forIn_eq_forIn_range']
  have key : ∀ (l : List Nat), (∀ i ∈ l, i < len) →
      (Sem.run P (forIn l ((none, PUnit.unit) : Option Bool × PUnit) fun i (_ : Option Bool × PUnit) => do
        let a ← part e xs (i * n)
        let c ← part e ys (i * n)
        let q ← Op.equalIn d e a c
        if (!q) = true then pure (ForInStep.done (some false, PUnit.unit)) else pure (ForInStep.yield (none, PUnit.unit))) w) =
      .ok (if l.all b then (none, PUnit.unit) else (some false, PUnit.unit)) w := by
    intro l
    induction l with
    | nil => intro _; simp
    | cons i l ih =>
      intro hl
      obtain ⟨x, y, h1, h2, h3⟩ := hb i (hl i List.mem_cons_self)
      simp only [List.forIn_cons, Sem.run_bind, h1, h2, h3, Result.andThen_ok, List.all_cons]
      rcases Bool.eq_false_or_eq_true (b i) with hbi | hbi
      rotate_left
      · simp [hbi]
      · simp only [hbi, Bool.not_true, Bool.false_eq_true, if_false, Sem.run_pure, Result.andThen_ok, Bool.true_and]
        exact ih fun j hj => hl j (List.mem_cons_of_mem _ hj)
  have hr : List.range' [:len].start [:len].size [:len].step = List.range len := by
    rw [List.range_eq_range']; simp [Std.Legacy.Range.size]
  rw [hr, key _ (fun i hi => List.mem_range.1 hi)]
  cases (List.range len).all b <;> simp

/-- Three ints. -/
theorem run_eq_int3 (d : Nat) (t e : Nat) (a b c a' b' c' : Int) (ht : P.underlying t = some (.array 3 e)) (hs : ∀ w, (sizeOf e).run P w = .ok 1 w) (he : P.underlying e = some (.int .i64))
    (hp : ∀ (x y z : Int) (i : Nat) (w : World), i < 3 → (part e #[.int .i64 x, .int .i64 y, .int .i64 z] (i * 1)).run P w = .ok (.int .i64 (if i = 0 then x else if i = 1 then y else z)) w) :
    (Op.equalIn (d + 2) t (.agg #[.int .i64 a, .int .i64 b, .int .i64 c]) (.agg #[.int .i64 a', .int .i64 b', .int .i64 c'])).run P w = .ok (a == a' && (b == b' && c == c')) w := by
  rw [run_equalIn_array (d + 1) t e 3 1 _ _ ht hs (fun i => if i = 0 then a == a' else if i = 1 then b == b' else c == c') (fun i hi => ⟨_, _, hp _ _ _ i w hi, hp _ _ _ i w hi, by
    rw [run_equalIn_int w d e .i64 .i64 _ _ he]
    congr 1
    split
    · rfl
    · split <;> rfl⟩)]
  congr 1
  rw [show List.range 3 = [0, 1, 2] from rfl]
  simp
end
end Go.Proofs.Ytlaodkolkoefgaa
