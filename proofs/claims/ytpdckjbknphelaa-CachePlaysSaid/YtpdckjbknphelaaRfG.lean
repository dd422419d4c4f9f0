/-
  The reference's lists, in plain Lean: spot by spot put where it belongs, they are sorted. Runs appended.
-/
import Derived.Test.YtpdckjbknphelaaRfF
import Derived.Laws.OwnMore
namespace Go.Proofs.Ytpdckjbknphelaa
open Go.RowKit Go.Sort Go.Shelf Go.Lib
set_option linter.unusedSimpArgs false
set_option linter.unusedVariables false

def posS (x : Sp) : List Sp → Nat
  | [] => 0
  | y :: l => if cfS y x < 0 then posS x l + 1 else 0
def insS (x : Sp) (l : List Sp) : List Sp := l.take (posS x l) ++ [x] ++ l.drop (posS x l)
def selR (g : Nat → Sl) (p : Sl → Bool) : Nat → List Sp
  | 0 => []
  | k + 1 => if (g k).full = true ∧ p (g k) = true then insS (g k).sp (selR g p k) else selR g p k
theorem posS_eq {x : Sp} : ∀ {l : List Sp} {j : Nat}, (∀ m y, m < j → l[m]? = some y → cfS y x < 0) → (j = l.length ∨ ∃ y, l[j]? = some y ∧ ¬ cfS y x < 0) → posS x l = j
  | [], j, _, h2 => by
    rcases h2 with h2 | ⟨y, h2, _⟩
    · rw [h2]; rfl
    · simp at h2
  | y :: l, 0, _, h2 => by
    rcases h2 with h2 | ⟨z, h2, h3⟩
    · simp at h2
    · obtain rfl : y = z := by simpa using h2
      unfold posS
      rw [if_neg h3]
  | y :: l, j + 1, h1, h2 => by
    unfold posS
    rw [if_pos (h1 0 y (by omega) rfl)]
    congr 1
    refine posS_eq (fun m z hm hz => h1 (m + 1) z (by omega) (by simpa using hz)) ?_
    rcases h2 with h2 | ⟨z, h2, h3⟩
    · exact .inl (by simpa using h2)
    · exact .inr ⟨z, by simpa using h2, h3⟩
theorem posS_le (x : Sp) : ∀ l : List Sp, posS x l ≤ l.length
  | [] => Nat.le_refl _
  | y :: l => by
    unfold posS
    split
    · have := posS_le x l; simp; omega
    · simp
def leS (a b : Sp) : Prop := ltOf cfS b a = false
theorem cfS_lt (a b : Sp) : cfS a b < 0 ↔ ltOf cfS a b = true := by unfold ltOf; simp
theorem posS_cons (x y : Sp) (l : List Sp) : posS x (y :: l) = if cfS y x < 0 then posS x l + 1 else 0 := rfl
theorem insS_cons (x y : Sp) (l : List Sp) : insS x (y :: l) = if cfS y x < 0 then y :: insS x l else x :: y :: l := by
  unfold insS
  rw [posS_cons]
  split <;> simp
theorem insS_mem {x y : Sp} {l : List Sp} (h : y ∈ insS x l) : y = x ∨ y ∈ l := by
  unfold insS at h
  rcases List.mem_append.1 h with h | h
  · rcases List.mem_append.1 h with h | h
    · exact .inr (List.mem_of_mem_take h)
    · exact .inl (by simpa using h)
  · exact .inr (List.mem_of_mem_drop h)
theorem insS_sorted (x : Sp) : ∀ l : List Sp, l.Pairwise leS → (insS x l).Pairwise leS
  | [], _ => by simp [insS, posS]
  | y :: l, h => by
    obtain ⟨h1, h2⟩ := List.pairwise_cons.1 h
    rw [insS_cons]
    split
    · rename_i hc
      rw [cfS_lt, ltOf_cfS] at hc
      refine List.pairwise_cons.2 ⟨fun z hz => ?_, insS_sorted x l h2⟩
      rcases insS_mem hz with rfl | hz
      · unfold leS; rw [ltOf_cfS_f]; unfold ltSp at *; omega
      · exact h1 z hz
    · rename_i hc
      have hc' : ¬ ltSp y x := by rw [← ltOf_cfS, ← cfS_lt]; exact hc
      refine List.pairwise_cons.2 ⟨fun z hz => ?_, h⟩
      rcases List.mem_cons.1 hz with rfl | hz
      · unfold leS; rw [ltOf_cfS_f]; exact hc'
      · have := h1 z hz
        unfold leS at *
        rw [ltOf_cfS_f] at *
        unfold ltSp at *; omega
theorem insS_perm (x : Sp) (l : List Sp) : (insS x l).Perm (l ++ [x]) := by
  unfold insS
  rw [List.append_assoc]
  refine ((List.Perm.append_left _ List.perm_append_comm)).trans ?_
  rw [← List.append_assoc, List.take_append_drop]
theorem selR_sorted (g : Nat → Sl) (p : Sl → Bool) : ∀ k, (selR g p k).Pairwise leS
  | 0 => List.Pairwise.nil
  | k + 1 => by
    unfold selR
    split
    · exact insS_sorted _ _ (selR_sorted g p k)
    · exact selR_sorted g p k
theorem selR_perm (g : Nat → Sl) (p : Sl → Bool) : ∀ k, (selR g p k).Perm (selN g p k)
  | 0 => List.Perm.refl _
  | k + 1 => by
    unfold selR selN
    split
    · exact (insS_perm _ _).trans ((selR_perm g p k).append_right _)
    · rw [List.append_nil]; exact selR_perm g p k
theorem selR_eq (g : Nat → Sl) (p : Sl → Bool) (k : Nat) : selR g p k = sortSp (selN g p k) := by
  refine List.Perm.eq_of_pairwise (le := leS) (fun a b _ _ h1 h2 => totSp a b h2 h1) (selR_sorted g p k) ?_ ((selR_perm g p k).trans (sortSp_perm _).symm)
  have := List.pairwise_mergeSort (le := fun x y => !(ltOf cfS) y x) (fun a b c h1 h2 => by
    simp only [Bool.not_eq_true'] at *
    rw [ltOf_cfS_f] at *
    unfold ltSp at *; omega) (fun a b => by
    simp only [Bool.or_eq_true, Bool.not_eq_true']
    rw [ltOf_cfS_f, ltOf_cfS_f]
    unfold ltSp; omega) (selN g p k)
  refine this.imp fun {a b} h => ?_
  unfold leS
  simpa using h
theorem selR_len (g : Nat → Sl) (p : Sl → Bool) (k : Nat) : (selR g p k).length ≤ k := by rw [(selR_perm g p k).length_eq]; exact selN_len g p k
section
variable {w w' : World} {B z : Nat} {E : TypeId} {v : Value} {xs : List (List Value)}
/-- A run of elements is appended. -/
theorem ROwn.appends {S : TypeId} {zv : Value} {by_ : Nat} {a : Addr} {m cp : Nat} {ys : List (List Value)} (h : ROwn w B E z v xs) (ty : TypeId) (hS : Try.prog.underlying S = some (.slice E)) (hinf : (Try.prog.info? E).map (fun i => (i.zero, i.size, i.bytes)) = some (some zv, z, by_)) (hzv : zv.cells.size = z) (hz0 : 0 < z)
    (hm : ys.length = m) (hy : ∀ y ∈ ys, y.length = z ∧ ∀ u ∈ y, u.oneCell' = true) (hc : ∀ j y, ys[j]? = some y → ∀ i u, y[i]? = some u → w.cell? (a.add (j * z + i)) = some u) (hlen : xs.length + m ≤ 1000000) (hby : by_ ≤ 1000) (hB : B ≤ w.heap.size) :
    ∃ v' w', (Builtin.append_ #[S, S] ty #[v, .slice (some a) m cp]).run Try.prog w = .ok v' w' ∧ ROwn w' B E z v' (xs ++ ys) ∧ w.grownBy w' v.ownBlock ∧ (v' = .slice none 0 0 ↔ v = .slice none 0 0 ∧ m = 0) := by
  obtain ⟨i0, hi, hz0', hz1, hz2⟩ := info_parts hinf
  have hb2 : (xs.length + m) * by_ ≤ 140737488355328 := Nat.le_trans (Nat.mul_le_mul (show xs.length + m ≤ 1000000 by omega) hby) (by decide)
  have hfl : ys.flatten.length = m * z := by
    have key : ∀ l : List (List Value), (∀ y ∈ l, y.length = z) → l.flatten.length = l.length * z := by
      intro l
      induction l with
      | nil => intro _; simp
      | cons y l ih =>
        intro hl
        rw [List.flatten_cons, List.length_append, ih (fun q hq => hl q (List.mem_cons_of_mem _ hq)), hl y List.mem_cons_self, List.length_cons, Nat.add_mul]
        omega
    rw [key ys fun y hy' => (hy y hy').1, hm]
  obtain ⟨v', w', hr, h4, h5, h6, h7⟩ := run_append_own_at (P := Try.prog) w B S ty E i0 zv z by_ hS hi hz0' hz1 hz2 hzv hz0 v xs.length xs.flatten h.1
    a m cp ys.flatten hfl (fun j u hj => by
      have hjl : j < m * z := by rw [← hfl]; exact (List.getElem?_eq_some_iff.1 hj).1
      have hdm : j / z * z + j % z = j := by rw [Nat.mul_comm]; exact Nat.div_add_mod j z
      have hq : j / z < m := (Nat.div_lt_iff_lt_mul hz0).2 hjl
      have hy1 := List.getElem?_eq_getElem (l := ys) (i := j / z) (by omega)
      have hfa := flat_at (z := z) (j := j / z) (i := j % z) (fun y hy' => (hy y hy').1) hy1 (Nat.mod_lt _ hz0)
      rw [hdm, hj] at hfa
      have := hc _ _ hy1 _ _ hfa.symm
      rw [hdm] at this
      exact this) (fun u hu => by
      obtain ⟨y, hy1, hy2⟩ := List.mem_flatten.1 hu
      exact (hy y hy1).2 u hy2) (by unfold maxLen; omega) hb2 hB
  refine ⟨v', w', hr, ⟨?_, fun y hy' => ?_⟩, h5, h6⟩
  · rw [List.length_append, List.flatten_append, hm]
    exact h4
  · rcases List.mem_append.1 hy' with hy' | hy'
    · exact h.2 y hy'
    · exact hy y hy'
theorem ROwn.base {B' : Nat} (h : ROwn w B E z v xs) (hB : B' ≤ B) : ROwn w B' E z v xs := by
  refine ⟨⟨h.1.1, ?_⟩, h.2⟩
  rcases h.1.2 with hn | ⟨g, cap, cur, hv, hbg, rest⟩
  · exact .inl hn
  · exact .inr ⟨g, cap, cur, hv, Nat.le_trans hB hbg, rest⟩
/-- Nothing is appended. -/
theorem ROwn.append_nil {S : TypeId} {zv : Value} {by_ : Nat} (h : ROwn w B E z v xs) (ty : TypeId) (hS : Try.prog.underlying S = some (.slice E)) (hinf : (Try.prog.info? E).map (fun i => (i.zero, i.size, i.bytes)) = some (some zv, z, by_)) :
    (Builtin.append_ #[S, S] ty #[v, .slice none 0 0]).run Try.prog w = .ok v w := by
  obtain ⟨i0, hi, hz0', hz1, hz2⟩ := info_parts hinf
  exact run_append_owned_none w B S ty E i0 z hS hi v xs.length xs.flatten h.1
/-- A row of spots, cell by cell. -/
theorem ROwn.spots {l : List Sp} (h : ROwn w B 23 3 v (l.map spL)) : ∃ base cap, v = .slice base l.length cap ∧ l.length ≤ cap ∧ cap ≤ maxLen ∧ (l ≠ [] → ∃ g, base = some ⟨g, 0, none⟩ ∧ g < w.heap.size ∧ ∀ j s, l[j]? = some s → w.cell? ⟨g, j * 3, none⟩ = some (.int .i64 s.1) ∧ w.cell? ⟨g, j * 3 + 1, none⟩ = some (.int .i64 s.2.1) ∧ w.cell? ⟨g, j * 3 + 2, none⟩ = some (.int .i64 s.2.2)) := by
  obtain ⟨base, cap, e, h1, h2, h3⟩ := h.open
  rw [List.length_map] at e h1
  refine ⟨base, cap, e, h1, h2, fun hne => ?_⟩
  obtain ⟨g, hg, _, hc⟩ := h3 (fun e => hne (List.map_eq_nil_iff.1 e))
  refine ⟨g, hg, (h.lt (g := g) (by rw [e, hg]; rfl)).2, fun j s hs => ?_⟩
  have hx : (l.map spL)[j]? = some (spL s) := by rw [List.getElem?_map, hs]; rfl
  exact ⟨hc j _ hx 0 _ rfl, hc j _ hx 1 _ rfl, hc j _ hx 2 _ rfl⟩
end
end Go.Proofs.Ytpdckjbknphelaa
