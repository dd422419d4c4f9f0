/-
  As StagG, the calls of the region hand back a ghost beside their value (by which the worlds behind them may be told), and an operation that waits for a call sees no world ahead of it.
-/
import Derived.Test.YtpdckjbknphelaaStagG
namespace Go.Proofs.Ytpdckjbknphelaa
open Go.RowKit
set_option linter.unusedSimpArgs false
set_option linter.unusedVariables false

/-- Waits for j, by so many between at most. -/
def waitsF : Nat → List Oper → Oper → Nat → Bool
  | 0, _, o, j => waits o j
  | F + 1, l, o, j => waits o j || (List.range l.length).any fun k => waits o k && match l[k]? with
    | some p => waitsF F l p j
    | none => false
theorem waitsF_listed {l : List Oper} {L : Nat → Bool} (hcl : ∀ j oj i, l[j]? = some oj → L j = true → waits oj i = true → L i = true) : ∀ (F : Nat) (o : Oper) (j : Nat), (∀ j, waits o j = true → L j = true) → waitsF F l o j = true → L j = true
  | 0, o, j, hw, h => hw j h
  | F + 1, o, j, hw, h => by
    unfold waitsF at h
    rw [Bool.or_eq_true] at h
    rcases h with h | h
    · exact hw j h
    · obtain ⟨k, _, hk⟩ := List.any_eq_true.1 h
      rw [Bool.and_eq_true] at hk
      cases hlk : l[k]? with
      | none => rw [hlk] at hk; cases hk.2
      | some p => rw [hlk] at hk; exact waitsF_listed hcl F p j (fun x hx => hcl k p x hlk (hw k hk.1) hx) hk.2
/-- The least stage in which an operation may come up. -/
def loOf (l : List Oper) (o : Oper) : Nat := (List.range l.length).foldl (fun m j => match l[j]? with
  | some oj => if isCall oj && waitsF 5 l o j then max m (callsTo l j + 1) else m
  | none => m) 0
theorem loOf_le {l : List Oper} {o : Oper} {s : Nat} (h : ∀ j oj, l[j]? = some oj → isCall oj = true → waitsF 5 l o j = true → callsTo l j < s) : loOf l o ≤ s := by
  unfold loOf
  have key : ∀ (r : List Nat) (m : Nat), m ≤ s → r.foldl (fun m j => match l[j]? with
    | some oj => if isCall oj && waitsF 5 l o j then max m (callsTo l j + 1) else m
    | none => m) m ≤ s := by
    intro r
    induction r with
    | nil => intro m hm; exact hm
    | cons j r ih =>
      intro m hm
      rw [List.foldl_cons]
      refine ih _ ?_
      cases hj : l[j]? with
      | none => exact hm
      | some oj =>
        simp only
        split
        · rename_i hc
          rw [Bool.and_eq_true] at hc
          have := h j oj hj hc.1 hc.2
          omega
        · exact hm
  exact key _ 0 (Nat.zero_le _)
def Btw (C : Nat → World → Prop) (lo hi : Nat) (w : World) : Prop := ∃ s, lo ≤ s ∧ s ≤ hi ∧ C s w
theorem callAtU_imp {P : Program} {o : Oper} {a : Act} {R R' : Value → World → Prop} {w : World} (h : callAtU P o a R w) (hi : ∀ v w', R v w' → R' v w') : callAtU P o a R' w := by
  unfold callAtU at *
  generalize (execOp a.eval o).run P w = r at *
  cases r with
  | ok n w' =>
    cases n <;> simp only at h ⊢ <;> first | exact hi _ _ h | exact ⟨h.1, h.2.mono fun e w'' ⟨v, he, hr⟩ => ⟨v, he, hi _ _ hr⟩⟩
  | halt x w' => exact h
section
variable {γ : Type}
def setG (u : Nat → γ) (s : Nat) (g : γ) : Nat → γ := fun j => if j = s then g else u j
theorem setG_same (u : Nat → γ) (s : Nat) (g : γ) : setG u s g s = g := if_pos rfl
theorem setG_other {u : Nat → γ} {s j : Nat} {g : γ} (h : j ≠ s) : setG u s g j = u j := if_neg h
end
section
variable {γ : Type} {vl : γ → Value} {P : Program} {C : (Nat → γ) → Nat → World → Prop} {V : Nat → γ → Prop} {N : Nat} {u : Nat → γ} {ops : Array Oper} {LL : List Oper}
def wpStageH (vl : γ → Value) (P : Program) (ops : Array Oper) (LL : List Oper) (C : (Nat → γ) → Nat → World → Prop) (V : Nat → γ → Prop) (N : Nat) (u : Nat → γ) (Q : Act → Prop) : Nat → Nat → List Oper → Act → Prop
  | _, s, [], a => s = N ∧ Q a
  | i, s, o :: rest, a => Region.wanted o (yielded ops a.tmps) = true ∧ if isCall o then (∀ w, C u s w → callAtU P o a (fun v w' => ∃ g, vl g = v ∧ V s g ∧ C (setG u s g) (s + 1) w') w) ∧ wpStageH vl P ops LL C V N u Q (i + 1) (s + 1) rest (a.put o.dst (vl (u s)))
    else ∃ v, (∀ p : {w // Btw (C u) (loOf LL o) (hiTo i N rest s) w}, o.quietAt P a (fun w' => w' = p.val) p.val v) ∧ wpStageH vl P ops LL C V N u Q (i + 1) s rest (a.put o.dst v)
/-- What each operation yields, in the text's order, when the calls hand back u. -/
structure LexH (vl : γ → Value) (P : Program) (ops : Array Oper) (LL : List Oper) (l : List Oper) (C : (Nat → γ) → Nat → World → Prop) (V : Nat → γ → Prop) (N : Nat) (u : Nat → γ) (Q : Act → Prop) (b s0 : Nat) (a0 : Act) (vals : Nat → Value) (fr : Nat → Act) : Prop where
  zero : fr 0 = a0
  want : ∀ i o, l[i]? = some o → Region.wanted o (yielded ops (fr i).tmps) = true
  step : ∀ i o, l[i]? = some o → fr (i + 1) = (fr i).put o.dst (vals i)
  val : ∀ i o, l[i]? = some o → isCall o = true → vals i = vl (u (s0 + callsTo l i))
  call : ∀ i o, l[i]? = some o → isCall o = true → ∀ w, C u (s0 + callsTo l i) w → callAtU P o (fr i) (fun v w' => ∃ g, vl g = v ∧ V (s0 + callsTo l i) g ∧ C (setG u (s0 + callsTo l i) g) (s0 + callsTo l i + 1) w') w
  still : ∀ i o, l[i]? = some o → isCall o = false → ∀ s' w, s' ≤ N → (∀ j oj, l[j]? = some oj → isCall oj = true → waits oj (b + i) = true → s' ≤ s0 + callsTo l j) → (∀ j oj, LL[j]? = some oj → isCall oj = true → waitsF 5 LL o j = true → callsTo LL j < s') → C u s' w → o.quietAt P (fr i) (fun w' => w' = w) w (vals i)
  last : Q (fr l.length)
  all : s0 + callsTo l l.length = N
theorem lexH_of {Q : Act → Prop} : ∀ (l : List Oper) (b s : Nat) (a : Act), wpStageH vl P ops LL C V N u Q b s l a → ∃ vals fr, LexH vl P ops LL l C V N u Q b s a vals fr
  | [], b, s, a, h => ⟨fun _ => undef, fun _ => a, rfl, (fun i o h => by simp at h), (fun i o h => by simp at h), (fun i o h => by simp at h), (fun i o h => by simp at h), (fun i o h => by simp at h), h.2, by simp [callsTo]; exact h.1⟩
  | o :: rest, b, s, a, h => by
    unfold wpStageH at h
    obtain ⟨hw0, h⟩ := h
    cases hc : isCall o with
    | true =>
      rw [hc] at h
      obtain ⟨h1, h2⟩ := h
      obtain ⟨vals, fr, k⟩ := lexH_of rest (b + 1) (s + 1) _ h2
      refine ⟨fun i => match i with | 0 => vl (u s) | i + 1 => vals i, fun i => match i with | 0 => a | i + 1 => fr i, rfl, ?_, ?_, ?_, ?_, ?_, k.last, ?_⟩
      · intro i o' ho'
        cases i with
        | zero => obtain rfl : o = o' := by simpa using ho'
                  exact hw0
        | succ i => exact k.want i o' (by simpa using ho')
      · intro i o' ho'
        cases i with
        | zero => obtain rfl : o = o' := by simpa using ho'
                  exact k.zero
        | succ i => exact k.step i o' (by simpa using ho')
      · intro i o' ho' hc'
        cases i with
        | zero => simp [callsTo]
        | succ i =>
          have e : s + callsTo (o :: rest) (i + 1) = s + 1 + callsTo rest i := by simp only [callsTo, hc, if_true]; omega
          rw [e]
          exact k.val i o' (by simpa using ho') hc'
      · intro i o' ho' hc' w hw
        cases i with
        | zero => obtain rfl : o = o' := by simpa using ho'
                  exact h1 w hw
        | succ i =>
          have e : s + callsTo (o :: rest) (i + 1) = s + 1 + callsTo rest i := by simp only [callsTo, hc, if_true]; omega
          rw [e] at hw ⊢
          exact k.call i o' (by simpa using ho') hc' w hw
      · intro i o' ho' hc' s' w hs' hj hlo hw
        cases i with
        | zero => obtain rfl : o = o' := by simpa using ho'
                  rw [hc] at hc'; cases hc'
        | succ i => refine k.still i o' (by simpa using ho') hc' s' w hs' (fun j oj h1 h2 h3 => ?_) hlo hw
                    have := hj (j + 1) oj (by simpa using h1) h2 (by rw [show b + (i + 1) = b + 1 + i by omega]; exact h3)
                    simp only [callsTo, hc, if_true] at this
                    omega
      · have := k.all
        simp only [List.length_cons, callsTo, hc, if_true]
        omega
    | false =>
      rw [hc, if_neg (by simp)] at h
      obtain ⟨v, h1, h2⟩ := h
      obtain ⟨vals, fr, k⟩ := lexH_of rest (b + 1) s _ h2
      refine ⟨fun i => match i with | 0 => v | i + 1 => vals i, fun i => match i with | 0 => a | i + 1 => fr i, rfl, ?_, ?_, ?_, ?_, ?_, k.last, ?_⟩
      · intro i o' ho'
        cases i with
        | zero => obtain rfl : o = o' := by simpa using ho'
                  exact hw0
        | succ i => exact k.want i o' (by simpa using ho')
      · intro i o' ho'
        cases i with
        | zero => obtain rfl : o = o' := by simpa using ho'
                  exact k.zero
        | succ i => exact k.step i o' (by simpa using ho')
      · intro i o' ho' hc'
        cases i with
        | zero => obtain rfl : o = o' := by simpa using ho'
                  rw [hc] at hc'; cases hc'
        | succ i =>
          have e : s + callsTo (o :: rest) (i + 1) = s + callsTo rest i := by simp only [callsTo, hc]; simp
          rw [e]
          exact k.val i o' (by simpa using ho') hc'
      · intro i o' ho' hc' w hw
        cases i with
        | zero => obtain rfl : o = o' := by simpa using ho'
                  rw [hc] at hc'; cases hc'
        | succ i =>
          have e : s + callsTo (o :: rest) (i + 1) = s + callsTo rest i := by simp only [callsTo, hc]; simp
          rw [e] at hw ⊢
          exact k.call i o' (by simpa using ho') hc' w hw
      · intro i o' ho' hc' s' w hs' hj hlo hw
        cases i with
        | zero => obtain rfl : o = o' := by simpa using ho'
                  exact h1 ⟨w, s', loOf_le (fun j oj q1 q2 q3 => hlo j oj q1 q2 q3), hiTo_le (fun j oj h1 h2 h3 => by
                    have := hj (j + 1) oj (by simpa using h1) h2 h3
                    simp only [callsTo, hc] at this
                    simp at this
                    omega) hs', hw⟩
        | succ i => refine k.still i o' (by simpa using ho') hc' s' w hs' (fun j oj h1 h2 h3 => ?_) hlo hw
                    have := hj (j + 1) oj (by simpa using h1) h2 (by rw [show b + (i + 1) = b + 1 + i by omega]; exact h3)
                    simp only [callsTo, hc] at this
                    simp at this
                    omega
      · have := k.all
        simp only [List.length_cons, callsTo, hc]
        simp only [Bool.false_eq_true, if_false]
        omega
theorem LexH.frame {l : List Oper} {Q : Act → Prop} {b s0 : Nat} {a0 : Act} {vals : Nat → Value} {fr : Nat → Act} (k : LexH vl P ops LL l C V N u Q b s0 a0 vals fr) (hok : stageOkG l a0.tmps.size = true) : ∀ {n : Nat}, n ≤ l.length →
    (fr n).defers = a0.defers ∧ (fr n).tmps.size = a0.tmps.size ∧ (∀ j oj d, j < n → l[j]? = some oj → oj.dst = some d → (fr n).tmps[d]? = some (vals j)) ∧ ∀ d, (∀ j oj, j < n → l[j]? = some oj → oj.dst ≠ some d) → (fr n).tmps[d]? = a0.tmps[d]?
  | 0, _ => by
    rw [k.zero]
    exact ⟨rfl, rfl, fun j _ _ hj => absurd hj (Nat.not_lt_zero _), fun _ _ => rfl⟩
  | n + 1, hn => by
    obtain ⟨h1, h2, h3, h4⟩ := LexH.frame k hok (n := n) (by omega)
    have hg : l[n]? = some l[n] := List.getElem?_eq_getElem (by omega)
    rw [k.step n _ hg]
    cases hd : l[n].dst with
    | none =>
      refine ⟨h1, h2, fun j oj d hj ho hdj => ?_, fun d hd' => ?_⟩
      · by_cases e : j = n
        · subst e
          rw [hg] at ho
          obtain rfl := Option.some.inj ho
          rw [hd] at hdj; cases hdj
        · exact h3 j oj d (by omega) ho hdj
      · exact h4 d (fun j oj hj => hd' j oj (by omega))
    | some d0 =>
      have hz := ((stageOkG_pair hok hg hg).1 d0 hd).1
      refine ⟨h1, by simp [Act.put, h2], fun j oj d hj ho hdj => ?_, fun d hd' => ?_⟩
      · by_cases e : j = n
        · subst e
          rw [hg] at ho
          obtain rfl := Option.some.inj ho
          rw [hd] at hdj
          obtain rfl := Option.some.inj hdj
          simp [Act.put, h2, hz]
        · have hne : d0 ≠ d := fun e2 => by
            subst e2
            exact e (((stageOkG_pair hok ho hg).1 d0 hd).2.2 hdj)
          have := h3 j oj d (by omega) ho hdj
          simp only [Act.put, Array.getElem?_setIfInBounds, hne, if_false]
          exact this
      · have hne : d0 ≠ d := fun e2 => hd' n _ (by omega) hg (by rw [hd, e2])
        simp only [Act.put, Array.getElem?_setIfInBounds, hne, if_false]
        exact h4 d (fun j oj hj => hd' j oj (by omega))
theorem wp_region_stageHH {id : Nat} {Q : Exit → Act → World → Prop} {a0 : Act} {w0 : World} {l : List Oper} (hm : P.follows .mixedOrders = true) (hl : lowEdges l = true) (hok : stageOkG l a0.tmps.size = true) (hpl : stillsPlainG l = true)
    (hV : ∀ s, ∃ g, V s g) (hcong : ∀ u u' s w, (∀ j, j < s → u j = u' j) → C u s w → C u' s w)
    (hC : ∀ u, C u 0 w0.drew) (h : ∀ u, (∀ s, V s (u s)) → wpStageH vl P l.toArray l C V N u (fun a' => ∀ w', C u N w' → Q .normal a' w') 0 0 l a0) : (Code.region id l.toArray true).wp P Q a0 w0 := by
  obtain ⟨G, hG⟩ := Classical.axiomOfChoice (r := fun (u : {u : Nat → γ // ∀ s, V s (u s)}) (y : (Nat → Value) × (Nat → Act)) => LexH vl P l.toArray l l C V N u.val (fun a' => ∀ w', C u.val N w' → Q .normal a' w') 0 0 a0 y.1 y.2) fun u => by
    obtain ⟨vals, fr, k⟩ := lexH_of l 0 0 a0 (h u.val u.property)
    exact ⟨(vals, fr), k⟩
  obtain ⟨us, hus⟩ : ∃ us : Nat → γ, ∀ s, V s (us s) := ⟨fun s => Classical.choose (hV s), fun s => Classical.choose_spec (hV s)⟩
  have hall : callsTo l l.length = N := by have := (hG ⟨us, hus⟩).all; omega
  refine wp_region_inv hm hl (fun b0 L a w => b0 = a0 → (a.defers = a0.defers ∧ a.tmps.size = a0.tmps.size ∧
    (∀ d, (∀ j oj, l[j]? = some oj → oj.dst = some d → L j = false) → a.tmps[d]? = a0.tmps[d]?) ∧ (∀ j oj i, l[j]? = some oj → L j = true → waits oj i = true → L i = true) ∧ ∃ (s : Nat) (u : {u : Nat → γ // ∀ s, V s (u s)}), s ≤ N ∧ C u.val s w ∧ (∀ i o, l[i]? = some o → isCall o = true → (L i = true ↔ callsTo l i < s)) ∧
      ∀ u' : {u : Nat → γ // ∀ s, V s (u s)}, (∀ j, j < s → u'.val j = u.val j) → ∀ j oj d, l[j]? = some oj → oj.dst = some d → L j = true → a.tmps[d]? = some ((G u').1 j))) ?_ ?_ ?_
  · exact fun _ => ⟨rfl, rfl, fun _ _ => rfl, (fun _ _ _ _ h => (by cases h)), 0, ⟨us, hus⟩, Nat.zero_le _, hC _, fun i o _ _ => ⟨fun h => (by cases h), fun h => absurd h (Nat.not_lt_zero _)⟩, fun _ _ _ _ _ _ _ h => (by cases h)⟩
  · intro L a w hI i o hi hLi hdep
    obtain ⟨hd, hz, hu, hcl, s, u, hs, hCs, hcalls, hv⟩ := hI rfl
    have hmem : o ∈ l := List.mem_of_getElem? hi
    have hsel := stageOkG_plain hok hmem
    have hil := (List.getElem?_eq_some_iff.1 hi).1
    have hwait : ∀ j, waits o j = true → L j = true := fun j hj => by
      unfold waits at hj
      obtain ⟨e, he, hb⟩ := Array.any_eq_true'.1 hj
      simp only [Bool.and_eq_true, beq_iff_eq] at hb
      rw [← hb.2]
      exact hdep e he hb.1
    have hwant : Region.wanted o (yielded l.toArray a.tmps) = true := by
      rw [← (hG u).want i o hi]
      refine wanted_same fun j b hg => ?_
      obtain ⟨h1, h2, oj, hj, d, hdj⟩ := stageOkG_guard hok hi hg
      obtain ⟨f1, f2, f3, f4⟩ := (hG u).frame hok (n := i) (by omega)
      refine ⟨oj, d, hj, hdj, ?_⟩
      rw [hv u (fun _ _ => rfl) j oj d hj hdj (hwait j h1), f3 j oj d h2 hj hdj]
    rw [if_pos hwant]
    have hev : ∀ u' : {u : Nat → γ // ∀ s, V s (u s)}, (∀ j, j < s → u'.val j = u.val j) → execOp a.eval o = execOp ((G u').2 i).eval o := fun u' hu' => execOp_congr o hsel fun x hx => eval_same fun t ht => by
      subst ht
      obtain ⟨f1, f2, f3, f4⟩ := (hG u').frame hok (n := i) (by omega)
      by_cases hw : ∃ (j : Nat) (oj : Oper), l[j]? = some oj ∧ oj.dst = some t
      · obtain ⟨j, oj, hj, hdj⟩ := hw
        obtain ⟨h1, h2⟩ := ((stageOkG_pair hok hi hj).1 t hdj).2.1 hx
        rw [hv u' hu' j oj t hj hdj (hwait j h1), f3 j oj t h2 hj hdj]
      · rw [hu t (fun j oj hj hdj => absurd ⟨j, oj, hj, hdj⟩ hw), f4 t (fun j oj _ hj hdj => hw ⟨j, oj, hj, hdj⟩)]
    have hnew : ∀ (x : Value) w' s' (u1 : {u : Nat → γ // ∀ s, V s (u s)}), s ≤ s' → s' ≤ N → C u1.val s' w' → (∀ j, j < s → u1.val j = u.val j) → (∀ i' o', l[i']? = some o' → isCall o' = true → (upd L i i' = true ↔ callsTo l i' < s')) →
        (∀ u' : {u : Nat → γ // ∀ s, V s (u s)}, (∀ j, j < s' → u'.val j = u1.val j) → (G u').1 i = x) →
        a0 = a0 → ((a.put o.dst x).defers = a0.defers ∧ (a.put o.dst x).tmps.size = a0.tmps.size ∧
        (∀ d, (∀ j oj, l[j]? = some oj → oj.dst = some d → upd L i j = false) → (a.put o.dst x).tmps[d]? = a0.tmps[d]?) ∧ (∀ j oj i', l[j]? = some oj → upd L i j = true → waits oj i' = true → upd L i i' = true) ∧ ∃ (s : Nat) (u : {u : Nat → γ // ∀ s, V s (u s)}), s ≤ N ∧ C u.val s w' ∧ (∀ i' o', l[i']? = some o' → isCall o' = true → (upd L i i' = true ↔ callsTo l i' < s)) ∧
        ∀ u' : {u : Nat → γ // ∀ s, V s (u s)}, (∀ j, j < s → u'.val j = u.val j) → ∀ j oj d, l[j]? = some oj → oj.dst = some d → upd L i j = true → (a.put o.dst x).tmps[d]? = some ((G u').1 j)) := fun x w' s' u1 h0 h1 h2 h2' h3 hx _ => by
      refine ⟨?_, ?_, fun d hd' => ?_, fun j oj i' hj hLj hw => ?_, s', u1, h1, h2, h3, fun u' hu' j oj d hj hdj hLj => ?_⟩
      · cases o.dst <;> exact hd
      · cases o.dst with
        | none => exact hz
        | some d => simp [Act.put, hz]
      · have hun := hu d (fun j oj hj hdj => by
          have := hd' j oj hj hdj
          unfold upd at this
          split at this
          · cases this
          · exact this)
        cases hod : o.dst with
        | none => exact hun
        | some d0 =>
          have hne : d0 ≠ d := fun e2 => by
            subst e2
            have := hd' i o hi hod
            rw [upd_same] at this
            cases this
          simp only [Act.put, Array.getElem?_setIfInBounds, hne, if_false]
          exact hun
      · have : L i' = true := by
          by_cases e : j = i
          · subst e
            rw [hi] at hj
            obtain rfl := Option.some.inj hj
            exact hwait i' hw
          · rw [upd_other L e] at hLj
            exact hcl j oj i' hj hLj hw
        unfold upd
        split
        · rfl
        · exact this
      · by_cases e : j = i
        · subst e
          rw [hi] at hj
          obtain rfl := Option.some.inj hj
          have hzd := ((stageOkG_pair hok hi hi).1 d hdj).1
          rw [hdj, hx u' hu']
          simp [Act.put, hz, hzd]
        · rw [upd_other L e] at hLj
          have := hv u' (fun j hj => (hu' j (by omega)).trans (h2' j hj)) j oj d hj hdj hLj
          cases hod : o.dst with
          | none => exact this
          | some d0 =>
            have hne : d0 ≠ d := fun e2 => by
              subst e2
              exact e (((stageOkG_pair hok hj hi).1 d0 hod).2.2 hdj)
            simp only [Act.put, Array.getElem?_setIfInBounds, hne, if_false]
            exact this
    cases hc : isCall o with
    | true =>
      have hle : s ≤ callsTo l i := by
        rcases Nat.lt_or_ge (callsTo l i) s with h1 | h1
        · rw [(hcalls i o hi hc).2 h1] at hLi; cases hLi
        · exact h1
      have hge : callsTo l i ≤ s := by
        cases hm' : callsTo l i with
        | zero => exact Nat.zero_le _
        | succ m =>
          obtain ⟨j, oj, hji, hj, hcj, hmj⟩ := callsTo_prev (by omega) hm'
          have h2 := (stageOkG_pair hok hi hj).2 hc hcj (by omega)
          have h3 := (hcalls j oj hj hcj).1 (by
            unfold waits2 at h2
            rw [Bool.or_eq_true] at h2
            rcases h2 with h2 | h2
            · exact hwait j h2
            · obtain ⟨k, _, hk⟩ := List.any_eq_true.1 h2
              rw [Bool.and_eq_true] at hk
              cases hlk : l[k]? with
              | none => rw [hlk] at hk; cases hk.2
              | some p => rw [hlk] at hk; exact hcl k p j hlk (hwait k hk.1) hk.2)
          omega
      have hse : s = callsTo l i := by omega
      subst hse
      have hN : callsTo l i + 1 ≤ N := by
        have := callsTo_lt hi hc hil (Nat.le_refl _)
        omega
      have hk := (hG u).call i o hi hc w (by rw [Nat.zero_add]; exact hCs)
      rw [Nat.zero_add] at hk
      have hk2 : callAtU P o a (fun v w' => ∃ g, vl g = v ∧ V (callsTo l i) g ∧ C (setG u.val (callsTo l i) g) (callsTo l i + 1) w') w := by
        unfold callAtU at hk ⊢
        rw [hev u (fun _ _ => rfl)]; exact hk
      refine wp_of_callAtU hk2 fun v w' ⟨g, hgv, hVv, hw'⟩ => hnew v w' _ ⟨setG u.val (callsTo l i) g, fun s => ?_⟩ (Nat.le_succ _) hN hw' (fun j hj => setG_other (by omega)) (fun i' o' hi' hc' => ?_) (fun u' hu' => ?_)
      · by_cases e : s = callsTo l i
        · subst e; rw [setG_same]; exact hVv
        · rw [setG_other e]; exact u.property s
      · by_cases e : i' = i
        · subst e
          rw [upd_same]
          exact ⟨fun _ => Nat.lt_succ_self _, fun _ => rfl⟩
        · rw [upd_other L e, hcalls i' o' hi' hc']
          constructor
          · intro h; omega
          · intro h
            have hil' := (List.getElem?_eq_some_iff.1 hi').1
            rcases Nat.lt_trichotomy i' i with h1 | h1 | h1
            · exact callsTo_lt hi' hc' h1 (by omega)
            · exact absurd h1 e
            · have := callsTo_lt hi hc h1 (by omega)
              omega
      · rw [(hG u').val i o hi hc, Nat.zero_add, hu' _ (Nat.lt_succ_self _)]
        show vl (setG u.val (callsTo l i) g (callsTo l i)) = v
        rw [setG_same]
        exact hgv
    | false =>
      have hpo : plainOpG o = true := by
        have := List.all_eq_true.1 hpl o hmem
        rw [hc] at this
        simpa using this
      have hlate : ∀ j oj, l[j]? = some oj → isCall oj = true → waits oj (0 + i) = true → s ≤ 0 + callsTo l j := fun j oj hj h1 h2 => by
        rw [Nat.zero_add] at h2 ⊢
        rcases Nat.lt_or_ge (callsTo l j) s with h3 | h3
        · have := hcl j oj i hj ((hcalls j oj hj h1).2 h3) h2
          rw [this] at hLi; cases hLi
        · exact h3
      have hearly : ∀ j oj, l[j]? = some oj → isCall oj = true → waitsF 5 l o j = true → callsTo l j < s := fun j oj hj h1 h2 => (hcalls j oj hj h1).1 (waitsF_listed hcl 5 o j hwait h2)
      have hk := (hG u).still i o hi hc s w hs hlate hearly hCs
      have hk2 : o.quietAt P a (fun w' => w' = w) w ((G u).1 i) := by
        unfold Oper.quietAt at hk ⊢
        rw [hev u (fun _ _ => rfl)]; exact hk
      have hsame : ∀ u' : {u : Nat → γ // ∀ s, V s (u s)}, (∀ j, j < s → u'.val j = u.val j) → (G u').1 i = (G u).1 i := fun u' hu' =>
        quiet_sameG hpo (((hev u' hu').symm).trans (hev u (fun _ _ => rfl))) ((hG u').still i o hi hc s w hs hlate hearly (hcong _ _ _ _ (fun j hj => (hu' j hj).symm) hCs)) hk
      have hrel : ∀ i' o', l[i']? = some o' → isCall o' = true → (upd L i i' = true ↔ callsTo l i' < s) := fun i' o' hi' hc' => by
        have e : i' ≠ i := fun e => by
          subst e
          rw [hi] at hi'
          obtain rfl := Option.some.inj hi'
          rw [hc] at hc'; cases hc'
        rw [upd_other L e]
        exact hcalls i' o' hi' hc'
      exact wp_of_quietAt hk2 rfl (fun w' hw' => by rw [hw']; exact hnew _ w s u (Nat.le_refl _) hs hCs (fun _ _ => rfl) hrel hsame) (fun _ => hnew _ w s u (Nat.le_refl _) hs hCs (fun _ _ => rfl) hrel hsame)
  · intro L a w hI hLall
    obtain ⟨hd, hz, hu, hcl, s, u, hs, hCs, hcalls, hv⟩ := hI rfl
    obtain ⟨f1, f2, f3, f4⟩ := (hG u).frame hok (n := l.length) (Nat.le_refl _)
    have hsN : s = N := by
      rcases Nat.lt_or_ge s N with h1 | h1
      · exfalso
        obtain ⟨m, hm'⟩ : ∃ m, N = m + 1 := ⟨N - 1, by omega⟩
        obtain ⟨j, oj, hj, ho, hc, hmj⟩ := callsTo_prev (l := l) (n := l.length) (m := m) (Nat.le_refl _) (by omega)
        have := (hcalls j oj ho hc).1 (hLall j hj)
        omega
      · omega
    have ha : a = (G u).2 l.length := by
      obtain ⟨t1, d1⟩ := a
      cases hfr : (G u).2 l.length with
      | mk t2 d2 =>
        rw [hfr] at f1 f2 f3 f4
        simp only at hd hz hv hu f1 f2 f3 f4
        have ht : t1 = t2 := Array.ext_getElem? fun t => by
          by_cases hw : ∃ (j : Nat) (oj : Oper), l[j]? = some oj ∧ oj.dst = some t
          · obtain ⟨j, oj, hj, hdj⟩ := hw
            have hjl := (List.getElem?_eq_some_iff.1 hj).1
            rw [hv u (fun _ _ => rfl) j oj t hj hdj (hLall j hjl), f3 j oj t hjl hj hdj]
          · rw [hu t (fun j oj hj hdj => absurd ⟨j, oj, hj, hdj⟩ hw), f4 t (fun j oj _ hj hdj => hw ⟨j, oj, hj, hdj⟩)]
        rw [ht, hd, f1]
    subst hsN
    rw [ha]
    exact (hG u).last w hCs
/-- The same, with the stages of each operation told. -/
def wpStageX (vl : γ → Value) (P : Program) (ops : Array Oper) (C : (Nat → γ) → Nat → World → Prop) (V : Nat → γ → Prop) (N : Nat) (u : Nat → γ) (Q : Act → Prop) : List (Nat × Nat) → Nat → List Oper → Act → Prop
  | _, s, [], a => s = N ∧ Q a
  | [], _, _ :: _, _ => False
  | m :: ms, s, o :: rest, a => Region.wanted o (yielded ops a.tmps) = true ∧ if isCall o then (∀ w, C u s w → callAtU P o a (fun v w' => ∃ g, vl g = v ∧ V s g ∧ C (setG u s g) (s + 1) w') w) ∧ wpStageX vl P ops C V N u Q ms (s + 1) rest (a.put o.dst (vl (u s)))
    else ∃ v, (∀ p : {w // Btw (C u) m.1 m.2 w}, o.quietAt P a (fun w' => w' = p.val) p.val v) ∧ wpStageX vl P ops C V N u Q ms s rest (a.put o.dst v)
def losOk (LL : List Oper) (N : Nat) : Nat → Nat → List Oper → List (Nat × Nat) → Bool
  | _, _, [], _ => true
  | _, _, _ :: _, [] => false
  | i, s, o :: rest, m :: ms => (isCall o || (decide (m.1 ≤ loOf LL o) && decide (hiTo i N rest s ≤ m.2))) && losOk LL N (i + 1) (if isCall o then s + 1 else s) rest ms
theorem stageH_of_X {Q : Act → Prop} : ∀ (l : List Oper) (ms : List (Nat × Nat)) (i s : Nat) (a : Act), losOk LL N i s l ms = true → wpStageX vl P ops C V N u Q ms s l a → wpStageH vl P ops LL C V N u Q i s l a
  | [], ms, i, s, a, _, h => by unfold wpStageX at h; exact h
  | o :: rest, [], i, s, a, h, _ => by unfold losOk at h; cases h
  | o :: rest, m :: ms, i, s, a, hk, h => by
    unfold losOk at hk
    rw [Bool.and_eq_true] at hk
    unfold wpStageX at h
    unfold wpStageH
    obtain ⟨hw0, h⟩ := h
    refine ⟨hw0, ?_⟩
    cases hc : isCall o with
    | true =>
      rw [hc] at h hk
      exact ⟨h.1, stageH_of_X rest ms (i + 1) (s + 1) _ hk.2 h.2⟩
    | false =>
      rw [hc, if_neg (by simp)] at h
      rw [hc] at hk
      rw [if_neg (by simp)]
      obtain ⟨v, h1, h2⟩ := h
      obtain ⟨hlo, hhi⟩ : m.1 ≤ loOf LL o ∧ hiTo i N rest s ≤ m.2 := by simpa using hk.1
      exact ⟨v, fun p => h1 ⟨p.val, p.property.elim fun s' h => ⟨s', by omega, by omega, h.2.2⟩⟩, stageH_of_X rest ms (i + 1) s _ hk.2 h2⟩
theorem wpStageX_nil {Q : Act → Prop} {ms : List (Nat × Nat)} {a : Act} (h : Q a) : wpStageX vl P ops C V N u Q ms N [] a := by unfold wpStageX; exact ⟨rfl, h⟩
theorem wpStageX_step {Q : Act → Prop} {s : Nat} {m : Nat × Nat} {ms : List (Nat × Nat)} {a : Act} {o : Oper} {rest : List Oper} (hc : isCall o = false) (hw : Region.wanted o (yielded ops a.tmps) = true)
    (h : ∀ K : Act → Prop, (∀ a, wpStageX vl P ops C V N u Q ms s rest a → K a) → ∃ v, (∀ p : {w // Btw (C u) m.1 m.2 w}, o.quietAt P a (fun w' => w' = p.val) p.val v) ∧ K (a.put o.dst v)) : wpStageX vl P ops C V N u Q (m :: ms) s (o :: rest) a := by
  unfold wpStageX
  rw [hc]
  exact ⟨hw, h _ (fun _ h => h)⟩
theorem wpStageX_call {Q : Act → Prop} {s : Nat} {m : Nat × Nat} {ms : List (Nat × Nat)} {a : Act} {o : Oper} {rest : List Oper} (hc : isCall o = true) (hw : Region.wanted o (yielded ops a.tmps) = true)
    (h1 : ∀ w, C u s w → callAtU P o a (fun v w' => ∃ g, vl g = v ∧ V s g ∧ C (setG u s g) (s + 1) w') w) (h2 : wpStageX vl P ops C V N u Q ms (s + 1) rest (a.put o.dst (vl (u s)))) : wpStageX vl P ops C V N u Q (m :: ms) s (o :: rest) a := by
  unfold wpStageX
  rw [hc]
  exact ⟨hw, h1, h2⟩
theorem wp_region_stageX {id : Nat} {Q : Exit → Act → World → Prop} {a0 : Act} {w0 : World} {l : List Oper} (ms : List (Nat × Nat)) (hm : P.follows .mixedOrders = true) (hl : lowEdges l = true) (hok : stageOkG l a0.tmps.size = true) (hpl : stillsPlainG l = true) (hms : losOk l N 0 0 l ms = true)
    (hV : ∀ s, ∃ g, V s g) (hcong : ∀ u u' s w, (∀ j, j < s → u j = u' j) → C u s w → C u' s w)
    (hC : ∀ u, C u 0 w0.drew) (h : ∀ u, (∀ s, V s (u s)) → wpStageX vl P l.toArray C V N u (fun a' => ∀ w', C u N w' → Q .normal a' w') ms 0 l a0) : (Code.region id l.toArray true).wp P Q a0 w0 :=
  wp_region_stageHH (vl := vl) hm hl hok hpl hV hcong hC fun u hu => stageH_of_X _ _ _ _ _ hms (h u hu)
end
end Go.Proofs.Ytpdckjbknphelaa
