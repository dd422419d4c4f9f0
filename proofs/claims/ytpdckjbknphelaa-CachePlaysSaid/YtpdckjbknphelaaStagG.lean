/-
  As StagU, for a region with guards all of which hold.
-/
import Derived.Test.YtpdckjbknphelaaStagU
namespace Go.Proofs.Ytpdckjbknphelaa
open Go.RowKit
set_option linter.unusedSimpArgs false
set_option linter.unusedVariables false

def plainOpG (o : Oper) : Bool := plainOp o || match o.op with
  | .pick .. | .build .. | .convert .. | .extract .. | .lookup .. | .field .. => true
  | .call c => match c.callee with
    | .builtin .len => true
    | _ => false
  | _ => false
theorem plainG_value {P : Program} {ρ : Operand → Value} {o : Oper} {w w' : World} {n : Next} (hp : plainOpG o = true) (h : (execOp ρ o).run P w = .ok n w') : ∃ v, n = .value v := by
  unfold plainOpG at hp
  rw [Bool.or_eq_true] at hp
  rcases hp with hp | hp
  · exact plain_value hp h
  · unfold execOp at h
    cases ho : o.op <;> rw [ho] at hp h <;> simp only at hp h <;> first | (cases hp; done) | exact run_v h | skip
    case pick =>
      obtain ⟨b, w1, _, h⟩ := run_bind_ok h
      simp at h
      exact ⟨_, h.1.symm⟩
    case call c =>
      cases hc : c.callee <;> rw [hc] at hp <;> first | (cases hp; done) | skip
      rename_i bi
      cases bi <;> first | (cases hp; done) | skip
      unfold resolve at h
      rw [hc] at h
      simp only at h
      obtain ⟨d, w1, h1, h2⟩ := run_bind_ok h
      simp at h1
      obtain ⟨rfl, rfl⟩ := h1
      simp only [invoke, builtin] at h2
      exact run_v h2
/-- A guard stands ahead, is waited for, and writes a slot. -/
def guardOk (l : List Oper) (i : Nat) (o : Oper) : Bool := match o.guard with
  | none => true
  | some (j, _) => waits o j && decide (j < i) && match l[j]? with
    | some oj => oj.dst.isSome
    | none => false
/-- Waits for j, at once or by one between. -/
def waits2 (l : List Oper) (o : Oper) (j : Nat) : Bool := waits o j || (List.range l.length).any fun k => waits o k && match l[k]? with
  | some p => waits p j
  | none => false
def stageOkG (l : List Oper) (size : Nat) : Bool :=
  l.all noSelect && (List.range l.length).all (fun i => match l[i]? with | some o => guardOk l i o | none => true) &&
  (List.range l.length).all (fun i => (List.range l.length).all fun j => match l[i]?, l[j]? with
    | some oi, some oj =>
      (match oj.dst with
        | some d => decide (d < size) && (!(oi.op.operands.any fun x => match x with | .tmp t => t == d | _ => false) || (waits oi j && decide (j < i))) && (match oi.dst with | some d' => d' != d || i == j | none => true)
        | none => true) &&
      (!(isCall oi && isCall oj && callsTo l i == callsTo l j + 1) || waits2 l oi j)
    | _, _ => true)
theorem stageOkG_plain {l : List Oper} {z : Nat} (h : stageOkG l z = true) {o : Oper} (ho : o ∈ l) : ∀ cs b, o.op ≠ .select cs b := by
  unfold stageOkG at h
  rw [Bool.and_eq_true, Bool.and_eq_true] at h
  have h2 := List.all_eq_true.1 h.1.1 o ho
  intro cs b e
  unfold noSelect at h2
  rw [e] at h2
  cases h2
theorem stageOkG_guard {l : List Oper} {z : Nat} (h : stageOkG l z = true) {i j : Nat} {o : Oper} {b : Bool} (hi : l[i]? = some o) (hg : o.guard = some (j, b)) : waits o j = true ∧ j < i ∧ ∃ oj, l[j]? = some oj ∧ ∃ d, oj.dst = some d := by
  unfold stageOkG at h
  rw [Bool.and_eq_true, Bool.and_eq_true] at h
  have h1 := List.all_eq_true.1 h.1.2 i (List.mem_range.2 (List.getElem?_eq_some_iff.1 hi).1)
  simp only [hi] at h1
  unfold guardOk at h1
  rw [hg] at h1
  simp only [Bool.and_eq_true, decide_eq_true_eq] at h1
  obtain ⟨⟨h2, h3⟩, h4⟩ := h1
  refine ⟨h2, h3, ?_⟩
  cases hj : l[j]? with
  | none => rw [hj] at h4; cases h4
  | some oj =>
    rw [hj] at h4
    exact ⟨oj, rfl, Option.isSome_iff_exists.1 h4⟩
theorem stageOkG_pair {l : List Oper} {z : Nat} (h : stageOkG l z = true) {i j : Nat} {oi oj : Oper} (hi : l[i]? = some oi) (hj : l[j]? = some oj) :
    (∀ d, oj.dst = some d → d < z ∧ (Operand.tmp d ∈ oi.op.operands → waits oi j = true ∧ j < i) ∧ (oi.dst = some d → i = j)) ∧ (isCall oi = true → isCall oj = true → callsTo l i = callsTo l j + 1 → waits2 l oi j = true) := by
  unfold stageOkG at h
  rw [Bool.and_eq_true] at h
  have h1 := List.all_eq_true.1 h.2 i (List.mem_range.2 (List.getElem?_eq_some_iff.1 hi).1)
  have h2 := List.all_eq_true.1 h1 j (List.mem_range.2 (List.getElem?_eq_some_iff.1 hj).1)
  simp only [hi, hj, Bool.and_eq_true] at h2
  obtain ⟨h3, h4⟩ := h2
  refine ⟨fun d hd => ?_, fun hc1 hc2 he => ?_⟩
  · rw [hd] at h3
    simp only [Bool.and_eq_true, decide_eq_true_eq, Bool.or_eq_true, Bool.not_eq_true'] at h3
    obtain ⟨⟨h5, h6⟩, h7⟩ := h3
    refine ⟨h5, fun hx => ?_, fun hd' => ?_⟩
    · rcases h6 with h6 | h6
      · exfalso
        rw [Array.any_eq_false'] at h6
        exact h6 _ hx (by simp)
      · exact h6
    · rw [hd'] at h7
      simpa using h7
  · rw [hc1, hc2, he] at h4
    simpa using h4
theorem wanted_same {o : Oper} {l : List Oper} {s t : Array Value} (h : ∀ j b, o.guard = some (j, b) → ∃ oj d, l[j]? = some oj ∧ oj.dst = some d ∧ s[d]? = t[d]?) : Region.wanted o (yielded l.toArray s) = Region.wanted o (yielded l.toArray t) := by
  unfold Region.wanted
  cases hg : o.guard with
  | none => rfl
  | some p =>
    obtain ⟨j, b⟩ := p
    obtain ⟨oj, d, hj, hd, he⟩ := h j b hg
    have e : yielded l.toArray s j = yielded l.toArray t j := by
      unfold yielded
      simp [hj, hd, he]
    simp only [e]
section
variable {P : Program} {C : (Nat → Value) → Nat → World → Prop} {V : Nat → Value → Prop} {N : Nat} {u : Nat → Value} {ops : Array Oper}
def wpStageG (P : Program) (ops : Array Oper) (C : (Nat → Value) → Nat → World → Prop) (V : Nat → Value → Prop) (N : Nat) (u : Nat → Value) (Q : Act → Prop) : Nat → Nat → List Oper → Act → Prop
  | _, s, [], a => s = N ∧ Q a
  | i, s, o :: rest, a => Region.wanted o (yielded ops a.tmps) = true ∧ if isCall o then (∀ w, C u s w → callAtU P o a (fun v w' => V s v ∧ C (setU u s v) (s + 1) w') w) ∧ wpStageG P ops C V N u Q (i + 1) (s + 1) rest (a.put o.dst (u s))
    else ∃ v, (∀ p : {w // AnyStage (C u) (hiTo i N rest s) w}, o.quietAt P a (fun w' => w' = p.val) p.val v) ∧ wpStageG P ops C V N u Q (i + 1) s rest (a.put o.dst v)
theorem wpStageG_nil {Q : Act → Prop} {i : Nat} {a : Act} (h : Q a) : wpStageG P ops C V N u Q i N [] a := ⟨rfl, h⟩
theorem wpStageG_step {Q : Act → Prop} {i s : Nat} {a : Act} {o : Oper} {rest : List Oper} (hc : isCall o = false) (hw : Region.wanted o (yielded ops a.tmps) = true) (M : Nat) (hM : hiTo i N rest s = M)
    (h : ∀ K : Act → Prop, (∀ a, wpStageG P ops C V N u Q (i + 1) s rest a → K a) → ∃ v, (∀ p : {w // AnyStage (C u) M w}, o.quietAt P a (fun w' => w' = p.val) p.val v) ∧ K (a.put o.dst v)) : wpStageG P ops C V N u Q i s (o :: rest) a := by
  subst hM
  unfold wpStageG
  rw [hc]
  exact ⟨hw, h _ (fun _ h => h)⟩
theorem wpStageG_call {Q : Act → Prop} {i s : Nat} {a : Act} {o : Oper} {rest : List Oper} (hc : isCall o = true) (hw : Region.wanted o (yielded ops a.tmps) = true)
    (h1 : ∀ w, C u s w → callAtU P o a (fun v w' => V s v ∧ C (setU u s v) (s + 1) w') w) (h2 : wpStageG P ops C V N u Q (i + 1) (s + 1) rest (a.put o.dst (u s))) : wpStageG P ops C V N u Q i s (o :: rest) a := by
  unfold wpStageG
  rw [hc]
  exact ⟨hw, h1, h2⟩
/-- What each operation yields, in the text's order, when the calls hand back u. -/
structure LexG (P : Program) (ops : Array Oper) (l : List Oper) (C : (Nat → Value) → Nat → World → Prop) (V : Nat → Value → Prop) (N : Nat) (u : Nat → Value) (Q : Act → Prop) (b s0 : Nat) (a0 : Act) (vals : Nat → Value) (fr : Nat → Act) : Prop where
  zero : fr 0 = a0
  want : ∀ i o, l[i]? = some o → Region.wanted o (yielded ops (fr i).tmps) = true
  step : ∀ i o, l[i]? = some o → fr (i + 1) = (fr i).put o.dst (vals i)
  val : ∀ i o, l[i]? = some o → isCall o = true → vals i = u (s0 + callsTo l i)
  call : ∀ i o, l[i]? = some o → isCall o = true → ∀ w, C u (s0 + callsTo l i) w → callAtU P o (fr i) (fun v w' => V (s0 + callsTo l i) v ∧ C (setU u (s0 + callsTo l i) v) (s0 + callsTo l i + 1) w') w
  still : ∀ i o, l[i]? = some o → isCall o = false → ∀ s' w, s' ≤ N → (∀ j oj, l[j]? = some oj → isCall oj = true → waits oj (b + i) = true → s' ≤ s0 + callsTo l j) → C u s' w → o.quietAt P (fr i) (fun w' => w' = w) w (vals i)
  last : Q (fr l.length)
  all : s0 + callsTo l l.length = N
theorem lexG_of {Q : Act → Prop} : ∀ (l : List Oper) (b s : Nat) (a : Act), wpStageG P ops C V N u Q b s l a → ∃ vals fr, LexG P ops l C V N u Q b s a vals fr
  | [], b, s, a, h => ⟨fun _ => undef, fun _ => a, rfl, (fun i o h => by simp at h), (fun i o h => by simp at h), (fun i o h => by simp at h), (fun i o h => by simp at h), (fun i o h => by simp at h), h.2, by simp [callsTo]; exact h.1⟩
  | o :: rest, b, s, a, h => by
    unfold wpStageG at h
    obtain ⟨hw0, h⟩ := h
    cases hc : isCall o with
    | true =>
      rw [hc] at h
      obtain ⟨h1, h2⟩ := h
      obtain ⟨vals, fr, k⟩ := lexG_of rest (b + 1) (s + 1) _ h2
      refine ⟨fun i => match i with | 0 => u s | i + 1 => vals i, fun i => match i with | 0 => a | i + 1 => fr i, rfl, ?_, ?_, ?_, ?_, ?_, k.last, ?_⟩
      · intro i o' ho'
        cases i with
        | zero => obtain rfl : o = o' := by simpa using ho'
                  exact hw0
        | succ i => exact k.want i o' (by simpa using ho')
      · intro i o' ho'
        cases i with
        | zero => obtain rfl : o = o' := by simpa using ho'
                  exact k.zero
        | succ i => exact k.step i o' (by simpa using ho')
      · intro i o' ho' hc'
        cases i with
        | zero => simp [callsTo]
        | succ i =>
          have e : s + callsTo (o :: rest) (i + 1) = s + 1 + callsTo rest i := by simp only [callsTo, hc, if_true]; omega
          rw [e]
          exact k.val i o' (by simpa using ho') hc'
      · intro i o' ho' hc' w hw
        cases i with
        | zero => obtain rfl : o = o' := by simpa using ho'
                  exact h1 w hw
        | succ i =>
          have e : s + callsTo (o :: rest) (i + 1) = s + 1 + callsTo rest i := by simp only [callsTo, hc, if_true]; omega
          rw [e] at hw ⊢
          exact k.call i o' (by simpa using ho') hc' w hw
      · intro i o' ho' hc' s' w hs' hj hw
        cases i with
        | zero => obtain rfl : o = o' := by simpa using ho'
                  rw [hc] at hc'; cases hc'
        | succ i => refine k.still i o' (by simpa using ho') hc' s' w hs' (fun j oj h1 h2 h3 => ?_) hw
                    have := hj (j + 1) oj (by simpa using h1) h2 (by rw [show b + (i + 1) = b + 1 + i by omega]; exact h3)
                    simp only [callsTo, hc, if_true] at this
                    omega
      · have := k.all
        simp only [List.length_cons, callsTo, hc, if_true]
        omega
    | false =>
      rw [hc, if_neg (by simp)] at h
      obtain ⟨v, h1, h2⟩ := h
      obtain ⟨vals, fr, k⟩ := lexG_of rest (b + 1) s _ h2
      refine ⟨fun i => match i with | 0 => v | i + 1 => vals i, fun i => match i with | 0 => a | i + 1 => fr i, rfl, ?_, ?_, ?_, ?_, ?_, k.last, ?_⟩
      · intro i o' ho'
        cases i with
        | zero => obtain rfl : o = o' := by simpa using ho'
                  exact hw0
        | succ i => exact k.want i o' (by simpa using ho')
      · intro i o' ho'
        cases i with
        | zero => obtain rfl : o = o' := by simpa using ho'
                  exact k.zero
        | succ i => exact k.step i o' (by simpa using ho')
      · intro i o' ho' hc'
        cases i with
        | zero => obtain rfl : o = o' := by simpa using ho'
                  rw [hc] at hc'; cases hc'
        | succ i =>
          have e : s + callsTo (o :: rest) (i + 1) = s + callsTo rest i := by simp only [callsTo, hc]; simp
          rw [e]
          exact k.val i o' (by simpa using ho') hc'
      · intro i o' ho' hc' w hw
        cases i with
        | zero => obtain rfl : o = o' := by simpa using ho'
                  rw [hc] at hc'; cases hc'
        | succ i =>
          have e : s + callsTo (o :: rest) (i + 1) = s + callsTo rest i := by simp only [callsTo, hc]; simp
          rw [e] at hw ⊢
          exact k.call i o' (by simpa using ho') hc' w hw
      · intro i o' ho' hc' s' w hs' hj hw
        cases i with
        | zero => obtain rfl : o = o' := by simpa using ho'
                  exact h1 ⟨w, s', hiTo_le (fun j oj h1 h2 h3 => by
                    have := hj (j + 1) oj (by simpa using h1) h2 h3
                    simp only [callsTo, hc] at this
                    simp at this
                    omega) hs', hw⟩
        | succ i => refine k.still i o' (by simpa using ho') hc' s' w hs' (fun j oj h1 h2 h3 => ?_) hw
                    have := hj (j + 1) oj (by simpa using h1) h2 (by rw [show b + (i + 1) = b + 1 + i by omega]; exact h3)
                    simp only [callsTo, hc] at this
                    simp at this
                    omega
      · have := k.all
        simp only [List.length_cons, callsTo, hc]
        simp only [Bool.false_eq_true, if_false]
        omega
theorem LexG.frame {l : List Oper} {Q : Act → Prop} {b s0 : Nat} {a0 : Act} {vals : Nat → Value} {fr : Nat → Act} (k : LexG P ops l C V N u Q b s0 a0 vals fr) (hok : stageOkG l a0.tmps.size = true) : ∀ {n : Nat}, n ≤ l.length →
    (fr n).defers = a0.defers ∧ (fr n).tmps.size = a0.tmps.size ∧ (∀ j oj d, j < n → l[j]? = some oj → oj.dst = some d → (fr n).tmps[d]? = some (vals j)) ∧ ∀ d, (∀ j oj, j < n → l[j]? = some oj → oj.dst ≠ some d) → (fr n).tmps[d]? = a0.tmps[d]?
  | 0, _ => by
    rw [k.zero]
    exact ⟨rfl, rfl, fun j _ _ hj => absurd hj (Nat.not_lt_zero _), fun _ _ => rfl⟩
  | n + 1, hn => by
    obtain ⟨h1, h2, h3, h4⟩ := LexG.frame k hok (n := n) (by omega)
    have hg : l[n]? = some l[n] := List.getElem?_eq_getElem (by omega)
    rw [k.step n _ hg]
    cases hd : l[n].dst with
    | none =>
      refine ⟨h1, h2, fun j oj d hj ho hdj => ?_, fun d hd' => ?_⟩
      · by_cases e : j = n
        · subst e
          rw [hg] at ho
          obtain rfl := Option.some.inj ho
          rw [hd] at hdj; cases hdj
        · exact h3 j oj d (by omega) ho hdj
      · exact h4 d (fun j oj hj => hd' j oj (by omega))
    | some d0 =>
      have hz := ((stageOkG_pair hok hg hg).1 d0 hd).1
      refine ⟨h1, by simp [Act.put, h2], fun j oj d hj ho hdj => ?_, fun d hd' => ?_⟩
      · by_cases e : j = n
        · subst e
          rw [hg] at ho
          obtain rfl := Option.some.inj ho
          rw [hd] at hdj
          obtain rfl := Option.some.inj hdj
          simp [Act.put, h2, hz]
        · have hne : d0 ≠ d := fun e2 => by
            subst e2
            exact e (((stageOkG_pair hok ho hg).1 d0 hd).2.2 hdj)
          have := h3 j oj d (by omega) ho hdj
          simp only [Act.put, Array.getElem?_setIfInBounds, hne, if_false]
          exact this
      · have hne : d0 ≠ d := fun e2 => hd' n _ (by omega) hg (by rw [hd, e2])
        simp only [Act.put, Array.getElem?_setIfInBounds, hne, if_false]
        exact h4 d (fun j oj hj => hd' j oj (by omega))
/-- An operation that yields a value yields one. -/
theorem quiet_sameG {o : Oper} {a b : Act} {w : World} {v v' : Value} (hp : plainOpG o = true) (he : execOp a.eval o = execOp b.eval o) (h : o.quietAt P a (fun w' => w' = w) w v) (h' : o.quietAt P b (fun w' => w' = w) w v') : v = v' := by
  unfold Oper.quietAt at h h'
  rw [he] at h
  cases hr : (execOp b.eval o).run P w with
  | ok n w' =>
    obtain ⟨x, rfl⟩ := plainG_value hp hr
    rw [hr] at h h'
    simp only [Oper.quietUpon] at h h'
    exact h.2.symm.trans h'.2
  | halt x w' =>
    rw [hr] at h
    simp only [Oper.quietUpon] at h

def stillsPlainG (l : List Oper) : Bool := l.all fun o => isCall o || plainOpG o
theorem wp_region_stageG {id : Nat} {Q : Exit → Act → World → Prop} {a0 : Act} {w0 : World} {l : List Oper} (hm : P.follows .mixedOrders = true) (hl : lowEdges l = true) (hok : stageOkG l a0.tmps.size = true) (hpl : stillsPlainG l = true)
    (hV : ∀ s, ∃ v, V s v) (hcong : ∀ u u' s w, (∀ j, j < s → u j = u' j) → C u s w → C u' s w)
    (hC : ∀ u, C u 0 w0.drew) (h : ∀ u, (∀ s, V s (u s)) → wpStageG P l.toArray C V N u (fun a' => ∀ w', C u N w' → Q .normal a' w') 0 0 l a0) : (Code.region id l.toArray true).wp P Q a0 w0 := by
  obtain ⟨G, hG⟩ := Classical.axiomOfChoice (r := fun (u : {u : Nat → Value // ∀ s, V s (u s)}) (y : (Nat → Value) × (Nat → Act)) => LexG P l.toArray l C V N u.val (fun a' => ∀ w', C u.val N w' → Q .normal a' w') 0 0 a0 y.1 y.2) fun u => by
    obtain ⟨vals, fr, k⟩ := lexG_of l 0 0 a0 (h u.val u.property)
    exact ⟨(vals, fr), k⟩
  obtain ⟨us, hus⟩ : ∃ us : Nat → Value, ∀ s, V s (us s) := ⟨fun s => Classical.choose (hV s), fun s => Classical.choose_spec (hV s)⟩
  have hall : callsTo l l.length = N := by have := (hG ⟨us, hus⟩).all; omega
  refine wp_region_inv hm hl (fun b0 L a w => b0 = a0 → (a.defers = a0.defers ∧ a.tmps.size = a0.tmps.size ∧
    (∀ d, (∀ j oj, l[j]? = some oj → oj.dst = some d → L j = false) → a.tmps[d]? = a0.tmps[d]?) ∧ (∀ j oj i, l[j]? = some oj → L j = true → waits oj i = true → L i = true) ∧ ∃ (s : Nat) (u : {u : Nat → Value // ∀ s, V s (u s)}), s ≤ N ∧ C u.val s w ∧ (∀ i o, l[i]? = some o → isCall o = true → (L i = true ↔ callsTo l i < s)) ∧
      ∀ u' : {u : Nat → Value // ∀ s, V s (u s)}, (∀ j, j < s → u'.val j = u.val j) → ∀ j oj d, l[j]? = some oj → oj.dst = some d → L j = true → a.tmps[d]? = some ((G u').1 j))) ?_ ?_ ?_
  · exact fun _ => ⟨rfl, rfl, fun _ _ => rfl, (fun _ _ _ _ h => (by cases h)), 0, ⟨us, hus⟩, Nat.zero_le _, hC _, fun i o _ _ => ⟨fun h => (by cases h), fun h => absurd h (Nat.not_lt_zero _)⟩, fun _ _ _ _ _ _ _ h => (by cases h)⟩
  · intro L a w hI i o hi hLi hdep
    obtain ⟨hd, hz, hu, hcl, s, u, hs, hCs, hcalls, hv⟩ := hI rfl
    have hmem : o ∈ l := List.mem_of_getElem? hi
    have hsel := stageOkG_plain hok hmem
    have hil := (List.getElem?_eq_some_iff.1 hi).1
    have hwait : ∀ j, waits o j = true → L j = true := fun j hj => by
      unfold waits at hj
      obtain ⟨e, he, hb⟩ := Array.any_eq_true'.1 hj
      simp only [Bool.and_eq_true, beq_iff_eq] at hb
      rw [← hb.2]
      exact hdep e he hb.1
    have hwant : Region.wanted o (yielded l.toArray a.tmps) = true := by
      rw [← (hG u).want i o hi]
      refine wanted_same fun j b hg => ?_
      obtain ⟨h1, h2, oj, hj, d, hdj⟩ := stageOkG_guard hok hi hg
      obtain ⟨f1, f2, f3, f4⟩ := (hG u).frame hok (n := i) (by omega)
      refine ⟨oj, d, hj, hdj, ?_⟩
      rw [hv u (fun _ _ => rfl) j oj d hj hdj (hwait j h1), f3 j oj d h2 hj hdj]
    rw [if_pos hwant]
    have hev : ∀ u' : {u : Nat → Value // ∀ s, V s (u s)}, (∀ j, j < s → u'.val j = u.val j) → execOp a.eval o = execOp ((G u').2 i).eval o := fun u' hu' => execOp_congr o hsel fun x hx => eval_same fun t ht => by
      subst ht
      obtain ⟨f1, f2, f3, f4⟩ := (hG u').frame hok (n := i) (by omega)
      by_cases hw : ∃ (j : Nat) (oj : Oper), l[j]? = some oj ∧ oj.dst = some t
      · obtain ⟨j, oj, hj, hdj⟩ := hw
        obtain ⟨h1, h2⟩ := ((stageOkG_pair hok hi hj).1 t hdj).2.1 hx
        rw [hv u' hu' j oj t hj hdj (hwait j h1), f3 j oj t h2 hj hdj]
      · rw [hu t (fun j oj hj hdj => absurd ⟨j, oj, hj, hdj⟩ hw), f4 t (fun j oj _ hj hdj => hw ⟨j, oj, hj, hdj⟩)]
    have hnew : ∀ (x : Value) w' s' (u1 : {u : Nat → Value // ∀ s, V s (u s)}), s ≤ s' → s' ≤ N → C u1.val s' w' → (∀ j, j < s → u1.val j = u.val j) → (∀ i' o', l[i']? = some o' → isCall o' = true → (upd L i i' = true ↔ callsTo l i' < s')) →
        (∀ u' : {u : Nat → Value // ∀ s, V s (u s)}, (∀ j, j < s' → u'.val j = u1.val j) → (G u').1 i = x) →
        a0 = a0 → ((a.put o.dst x).defers = a0.defers ∧ (a.put o.dst x).tmps.size = a0.tmps.size ∧
        (∀ d, (∀ j oj, l[j]? = some oj → oj.dst = some d → upd L i j = false) → (a.put o.dst x).tmps[d]? = a0.tmps[d]?) ∧ (∀ j oj i', l[j]? = some oj → upd L i j = true → waits oj i' = true → upd L i i' = true) ∧ ∃ (s : Nat) (u : {u : Nat → Value // ∀ s, V s (u s)}), s ≤ N ∧ C u.val s w' ∧ (∀ i' o', l[i']? = some o' → isCall o' = true → (upd L i i' = true ↔ callsTo l i' < s)) ∧
        ∀ u' : {u : Nat → Value // ∀ s, V s (u s)}, (∀ j, j < s → u'.val j = u.val j) → ∀ j oj d, l[j]? = some oj → oj.dst = some d → upd L i j = true → (a.put o.dst x).tmps[d]? = some ((G u').1 j)) := fun x w' s' u1 h0 h1 h2 h2' h3 hx _ => by
      refine ⟨?_, ?_, fun d hd' => ?_, fun j oj i' hj hLj hw => ?_, s', u1, h1, h2, h3, fun u' hu' j oj d hj hdj hLj => ?_⟩
      · cases o.dst <;> exact hd
      · cases o.dst with
        | none => exact hz
        | some d => simp [Act.put, hz]
      · have hun := hu d (fun j oj hj hdj => by
          have := hd' j oj hj hdj
          unfold upd at this
          split at this
          · cases this
          · exact this)
        cases hod : o.dst with
        | none => exact hun
        | some d0 =>
          have hne : d0 ≠ d := fun e2 => by
            subst e2
            have := hd' i o hi hod
            rw [upd_same] at this
            cases this
          simp only [Act.put, Array.getElem?_setIfInBounds, hne, if_false]
          exact hun
      · have : L i' = true := by
          by_cases e : j = i
          · subst e
            rw [hi] at hj
            obtain rfl := Option.some.inj hj
            exact hwait i' hw
          · rw [upd_other L e] at hLj
            exact hcl j oj i' hj hLj hw
        unfold upd
        split
        · rfl
        · exact this
      · by_cases e : j = i
        · subst e
          rw [hi] at hj
          obtain rfl := Option.some.inj hj
          have hzd := ((stageOkG_pair hok hi hi).1 d hdj).1
          rw [hdj, hx u' hu']
          simp [Act.put, hz, hzd]
        · rw [upd_other L e] at hLj
          have := hv u' (fun j hj => (hu' j (by omega)).trans (h2' j hj)) j oj d hj hdj hLj
          cases hod : o.dst with
          | none => exact this
          | some d0 =>
            have hne : d0 ≠ d := fun e2 => by
              subst e2
              exact e (((stageOkG_pair hok hj hi).1 d0 hod).2.2 hdj)
            simp only [Act.put, Array.getElem?_setIfInBounds, hne, if_false]
            exact this
    cases hc : isCall o with
    | true =>
      have hle : s ≤ callsTo l i := by
        rcases Nat.lt_or_ge (callsTo l i) s with h1 | h1
        · rw [(hcalls i o hi hc).2 h1] at hLi; cases hLi
        · exact h1
      have hge : callsTo l i ≤ s := by
        cases hm' : callsTo l i with
        | zero => exact Nat.zero_le _
        | succ m =>
          obtain ⟨j, oj, hji, hj, hcj, hmj⟩ := callsTo_prev (by omega) hm'
          have h2 := (stageOkG_pair hok hi hj).2 hc hcj (by omega)
          have h3 := (hcalls j oj hj hcj).1 (by
            unfold waits2 at h2
            rw [Bool.or_eq_true] at h2
            rcases h2 with h2 | h2
            · exact hwait j h2
            · obtain ⟨k, _, hk⟩ := List.any_eq_true.1 h2
              rw [Bool.and_eq_true] at hk
              cases hlk : l[k]? with
              | none => rw [hlk] at hk; cases hk.2
              | some p => rw [hlk] at hk; exact hcl k p j hlk (hwait k hk.1) hk.2)
          omega
      have hse : s = callsTo l i := by omega
      subst hse
      have hN : callsTo l i + 1 ≤ N := by
        have := callsTo_lt hi hc hil (Nat.le_refl _)
        omega
      have hk := (hG u).call i o hi hc w (by rw [Nat.zero_add]; exact hCs)
      rw [Nat.zero_add] at hk
      have hk2 : callAtU P o a (fun v w' => V (callsTo l i) v ∧ C (setU u.val (callsTo l i) v) (callsTo l i + 1) w') w := by
        unfold callAtU at hk ⊢
        rw [hev u (fun _ _ => rfl)]; exact hk
      refine wp_of_callAtU hk2 fun v w' ⟨hVv, hw'⟩ => hnew v w' _ ⟨setU u.val (callsTo l i) v, fun s => ?_⟩ (Nat.le_succ _) hN hw' (fun j hj => setU_other (by omega)) (fun i' o' hi' hc' => ?_) (fun u' hu' => ?_)
      · by_cases e : s = callsTo l i
        · subst e; rw [setU_same]; exact hVv
        · rw [setU_other e]; exact u.property s
      · by_cases e : i' = i
        · subst e
          rw [upd_same]
          exact ⟨fun _ => Nat.lt_succ_self _, fun _ => rfl⟩
        · rw [upd_other L e, hcalls i' o' hi' hc']
          constructor
          · intro h; omega
          · intro h
            have hil' := (List.getElem?_eq_some_iff.1 hi').1
            rcases Nat.lt_trichotomy i' i with h1 | h1 | h1
            · exact callsTo_lt hi' hc' h1 (by omega)
            · exact absurd h1 e
            · have := callsTo_lt hi hc h1 (by omega)
              omega
      · rw [(hG u').val i o hi hc, Nat.zero_add, hu' _ (Nat.lt_succ_self _)]
        exact setU_same _ _ _
    | false =>
      have hpo : plainOpG o = true := by
        have := List.all_eq_true.1 hpl o hmem
        rw [hc] at this
        simpa using this
      have hlate : ∀ j oj, l[j]? = some oj → isCall oj = true → waits oj (0 + i) = true → s ≤ 0 + callsTo l j := fun j oj hj h1 h2 => by
        rw [Nat.zero_add] at h2 ⊢
        rcases Nat.lt_or_ge (callsTo l j) s with h3 | h3
        · have := hcl j oj i hj ((hcalls j oj hj h1).2 h3) h2
          rw [this] at hLi; cases hLi
        · exact h3
      have hk := (hG u).still i o hi hc s w hs hlate hCs
      have hk2 : o.quietAt P a (fun w' => w' = w) w ((G u).1 i) := by
        unfold Oper.quietAt at hk ⊢
        rw [hev u (fun _ _ => rfl)]; exact hk
      have hsame : ∀ u' : {u : Nat → Value // ∀ s, V s (u s)}, (∀ j, j < s → u'.val j = u.val j) → (G u').1 i = (G u).1 i := fun u' hu' =>
        quiet_sameG hpo (((hev u' hu').symm).trans (hev u (fun _ _ => rfl))) ((hG u').still i o hi hc s w hs hlate (hcong _ _ _ _ (fun j hj => (hu' j hj).symm) hCs)) hk
      have hrel : ∀ i' o', l[i']? = some o' → isCall o' = true → (upd L i i' = true ↔ callsTo l i' < s) := fun i' o' hi' hc' => by
        have e : i' ≠ i := fun e => by
          subst e
          rw [hi] at hi'
          obtain rfl := Option.some.inj hi'
          rw [hc] at hc'; cases hc'
        rw [upd_other L e]
        exact hcalls i' o' hi' hc'
      exact wp_of_quietAt hk2 rfl (fun w' hw' => by rw [hw']; exact hnew _ w s u (Nat.le_refl _) hs hCs (fun _ _ => rfl) hrel hsame) (fun _ => hnew _ w s u (Nat.le_refl _) hs hCs (fun _ _ => rfl) hrel hsame)
  · intro L a w hI hLall
    obtain ⟨hd, hz, hu, hcl, s, u, hs, hCs, hcalls, hv⟩ := hI rfl
    obtain ⟨f1, f2, f3, f4⟩ := (hG u).frame hok (n := l.length) (Nat.le_refl _)
    have hsN : s = N := by
      rcases Nat.lt_or_ge s N with h1 | h1
      · exfalso
        obtain ⟨m, hm'⟩ : ∃ m, N = m + 1 := ⟨N - 1, by omega⟩
        obtain ⟨j, oj, hj, ho, hc, hmj⟩ := callsTo_prev (l := l) (n := l.length) (m := m) (Nat.le_refl _) (by omega)
        have := (hcalls j oj ho hc).1 (hLall j hj)
        omega
      · omega
    have ha : a = (G u).2 l.length := by
      obtain ⟨t1, d1⟩ := a
      cases hfr : (G u).2 l.length with
      | mk t2 d2 =>
        rw [hfr] at f1 f2 f3 f4
        simp only at hd hz hv hu f1 f2 f3 f4
        have ht : t1 = t2 := Array.ext_getElem? fun t => by
          by_cases hw : ∃ (j : Nat) (oj : Oper), l[j]? = some oj ∧ oj.dst = some t
          · obtain ⟨j, oj, hj, hdj⟩ := hw
            have hjl := (List.getElem?_eq_some_iff.1 hj).1
            rw [hv u (fun _ _ => rfl) j oj t hj hdj (hLall j hjl), f3 j oj t hjl hj hdj]
          · rw [hu t (fun j oj hj hdj => absurd ⟨j, oj, hj, hdj⟩ hw), f4 t (fun j oj _ hj hdj => hw ⟨j, oj, hj, hdj⟩)]
        rw [ht, hd, f1]
    subst hsN
    rw [ha]
    exact (hG u).last w hCs
/-- The same, with the last stage of each operation told. -/
def wpStageN (P : Program) (ops : Array Oper) (C : (Nat → Value) → Nat → World → Prop) (V : Nat → Value → Prop) (N : Nat) (u : Nat → Value) (Q : Act → Prop) : List Nat → Nat → List Oper → Act → Prop
  | _, s, [], a => s = N ∧ Q a
  | [], _, _ :: _, _ => False
  | m :: ms, s, o :: rest, a => Region.wanted o (yielded ops a.tmps) = true ∧ if isCall o then (∀ w, C u s w → callAtU P o a (fun v w' => V s v ∧ C (setU u s v) (s + 1) w') w) ∧ wpStageN P ops C V N u Q ms (s + 1) rest (a.put o.dst (u s))
    else ∃ v, (∀ p : {w // AnyStage (C u) m w}, o.quietAt P a (fun w' => w' = p.val) p.val v) ∧ wpStageN P ops C V N u Q ms s rest (a.put o.dst v)
theorem stageG_of_M {Q : Act → Prop} : ∀ (l : List Oper) (ms : List Nat) (i s : Nat) (a : Act), hisOk N i s l ms = true → wpStageN P ops C V N u Q ms s l a → wpStageG P ops C V N u Q i s l a
  | [], ms, i, s, a, _, h => by unfold wpStageN at h; exact h
  | o :: rest, [], i, s, a, h, _ => by unfold hisOk at h; cases h
  | o :: rest, m :: ms, i, s, a, hk, h => by
    unfold hisOk at hk
    rw [Bool.and_eq_true] at hk
    unfold wpStageN at h
    unfold wpStageG
    obtain ⟨hw0, h⟩ := h
    refine ⟨hw0, ?_⟩
    cases hc : isCall o with
    | true =>
      rw [hc] at h hk
      exact ⟨h.1, stageG_of_M rest ms (i + 1) (s + 1) _ hk.2 h.2⟩
    | false =>
      rw [hc, if_neg (by simp)] at h
      rw [hc] at hk
      rw [if_neg (by simp)]
      obtain ⟨v, h1, h2⟩ := h
      have hle : hiTo i N rest s ≤ m := by simpa using hk.1
      exact ⟨v, fun p => h1 ⟨p.val, p.property.elim fun s' h => ⟨s', by omega, h.2⟩⟩, stageG_of_M rest ms (i + 1) s _ hk.2 h2⟩
theorem wpStageN_nil {Q : Act → Prop} {ms : List Nat} {a : Act} (h : Q a) : wpStageN P ops C V N u Q ms N [] a := by unfold wpStageN; exact ⟨rfl, h⟩
theorem wpStageN_step {Q : Act → Prop} {s m : Nat} {ms : List Nat} {a : Act} {o : Oper} {rest : List Oper} (hc : isCall o = false) (hw : Region.wanted o (yielded ops a.tmps) = true)
    (h : ∀ K : Act → Prop, (∀ a, wpStageN P ops C V N u Q ms s rest a → K a) → ∃ v, (∀ p : {w // AnyStage (C u) m w}, o.quietAt P a (fun w' => w' = p.val) p.val v) ∧ K (a.put o.dst v)) : wpStageN P ops C V N u Q (m :: ms) s (o :: rest) a := by
  unfold wpStageN
  rw [hc]
  exact ⟨hw, h _ (fun _ h => h)⟩
theorem wpStageN_call {Q : Act → Prop} {s m : Nat} {ms : List Nat} {a : Act} {o : Oper} {rest : List Oper} (hc : isCall o = true) (hw : Region.wanted o (yielded ops a.tmps) = true)
    (h1 : ∀ w, C u s w → callAtU P o a (fun v w' => V s v ∧ C (setU u s v) (s + 1) w') w) (h2 : wpStageN P ops C V N u Q ms (s + 1) rest (a.put o.dst (u s))) : wpStageN P ops C V N u Q (m :: ms) s (o :: rest) a := by
  unfold wpStageN
  rw [hc]
  exact ⟨hw, h1, h2⟩
theorem wp_region_stageN {id : Nat} {Q : Exit → Act → World → Prop} {a0 : Act} {w0 : World} {l : List Oper} (ms : List Nat) (hm : P.follows .mixedOrders = true) (hl : lowEdges l = true) (hok : stageOkG l a0.tmps.size = true) (hpl : stillsPlainG l = true) (hms : hisOk N 0 0 l ms = true)
    (hV : ∀ s, ∃ v, V s v) (hcong : ∀ u u' s w, (∀ j, j < s → u j = u' j) → C u s w → C u' s w)
    (hC : ∀ u, C u 0 w0.drew) (h : ∀ u, (∀ s, V s (u s)) → wpStageN P l.toArray C V N u (fun a' => ∀ w', C u N w' → Q .normal a' w') ms 0 l a0) : (Code.region id l.toArray true).wp P Q a0 w0 :=
  wp_region_stageG hm hl hok hpl hV hcong hC fun u hu => stageG_of_M _ _ _ _ _ hms (h u hu)
end
end Go.Proofs.Ytpdckjbknphelaa
