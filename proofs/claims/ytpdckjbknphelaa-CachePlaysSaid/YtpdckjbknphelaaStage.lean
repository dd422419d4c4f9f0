/-
  A region that draws its order, whose own operations only read, and whose calls, chained one behind the other, change the world: one walk in the text's order, a class of worlds for each stage between the calls.
-/
import Derived.Test.YtpdckjbknphelaaMg0
namespace Go.Proofs.Ytpdckjbknphelaa
open Go.RowKit
set_option linter.unusedSimpArgs false
set_option linter.unusedVariables false

def isCall (o : Oper) : Bool := match o.op with
  | .call c => match c.callee with
    | .value _ => true
    | .builtin .append => true
    | .builtin .delete => true
    | _ => false
  | .store .. => true
  | .buildSlice .. => true
  | .mapUpdate .. => true
  | _ => false
/-- So many calls stand ahead of operation i. -/
def callsTo : List Oper → Nat → Nat
  | [], _ => 0
  | _ :: _, 0 => 0
  | o :: r, i + 1 => (if isCall o then 1 else 0) + callsTo r i
def noSelect (o : Oper) : Bool := match o.op with
  | .select _ _ => false
  | _ => true
def waits (o : Oper) (j : Nat) : Bool := o.after.any fun e => Region.binds .any e && e.on == j
/-- No guard; each operand waits for the operation that writes it, which stands ahead; each slot is written once, within the frame; each call waits for the one ahead of it. -/
def stageOk (l : List Oper) (size : Nat) : Bool :=
  l.all (fun o => o.guard.isNone && noSelect o) &&
  (List.range l.length).all (fun i => (List.range l.length).all fun j => match l[i]?, l[j]? with
    | some oi, some oj =>
      (match oj.dst with
        | some d => decide (d < size) && (!(oi.op.operands.any fun x => match x with | .tmp t => t == d | _ => false) || (waits oi j && decide (j < i))) && (match oi.dst with | some d' => d' != d || i == j | none => true)
        | none => true) &&
      (!(isCall oi && isCall oj && callsTo l i == callsTo l j + 1) || waits oi j)
    | _, _ => true)

/-- A call of a function that hands back v and leaves a world of the class; a store. -/
def Oper.callAt (P : Program) (o : Oper) (a : Act) (C : World → Prop) (w : World) (v : Value) : Prop := match (execOp a.eval o).run P w with
  | .ok (.enter f args) w' => w' = w ∧ Calls P f args w (fun e w'' => e = .returned v ∧ C w'')
  | .ok (.value u) w' => u = v ∧ C w'
  | .ok .skip w' => v = undef ∧ C w'
  | _ => False
section
variable {P : Program} {C : Nat → World → Prop} {N : Nat}
/-- Every stage's worlds. -/
def AnyStage (C : Nat → World → Prop) (N : Nat) (w : World) : Prop := ∃ s, s ≤ N ∧ C s w
def wpStage (P : Program) (ops : Array Oper) (C : Nat → World → Prop) (N : Nat) (Q : Act → Prop) : Nat → List Oper → Act → Prop
  | s, [], a => s = N ∧ Q a
  | s, o :: rest, a => if isCall o then ∃ v, (∀ w, C s w → Oper.callAt P o a (C (s + 1)) w v) ∧ wpStage P ops C N Q (s + 1) rest (a.put o.dst v)
    else ∃ v, (∀ p : {w // AnyStage C N w}, o.quietAt P a (fun w' => w' = p.val) p.val v) ∧ wpStage P ops C N Q s rest (a.put o.dst v)
theorem wpStage_nil {ops : Array Oper} {Q : Act → Prop} {a : Act} (h : Q a) : wpStage P ops C N Q N [] a := ⟨rfl, h⟩
theorem wpStage_step {ops : Array Oper} {Q : Act → Prop} {s : Nat} {a : Act} {o : Oper} {rest : List Oper} (hc : isCall o = false)
    (h : ∀ K : Act → Prop, (∀ a, wpStage P ops C N Q s rest a → K a) → ∃ v, (∀ p : {w // AnyStage C N w}, o.quietAt P a (fun w' => w' = p.val) p.val v) ∧ K (a.put o.dst v)) : wpStage P ops C N Q s (o :: rest) a := by
  unfold wpStage
  rw [hc]
  exact h _ (fun _ h => h)
theorem wpStage_call {ops : Array Oper} {Q : Act → Prop} {s : Nat} {a : Act} {o : Oper} {rest : List Oper} (hc : isCall o = true) (v : Value)
    (h1 : ∀ w, C s w → Oper.callAt P o a (C (s + 1)) w v) (h2 : wpStage P ops C N Q (s + 1) rest (a.put o.dst v)) : wpStage P ops C N Q s (o :: rest) a := by
  unfold wpStage
  rw [hc]
  exact ⟨v, h1, h2⟩

/-- What each operation yields, in the text's order. -/
structure Lex (P : Program) (l : List Oper) (C : Nat → World → Prop) (N : Nat) (Q : Act → Prop) (s0 : Nat) (a0 : Act) (vals : Nat → Value) (fr : Nat → Act) : Prop where
  zero : fr 0 = a0
  step : ∀ i o, l[i]? = some o → fr (i + 1) = (fr i).put o.dst (vals i)
  call : ∀ i o, l[i]? = some o → isCall o = true → ∀ w, C (s0 + callsTo l i) w → Oper.callAt P o (fr i) (C (s0 + callsTo l i + 1)) w (vals i)
  still : ∀ i o, l[i]? = some o → isCall o = false → ∀ w, AnyStage C N w → o.quietAt P (fr i) (fun w' => w' = w) w (vals i)
  last : Q (fr l.length)
  all : s0 + callsTo l l.length = N
theorem wanted_plain {o : Oper} (h : o.guard = none) (y : Array Value) (ops : Array Oper) (a : Act) : Region.wanted o (yielded ops a.tmps) = true := by simp [Region.wanted, h]
theorem lex_of {ops : Array Oper} {Q : Act → Prop} : ∀ (l : List Oper) (s : Nat) (a : Act), (∀ o ∈ l, o.guard = none) → wpStage P ops C N Q s l a → ∃ vals fr, Lex P l C N Q s a vals fr
  | [], s, a, _, h => ⟨fun _ => undef, fun _ => a, rfl, (fun i o h => by simp at h), (fun i o h => by simp at h), (fun i o h => by simp at h), h.2, by simp [callsTo]; exact h.1⟩
  | o :: rest, s, a, hg, h => by
    unfold wpStage at h
    cases hc : isCall o with
    | true =>
      rw [hc] at h
      obtain ⟨v, h1, h2⟩ := h
      obtain ⟨vals, fr, k⟩ := lex_of rest (s + 1) _ (fun o ho => hg o (List.mem_cons_of_mem _ ho)) h2
      refine ⟨fun i => match i with | 0 => v | i + 1 => vals i, fun i => match i with | 0 => a | i + 1 => fr i, rfl, ?_, ?_, ?_, k.last, ?_⟩
      · intro i o' ho'
        cases i with
        | zero => obtain rfl : o = o' := by simpa using ho'
                  exact k.zero
        | succ i => exact k.step i o' (by simpa using ho')
      · intro i o' ho' hc' w hw
        cases i with
        | zero => obtain rfl : o = o' := by simpa using ho'
                  exact h1 w hw
        | succ i =>
          have e : s + callsTo (o :: rest) (i + 1) = s + 1 + callsTo rest i := by simp only [callsTo, hc, if_true]; omega
          rw [e] at hw ⊢
          exact k.call i o' (by simpa using ho') hc' w hw
      · intro i o' ho' hc' w hw
        cases i with
        | zero => obtain rfl : o = o' := by simpa using ho'
                  rw [hc] at hc'; cases hc'
        | succ i => exact k.still i o' (by simpa using ho') hc' w hw
      · have := k.all
        simp only [List.length_cons, callsTo, hc, if_true]
        omega
    | false =>
      rw [hc, if_neg (by simp)] at h
      obtain ⟨v, h1, h2⟩ := h
      obtain ⟨vals, fr, k⟩ := lex_of rest s _ (fun o ho => hg o (List.mem_cons_of_mem _ ho)) h2
      refine ⟨fun i => match i with | 0 => v | i + 1 => vals i, fun i => match i with | 0 => a | i + 1 => fr i, rfl, ?_, ?_, ?_, k.last, ?_⟩
      · intro i o' ho'
        cases i with
        | zero => obtain rfl : o = o' := by simpa using ho'
                  exact k.zero
        | succ i => exact k.step i o' (by simpa using ho')
      · intro i o' ho' hc' w hw
        cases i with
        | zero => obtain rfl : o = o' := by simpa using ho'
                  rw [hc] at hc'; cases hc'
        | succ i =>
          have e : s + callsTo (o :: rest) (i + 1) = s + callsTo rest i := by simp only [callsTo, hc]; simp
          rw [e] at hw ⊢
          exact k.call i o' (by simpa using ho') hc' w hw
      · intro i o' ho' hc' w hw
        cases i with
        | zero => obtain rfl : o = o' := by simpa using ho'
                  exact h1 ⟨w, hw⟩
        | succ i => exact k.still i o' (by simpa using ho') hc' w hw
      · have := k.all
        simp only [List.length_cons, callsTo, hc]
        simp only [Bool.false_eq_true, if_false]
        omega

theorem callsTo_succ : ∀ {l : List Oper} {i : Nat} {o : Oper}, l[i]? = some o → callsTo l (i + 1) = callsTo l i + if isCall o then 1 else 0
  | [], i, o, h => by simp at h
  | x :: r, 0, o, h => by
    obtain rfl : x = o := by simpa using h
    cases r <;> simp [callsTo]
  | x :: r, i + 1, o, h => by
    have := callsTo_succ (l := r) (i := i) (o := o) (by simpa using h)
    simp only [callsTo]
    rw [this]
    omega
theorem callsTo_mono {l : List Oper} {i : Nat} : ∀ {j : Nat}, i ≤ j → j ≤ l.length → callsTo l i ≤ callsTo l j
  | 0, h, _ => by have : i = 0 := by omega
                  subst this; exact Nat.le_refl _
  | j + 1, h, hj => by
    by_cases e : i = j + 1
    · subst e; exact Nat.le_refl _
    · have h1 := callsTo_mono (l := l) (i := i) (j := j) (by omega) (by omega)
      rw [callsTo_succ (List.getElem?_eq_getElem (show j < l.length by omega))]
      omega
theorem callsTo_lt {l : List Oper} {i j : Nat} {o : Oper} (hi : l[i]? = some o) (hc : isCall o = true) (h : i < j) (hj : j ≤ l.length) : callsTo l i < callsTo l j := by
  have h1 := callsTo_mono (l := l) (i := i + 1) (j := j) h hj
  rw [callsTo_succ hi, hc, if_pos rfl] at h1
  omega
theorem callsTo_prev {l : List Oper} {m : Nat} : ∀ {n : Nat}, n ≤ l.length → callsTo l n = m + 1 → ∃ i o, i < n ∧ l[i]? = some o ∧ isCall o = true ∧ callsTo l i = m
  | 0, _, h => by cases l <;> simp [callsTo] at h
  | n + 1, hn, h => by
    have hg : l[n]? = some l[n] := List.getElem?_eq_getElem (by omega)
    rw [callsTo_succ hg] at h
    cases hc : isCall l[n] with
    | true =>
      rw [hc, if_pos rfl] at h
      exact ⟨n, _, by omega, hg, hc, by omega⟩
    | false =>
      rw [hc, if_neg (by simp)] at h
      obtain ⟨i, o, h1, h2, h3, h4⟩ := callsTo_prev (n := n) (by omega) h
      exact ⟨i, o, by omega, h2, h3, h4⟩

theorem stageOk_plain {l : List Oper} {z : Nat} (h : stageOk l z = true) {o : Oper} (ho : o ∈ l) : o.guard = none ∧ ∀ cs b, o.op ≠ .select cs b := by
  unfold stageOk at h
  rw [Bool.and_eq_true] at h
  have h1 := List.all_eq_true.1 h.1 o ho
  rw [Bool.and_eq_true] at h1
  refine ⟨by simpa using h1.1, fun cs b e => ?_⟩
  have h2 := h1.2
  unfold noSelect at h2
  rw [e] at h2
  cases h2
theorem stageOk_pair {l : List Oper} {z : Nat} (h : stageOk l z = true) {i j : Nat} {oi oj : Oper} (hi : l[i]? = some oi) (hj : l[j]? = some oj) :
    (∀ d, oj.dst = some d → d < z ∧ (Operand.tmp d ∈ oi.op.operands → waits oi j = true ∧ j < i) ∧ (oi.dst = some d → i = j)) ∧ (isCall oi = true → isCall oj = true → callsTo l i = callsTo l j + 1 → waits oi j = true) := by
  unfold stageOk at h
  rw [Bool.and_eq_true] at h
  have h1 := List.all_eq_true.1 h.2 i (List.mem_range.2 (List.getElem?_eq_some_iff.1 hi).1)
  have h2 := List.all_eq_true.1 h1 j (List.mem_range.2 (List.getElem?_eq_some_iff.1 hj).1)
  simp only [hi, hj, Bool.and_eq_true] at h2
  obtain ⟨h3, h4⟩ := h2
  refine ⟨fun d hd => ?_, fun hc1 hc2 he => ?_⟩
  · rw [hd] at h3
    simp only [Bool.and_eq_true, decide_eq_true_eq, Bool.or_eq_true, Bool.not_eq_true'] at h3
    obtain ⟨⟨h5, h6⟩, h7⟩ := h3
    refine ⟨h5, fun hx => ?_, fun hd' => ?_⟩
    · rcases h6 with h6 | h6
      · exfalso
        rw [Array.any_eq_false'] at h6
        exact h6 _ hx (by simp)
      · exact h6
    · rw [hd'] at h7
      simpa using h7
  · rw [hc1, hc2, he] at h4
    simpa using h4

theorem Lex.frame {l : List Oper} {Q : Act → Prop} {s0 : Nat} {a0 : Act} {vals : Nat → Value} {fr : Nat → Act} (k : Lex P l C N Q s0 a0 vals fr) (hok : stageOk l a0.tmps.size = true) : ∀ {n : Nat}, n ≤ l.length →
    (fr n).defers = a0.defers ∧ (fr n).tmps.size = a0.tmps.size ∧ (∀ j oj d, j < n → l[j]? = some oj → oj.dst = some d → (fr n).tmps[d]? = some (vals j)) ∧ ∀ d, (∀ j oj, j < n → l[j]? = some oj → oj.dst ≠ some d) → (fr n).tmps[d]? = a0.tmps[d]?
  | 0, _ => by
    rw [k.zero]
    exact ⟨rfl, rfl, fun j _ _ hj => absurd hj (Nat.not_lt_zero _), fun _ _ => rfl⟩
  | n + 1, hn => by
    obtain ⟨h1, h2, h3, h4⟩ := Lex.frame k hok (n := n) (by omega)
    have hg : l[n]? = some l[n] := List.getElem?_eq_getElem (by omega)
    rw [k.step n _ hg]
    cases hd : l[n].dst with
    | none =>
      refine ⟨h1, h2, fun j oj d hj ho hdj => ?_, fun d hd' => ?_⟩
      · by_cases e : j = n
        · subst e
          rw [hg] at ho
          obtain rfl := Option.some.inj ho
          rw [hd] at hdj; cases hdj
        · exact h3 j oj d (by omega) ho hdj
      · exact h4 d (fun j oj hj => hd' j oj (by omega))
    | some d0 =>
      have hz := ((stageOk_pair hok hg hg).1 d0 hd).1
      refine ⟨h1, by simp [Act.put, h2], fun j oj d hj ho hdj => ?_, fun d hd' => ?_⟩
      · by_cases e : j = n
        · subst e
          rw [hg] at ho
          obtain rfl := Option.some.inj ho
          rw [hd] at hdj
          obtain rfl := Option.some.inj hdj
          simp [Act.put, h2, hz]
        · have hne : d0 ≠ d := fun e2 => by
            subst e2
            exact e (((stageOk_pair hok ho hg).1 d0 hd).2.2 hdj)
          have := h3 j oj d (by omega) ho hdj
          simp only [Act.put, Array.getElem?_setIfInBounds, hne, if_false]
          exact this
      · have hne : d0 ≠ d := fun e2 => hd' n _ (by omega) hg (by rw [hd, e2])
        simp only [Act.put, Array.getElem?_setIfInBounds, hne, if_false]
        exact h4 d (fun j oj hj => hd' j oj (by omega))

theorem wp_of_quietAt {o : Oper} {a : Act} {C' : World → Prop} {w : World} {v : Value} {K : Act → World → Prop} {Q : Exit → Act → World → Prop} (h : o.quietAt P a C' w v) (hw : C' w) (hk : ∀ w', C' w' → K (a.put o.dst v) w') (hn : isCall o = false → K (a.put o.dst v) w) : o.wp P a w K Q := by
  unfold Oper.quietAt at h
  unfold Oper.wp
  generalize (execOp a.eval o).run P w = r at *
  cases r with
  | ok n w' =>
    cases n <;> simp only [Oper.quietUpon] at h <;> simp only [Oper.upon]
    case value u =>
      obtain ⟨e1, e2⟩ := h
      rw [e1, e2]
      exact hk _ hw
    case skip =>
      obtain ⟨e1, e2⟩ := h
      rw [e1, ← e2]
      exact hk _ hw
    case enter f args =>
      obtain ⟨e1, hc⟩ := h
      rw [e1]
      exact hc.mono fun e w'' ⟨he, hw''⟩ => by subst he; exact hk _ hw''
  | halt x w' => simp only [Oper.quietUpon] at h
theorem wp_of_callAt {o : Oper} {a : Act} {C' : World → Prop} {w : World} {v : Value} {K : Act → World → Prop} {Q : Exit → Act → World → Prop} (h : Oper.callAt P o a C' w v) (hk : ∀ w', C' w' → K (a.put o.dst v) w') : o.wp P a w K Q := by
  unfold Oper.callAt at h
  unfold Oper.wp
  generalize (execOp a.eval o).run P w = r at *
  cases r with
  | ok n w' =>
    cases n <;> simp only at h <;> simp only [Oper.upon]
    case enter f args =>
      obtain ⟨e1, hc⟩ := h
      rw [e1]
      exact hc.mono fun e w'' ⟨he, hw''⟩ => by subst he; exact hk _ hw''
    case value u =>
      obtain ⟨e1, hc⟩ := h
      rw [e1]
      exact hk _ hc
    case skip =>
      obtain ⟨e1, hc⟩ := h
      rw [← e1]
      exact hk _ hc
  | halt x w' => exact h.elim

theorem eval_same {a b : Act} {x : Operand} (h : ∀ t, x = .tmp t → a.tmps[t]? = b.tmps[t]?) : a.eval x = b.eval x := by
  cases x with
  | tmp t =>
    have := h t rfl
    show a.tmps.getD t undef = b.tmps.getD t undef
    rw [Array.getD_eq_getD_getElem?, Array.getD_eq_getD_getElem?, this]
  | const v => rfl
  | global g => rfl
  | func g => rfl

theorem wp_region_stage {id : Nat} {Q : Exit → Act → World → Prop} {a0 : Act} {w0 : World} {l : List Oper} (hm : P.follows .mixedOrders = true) (hl : lowEdges l = true) (hok : stageOk l a0.tmps.size = true)
    (hC : C 0 w0.drew) (h : wpStage P l.toArray C N (fun a' => ∀ w', C N w' → Q .normal a' w') 0 l a0) : (Code.region id l.toArray true).wp P Q a0 w0 := by
  obtain ⟨vals, fr, k⟩ := lex_of l 0 a0 (fun o ho => (stageOk_plain hok ho).1) h
  have hall : callsTo l l.length = N := by have := k.all; omega
  refine wp_region_inv hm hl (fun b0 L a w => b0 = a0 → (a.defers = a0.defers ∧ a.tmps.size = a0.tmps.size ∧ (∀ j oj d, l[j]? = some oj → oj.dst = some d → L j = true → a.tmps[d]? = some (vals j)) ∧
    (∀ d, (∀ j oj, l[j]? = some oj → oj.dst = some d → L j = false) → a.tmps[d]? = a0.tmps[d]?) ∧ ∃ s, s ≤ N ∧ C s w ∧ ∀ i o, l[i]? = some o → isCall o = true → (L i = true ↔ callsTo l i < s))) ?_ ?_ ?_
  · exact fun _ => ⟨rfl, rfl, fun _ _ _ _ _ h => (by cases h), fun _ _ => rfl, 0, Nat.zero_le _, hC, fun i o _ _ => ⟨fun h => (by cases h), fun h => absurd h (Nat.not_lt_zero _)⟩⟩
  · intro L a w hI i o hi hLi hdep
    obtain ⟨hd, hz, hv, hu, s, hs, hCs, hcalls⟩ := hI rfl
    have hmem : o ∈ l := List.mem_of_getElem? hi
    obtain ⟨hgd, hsel⟩ := stageOk_plain hok hmem
    have hil := (List.getElem?_eq_some_iff.1 hi).1
    obtain ⟨f1, f2, f3, f4⟩ := k.frame hok (n := i) (by omega)
    rw [if_pos (by simp [Region.wanted, hgd])]
    have hwait : ∀ j, waits o j = true → L j = true := fun j hj => by
      unfold waits at hj
      obtain ⟨e, he, hb⟩ := Array.any_eq_true'.1 hj
      simp only [Bool.and_eq_true, beq_iff_eq] at hb
      rw [← hb.2]
      exact hdep e he hb.1
    have hev : execOp a.eval o = execOp (fr i).eval o := execOp_congr o hsel fun x hx => eval_same fun t ht => by
      subst ht
      by_cases hw : ∃ (j : Nat) (oj : Oper), l[j]? = some oj ∧ oj.dst = some t
      · obtain ⟨j, oj, hj, hdj⟩ := hw
        obtain ⟨h1, h2⟩ := ((stageOk_pair hok hi hj).1 t hdj).2.1 hx
        rw [hv j oj t hj hdj (hwait j h1), f3 j oj t h2 hj hdj]
      · rw [hu t (fun j oj hj hdj => absurd ⟨j, oj, hj, hdj⟩ hw), f4 t (fun j oj _ hj hdj => hw ⟨j, oj, hj, hdj⟩)]
    have hnew : ∀ w' s', s' ≤ N → C s' w' → (∀ i' o', l[i']? = some o' → isCall o' = true → (upd L i i' = true ↔ callsTo l i' < s')) →
        a0 = a0 → ((a.put o.dst (vals i)).defers = a0.defers ∧ (a.put o.dst (vals i)).tmps.size = a0.tmps.size ∧ (∀ j oj d, l[j]? = some oj → oj.dst = some d → upd L i j = true → (a.put o.dst (vals i)).tmps[d]? = some (vals j)) ∧
        (∀ d, (∀ j oj, l[j]? = some oj → oj.dst = some d → upd L i j = false) → (a.put o.dst (vals i)).tmps[d]? = a0.tmps[d]?) ∧ ∃ s, s ≤ N ∧ C s w' ∧ ∀ i' o', l[i']? = some o' → isCall o' = true → (upd L i i' = true ↔ callsTo l i' < s)) := fun w' s' h1 h2 h3 _ => by
      refine ⟨?_, ?_, fun j oj d hj hdj hLj => ?_, fun d hd' => ?_, s', h1, h2, h3⟩
      · cases o.dst <;> exact hd
      · cases o.dst with
        | none => exact hz
        | some d => simp [Act.put, hz]
      · by_cases e : j = i
        · subst e
          rw [hi] at hj
          obtain rfl := Option.some.inj hj
          have hzd := ((stageOk_pair hok hi hi).1 d hdj).1
          rw [hdj]
          simp [Act.put, hz, hzd]
        · rw [upd_other L e] at hLj
          have := hv j oj d hj hdj hLj
          cases hod : o.dst with
          | none => exact this
          | some d0 =>
            have hne : d0 ≠ d := fun e2 => by
              subst e2
              exact e (((stageOk_pair hok hj hi).1 d0 hod).2.2 hdj)
            simp only [Act.put, Array.getElem?_setIfInBounds, hne, if_false]
            exact this
      · have hun := hu d (fun j oj hj hdj => by
          have := hd' j oj hj hdj
          unfold upd at this
          split at this
          · cases this
          · exact this)
        cases hod : o.dst with
        | none => exact hun
        | some d0 =>
          have hne : d0 ≠ d := fun e2 => by
            subst e2
            have := hd' i o hi hod
            rw [upd_same] at this
            cases this
          simp only [Act.put, Array.getElem?_setIfInBounds, hne, if_false]
          exact hun
    cases hc : isCall o with
    | true =>
      have hle : s ≤ callsTo l i := by
        rcases Nat.lt_or_ge (callsTo l i) s with h1 | h1
        · rw [(hcalls i o hi hc).2 h1] at hLi; cases hLi
        · exact h1
      have hge : callsTo l i ≤ s := by
        cases hm' : callsTo l i with
        | zero => exact Nat.zero_le _
        | succ m =>
          obtain ⟨j, oj, hji, hj, hcj, hmj⟩ := callsTo_prev (by omega) hm'
          have h2 := (stageOk_pair hok hi hj).2 hc hcj (by omega)
          have h3 := (hcalls j oj hj hcj).1 (hwait j h2)
          omega
      have hse : s = callsTo l i := by omega
      subst hse
      have hN : callsTo l i + 1 ≤ N := by
        have := callsTo_lt hi hc hil (Nat.le_refl _)
        omega
      have hk := k.call i o hi hc w (by rw [Nat.zero_add]; exact hCs)
      rw [Nat.zero_add] at hk
      have hk2 : Oper.callAt P o a (C (callsTo l i + 1)) w (vals i) := by
        unfold Oper.callAt at hk ⊢
        rw [hev]; exact hk
      refine wp_of_callAt hk2 fun w' hw' => hnew w' _ hN hw' fun i' o' hi' hc' => ?_
      by_cases e : i' = i
      · subst e
        rw [upd_same]
        exact ⟨fun _ => Nat.lt_succ_self _, fun _ => rfl⟩
      · rw [upd_other L e, hcalls i' o' hi' hc']
        constructor
        · intro h; omega
        · intro h
          have hil' := (List.getElem?_eq_some_iff.1 hi').1
          rcases Nat.lt_trichotomy i' i with h1 | h1 | h1
          · exact callsTo_lt hi' hc' h1 (by omega)
          · exact absurd h1 e
          · have := callsTo_lt hi hc h1 (by omega)
            omega
    | false =>
      have hk := k.still i o hi hc w ⟨s, hs, hCs⟩
      have hk2 : o.quietAt P a (fun w' => w' = w) w (vals i) := by
        unfold Oper.quietAt at hk ⊢
        rw [hev]; exact hk
      have hrel : ∀ i' o', l[i']? = some o' → isCall o' = true → (upd L i i' = true ↔ callsTo l i' < s) := fun i' o' hi' hc' => by
        have e : i' ≠ i := fun e => by
          subst e
          rw [hi] at hi'
          obtain rfl := Option.some.inj hi'
          rw [hc] at hc'; cases hc'
        rw [upd_other L e]
        exact hcalls i' o' hi' hc'
      exact wp_of_quietAt hk2 rfl (fun w' hw' => by rw [hw']; exact hnew w s hs hCs hrel) (fun _ => hnew w s hs hCs hrel)
  · intro L a w hI hLall
    obtain ⟨hd, hz, hv, hu, s, hs, hCs, hcalls⟩ := hI rfl
    obtain ⟨f1, f2, f3, f4⟩ := k.frame hok (n := l.length) (Nat.le_refl _)
    have hsN : s = N := by
      rcases Nat.lt_or_ge s N with h1 | h1
      · exfalso
        obtain ⟨m, hm'⟩ : ∃ m, N = m + 1 := ⟨N - 1, by omega⟩
        obtain ⟨j, oj, hj, ho, hc, hmj⟩ := callsTo_prev (l := l) (n := l.length) (m := m) (Nat.le_refl _) (by omega)
        have := (hcalls j oj ho hc).1 (hLall j hj)
        omega
      · omega
    have ha : a = fr l.length := by
      obtain ⟨t1, d1⟩ := a
      cases hfr : fr l.length with
      | mk t2 d2 =>
        rw [hfr] at f1 f2 f3 f4
        simp only at hd hz hv hu f1 f2 f3 f4
        have ht : t1 = t2 := Array.ext_getElem? fun t => by
          by_cases hw : ∃ (j : Nat) (oj : Oper), l[j]? = some oj ∧ oj.dst = some t
          · obtain ⟨j, oj, hj, hdj⟩ := hw
            have hjl := (List.getElem?_eq_some_iff.1 hj).1
            rw [hv j oj t hj hdj (hLall j hjl), f3 j oj t hjl hj hdj]
          · rw [hu t (fun j oj hj hdj => absurd ⟨j, oj, hj, hdj⟩ hw), f4 t (fun j oj _ hj hdj => hw ⟨j, oj, hj, hdj⟩)]
        rw [ht, hd, f1]
    subst hsN
    rw [ha]
    exact k.last w hCs
end
end Go.Proofs.Ytpdckjbknphelaa
