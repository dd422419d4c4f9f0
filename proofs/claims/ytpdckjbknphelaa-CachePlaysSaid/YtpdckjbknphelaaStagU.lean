/-
  As Stage, but what a call hands back may be any value of a kind: one walk for all of them.
-/
import Derived.Test.YtpdckjbknphelaaStage
namespace Go.Proofs.Ytpdckjbknphelaa
open Go.RowKit
set_option linter.unusedSimpArgs false
set_option linter.unusedVariables false

/-- Operations that yield a value, or halt. -/
def plainOp (o : Oper) : Bool := match o.op with
  | .move _ | .assign _ | .load .. | .nilCheck _ | .fieldAddr .. | .indexAddr .. | .binOp .. | .unOp .. => true
  | _ => false
theorem run_v {P : Program} {s : Sem Value} {w w' : World} {n : Next} (h : (do pure (Next.value (← s)) : Sem Next).run P w = .ok n w') : ∃ v, n = .value v := by
  simp only [Sem.run_bind] at h
  cases hr : s.run P w with
  | ok a w1 =>
    rw [hr] at h
    simp at h
    exact ⟨a, h.1.symm⟩
  | halt x w1 =>
    rw [hr] at h
    simp at h
theorem run_bind_ok {α β : Type} {P : Program} {s : Sem α} {f : α → Sem β} {w w' : World} {n : β} (h : (s >>= f).run P w = .ok n w') : ∃ a w1, s.run P w = .ok a w1 ∧ (f a).run P w1 = .ok n w' := by
  simp only [Sem.run_bind] at h
  cases hr : s.run P w with
  | ok a w1 => rw [hr] at h; exact ⟨a, w1, rfl, by simpa using h⟩
  | halt x w1 => rw [hr] at h; simp at h
theorem plain_value {P : Program} {ρ : Operand → Value} {o : Oper} {w w' : World} {n : Next} (hp : plainOp o = true) (h : (execOp ρ o).run P w = .ok n w') : ∃ v, n = .value v := by
  unfold plainOp at hp
  unfold execOp at h
  cases ho : o.op <;> rw [ho] at hp h <;> simp only at hp h <;> first | (cases hp; done) | exact run_v h | skip
  case move x => simp at h; exact ⟨_, h.1.symm⟩
  case assign x => simp at h; exact ⟨_, h.1.symm⟩
  case nilCheck x =>
    have hrp : (runtimePanic .nilDeref : Sem Next).run P w ≠ .ok n w' := fun h => by simp [runtimePanic, goPanic] at h
    split at h
    · exact absurd h hrp
    · exact absurd h hrp
    · exact absurd h hrp
    · split at h
      · exact absurd h hrp
      · obtain ⟨_, w1, _, h⟩ := run_bind_ok h
        obtain ⟨b, w2, _, h⟩ := run_bind_ok h
        split at h
        · obtain ⟨_, w3, _, h⟩ := run_bind_ok h
          simp at h; exact ⟨_, h.1.symm⟩
        · simp at h; exact ⟨_, h.1.symm⟩
      · simp at h; exact ⟨_, h.1.symm⟩
    · simp at h; exact ⟨_, h.1.symm⟩

def callAtU (P : Program) (o : Oper) (a : Act) (R : Value → World → Prop) (w : World) : Prop := match (execOp a.eval o).run P w with
  | .ok (.enter f args) w' => w' = w ∧ Calls P f args w (fun e w'' => ∃ v, e = .returned v ∧ R v w'')
  | .ok (.value u) w' => R u w'
  | .ok .skip w' => R undef w'
  | _ => False
def setU (u : Nat → Value) (s : Nat) (v : Value) : Nat → Value := fun j => if j = s then v else u j
theorem setU_same (u : Nat → Value) (s : Nat) (v : Value) : setU u s v s = v := if_pos rfl
theorem setU_other {u : Nat → Value} {s j : Nat} {v : Value} (h : j ≠ s) : setU u s v j = u j := if_neg h
section
variable {P : Program} {C : (Nat → Value) → Nat → World → Prop} {V : Nat → Value → Prop} {N : Nat} {u : Nat → Value}
/-- The number of the first call that waits for operation i. -/
def hiTo (i N : Nat) : List Oper → Nat → Nat
  | [], _ => N
  | o :: r, s => if isCall o && waits o i then s else hiTo i N r (if isCall o then s + 1 else s)
theorem hiTo_le {i N s' : Nat} : ∀ {l : List Oper} {s : Nat}, (∀ j oj, l[j]? = some oj → isCall oj = true → waits oj i = true → s' ≤ s + callsTo l j) → s' ≤ N → s' ≤ hiTo i N l s
  | [], s, _, h => h
  | o :: r, s, h, hN => by
    unfold hiTo
    split
    · rename_i hc
      rw [Bool.and_eq_true] at hc
      exact h 0 o rfl hc.1 hc.2
    · refine hiTo_le (fun j oj hj h1 h2 => ?_) hN
      have := h (j + 1) oj (by simpa using hj) h1 h2
      simp only [callsTo] at this
      split <;> rename_i hc
      · rw [if_pos hc] at this; omega
      · rw [if_neg hc] at this; omega
def wpStageU (P : Program) (C : (Nat → Value) → Nat → World → Prop) (V : Nat → Value → Prop) (N : Nat) (u : Nat → Value) (Q : Act → Prop) : Nat → Nat → List Oper → Act → Prop
  | _, s, [], a => s = N ∧ Q a
  | i, s, o :: rest, a => if isCall o then (∀ w, C u s w → callAtU P o a (fun v w' => V s v ∧ C (setU u s v) (s + 1) w') w) ∧ wpStageU P C V N u Q (i + 1) (s + 1) rest (a.put o.dst (u s))
    else ∃ v, (∀ p : {w // AnyStage (C u) (hiTo i N rest s) w}, o.quietAt P a (fun w' => w' = p.val) p.val v) ∧ wpStageU P C V N u Q (i + 1) s rest (a.put o.dst v)
theorem wpStageU_nil {Q : Act → Prop} {i : Nat} {a : Act} (h : Q a) : wpStageU P C V N u Q i N [] a := ⟨rfl, h⟩
theorem wpStageU_step {Q : Act → Prop} {i s : Nat} {a : Act} {o : Oper} {rest : List Oper} (hc : isCall o = false) (M : Nat) (hM : hiTo i N rest s = M)
    (h : ∀ K : Act → Prop, (∀ a, wpStageU P C V N u Q (i + 1) s rest a → K a) → ∃ v, (∀ p : {w // AnyStage (C u) M w}, o.quietAt P a (fun w' => w' = p.val) p.val v) ∧ K (a.put o.dst v)) : wpStageU P C V N u Q i s (o :: rest) a := by
  subst hM
  unfold wpStageU
  rw [hc]
  exact h _ (fun _ h => h)
theorem wpStageU_call {Q : Act → Prop} {i s : Nat} {a : Act} {o : Oper} {rest : List Oper} (hc : isCall o = true)
    (h1 : ∀ w, C u s w → callAtU P o a (fun v w' => V s v ∧ C (setU u s v) (s + 1) w') w) (h2 : wpStageU P C V N u Q (i + 1) (s + 1) rest (a.put o.dst (u s))) : wpStageU P C V N u Q i s (o :: rest) a := by
  unfold wpStageU
  rw [hc]
  exact ⟨h1, h2⟩
/-- What each operation yields, in the text's order, when the calls hand back u. -/
structure LexU (P : Program) (l : List Oper) (C : (Nat → Value) → Nat → World → Prop) (V : Nat → Value → Prop) (N : Nat) (u : Nat → Value) (Q : Act → Prop) (b s0 : Nat) (a0 : Act) (vals : Nat → Value) (fr : Nat → Act) : Prop where
  zero : fr 0 = a0
  step : ∀ i o, l[i]? = some o → fr (i + 1) = (fr i).put o.dst (vals i)
  val : ∀ i o, l[i]? = some o → isCall o = true → vals i = u (s0 + callsTo l i)
  call : ∀ i o, l[i]? = some o → isCall o = true → ∀ w, C u (s0 + callsTo l i) w → callAtU P o (fr i) (fun v w' => V (s0 + callsTo l i) v ∧ C (setU u (s0 + callsTo l i) v) (s0 + callsTo l i + 1) w') w
  still : ∀ i o, l[i]? = some o → isCall o = false → ∀ s' w, s' ≤ N → (∀ j oj, l[j]? = some oj → isCall oj = true → waits oj (b + i) = true → s' ≤ s0 + callsTo l j) → C u s' w → o.quietAt P (fr i) (fun w' => w' = w) w (vals i)
  last : Q (fr l.length)
  all : s0 + callsTo l l.length = N
theorem lexU_of {Q : Act → Prop} : ∀ (l : List Oper) (b s : Nat) (a : Act), wpStageU P C V N u Q b s l a → ∃ vals fr, LexU P l C V N u Q b s a vals fr
  | [], b, s, a, h => ⟨fun _ => undef, fun _ => a, rfl, (fun i o h => by simp at h), (fun i o h => by simp at h), (fun i o h => by simp at h), (fun i o h => by simp at h), h.2, by simp [callsTo]; exact h.1⟩
  | o :: rest, b, s, a, h => by
    unfold wpStageU at h
    cases hc : isCall o with
    | true =>
      rw [hc] at h
      obtain ⟨h1, h2⟩ := h
      obtain ⟨vals, fr, k⟩ := lexU_of rest (b + 1) (s + 1) _ h2
      refine ⟨fun i => match i with | 0 => u s | i + 1 => vals i, fun i => match i with | 0 => a | i + 1 => fr i, rfl, ?_, ?_, ?_, ?_, k.last, ?_⟩
      · intro i o' ho'
        cases i with
        | zero => obtain rfl : o = o' := by simpa using ho'
                  exact k.zero
        | succ i => exact k.step i o' (by simpa using ho')
      · intro i o' ho' hc'
        cases i with
        | zero => simp [callsTo]
        | succ i =>
          have e : s + callsTo (o :: rest) (i + 1) = s + 1 + callsTo rest i := by simp only [callsTo, hc, if_true]; omega
          rw [e]
          exact k.val i o' (by simpa using ho') hc'
      · intro i o' ho' hc' w hw
        cases i with
        | zero => obtain rfl : o = o' := by simpa using ho'
                  exact h1 w hw
        | succ i =>
          have e : s + callsTo (o :: rest) (i + 1) = s + 1 + callsTo rest i := by simp only [callsTo, hc, if_true]; omega
          rw [e] at hw ⊢
          exact k.call i o' (by simpa using ho') hc' w hw
      · intro i o' ho' hc' s' w hs' hj hw
        cases i with
        | zero => obtain rfl : o = o' := by simpa using ho'
                  rw [hc] at hc'; cases hc'
        | succ i => refine k.still i o' (by simpa using ho') hc' s' w hs' (fun j oj h1 h2 h3 => ?_) hw
                    have := hj (j + 1) oj (by simpa using h1) h2 (by rw [show b + (i + 1) = b + 1 + i by omega]; exact h3)
                    simp only [callsTo, hc, if_true] at this
                    omega
      · have := k.all
        simp only [List.length_cons, callsTo, hc, if_true]
        omega
    | false =>
      rw [hc, if_neg (by simp)] at h
      obtain ⟨v, h1, h2⟩ := h
      obtain ⟨vals, fr, k⟩ := lexU_of rest (b + 1) s _ h2
      refine ⟨fun i => match i with | 0 => v | i + 1 => vals i, fun i => match i with | 0 => a | i + 1 => fr i, rfl, ?_, ?_, ?_, ?_, k.last, ?_⟩
      · intro i o' ho'
        cases i with
        | zero => obtain rfl : o = o' := by simpa using ho'
                  exact k.zero
        | succ i => exact k.step i o' (by simpa using ho')
      · intro i o' ho' hc'
        cases i with
        | zero => obtain rfl : o = o' := by simpa using ho'
                  rw [hc] at hc'; cases hc'
        | succ i =>
          have e : s + callsTo (o :: rest) (i + 1) = s + callsTo rest i := by simp only [callsTo, hc]; simp
          rw [e]
          exact k.val i o' (by simpa using ho') hc'
      · intro i o' ho' hc' w hw
        cases i with
        | zero => obtain rfl : o = o' := by simpa using ho'
                  rw [hc] at hc'; cases hc'
        | succ i =>
          have e : s + callsTo (o :: rest) (i + 1) = s + callsTo rest i := by simp only [callsTo, hc]; simp
          rw [e] at hw ⊢
          exact k.call i o' (by simpa using ho') hc' w hw
      · intro i o' ho' hc' s' w hs' hj hw
        cases i with
        | zero => obtain rfl : o = o' := by simpa using ho'
                  exact h1 ⟨w, s', hiTo_le (fun j oj h1 h2 h3 => by
                    have := hj (j + 1) oj (by simpa using h1) h2 h3
                    simp only [callsTo, hc] at this
                    simp at this
                    omega) hs', hw⟩
        | succ i => refine k.still i o' (by simpa using ho') hc' s' w hs' (fun j oj h1 h2 h3 => ?_) hw
                    have := hj (j + 1) oj (by simpa using h1) h2 (by rw [show b + (i + 1) = b + 1 + i by omega]; exact h3)
                    simp only [callsTo, hc] at this
                    simp at this
                    omega
      · have := k.all
        simp only [List.length_cons, callsTo, hc]
        simp only [Bool.false_eq_true, if_false]
        omega
theorem LexU.frame {l : List Oper} {Q : Act → Prop} {b s0 : Nat} {a0 : Act} {vals : Nat → Value} {fr : Nat → Act} (k : LexU P l C V N u Q b s0 a0 vals fr) (hok : stageOk l a0.tmps.size = true) : ∀ {n : Nat}, n ≤ l.length →
    (fr n).defers = a0.defers ∧ (fr n).tmps.size = a0.tmps.size ∧ (∀ j oj d, j < n → l[j]? = some oj → oj.dst = some d → (fr n).tmps[d]? = some (vals j)) ∧ ∀ d, (∀ j oj, j < n → l[j]? = some oj → oj.dst ≠ some d) → (fr n).tmps[d]? = a0.tmps[d]?
  | 0, _ => by
    rw [k.zero]
    exact ⟨rfl, rfl, fun j _ _ hj => absurd hj (Nat.not_lt_zero _), fun _ _ => rfl⟩
  | n + 1, hn => by
    obtain ⟨h1, h2, h3, h4⟩ := LexU.frame k hok (n := n) (by omega)
    have hg : l[n]? = some l[n] := List.getElem?_eq_getElem (by omega)
    rw [k.step n _ hg]
    cases hd : l[n].dst with
    | none =>
      refine ⟨h1, h2, fun j oj d hj ho hdj => ?_, fun d hd' => ?_⟩
      · by_cases e : j = n
        · subst e
          rw [hg] at ho
          obtain rfl := Option.some.inj ho
          rw [hd] at hdj; cases hdj
        · exact h3 j oj d (by omega) ho hdj
      · exact h4 d (fun j oj hj => hd' j oj (by omega))
    | some d0 =>
      have hz := ((stageOk_pair hok hg hg).1 d0 hd).1
      refine ⟨h1, by simp [Act.put, h2], fun j oj d hj ho hdj => ?_, fun d hd' => ?_⟩
      · by_cases e : j = n
        · subst e
          rw [hg] at ho
          obtain rfl := Option.some.inj ho
          rw [hd] at hdj
          obtain rfl := Option.some.inj hdj
          simp [Act.put, h2, hz]
        · have hne : d0 ≠ d := fun e2 => by
            subst e2
            exact e (((stageOk_pair hok ho hg).1 d0 hd).2.2 hdj)
          have := h3 j oj d (by omega) ho hdj
          simp only [Act.put, Array.getElem?_setIfInBounds, hne, if_false]
          exact this
      · have hne : d0 ≠ d := fun e2 => hd' n _ (by omega) hg (by rw [hd, e2])
        simp only [Act.put, Array.getElem?_setIfInBounds, hne, if_false]
        exact h4 d (fun j oj hj => hd' j oj (by omega))
theorem wp_of_callAtU {o : Oper} {a : Act} {R : Value → World → Prop} {w : World} {K : Act → World → Prop} {Q : Exit → Act → World → Prop} (h : callAtU P o a R w) (hk : ∀ v w', R v w' → K (a.put o.dst v) w') : o.wp P a w K Q := by
  unfold callAtU at h
  unfold Oper.wp
  generalize (execOp a.eval o).run P w = r at *
  cases r with
  | ok n w' =>
    cases n <;> simp only at h <;> simp only [Oper.upon]
    case enter f args =>
      obtain ⟨e1, hc⟩ := h
      rw [e1]
      exact hc.mono fun e w'' ⟨v, he, hw''⟩ => by subst he; exact hk _ _ hw''
    case value u => exact hk _ _ h
    case skip => exact hk _ _ h
  | halt x w' => exact h.elim
/-- An operation that yields a value yields one. -/
theorem quiet_same {o : Oper} {a b : Act} {w : World} {v v' : Value} (hp : plainOp o = true) (he : execOp a.eval o = execOp b.eval o) (h : o.quietAt P a (fun w' => w' = w) w v) (h' : o.quietAt P b (fun w' => w' = w) w v') : v = v' := by
  unfold Oper.quietAt at h h'
  rw [he] at h
  cases hr : (execOp b.eval o).run P w with
  | ok n w' =>
    obtain ⟨x, rfl⟩ := plain_value hp hr
    rw [hr] at h h'
    simp only [Oper.quietUpon] at h h'
    exact h.2.symm.trans h'.2
  | halt x w' =>
    rw [hr] at h
    simp only [Oper.quietUpon] at h

def stillsPlain (l : List Oper) : Bool := l.all fun o => isCall o || plainOp o
theorem wp_region_stageU {id : Nat} {Q : Exit → Act → World → Prop} {a0 : Act} {w0 : World} {l : List Oper} (hm : P.follows .mixedOrders = true) (hl : lowEdges l = true) (hok : stageOk l a0.tmps.size = true) (hpl : stillsPlain l = true)
    (hV : ∀ s, ∃ v, V s v) (hcong : ∀ u u' s w, (∀ j, j < s → u j = u' j) → C u s w → C u' s w)
    (hC : ∀ u, C u 0 w0.drew) (h : ∀ u, (∀ s, V s (u s)) → wpStageU P C V N u (fun a' => ∀ w', C u N w' → Q .normal a' w') 0 0 l a0) : (Code.region id l.toArray true).wp P Q a0 w0 := by
  obtain ⟨G, hG⟩ := Classical.axiomOfChoice (r := fun (u : {u : Nat → Value // ∀ s, V s (u s)}) (y : (Nat → Value) × (Nat → Act)) => LexU P l C V N u.val (fun a' => ∀ w', C u.val N w' → Q .normal a' w') 0 0 a0 y.1 y.2) fun u => by
    obtain ⟨vals, fr, k⟩ := lexU_of l 0 0 a0 (h u.val u.property)
    exact ⟨(vals, fr), k⟩
  obtain ⟨us, hus⟩ : ∃ us : Nat → Value, ∀ s, V s (us s) := ⟨fun s => Classical.choose (hV s), fun s => Classical.choose_spec (hV s)⟩
  have hall : callsTo l l.length = N := by have := (hG ⟨us, hus⟩).all; omega
  refine wp_region_inv hm hl (fun b0 L a w => b0 = a0 → (a.defers = a0.defers ∧ a.tmps.size = a0.tmps.size ∧
    (∀ d, (∀ j oj, l[j]? = some oj → oj.dst = some d → L j = false) → a.tmps[d]? = a0.tmps[d]?) ∧ (∀ j oj i, l[j]? = some oj → L j = true → waits oj i = true → L i = true) ∧ ∃ (s : Nat) (u : {u : Nat → Value // ∀ s, V s (u s)}), s ≤ N ∧ C u.val s w ∧ (∀ i o, l[i]? = some o → isCall o = true → (L i = true ↔ callsTo l i < s)) ∧
      ∀ u' : {u : Nat → Value // ∀ s, V s (u s)}, (∀ j, j < s → u'.val j = u.val j) → ∀ j oj d, l[j]? = some oj → oj.dst = some d → L j = true → a.tmps[d]? = some ((G u').1 j))) ?_ ?_ ?_
  · exact fun _ => ⟨rfl, rfl, fun _ _ => rfl, (fun _ _ _ _ h => (by cases h)), 0, ⟨us, hus⟩, Nat.zero_le _, hC _, fun i o _ _ => ⟨fun h => (by cases h), fun h => absurd h (Nat.not_lt_zero _)⟩, fun _ _ _ _ _ _ _ h => (by cases h)⟩
  · intro L a w hI i o hi hLi hdep
    obtain ⟨hd, hz, hu, hcl, s, u, hs, hCs, hcalls, hv⟩ := hI rfl
    have hmem : o ∈ l := List.mem_of_getElem? hi
    obtain ⟨hgd, hsel⟩ := stageOk_plain hok hmem
    have hil := (List.getElem?_eq_some_iff.1 hi).1
    rw [if_pos (by simp [Region.wanted, hgd])]
    have hwait : ∀ j, waits o j = true → L j = true := fun j hj => by
      unfold waits at hj
      obtain ⟨e, he, hb⟩ := Array.any_eq_true'.1 hj
      simp only [Bool.and_eq_true, beq_iff_eq] at hb
      rw [← hb.2]
      exact hdep e he hb.1
    have hev : ∀ u' : {u : Nat → Value // ∀ s, V s (u s)}, (∀ j, j < s → u'.val j = u.val j) → execOp a.eval o = execOp ((G u').2 i).eval o := fun u' hu' => execOp_congr o hsel fun x hx => eval_same fun t ht => by
      subst ht
      obtain ⟨f1, f2, f3, f4⟩ := (hG u').frame hok (n := i) (by omega)
      by_cases hw : ∃ (j : Nat) (oj : Oper), l[j]? = some oj ∧ oj.dst = some t
      · obtain ⟨j, oj, hj, hdj⟩ := hw
        obtain ⟨h1, h2⟩ := ((stageOk_pair hok hi hj).1 t hdj).2.1 hx
        rw [hv u' hu' j oj t hj hdj (hwait j h1), f3 j oj t h2 hj hdj]
      · rw [hu t (fun j oj hj hdj => absurd ⟨j, oj, hj, hdj⟩ hw), f4 t (fun j oj _ hj hdj => hw ⟨j, oj, hj, hdj⟩)]
    have hnew : ∀ (x : Value) w' s' (u1 : {u : Nat → Value // ∀ s, V s (u s)}), s ≤ s' → s' ≤ N → C u1.val s' w' → (∀ j, j < s → u1.val j = u.val j) → (∀ i' o', l[i']? = some o' → isCall o' = true → (upd L i i' = true ↔ callsTo l i' < s')) →
        (∀ u' : {u : Nat → Value // ∀ s, V s (u s)}, (∀ j, j < s' → u'.val j = u1.val j) → (G u').1 i = x) →
        a0 = a0 → ((a.put o.dst x).defers = a0.defers ∧ (a.put o.dst x).tmps.size = a0.tmps.size ∧
        (∀ d, (∀ j oj, l[j]? = some oj → oj.dst = some d → upd L i j = false) → (a.put o.dst x).tmps[d]? = a0.tmps[d]?) ∧ (∀ j oj i', l[j]? = some oj → upd L i j = true → waits oj i' = true → upd L i i' = true) ∧ ∃ (s : Nat) (u : {u : Nat → Value // ∀ s, V s (u s)}), s ≤ N ∧ C u.val s w' ∧ (∀ i' o', l[i']? = some o' → isCall o' = true → (upd L i i' = true ↔ callsTo l i' < s)) ∧
        ∀ u' : {u : Nat → Value // ∀ s, V s (u s)}, (∀ j, j < s → u'.val j = u.val j) → ∀ j oj d, l[j]? = some oj → oj.dst = some d → upd L i j = true → (a.put o.dst x).tmps[d]? = some ((G u').1 j)) := fun x w' s' u1 h0 h1 h2 h2' h3 hx _ => by
      refine ⟨?_, ?_, fun d hd' => ?_, fun j oj i' hj hLj hw => ?_, s', u1, h1, h2, h3, fun u' hu' j oj d hj hdj hLj => ?_⟩
      · cases o.dst <;> exact hd
      · cases o.dst with
        | none => exact hz
        | some d => simp [Act.put, hz]
      · have hun := hu d (fun j oj hj hdj => by
          have := hd' j oj hj hdj
          unfold upd at this
          split at this
          · cases this
          · exact this)
        cases hod : o.dst with
        | none => exact hun
        | some d0 =>
          have hne : d0 ≠ d := fun e2 => by
            subst e2
            have := hd' i o hi hod
            rw [upd_same] at this
            cases this
          simp only [Act.put, Array.getElem?_setIfInBounds, hne, if_false]
          exact hun
      · have : L i' = true := by
          by_cases e : j = i
          · subst e
            rw [hi] at hj
            obtain rfl := Option.some.inj hj
            exact hwait i' hw
          · rw [upd_other L e] at hLj
            exact hcl j oj i' hj hLj hw
        unfold upd
        split
        · rfl
        · exact this
      · by_cases e : j = i
        · subst e
          rw [hi] at hj
          obtain rfl := Option.some.inj hj
          have hzd := ((stageOk_pair hok hi hi).1 d hdj).1
          rw [hdj, hx u' hu']
          simp [Act.put, hz, hzd]
        · rw [upd_other L e] at hLj
          have := hv u' (fun j hj => (hu' j (by omega)).trans (h2' j hj)) j oj d hj hdj hLj
          cases hod : o.dst with
          | none => exact this
          | some d0 =>
            have hne : d0 ≠ d := fun e2 => by
              subst e2
              exact e (((stageOk_pair hok hj hi).1 d0 hod).2.2 hdj)
            simp only [Act.put, Array.getElem?_setIfInBounds, hne, if_false]
            exact this
    cases hc : isCall o with
    | true =>
      have hle : s ≤ callsTo l i := by
        rcases Nat.lt_or_ge (callsTo l i) s with h1 | h1
        · rw [(hcalls i o hi hc).2 h1] at hLi; cases hLi
        · exact h1
      have hge : callsTo l i ≤ s := by
        cases hm' : callsTo l i with
        | zero => exact Nat.zero_le _
        | succ m =>
          obtain ⟨j, oj, hji, hj, hcj, hmj⟩ := callsTo_prev (by omega) hm'
          have h2 := (stageOk_pair hok hi hj).2 hc hcj (by omega)
          have h3 := (hcalls j oj hj hcj).1 (hwait j h2)
          omega
      have hse : s = callsTo l i := by omega
      subst hse
      have hN : callsTo l i + 1 ≤ N := by
        have := callsTo_lt hi hc hil (Nat.le_refl _)
        omega
      have hk := (hG u).call i o hi hc w (by rw [Nat.zero_add]; exact hCs)
      rw [Nat.zero_add] at hk
      have hk2 : callAtU P o a (fun v w' => V (callsTo l i) v ∧ C (setU u.val (callsTo l i) v) (callsTo l i + 1) w') w := by
        unfold callAtU at hk ⊢
        rw [hev u (fun _ _ => rfl)]; exact hk
      refine wp_of_callAtU hk2 fun v w' ⟨hVv, hw'⟩ => hnew v w' _ ⟨setU u.val (callsTo l i) v, fun s => ?_⟩ (Nat.le_succ _) hN hw' (fun j hj => setU_other (by omega)) (fun i' o' hi' hc' => ?_) (fun u' hu' => ?_)
      · by_cases e : s = callsTo l i
        · subst e; rw [setU_same]; exact hVv
        · rw [setU_other e]; exact u.property s
      · by_cases e : i' = i
        · subst e
          rw [upd_same]
          exact ⟨fun _ => Nat.lt_succ_self _, fun _ => rfl⟩
        · rw [upd_other L e, hcalls i' o' hi' hc']
          constructor
          · intro h; omega
          · intro h
            have hil' := (List.getElem?_eq_some_iff.1 hi').1
            rcases Nat.lt_trichotomy i' i with h1 | h1 | h1
            · exact callsTo_lt hi' hc' h1 (by omega)
            · exact absurd h1 e
            · have := callsTo_lt hi hc h1 (by omega)
              omega
      · rw [(hG u').val i o hi hc, Nat.zero_add, hu' _ (Nat.lt_succ_self _)]
        exact setU_same _ _ _
    | false =>
      have hpo : plainOp o = true := by
        have := List.all_eq_true.1 hpl o hmem
        rw [hc] at this
        simpa using this
      have hlate : ∀ j oj, l[j]? = some oj → isCall oj = true → waits oj (0 + i) = true → s ≤ 0 + callsTo l j := fun j oj hj h1 h2 => by
        rw [Nat.zero_add] at h2 ⊢
        rcases Nat.lt_or_ge (callsTo l j) s with h3 | h3
        · have := hcl j oj i hj ((hcalls j oj hj h1).2 h3) h2
          rw [this] at hLi; cases hLi
        · exact h3
      have hk := (hG u).still i o hi hc s w hs hlate hCs
      have hk2 : o.quietAt P a (fun w' => w' = w) w ((G u).1 i) := by
        unfold Oper.quietAt at hk ⊢
        rw [hev u (fun _ _ => rfl)]; exact hk
      have hsame : ∀ u' : {u : Nat → Value // ∀ s, V s (u s)}, (∀ j, j < s → u'.val j = u.val j) → (G u').1 i = (G u).1 i := fun u' hu' =>
        quiet_same hpo (((hev u' hu').symm).trans (hev u (fun _ _ => rfl))) ((hG u').still i o hi hc s w hs hlate (hcong _ _ _ _ (fun j hj => (hu' j hj).symm) hCs)) hk
      have hrel : ∀ i' o', l[i']? = some o' → isCall o' = true → (upd L i i' = true ↔ callsTo l i' < s) := fun i' o' hi' hc' => by
        have e : i' ≠ i := fun e => by
          subst e
          rw [hi] at hi'
          obtain rfl := Option.some.inj hi'
          rw [hc] at hc'; cases hc'
        rw [upd_other L e]
        exact hcalls i' o' hi' hc'
      exact wp_of_quietAt hk2 rfl (fun w' hw' => by rw [hw']; exact hnew _ w s u (Nat.le_refl _) hs hCs (fun _ _ => rfl) hrel hsame) (fun _ => hnew _ w s u (Nat.le_refl _) hs hCs (fun _ _ => rfl) hrel hsame)
  · intro L a w hI hLall
    obtain ⟨hd, hz, hu, hcl, s, u, hs, hCs, hcalls, hv⟩ := hI rfl
    obtain ⟨f1, f2, f3, f4⟩ := (hG u).frame hok (n := l.length) (Nat.le_refl _)
    have hsN : s = N := by
      rcases Nat.lt_or_ge s N with h1 | h1
      · exfalso
        obtain ⟨m, hm'⟩ : ∃ m, N = m + 1 := ⟨N - 1, by omega⟩
        obtain ⟨j, oj, hj, ho, hc, hmj⟩ := callsTo_prev (l := l) (n := l.length) (m := m) (Nat.le_refl _) (by omega)
        have := (hcalls j oj ho hc).1 (hLall j hj)
        omega
      · omega
    have ha : a = (G u).2 l.length := by
      obtain ⟨t1, d1⟩ := a
      cases hfr : (G u).2 l.length with
      | mk t2 d2 =>
        rw [hfr] at f1 f2 f3 f4
        simp only at hd hz hv hu f1 f2 f3 f4
        have ht : t1 = t2 := Array.ext_getElem? fun t => by
          by_cases hw : ∃ (j : Nat) (oj : Oper), l[j]? = some oj ∧ oj.dst = some t
          · obtain ⟨j, oj, hj, hdj⟩ := hw
            have hjl := (List.getElem?_eq_some_iff.1 hj).1
            rw [hv u (fun _ _ => rfl) j oj t hj hdj (hLall j hjl), f3 j oj t hjl hj hdj]
          · rw [hu t (fun j oj hj hdj => absurd ⟨j, oj, hj, hdj⟩ hw), f4 t (fun j oj _ hj hdj => hw ⟨j, oj, hj, hdj⟩)]
        rw [ht, hd, f1]
    subst hsN
    rw [ha]
    exact (hG u).last w hCs
/-- The same, with the last stage of each operation told. -/
def wpStageM (P : Program) (C : (Nat → Value) → Nat → World → Prop) (V : Nat → Value → Prop) (N : Nat) (u : Nat → Value) (Q : Act → Prop) : List Nat → Nat → List Oper → Act → Prop
  | _, s, [], a => s = N ∧ Q a
  | [], _, _ :: _, _ => False
  | m :: ms, s, o :: rest, a => if isCall o then (∀ w, C u s w → callAtU P o a (fun v w' => V s v ∧ C (setU u s v) (s + 1) w') w) ∧ wpStageM P C V N u Q ms (s + 1) rest (a.put o.dst (u s))
    else ∃ v, (∀ p : {w // AnyStage (C u) m w}, o.quietAt P a (fun w' => w' = p.val) p.val v) ∧ wpStageM P C V N u Q ms s rest (a.put o.dst v)
def hisOk (N : Nat) : Nat → Nat → List Oper → List Nat → Bool
  | _, _, [], _ => true
  | _, _, _ :: _, [] => false
  | i, s, o :: rest, m :: ms => (isCall o || decide (hiTo i N rest s ≤ m)) && hisOk N (i + 1) (if isCall o then s + 1 else s) rest ms
theorem stageU_of_M {Q : Act → Prop} : ∀ (l : List Oper) (ms : List Nat) (i s : Nat) (a : Act), hisOk N i s l ms = true → wpStageM P C V N u Q ms s l a → wpStageU P C V N u Q i s l a
  | [], ms, i, s, a, _, h => by unfold wpStageM at h; exact h
  | o :: rest, [], i, s, a, h, _ => by unfold hisOk at h; cases h
  | o :: rest, m :: ms, i, s, a, hk, h => by
    unfold hisOk at hk
    rw [Bool.and_eq_true] at hk
    unfold wpStageM at h
    unfold wpStageU
    cases hc : isCall o with
    | true =>
      rw [hc] at h hk
      exact ⟨h.1, stageU_of_M rest ms (i + 1) (s + 1) _ hk.2 h.2⟩
    | false =>
      rw [hc, if_neg (by simp)] at h
      rw [hc] at hk
      rw [if_neg (by simp)]
      obtain ⟨v, h1, h2⟩ := h
      have hle : hiTo i N rest s ≤ m := by simpa using hk.1
      exact ⟨v, fun p => h1 ⟨p.val, p.property.elim fun s' h => ⟨s', by omega, h.2⟩⟩, stageU_of_M rest ms (i + 1) s _ hk.2 h2⟩
theorem wpStageM_nil {Q : Act → Prop} {ms : List Nat} {a : Act} (h : Q a) : wpStageM P C V N u Q ms N [] a := by unfold wpStageM; exact ⟨rfl, h⟩
theorem wpStageM_step {Q : Act → Prop} {s m : Nat} {ms : List Nat} {a : Act} {o : Oper} {rest : List Oper} (hc : isCall o = false)
    (h : ∀ K : Act → Prop, (∀ a, wpStageM P C V N u Q ms s rest a → K a) → ∃ v, (∀ p : {w // AnyStage (C u) m w}, o.quietAt P a (fun w' => w' = p.val) p.val v) ∧ K (a.put o.dst v)) : wpStageM P C V N u Q (m :: ms) s (o :: rest) a := by
  unfold wpStageM
  rw [hc]
  exact h _ (fun _ h => h)
theorem wpStageM_call {Q : Act → Prop} {s m : Nat} {ms : List Nat} {a : Act} {o : Oper} {rest : List Oper} (hc : isCall o = true)
    (h1 : ∀ w, C u s w → callAtU P o a (fun v w' => V s v ∧ C (setU u s v) (s + 1) w') w) (h2 : wpStageM P C V N u Q ms (s + 1) rest (a.put o.dst (u s))) : wpStageM P C V N u Q (m :: ms) s (o :: rest) a := by
  unfold wpStageM
  rw [hc]
  exact ⟨h1, h2⟩
theorem wp_region_stageM {id : Nat} {Q : Exit → Act → World → Prop} {a0 : Act} {w0 : World} {l : List Oper} (ms : List Nat) (hm : P.follows .mixedOrders = true) (hl : lowEdges l = true) (hok : stageOk l a0.tmps.size = true) (hpl : stillsPlain l = true) (hms : hisOk N 0 0 l ms = true)
    (hV : ∀ s, ∃ v, V s v) (hcong : ∀ u u' s w, (∀ j, j < s → u j = u' j) → C u s w → C u' s w)
    (hC : ∀ u, C u 0 w0.drew) (h : ∀ u, (∀ s, V s (u s)) → wpStageM P C V N u (fun a' => ∀ w', C u N w' → Q .normal a' w') ms 0 l a0) : (Code.region id l.toArray true).wp P Q a0 w0 :=
  wp_region_stageU hm hl hok hpl hV hcong hC fun u hu => stageU_of_M _ _ _ _ _ hms (h u hu)
end
end Go.Proofs.Ytpdckjbknphelaa
