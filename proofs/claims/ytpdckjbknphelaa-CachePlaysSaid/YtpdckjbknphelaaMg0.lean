/-
  Words that all texts of this seat use: a block known whole, and how it is carried over a step; what a call that only adds new blocks leaves.
-/
import Derived.Test.YtpdckjbknphelaaRows
import Derived.WalkKit
import Derived.WalkSpells
import Derived.WalkLawsBesides
import Derived.WalkSmall
import Derived.Deep.QuietTactic
import Derived.BigQuiet
import Derived.Lib.Hide
import Derived.Lib.SmallJoins
namespace Go.Proofs.Ytpdckjbknphelaa
open Go.RowKit
set_option linter.unusedSimpArgs false
set_option linter.unusedVariables false

theorem ret_bool {a b : Bool} (h : a = b) : Ending.returned (.bool a) = .returned (.bool b) := by rw [h]
theorem ret_int {k : IntKind} {a b : Int} (h : a = b) : Ending.returned (.int k a) = .returned (.int k b) := by rw [h]

/-- Block b of w holds these cells, of element type T, none of them frozen. -/
def Blk (w : World) (b : Nat) (cs : List Value) (T : TypeId) : Prop := w.heap[b]? = some (.cells cs.toArray T (0, 0))

theorem Blk.lt {w : World} {b : Nat} {cs : List Value} {T : TypeId} (h : Blk w b cs T) : b < w.heap.size := (Array.getElem?_eq_some_iff.1 h).1

theorem Blk.cell {w : World} {b : Nat} {cs : List Value} {T : TypeId} (h : Blk w b cs T) (i : Nat) {v : Value} (hv : cs[i]? = some v) : w.cell? ⟨b, i, none⟩ = some v := by
  unfold Blk at h; simp only [World.cell?, h, Option.isSome_none, Bool.false_eq_true, if_false, List.getElem?_toArray, hv]

theorem Blk.cell_eq {w : World} {b : Nat} {cs : List Value} {T : TypeId} (h : Blk w b cs T) (i : Nat) : w.cell? ⟨b, i, none⟩ = cs[i]? := by
  unfold Blk at h; simp only [World.cell?, h, Option.isSome_none, Bool.false_eq_true, if_false, List.getElem?_toArray]

theorem Blk.frozen {w : World} {b : Nat} {cs : List Value} {T : TypeId} (h : Blk w b cs T) (i : Nat) : w.frozen? ⟨b, i, none⟩ = false := by
  unfold Blk at h; simp [World.frozen?, h]

theorem Blk.new (w : World) (cs : Array Value) (T : TypeId) : Blk (w.alloc (.cells cs T)) w.heap.size cs.toList T := by
  show (w.heap.push _)[w.heap.size]? = _
  simp

theorem Blk.new_at {w : World} {n : Nat} (cs : Array Value) (T : TypeId) (h : n = w.heap.size) : Blk (w.alloc (.cells cs T)) n cs.toList T := by
  subst h; exact Blk.new w cs T

theorem Blk.alloc {w : World} {b : Nat} {cs : List Value} {T : TypeId} (h : Blk w b cs T) (o : Obj) : Blk (w.alloc o) b cs T :=
  (Below.heap_alloc w o b h.lt).trans h

theorem Blk.drewN {w : World} {b : Nat} {cs : List Value} {T : TypeId} (h : Blk w b cs T) (n : Nat) : Blk (w.drewN n) b cs T := h
theorem Blk.drew {w : World} {b : Nat} {cs : List Value} {T : TypeId} (h : Blk w b cs T) : Blk w.drew b cs T := h

theorem Blk.below {w w1 : World} {b B : Nat} {cs : List Value} {T : TypeId} (h : Blk w b cs T) (hb : Below B w w1) (hlt : b < B) : Blk w1 b cs T :=
  (hb.block b hlt).trans h

theorem Blk.set {w : World} {b : Nat} {cs : List Value} {T : TypeId} (h : Blk w b cs T) (i : Nat) (v : Value) : Blk (w.setCell ⟨b, i, none⟩ v) b (cs.set i v) T := by
  unfold Blk at *
  simp only [World.setCell, Array.getElem?_modify, if_true, h, Option.map_some, Option.isSome_none, Bool.false_eq_true, if_false]
  simp

theorem Blk.set_other {w : World} {b : Nat} {cs : List Value} {T : TypeId} (h : Blk w b cs T) {a : Addr} (v : Value) (hne : b ≠ a.block) : Blk (w.setCell a v) b cs T :=
  (Below.heap_setCell w a v b hne).trans h

/-- The world at a piece of code, under a name: what is known of it. -/
theorem wp_world {P : Program} {c : Code} {Q : Exit → Act → World → Prop} {a : Act} {w : World} (I : World → Prop) (h : I w) (hh : ∀ W, I W → c.wp P Q a W) : c.wp P Q a w := hh w h

/-- One more call that leaves all below its own start. -/
theorem below_step {B : Nat} {w W w1 : World} (h : Below B w W) (hB : B ≤ W.heap.size) (hb : Below W.heap.size W w1) : Below B w w1 := h.trans (hb.mono hB)

theorem hid_below_step {B : Nat} {w W w1 : World} (h : Hid (Below B w W)) (hB : B ≤ W.heap.size) (hb : Below W.heap.size W w1) : Hid (Below B w w1) := below_step h.out hB hb

theorem bcell {W w1 : World} (hb : Below W.heap.size W w1) : (∀ b o, b < W.heap.size → w1.cell? ⟨b, o, none⟩ = W.cell? ⟨b, o, none⟩) ∧ (∀ b o, b < W.heap.size → w1.frozen? ⟨b, o, none⟩ = W.frozen? ⟨b, o, none⟩) :=
  ⟨fun b o h => hb.cell (p := ⟨b, o, none⟩) h, fun b o h => hb.frozen (p := ⟨b, o, none⟩) h⟩

/-! A region that draws its order, whose operations only read and whose callees leave all that lay below their start: one walk in the text's order. -/
/-- How far a world lies beyond another one of which all blocks stand: the count of draws, the blocks behind. -/
structure Ext where
  drawn : Nat
  os : Array Obj
  deriving Inhabited

def ext (W : World) (p : Ext) : World := { W with heap := W.heap ++ p.os, drawn := p.drawn }

theorem below_ext (W : World) (p : Ext) : Below W.heap.size W (ext W p) :=
  ⟨rfl, rfl, rfl, by simp [ext], fun k hk => by show (W.heap ++ p.os)[k]? = _; rw [Array.getElem?_append_left hk]⟩

theorem ext_of_below {W w' : World} (h : Below W.heap.size W w') : ∃ p : Ext, w' = ext W p := by
  refine ⟨⟨w'.drawn, w'.heap.extract W.heap.size w'.heap.size⟩, ?_⟩
  have hh : w'.heap = W.heap ++ w'.heap.extract W.heap.size w'.heap.size := by
    refine Array.ext_getElem? fun i => ?_
    by_cases hi : i < W.heap.size
    · rw [Array.getElem?_append_left hi]; exact h.block i hi
    · rw [Array.getElem?_append_right (by omega), Array.getElem?_extract]
      have := h.size
      split
      · congr 1; omega
      · rw [Array.getElem?_eq_none]; omega
  obtain ⟨hp, tp, dr, o, ou⟩ := w'
  obtain ⟨h1, h2, h3, _, _⟩ := h
  simp only at h1 h2 h3 hh
  subst h1 h2 h3
  simp only [ext]
  rw [← hh]

theorem Blk.ext {W : World} {b : Nat} {cs : List Value} {T : TypeId} (h : Blk W b cs T) (p : Ext) : Blk (ext W p) b cs T := h.below (below_ext W p) h.lt
theorem Blk.cells_ext {W : World} {b : Nat} {cs : List Value} {T : TypeId} (h : Blk W b cs T) (i : Nat) {v : Value} (hv : cs[i]? = some v) : ∀ p : Ext, (Go.Proofs.Ytpdckjbknphelaa.ext W p).cell? ⟨b, i, none⟩ = some v := fun p => (h.ext p).cell i hv

theorem calls_ext_of {P : Program} {f : FuncId} {args : Array Value} {W : World} {p : Ext} {v : Value}
    (h : Calls P f args (ext W p) fun e w' => e = .returned v ∧ Below (ext W p).heap.size (ext W p) w') : Calls P f args (ext W p) fun e w'' => e = .returned v ∧ ∃ q : Ext, w'' = ext W q :=
  h.mono fun _ _ ⟨he, hq⟩ => ⟨he, ext_of_below (below_step (below_ext W p) (below_ext W p).size hq)⟩

theorem wp_region_ext {P : Program} {id : Nat} {Q : Exit → Act → World → Prop} {a : Act} {w : World} {l : List Oper} (hm : P.follows .mixedOrders = true) (hB : Region.lexB .any l.toArray = true)
    (h : wpQuiet P l.toArray (fun w' => ∃ p : Ext, w' = ext w p) (fun a' => ∀ w', (∃ p : Ext, w' = ext w p) → Q .normal a' w') l a) : (Code.region id l.toArray true).wp P Q a w :=
  wp_region_quiet (C := fun w' => ∃ p : Ext, w' = ext w p) hm hB ⟨⟨w.drawn + 1, #[]⟩, by simp [ext]⟩ (by simpa using h)
end Go.Proofs.Ytpdckjbknphelaa

/-
  A region that draws its order, walked by an invariant: what holds of the operations that have come up, whichever these are.
-/
namespace Go.Proofs.Ytpdckjbknphelaa
open Go.RowKit
set_option linter.unusedSimpArgs false
set_option linter.unusedVariables false

def upd (L : Nat → Bool) (i : Nat) : Nat → Bool := fun j => if j = i then true else L j
theorem upd_same (L : Nat → Bool) (i : Nat) : upd L i i = true := if_pos rfl
theorem upd_other (L : Nat → Bool) {i j : Nat} (h : j ≠ i) : upd L i j = L j := if_neg h

/-- Every operation waits for earlier ones alone. -/
def lowEdges (l : List Oper) : Bool := (List.range l.length).all fun i => match l[i]? with | some o => o.after.all fun e => !Region.binds .any e || decide (e.on < i) | none => true

section
variable {P : Program} {l : List Oper} {Q : Exit → Act → World → Prop}

theorem ready_some (hl : lowEdges l = true) {listed : Array Bool} (hs : listed.size = l.length) (hr : Region.ready .any l.toArray listed = []) : ∀ i, i < l.length → listed.getD i false = true := by
  intro i
  induction i using Nat.strongRecOn with
  | _ i ih =>
    intro hi
    cases hb : listed.getD i false with
    | true => rfl
    | false =>
      exfalso
      have hm : i ∈ Region.ready .any l.toArray listed := by
        refine mem_ready.2 ⟨getD_in' (by omega) hb, l[i], by simp [hi], fun e he hbd => ?_⟩
        have h1 := List.all_eq_true.1 hl i (List.mem_range.2 hi)
        rw [List.getElem?_eq_getElem hi] at h1
        have h2 := (Array.all_eq_true'.1 h1) e he
        rw [hbd] at h2
        have h3 : e.on < i := by simpa using h2
        exact ih e.on h3 (by omega)
      rw [hr] at hm
      cases hm
where
  getD_in' {listed : Array Bool} {i : Nat} (hi : i < listed.size) (h : listed.getD i false = false) : listed.getD i true = false := by
    simp [hi] at h ⊢; exact h

theorem wp_region_inv {id : Nat} {a0 : Act} {w0 : World} (hm : P.follows .mixedOrders = true) (hl : lowEdges l = true) (I : Act → (Nat → Bool) → Act → World → Prop)
    (h0 : I a0 (fun _ => false) a0 w0.drew)
    (hstep : ∀ (L : Nat → Bool) (a : Act) (w : World), I a0 L a w → ∀ (i : Nat) (o : Oper), l[i]? = some o → L i = false → (∀ e ∈ o.after, Region.binds .any e = true → L e.on = true) →
      if Region.wanted o (yielded l.toArray a.tmps) then o.wp P a w (fun a' w' => I a0 (upd L i) a' w') Q else I a0 (upd L i) (a.put o.dst undef) w)
    (hend : ∀ (L : Nat → Bool) (a : Act) (w : World), I a0 L a w → (∀ i, i < l.length → L i = true) → Q .normal a w) : (Code.region id l.toArray true).wp P Q a0 w0 := by
  have key : ∀ (fuel : Nat) (listed : Array Bool) (a : Act) (w : World), listed.size = l.length → (∃ k, k + fuel = l.length ∧ (List.range l.length).countP (fun i => listed.getD i false) = k) →
      I a0 (fun i => listed.getD i false) a w → wpAny P .any l.toArray Q fuel listed a w := by
    intro fuel
    induction fuel with
    | zero =>
      intro listed a w hs ⟨k, hk, hc⟩ hI
      have hall : ∀ i, i < l.length → listed.getD i false = true := by
        have h1 : (List.range l.length).countP (fun i => listed.getD i false) = (List.range l.length).length := by rw [hc, List.length_range]; omega
        intro i hi
        exact List.countP_eq_length.1 h1 i (List.mem_range.2 hi)
      refine ⟨?_, hend _ _ _ hI hall⟩
      refine List.eq_nil_iff_forall_not_mem.2 fun i hi => ?_
      obtain ⟨h1, o, ho, _⟩ := mem_ready.1 hi
      have hi' : i < l.length := by
        have := (Array.getElem?_eq_some_iff.1 ho).1
        simpa using this
      have h2 := hall i hi'
      have h3 : i < listed.size := by omega
      simp [h3] at h1 h2
      rw [h1] at h2
      cases h2
    | succ fuel ih =>
      intro listed a w hs ⟨k, hk, hc⟩ hI
      refine ⟨fun hr => hend _ _ _ hI (ready_some hl hs hr), fun i hi => ?_⟩
      obtain ⟨h1, o, ho, hd⟩ := mem_ready.1 hi
      have hi' : i < l.length := by
        have := (Array.getElem?_eq_some_iff.1 ho).1
        simpa using this
      have h3 : i < listed.size := by omega
      have h1' : listed.getD i false = false := by simp [h3] at h1 ⊢; exact h1
      have ho' : l[i]? = some o := by simpa using ho
      have hst := hstep _ _ _ hI i o ho' h1' hd
      have hu : (fun j => (listed.setIfInBounds i true).getD j false) = upd (fun j => listed.getD j false) i := by
        funext j
        unfold upd
        by_cases hj : j = i
        · subst hj; simp [h3]
        · rw [if_neg hj]
          simp [Array.getElem?_setIfInBounds, Ne.symm hj]
      have hcount : (List.range l.length).countP (fun j => (listed.setIfInBounds i true).getD j false) = k + 1 := by
        have hg : ∀ (n : Nat), i < n → (List.range n).countP (upd (fun j => listed.getD j false) i) = (List.range n).countP (fun j => listed.getD j false) + 1 := by
          intro n
          induction n with
          | zero => intro h; omega
          | succ n ihn =>
            intro h
            rw [List.range_succ, List.countP_append, List.countP_append]
            by_cases hn : i = n
            · subst hn
              have hsame : (List.range i).countP (upd (fun j => listed.getD j false) i) = (List.range i).countP (fun j => listed.getD j false) := by
                refine List.countP_congr fun x hx => ?_
                rw [upd_other _ (by have := List.mem_range.1 hx; omega)]
              rw [hsame]
              simp only [List.countP_singleton, upd_same, h1']
              simp
            · rw [ihn (by omega)]
              simp only [List.countP_singleton, upd_other _ (show n ≠ i from fun e => hn e.symm)]
              omega
        rw [hu, hg l.length hi', hc]
      have hnext : ∀ a' w', I a0 (upd (fun j => listed.getD j false) i) a' w' → wpAny P .any l.toArray Q fuel (listed.setIfInBounds i true) a' w' := fun a' w' h => by
        refine ih _ a' w' (by simp [hs]) ⟨k + 1, by omega, hcount⟩ ?_
        rw [hu]
        exact h
      unfold wpOp
      simp only [ho]
      split
      · rename_i hw
        rw [if_pos hw] at hst
        exact .inl (Oper.wp_mono hnext hst)
      · rename_i hw
        rw [if_neg hw] at hst
        exact hnext _ _ hst
  refine wp_region_any hm ?_
  have hsz : l.toArray.size = l.length := by simp
  rw [hsz]
  refine key l.length _ a0 _ (by simp) ⟨0, by omega, ?_⟩ ?_
  · refine List.countP_eq_zero.2 fun i hi => ?_
    have h : i < l.length := List.mem_range.1 hi
    simp [h]
  · have : (fun i => (Array.replicate l.length false).getD i false) = fun _ => false := by
      funext i
      by_cases h : i < l.length <;> simp [h]
    rw [this]
    exact h0
end

/-! The same over the frame as a function: what each slot holds. -/
def ev (f : Nat → Value) : Operand → Value
  | .tmp t => f t
  | .const v => v
  | .global g => .pointer (some ⟨g, 0, none⟩)
  | .func g => .func (.func g) #[] #[]
theorem eval_ev (a : Act) : a.eval = ev (fun t => a.tmps.getD t undef) := by
  funext x; cases x <;> rfl

theorem ev_tmp (f : Nat → Value) (t : Nat) : ev f (.tmp t) = f t := rfl
theorem ev_const (f : Nat → Value) (v : Value) : ev f (.const v) = v := rfl
theorem ev_global (f : Nat → Value) (g : Nat) : ev f (.global g) = .pointer (some ⟨g, 0, none⟩) := rfl
theorem ev_func (f : Nat → Value) (g : Nat) : ev f (.func g) = .func (.func g) #[] #[] := rfl
def updF (f : Nat → Value) (d : Option Nat) (v : Value) : Nat → Value := match d with
  | some d => fun j => if j = d then v else f j
  | none => f

def fwp (P : Program) (o : Oper) (f : Nat → Value) (w : World) (K : (Nat → Value) → World → Prop) : Prop :=
  match (execOp (ev f) o).run P w with
  | .ok (.value v) w' => K (updF f o.dst v) w'
  | .ok .skip w' => K (updF f o.dst undef) w'
  | .ok (.enter g args) w' => Calls P g args w' fun e w'' => ∃ v, e = .returned v ∧ K (updF f o.dst v) w''
  | _ => False

theorem fwp_value {P : Program} {o : Oper} {f : Nat → Value} {w w' : World} {v : Value} {K : (Nat → Value) → World → Prop} (h : (execOp (ev f) o).run P w = .ok (.value v) w') (hk : K (updF f o.dst v) w') : fwp P o f w K := by
  unfold fwp; rw [h]; exact hk
theorem fwp_skip {P : Program} {o : Oper} {f : Nat → Value} {w w' : World} {K : (Nat → Value) → World → Prop} (h : (execOp (ev f) o).run P w = .ok .skip w') (hk : K (updF f o.dst undef) w') : fwp P o f w K := by
  unfold fwp; rw [h]; exact hk
theorem fwp_call {P : Program} {o : Oper} {f : Nat → Value} {w w' : World} {g : FuncId} {args : Array Value} {K : (Nat → Value) → World → Prop} (h : (execOp (ev f) o).run P w = .ok (.enter g args) w') (hk : Calls P g args w' fun e w'' => ∃ v, e = .returned v ∧ K (updF f o.dst v) w'') : fwp P o f w K := by
  unfold fwp; rw [h]; exact hk

def putAll (f : Nat → Value) : List Nat → Act → Act
  | [], a => a
  | d :: ds, a => putAll f ds (a.put (some d) (f d))

theorem putAll_spec (f : Nat → Value) : ∀ (ds : List Nat) (a : Act), (putAll f ds a).defers = a.defers ∧ (putAll f ds a).tmps.size = a.tmps.size ∧ ∀ j, j < a.tmps.size → (putAll f ds a).tmps[j]? = if j ∈ ds then some (f j) else a.tmps[j]?
  | [], a => ⟨rfl, rfl, fun j hj => by simp [putAll]⟩
  | d :: ds, a => by
    obtain ⟨h1, h2, h3⟩ := putAll_spec f ds (a.put (some d) (f d))
    refine ⟨h1, by rw [putAll, h2]; simp [Act.put], fun j hj => ?_⟩
    rw [putAll, h3 j (by simpa [Act.put] using hj)]
    by_cases hm : j ∈ ds
    · simp [hm]
    · by_cases hd : j = d
      · subst hd; simp [hm, Act.put, hj]
      · simp [hm, hd, Act.put, Array.getElem?_setIfInBounds, Ne.symm hd]

theorem wp_region_frame {P : Program} {l : List Oper} {Q : Exit → Act → World → Prop} {id : Nat} {a0 : Act} {w0 : World} (hm : P.follows .mixedOrders = true) (hl : lowEdges l = true) (hg : l.all (fun o => o.guard.isNone) = true)
    (ds : List Nat) (hds : l.all (fun o => match o.dst with | some d => ds.contains d && decide (d < a0.tmps.size) | none => true) = true) (J : (Nat → Bool) → (Nat → Value) → World → Prop)
    (h0 : J (fun _ => false) (fun t => a0.tmps.getD t undef) w0.drew)
    (hstep : ∀ (L : Nat → Bool) (f : Nat → Value) (w : World), J L f w → ∀ (i : Nat) (o : Oper), l[i]? = some o → L i = false → (∀ e ∈ o.after, Region.binds .any e = true → L e.on = true) → fwp P o f w (fun f' w' => J (upd L i) f' w'))
    (hend : ∀ (L : Nat → Bool) (f : Nat → Value) (w : World), J L f w → (∀ i, i < l.length → L i = true) → Q .normal (putAll f ds a0) w) : (Code.region id l.toArray true).wp P Q a0 w0 := by
  refine wp_region_inv hm hl (fun a0 L a w => J L (fun t => a.tmps.getD t undef) w ∧ a.defers = a0.defers ∧ a.tmps.size = a0.tmps.size ∧ ∀ j, j ∉ ds → a.tmps[j]? = a0.tmps[j]?) ⟨h0, rfl, rfl, fun _ _ => rfl⟩ ?_ ?_
  · rintro L a w ⟨hJ, hd1, hd2, hd3⟩ i o ho hL hdep
    have hmem : o ∈ l := List.mem_of_getElem? ho
    have hgo : o.guard = none := by have := List.all_eq_true.1 hg o hmem; simpa using this
    have hw : Region.wanted o (yielded l.toArray a.tmps) = true := by simp [Region.wanted, hgo]
    rw [if_pos hw]
    have hs := hstep L _ w hJ i o ho hL hdep
    unfold fwp at hs
    unfold Oper.wp
    rw [eval_ev]
    have hdo := List.all_eq_true.1 hds o hmem
    have hput : ∀ v w', J (upd L i) (updF (fun t => a.tmps.getD t undef) o.dst v) w' → (J (upd L i) (fun t => (a.put o.dst v).tmps.getD t undef) w' ∧ (a.put o.dst v).defers = a0.defers ∧ (a.put o.dst v).tmps.size = a0.tmps.size ∧ ∀ j, j ∉ ds → (a.put o.dst v).tmps[j]? = a0.tmps[j]?) := fun v w' h => by
      cases hdst : o.dst with
      | none => rw [hdst] at h; exact ⟨h, hd1, hd2, hd3⟩
      | some d =>
        rw [hdst] at h hdo
        simp only [Bool.and_eq_true, decide_eq_true_eq] at hdo
        have hc : d ∈ ds := by simpa using hdo.1
        refine ⟨?_, hd1, by simp [Act.put, hd2], fun j hj => ?_⟩
        · have : (fun t => (a.put (some d) v).tmps.getD t undef) = updF (fun t => a.tmps.getD t undef) (some d) v := by
            funext t
            simp only [updF, Act.put]
            by_cases ht : t = d
            · subst ht
              simp [hd2, hdo.2]
            · rw [if_neg ht]
              simp [Array.getElem?_setIfInBounds, Ne.symm ht]
          rw [this]; exact h
        · have hjd : j ≠ d := fun e => hj (e ▸ hc)
          simp only [Act.put, Array.getElem?_setIfInBounds, Ne.symm hjd, if_false]
          exact hd3 j hj
    generalize (execOp (ev fun t => a.tmps.getD t undef) o).run P w = r at hs ⊢
    cases r with
    | ok n w' =>
      cases n <;> simp only [Oper.upon] at hs ⊢ <;> first | exact hput _ _ hs | exact hs.elim | skip
      case enter g args =>
        refine hs.mono fun e w'' ⟨v, he, hv⟩ => ?_
        subst he
        exact hput _ _ hv
    | halt x w' => exact hs.elim
  · rintro L a w ⟨hJ, hd1, hd2, hd3⟩ hall
    have he := hend L _ w hJ hall
    have ha : putAll (fun t => a.tmps.getD t undef) ds a0 = a := by
      obtain ⟨h1, h2, h3⟩ := putAll_spec (fun t => a.tmps.getD t undef) ds a0
      have ht : (putAll (fun t => a.tmps.getD t undef) ds a0).tmps = a.tmps := by
        refine Array.ext_getElem? fun j => ?_
        by_cases hj : j < a0.tmps.size
        · rw [h3 j hj]
          split
          · have : j < a.tmps.size := by omega
            simp [this]
          · rename_i hjd
            exact (hd3 j hjd).symm
        · rw [Array.getElem?_eq_none (by omega), Array.getElem?_eq_none (by omega)]
      cases hp : putAll (fun t => a.tmps.getD t undef) ds a0 with
      | mk t1 d1 =>
        rw [hp] at h1 ht
        cases a
        simp only at h1 ht hd1
        rw [ht, h1, hd1]
    rw [ha] at he
    exact he
end Go.Proofs.Ytpdckjbknphelaa
