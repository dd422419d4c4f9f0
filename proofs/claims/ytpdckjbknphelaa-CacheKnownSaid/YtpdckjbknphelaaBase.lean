/-
  Words that all texts of this seat use: a block known whole, and how it is carried over a step; what a call that only adds new blocks leaves.
-/
import Derived.Test.YtpdckjbknphelaaRows
import Derived.WalkKit
import Derived.WalkSpells
import Derived.WalkLawsBesides
import Derived.WalkSmall
import Derived.Deep.QuietTactic
import Derived.BigQuiet
import Derived.Lib.Hide
import Derived.Lib.SmallJoins
namespace Go.Proofs.Ytpdckjbknphelaa
open Go.RowKit
set_option linter.unusedSimpArgs false
set_option linter.unusedVariables false

theorem ret_bool {a b : Bool} (h : a = b) : Ending.returned (.bool a) = .returned (.bool b) := by rw [h]
theorem ret_int {k : IntKind} {a b : Int} (h : a = b) : Ending.returned (.int k a) = .returned (.int k b) := by rw [h]

/-- Block b of w holds these cells, of element type T, none of them frozen. -/
def Blk (w : World) (b : Nat) (cs : List Value) (T : TypeId) : Prop := w.heap[b]? = some (.cells cs.toArray T (0, 0))

theorem Blk.lt {w : World} {b : Nat} {cs : List Value} {T : TypeId} (h : Blk w b cs T) : b < w.heap.size := (Array.getElem?_eq_some_iff.1 h).1

theorem Blk.cell {w : World} {b : Nat} {cs : List Value} {T : TypeId} (h : Blk w b cs T) (i : Nat) {v : Value} (hv : cs[i]? = some v) : w.cell? ⟨b, i, none⟩ = some v := by
  unfold Blk at h; simp only [World.cell?, h, Option.isSome_none, Bool.false_eq_true, if_false, List.getElem?_toArray, hv]

theorem Blk.cell_eq {w : World} {b : Nat} {cs : List Value} {T : TypeId} (h : Blk w b cs T) (i : Nat) : w.cell? ⟨b, i, none⟩ = cs[i]? := by
  unfold Blk at h; simp only [World.cell?, h, Option.isSome_none, Bool.false_eq_true, if_false, List.getElem?_toArray]

theorem Blk.frozen {w : World} {b : Nat} {cs : List Value} {T : TypeId} (h : Blk w b cs T) (i : Nat) : w.frozen? ⟨b, i, none⟩ = false := by
  unfold Blk at h; simp [World.frozen?, h]

theorem Blk.new (w : World) (cs : Array Value) (T : TypeId) : Blk (w.alloc (.cells cs T)) w.heap.size cs.toList T := by
  show (w.heap.push _)[w.heap.size]? = _
  simp

theorem Blk.new_at {w : World} {n : Nat} (cs : Array Value) (T : TypeId) (h : n = w.heap.size) : Blk (w.alloc (.cells cs T)) n cs.toList T := by
  subst h; exact Blk.new w cs T

theorem Blk.alloc {w : World} {b : Nat} {cs : List Value} {T : TypeId} (h : Blk w b cs T) (o : Obj) : Blk (w.alloc o) b cs T :=
  (Below.heap_alloc w o b h.lt).trans h

theorem Blk.drewN {w : World} {b : Nat} {cs : List Value} {T : TypeId} (h : Blk w b cs T) (n : Nat) : Blk (w.drewN n) b cs T := h
theorem Blk.drew {w : World} {b : Nat} {cs : List Value} {T : TypeId} (h : Blk w b cs T) : Blk w.drew b cs T := h

theorem Blk.below {w w1 : World} {b B : Nat} {cs : List Value} {T : TypeId} (h : Blk w b cs T) (hb : Below B w w1) (hlt : b < B) : Blk w1 b cs T :=
  (hb.block b hlt).trans h

theorem Blk.set {w : World} {b : Nat} {cs : List Value} {T : TypeId} (h : Blk w b cs T) (i : Nat) (v : Value) : Blk (w.setCell ⟨b, i, none⟩ v) b (cs.set i v) T := by
  unfold Blk at *
  simp only [World.setCell, Array.getElem?_modify, if_true, h, Option.map_some, Option.isSome_none, Bool.false_eq_true, if_false]
  simp

theorem Blk.set_other {w : World} {b : Nat} {cs : List Value} {T : TypeId} (h : Blk w b cs T) {a : Addr} (v : Value) (hne : b ≠ a.block) : Blk (w.setCell a v) b cs T :=
  (Below.heap_setCell w a v b hne).trans h

/-- The world at a piece of code, under a name: what is known of it. -/
theorem wp_world {P : Program} {c : Code} {Q : Exit → Act → World → Prop} {a : Act} {w : World} (I : World → Prop) (h : I w) (hh : ∀ W, I W → c.wp P Q a W) : c.wp P Q a w := hh w h

/-- One more call that leaves all below its own start. -/
theorem below_step {B : Nat} {w W w1 : World} (h : Below B w W) (hB : B ≤ W.heap.size) (hb : Below W.heap.size W w1) : Below B w w1 := h.trans (hb.mono hB)

theorem hid_below_step {B : Nat} {w W w1 : World} (h : Hid (Below B w W)) (hB : B ≤ W.heap.size) (hb : Below W.heap.size W w1) : Hid (Below B w w1) := below_step h.out hB hb

theorem bcell {W w1 : World} (hb : Below W.heap.size W w1) : (∀ b o, b < W.heap.size → w1.cell? ⟨b, o, none⟩ = W.cell? ⟨b, o, none⟩) ∧ (∀ b o, b < W.heap.size → w1.frozen? ⟨b, o, none⟩ = W.frozen? ⟨b, o, none⟩) :=
  ⟨fun b o h => hb.cell (p := ⟨b, o, none⟩) h, fun b o h => hb.frozen (p := ⟨b, o, none⟩) h⟩

/-! A region that draws its order, whose operations only read and whose callees leave all that lay below their start: one walk in the text's order. -/
/-- How far a world lies beyond another one of which all blocks stand: the count of draws, the blocks behind. -/
structure Ext where
  drawn : Nat
  os : Array Obj
  deriving Inhabited

def ext (W : World) (p : Ext) : World := { W with heap := W.heap ++ p.os, drawn := p.drawn }

theorem below_ext (W : World) (p : Ext) : Below W.heap.size W (ext W p) :=
  ⟨rfl, rfl, rfl, by simp [ext], fun k hk => by show (W.heap ++ p.os)[k]? = _; rw [Array.getElem?_append_left hk]⟩

theorem ext_of_below {W w' : World} (h : Below W.heap.size W w') : ∃ p : Ext, w' = ext W p := by
  refine ⟨⟨w'.drawn, w'.heap.extract W.heap.size w'.heap.size⟩, ?_⟩
  have hh : w'.heap = W.heap ++ w'.heap.extract W.heap.size w'.heap.size := by
    refine Array.ext_getElem? fun i => ?_
    by_cases hi : i < W.heap.size
    · rw [Array.getElem?_append_left hi]; exact h.block i hi
    · rw [Array.getElem?_append_right (by omega), Array.getElem?_extract]
      have := h.size
      split
      · congr 1; omega
      · rw [Array.getElem?_eq_none]; omega
  obtain ⟨hp, tp, dr, o, ou⟩ := w'
  obtain ⟨h1, h2, h3, _, _⟩ := h
  simp only at h1 h2 h3 hh
  subst h1 h2 h3
  simp only [ext]
  rw [← hh]

theorem Blk.ext {W : World} {b : Nat} {cs : List Value} {T : TypeId} (h : Blk W b cs T) (p : Ext) : Blk (ext W p) b cs T := h.below (below_ext W p) h.lt
theorem Blk.cells_ext {W : World} {b : Nat} {cs : List Value} {T : TypeId} (h : Blk W b cs T) (i : Nat) {v : Value} (hv : cs[i]? = some v) : ∀ p : Ext, (Go.Proofs.Ytpdckjbknphelaa.ext W p).cell? ⟨b, i, none⟩ = some v := fun p => (h.ext p).cell i hv

theorem calls_ext_of {P : Program} {f : FuncId} {args : Array Value} {W : World} {p : Ext} {v : Value}
    (h : Calls P f args (ext W p) fun e w' => e = .returned v ∧ Below (ext W p).heap.size (ext W p) w') : Calls P f args (ext W p) fun e w'' => e = .returned v ∧ ∃ q : Ext, w'' = ext W q :=
  h.mono fun _ _ ⟨he, hq⟩ => ⟨he, ext_of_below (below_step (below_ext W p) (below_ext W p).size hq)⟩

theorem wp_region_ext {P : Program} {id : Nat} {Q : Exit → Act → World → Prop} {a : Act} {w : World} {l : List Oper} (hm : P.follows .mixedOrders = true) (hB : Region.lexB .any l.toArray = true)
    (h : wpQuiet P l.toArray (fun w' => ∃ p : Ext, w' = ext w p) (fun a' => ∀ w', (∃ p : Ext, w' = ext w p) → Q .normal a' w') l a) : (Code.region id l.toArray true).wp P Q a w :=
  wp_region_quiet (C := fun w' => ∃ p : Ext, w' = ext w p) hm hB ⟨⟨w.drawn + 1, #[]⟩, by simp [ext]⟩ (by simpa using h)
end Go.Proofs.Ytpdckjbknphelaa
