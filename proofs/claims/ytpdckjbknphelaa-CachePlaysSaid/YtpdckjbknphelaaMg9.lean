/-
  A cell of a frame is woken, dropped.
-/
import Derived.Test.YtpdckjbknphelaaMg8
import Derived.BigRegion
import Derived.Test.YtpdckjbknphelaaMg5
import Derived.Lib.SliceRun
import Derived.Laws.IdiomCopy
namespace Go.Proofs.Ytpdckjbknphelaa
open Go.RowKit
set_option linter.unusedSimpArgs false
set_option linter.unusedVariables false

theorem Po.setDu {w W : World} {pb sb tb n : Nat} {ce li : Nat → Int × Int} {du : Nat → Int} {tk : Nat → Bool} (h : Po w pb sb tb n ce li du tk) (c : Nat) {d : Int} (hd : 0 ≤ d ∧ d ≤ 2199023255552) (hr : Row1 W sb 5 (n * 40960) (dueS (slabF ce li du) (c * 10) d)) (hb : But sb w W) : Po W pb sb tb n ce li (updD du c d) tk :=
  h.slabBut hb (hr.congr fun i _ => slab_due c d i) (fun k => by
    unfold updD
    split
    · exact hd
    · exact h.dub k) h.uc h.ul

def wakeD (n : Nat) (du : Nat → Int) (f i d : Int) : Nat → Int := if inR n f i ∧ (1 ≤ d ∧ d ≤ 2199023255552) ∧ (du (f.toNat * 4096 + i.toNat) = 0 ∨ d < du (f.toNat * 4096 + i.toNat)) then updD du (f.toNat * 4096 + i.toNat) d else du
def dropD (n : Nat) (du : Nat → Int) (f i : Int) : Nat → Int := if inR n f i then updD du (f.toNat * 4096 + i.toNat) 0 else du
end Go.Proofs.Ytpdckjbknphelaa

/-
  A new pool of frames; a frame is taken, given; how many are taken.
-/
namespace Go.Proofs.Ytpdckjbknphelaa
open Go.RowKit
set_option linter.unusedSimpArgs false
set_option linter.unusedVariables false

theorem slab_zero (j : Nat) : slabF zeroP zeroP (fun _ => 0) j = .int .u8 0 := by
  unfold slabF zeroP
  rw [byteN_zero]
  split
  · rfl
  split
  · rfl
  split
  · rfl
  split <;> rfl
theorem make_bytes (n : Nat) (hn : n ≤ 10000000) : ∀ u : World, (Instr.makeSlice 103 (.int .i64 (n : Int)) (.int .i64 (n : Int))).run Try.prog u = .ok (.slice (some ⟨u.heap.size, 0, none⟩) n n) (u.alloc (.cells (madeCells #[.int .u8 0] n) 5)) := fun u =>
  run_make_row' 103 5 (.int .u8 0) 1 (by kernel_rfl) (by kernel_rfl) rfl .i64 .i64 n (by omega) (by omega) u
theorem make_taken (n : Nat) (hn : n ≤ 10000000) : ∀ u : World, (Instr.makeSlice 109 (.int .i64 (n : Int)) (.int .i64 (n : Int))).run Try.prog u = .ok (.slice (some ⟨u.heap.size, 0, none⟩) n n) (u.alloc (.cells (madeCells #[.bool false] n) 4)) := fun u =>
  run_make_row' 109 4 (.bool false) 1 (by kernel_rfl) (by kernel_rfl) rfl .i64 .i64 n (by omega) (by omega) u
/-- A new pool lies in w's new blocks. -/
def Fresh (w w' : World) (pb sb tb : Nat) : Prop := w.heap.size ≤ pb ∧ w.heap.size ≤ sb ∧ w.heap.size ≤ tb ∧ Below w.heap.size w w'
theorem po_mk {W : World} {pb sb tb n : Nat} (hp : Blk W pb (poolC sb tb n) 111) (hs : Row1 W sb 5 (n * 40960) (fun _ => .int .u8 0)) (ht : Row1 W tb 4 n (fun _ => .bool false)) (h1 : pb ≠ sb) (h2 : pb ≠ tb) (h3 : sb ≠ tb) (n1 : 1 ≤ n) (n64 : n ≤ 64) : Po W pb sb tb n zeroP zeroP (fun _ => 0) (fun _ => false) :=
  ⟨hp, hs.congr fun i _ => (slab_zero i).symm, ht, h1, h2, h3, n1, n64, fun _ => by simp, U8.zero, U8.zero⟩
set_option maxRecDepth 100000 in
set_option maxHeartbeats 4000000 in
theorem fnew_calls (n : Nat) (w : World) (h1 : 1 ≤ n) (hn : n ≤ 64) :
    Calls Try.prog 30 #[.int .i64 n] w fun e w' => ∃ pb sb tb, e = .returned (.tuple #[.pointer (some ⟨pb, 0, none⟩), .int .i64 0]) ∧ Po w' pb sb tb n zeroP zeroP (fun _ => 0) (fun _ => false) ∧ Fresh w w' pb sb tb := by
  have hm1 := make_bytes (n * 40960) (by omega)
  have hm2 := make_taken n (by omega)
  have hr1 := fun W T => made_row (.int .u8 0) (n * 40960) W T
  have hr2 := fun W T => made_row (.bool false) n W T
  have e1 : ((n * 40960 : Nat) : Int) = (n : Int) * 40960 := by omega
  rw [e1] at hm1
  generalize madeCells #[.int .u8 0] (n * 40960) = Z1 at *
  generalize madeCells #[.bool false] n = Z2 at *
  have hw1 : IntKind.i64.wrap ((n : Int) * 40960) = (n : Int) * 40960 := IntWalk.i64_in _ (by omega)
  have q1 : decide ((n : Int) < 1) = false := by simp; omega
  have q2 : decide (64 < (n : Int)) = false := by simp; omega
  replace hr1 := Lib.hid hr1
  replace hr2 := Lib.hid hr2
  replace e1 := Lib.hid e1
  go_enter Try.func30, Try.ntmps30
  go_wp2_with fail
  go_region
  · have hB : Below w.heap.size w (((w.alloc (.cells Z1 5)).alloc (.cells Z2 4)).alloc (.cells #[.slice (some ⟨w.heap.size, 0, none⟩) (n * 40960) (n * 40960), .slice (some ⟨w.heap.size + 1, 0, none⟩) n n] 111)).drew := ((((Below.refl _ _).alloc (Nat.le_refl _) _).alloc (by simp) _).alloc (by simp; omega) _).drew
    have hs := (((hr1.out w 5).alloc (.cells Z2 4)).alloc (.cells #[.slice (some ⟨w.heap.size, 0, none⟩) (n * 40960) (n * 40960), .slice (some ⟨w.heap.size + 1, 0, none⟩) n n] 111)).drew
    have ht := ((hr2.out (w.alloc (.cells Z1 5)) 4).alloc (.cells #[.slice (some ⟨w.heap.size, 0, none⟩) (n * 40960) (n * 40960), .slice (some ⟨w.heap.size + 1, 0, none⟩) n n] 111)).drew
    rw [show (w.alloc (.cells Z1 5)).heap.size = w.heap.size + 1 from by simp] at ht
    have hp : Blk (((w.alloc (.cells Z1 5)).alloc (.cells Z2 4)).alloc (.cells #[.slice (some ⟨w.heap.size, 0, none⟩) (n * 40960) (n * 40960), .slice (some ⟨w.heap.size + 1, 0, none⟩) n n] 111)).drew (w.heap.size + 1 + 1) (poolC w.heap.size (w.heap.size + 1) n) 111 := (Blk.new_at _ _ (by simp)).drew
    have hend := po_mk hp hs ht (by omega) (by omega) (by omega) h1 hn
    clear hs ht hp
    replace hend := Lib.hid hend
    replace hB := Lib.hid hB
    go_wp2_with fail
    go_ret2
    exact ⟨_, _, _, rfl, hend.out, by omega, by omega, by omega, hB.out⟩
  · have hB : Below w.heap.size w (((w.alloc (.cells Z2 4)).alloc (.cells Z1 5)).alloc (.cells #[.slice (some ⟨w.heap.size + 1, 0, none⟩) (n * 40960) (n * 40960), .slice (some ⟨w.heap.size, 0, none⟩) n n] 111)).drew := ((((Below.refl _ _).alloc (Nat.le_refl _) _).alloc (by simp) _).alloc (by simp; omega) _).drew
    have ht := (((hr2.out w 4).alloc (.cells Z1 5)).alloc (.cells #[.slice (some ⟨w.heap.size + 1, 0, none⟩) (n * 40960) (n * 40960), .slice (some ⟨w.heap.size, 0, none⟩) n n] 111)).drew
    have hs := ((hr1.out (w.alloc (.cells Z2 4)) 5).alloc (.cells #[.slice (some ⟨w.heap.size + 1, 0, none⟩) (n * 40960) (n * 40960), .slice (some ⟨w.heap.size, 0, none⟩) n n] 111)).drew
    rw [show (w.alloc (.cells Z2 4)).heap.size = w.heap.size + 1 from by simp] at hs
    have hp : Blk (((w.alloc (.cells Z2 4)).alloc (.cells Z1 5)).alloc (.cells #[.slice (some ⟨w.heap.size + 1, 0, none⟩) (n * 40960) (n * 40960), .slice (some ⟨w.heap.size, 0, none⟩) n n] 111)).drew (w.heap.size + 1 + 1) (poolC (w.heap.size + 1) w.heap.size n) 111 := (Blk.new_at _ _ (by simp)).drew
    have hend := po_mk hp hs ht (by omega) (by omega) (by omega) h1 hn
    clear hs ht hp
    replace hend := Lib.hid hend
    replace hB := Lib.hid hB
    go_wp2_with fail
    go_ret2
    exact ⟨_, _, _, rfl, hend.out, by omega, by omega, by omega, hB.out⟩
set_option maxRecDepth 100000 in
set_option maxHeartbeats 4000000 in
theorem fnew_no (n : Int) (w : World) (hn : ¬ (1 ≤ n ∧ n ≤ 64)) :
    Calls Try.prog 30 #[.int .i64 n] w fun e w' => e = .returned (.tuple #[.pointer none, .int .i64 2]) ∧ w' = w := by
  by_cases q1 : n < 1
  · clear hn
    go_enter Try.func30, Try.ntmps30
    go_wp2_with fail
    go_ret2
    exact ⟨rfl, rfl⟩
  · have q1' : decide (n < 1) = false := by simp; omega
    have q2 : 64 < n := by omega
    clear hn
    go_enter Try.func30, Try.ntmps30
    go_wp2_with fail
    go_ret2
    exact ⟨rfl, rfl⟩

/-! Taken frames. -/
def firstF (n : Nat) (tk : Nat → Bool) : Option Nat := (List.range n).find? (fun i => !tk i)
end Go.Proofs.Ytpdckjbknphelaa

/-
  copy and clear as operations, on rows of one-cell elements.
-/
namespace Go.Proofs.Ytpdckjbknphelaa
open Go.RowKit
set_option linter.unusedSimpArgs false
set_option linter.unusedVariables false

section
variable {P : Program}
theorem wpList_copy_run (w : World) {ops : Array Oper} {rest : List Oper} {o : Oper} {a : Act} {Q : Exit → Act → World → Prop} (hgd : o.guard = none) (d s : Operand) (t t' : TypeId)
    (ho : o.op = .call { callee := .builtin .copy, args := #[d, s], argTypes := #[t, t'] }) (v u : Value) (hd : a.eval d = v) (hs : a.eval s = u) {v' : Value} {w' : World}
    (hr : (Builtin.copy_ #[t, t'] o.type #[v, u]).run P w = .ok v' w') (h : wpList P ops Q rest (a.put o.dst v') w') : wpList P ops Q (o :: rest) a w :=
  wpList_plain hgd fun _ hK => by
    unfold Oper.wp execOp
    simp only [ho, resolve, invoke, builtin, Sem.run_bind, Sem.run_pure, Result.andThen_ok, List.map_toArray, List.map_cons, List.map_nil, hd, hs, hr]
    exact hK _ _ h
theorem wpList_clear_run (w : World) {ops : Array Oper} {rest : List Oper} {o : Oper} {a : Act} {Q : Exit → Act → World → Prop} (hgd : o.guard = none) (d : Operand) (t : TypeId)
    (ho : o.op = .call { callee := .builtin .clear, args := #[d], argTypes := #[t] }) (v : Value) (hd : a.eval d = v) {v' : Value} {w' : World}
    (hr : (Builtin.clear_ #[t] o.type #[v]).run P w = .ok v' w') (h : wpList P ops Q rest (a.put o.dst v') w') : wpList P ops Q (o :: rest) a w :=
  wpList_plain hgd fun _ hK => by
    unfold Oper.wp execOp
    simp only [ho, resolve, invoke, builtin, Sem.run_bind, Sem.run_pure, Result.andThen_ok, List.map_toArray, List.map_cons, List.map_nil, hd, hr]
    exact hK _ _ h
end
/-- What a run of stores leaves. -/
def runF (o : Nat) (vs : List Value) (f : Nat → Value) (j : Nat) : Value := if o ≤ j ∧ j < o + vs.length then vs.getD (j - o) undef else f j
theorem Row1.setCells {b n : Nat} {T : TypeId} : ∀ (vs : List Value) (o : Nat) {w : World} {f : Nat → Value}, Row1 w b T n f → Row1 (w.setCells b o vs) b T n (runF o vs f)
  | [], o, w, f, h => h.congr fun j _ => by unfold runF; rw [if_neg (by simp)]
  | v :: vs, o, w, f, h => by
    have h2 := Row1.setCells vs (o + 1) (h.set o v)
    refine Row1.congr h2 fun j _ => ?_
    unfold runF
    by_cases e : j = o
    · subst e
      rw [if_neg (by omega)]
      show (if j = j then v else f j) = _
      rw [if_pos rfl, if_pos (by simp), Nat.sub_self]
      rfl
    · by_cases e2 : o + 1 ≤ j ∧ j < o + 1 + vs.length
      · rw [if_pos e2, if_pos (by simp; omega), show j - o = (j - (o + 1)) + 1 by omega]
        rfl
      · rw [if_neg e2]
        show (if j = o then v else f j) = _
        rw [if_neg e, if_neg (by simp; omega)]
theorem But.setCells {b : Nat} : ∀ (vs : List Value) (o : Nat) {w W : World}, But b w W → But b w (W.setCells b o vs)
  | [], _, _, _, h => h
  | v :: vs, o, _, _, h => But.setCells vs (o + 1) (h.setCell o v)
end Go.Proofs.Ytpdckjbknphelaa

/-
  A frame is taken, given; how many are taken.
-/
namespace Go.Proofs.Ytpdckjbknphelaa
open Go.RowKit
set_option linter.unusedSimpArgs false
set_option linter.unusedVariables false

/-- The first frame that is not taken. -/
def Fst (n : Nat) (tk : Nat → Bool) (r : Option Nat) : Prop := (∀ k, r = some k → k < n ∧ tk k = false ∧ ∀ j, j < k → tk j = true) ∧ (r = none → ∀ j, j < n → tk j = true)
theorem Fst.unique {n : Nat} {tk : Nat → Bool} {r s : Option Nat} (h : Fst n tk r) (k : Fst n tk s) : r = s := by
  cases r with
  | none =>
    cases s with
    | none => rfl
    | some b => obtain ⟨h1, h2, _⟩ := k.1 b rfl; rw [h.2 rfl b h1] at h2; cases h2
  | some a =>
    obtain ⟨a1, a2, a3⟩ := h.1 a rfl
    cases s with
    | none => rw [k.2 rfl a a1] at a2; cases a2
    | some b =>
      obtain ⟨b1, b2, b3⟩ := k.1 b rfl
      rcases Nat.lt_trichotomy a b with e | e | e
      · rw [b3 a e] at a2; cases a2
      · rw [e]
      · rw [a3 b e] at b2; cases b2
def tkSet (tk : Nat → Bool) (i : Nat) (v : Bool) : Nat → Bool := fun j => if j = i then v else tk j
def takenT (tk : Nat → Bool) : Option Nat → Nat → Bool
  | some k => tkSet tk k true
  | none => tk
def optN : Option Nat → Int
  | some k => k
  | none => 0
theorem Po.setTk {w : World} {pb sb tb n : Nat} {ce li : Nat → Int × Int} {du : Nat → Int} {tk : Nat → Bool} (h : Po w pb sb tb n ce li du tk) (k : Nat) (v : Bool) : Po (w.setCell ⟨tb, k, none⟩ (.bool v)) pb sb tb n ce li du (tkSet tk k v) :=
  { h with pool := h.pool.set_other _ h.ne2, slab := h.slab.set_other _ h.ne3, take := (h.take.set k _).congr fun i _ => (by unfold tkSet; split <;> rfl) }
/-- So many of the first k are taken. -/
def usedN (tk : Nat → Bool) : Nat → Nat
  | 0 => 0
  | k + 1 => usedN tk k + if tk k then 1 else 0
theorem usedN_le (tk : Nat → Bool) : ∀ k, usedN tk k ≤ k
  | 0 => Nat.le_refl _
  | k + 1 => by
    have := usedN_le tk k
    unfold usedN
    split <;> omega
end Go.Proofs.Ytpdckjbknphelaa

/-
  A frame is given.
-/
namespace Go.Proofs.Ytpdckjbknphelaa
open Go.RowKit
set_option linter.unusedSimpArgs false
set_option linter.unusedVariables false

/-- All old blocks but these two are as they were. -/
structure But2 (a b : Nat) (w w' : World) : Prop where
  os : w'.os = w.os
  tape : w'.tape = w.tape
  output : w'.output = w.output
  size : w.heap.size ≤ w'.heap.size
  block : ∀ k, k < w.heap.size → k ≠ a → k ≠ b → w'.heap[k]? = w.heap[k]?
section
variable {a b : Nat} {u w W : World}
theorem But2.refl (a b : Nat) (w : World) : But2 a b w w := ⟨rfl, rfl, rfl, Nat.le_refl _, fun _ _ _ _ => rfl⟩
theorem But2.left (h : But a w W) (b : Nat) : But2 a b w W := ⟨h.os, h.tape, h.output, h.size, fun k hk h1 _ => h.block k hk h1⟩
theorem But2.right (h : But b w W) (a : Nat) : But2 a b w W := ⟨h.os, h.tape, h.output, h.size, fun k hk _ h1 => h.block k hk h1⟩
theorem But2.trans (h : But2 a b u w) (k : But2 a b w W) : But2 a b u W :=
  ⟨k.os.trans h.os, k.tape.trans h.tape, k.output.trans h.output, Nat.le_trans h.size k.size, fun i hi h1 h2 => (k.block i (Nat.lt_of_lt_of_le hi h.size) h1 h2).trans (h.block i hi h1 h2)⟩
theorem But2.of_below (h : Below w.heap.size w W) (a b : Nat) : But2 a b w W := But2.left (But.of_below h) b
theorem But2.below {B : Nat} (h : But2 a b w W) (h1 : B ≤ a) (h2 : B ≤ b) (hs : B ≤ w.heap.size) : Below B w W := ⟨h.os, h.tape, h.output, h.size, fun k hk => h.block k (by omega) (by omega) (by omega)⟩
theorem But2.step {B : Nat} {v : World} (h0 : Below B v w) (h : But2 a b w W) (h1 : B ≤ a) (h2 : B ≤ b) (hs : B ≤ w.heap.size) : Below B v W := h0.trans (h.below h1 h2 hs)
theorem Blk.but2 {c : Nat} {cs : List Value} {T : TypeId} (h : Blk w c cs T) (hb : But2 a b w W) (h1 : c ≠ a) (h2 : c ≠ b) : Blk W c cs T := (hb.block c h.lt h1 h2).trans h
theorem Row1.but2 {c n : Nat} {T : TypeId} {f : Nat → Value} (h : Row1 w c T n f) (hb : But2 a b w W) (h1 : c ≠ a) (h2 : c ≠ b) : Row1 W c T n f := h.elim fun cs h => ⟨cs, h.1.but2 hb h1 h2, h.2⟩
end

def clrP (f : Nat) (g : Nat → Int × Int) : Nat → Int × Int := fun c => if f * 4096 ≤ c ∧ c < f * 4096 + 4096 then (0, 0) else g c
def clrD (f : Nat) (g : Nat → Int) : Nat → Int := fun c => if f * 4096 ≤ c ∧ c < f * 4096 + 4096 then 0 else g c
set_option maxRecDepth 100000 in
theorem slab_clear {ce li : Nat → Int × Int} {du : Nat → Int} (f : Nat) {Z : List Value} (hl : Z.length = 40960) (hz : ∀ i, i < 40960 → Z.getD i undef = .int .u8 0) (j : Nat) : runF (f * 40960) Z (slabF ce li du) j = slabF (clrP f ce) (clrP f li) (clrD f du) j := by
  unfold runF
  by_cases h : f * 40960 ≤ j ∧ j < f * 40960 + Z.length
  · rw [if_pos h, hz _ (by omega)]
    have hc : f * 4096 ≤ j / 10 ∧ j / 10 < f * 4096 + 4096 := by omega
    unfold slabF clrP clrD
    rw [if_pos hc, if_pos hc, if_pos hc, byteN_zero]
    split
    · rfl
    split
    · rfl
    split
    · rfl
    split <;> rfl
  · rw [if_neg h]
    have hc : ¬ (f * 4096 ≤ j / 10 ∧ j / 10 < f * 4096 + 4096) := by omega
    unfold slabF clrP clrD
    rw [if_neg hc, if_neg hc, if_neg hc]
theorem U8.clr {f : Nat} {g : Nat → Int × Int} (h : U8 g) : U8 (clrP f g) := fun c => by
  unfold clrP
  split
  · simp
  · exact h c
theorem zero_u8 : ∀ w : World, (zeroValue 5).run Try.prog w = .ok (.int .u8 0) w := fun w => by kernel_rfl

end Go.Proofs.Ytpdckjbknphelaa
