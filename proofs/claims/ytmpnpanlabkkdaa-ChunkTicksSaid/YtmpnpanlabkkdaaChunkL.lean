/-
  Laws on rows of ticks that are known whole: copy, clear, append of zeros, as operations.
-/
import Derived.Test.YtmpnpanlabkkdaaChunkI
import Derived.Lib.AppendZerosOnto
import Derived.Lib.SliceRun
import Derived.Lib.Overlaps
import Derived.Laws.IdiomCopy
import Derived.Deep.RegionLaw
namespace Go.Proofs.Ytmpnpanlabkkdaa
open Go.RowKit
set_option linter.unusedSimpArgs false
set_option linter.unusedVariables false

theorem blk_mid {T : TypeId} : ∀ (vs old pre post : List Value) {w : World} {b : Nat}, old.length = vs.length → Blk w b (pre ++ (old ++ post)) T → Blk (w.setCells b pre.length vs) b (pre ++ (vs ++ post)) T
  | [], old, pre, post, w, b, hl, h => by
    obtain rfl : old = [] := List.eq_nil_of_length_eq_zero hl
    exact h
  | v :: vs, [], pre, post, w, b, hl, h => by simp at hl
  | v :: vs, x :: old, pre, post, w, b, hl, h => by
    have h1 := h.set pre.length v
    rw [List.set_append_right _ _ (Nat.le_refl _), Nat.sub_self, List.cons_append, List.set_cons_zero, show pre ++ v :: (old ++ post) = (pre ++ [v]) ++ (old ++ post) by simp] at h1
    have h2 := blk_mid vs old (pre ++ [v]) post (by simpa using hl) h1
    rw [List.length_append] at h2
    have e : pre ++ ((v :: vs) ++ post) = (pre ++ [v]) ++ (vs ++ post) := by simp
    rw [e]
    exact h2
theorem grownBy_setCells (b : Nat) : ∀ (vs : List Value) (o : Nat) (w : World), w.grownBy (w.setCells b o vs) (some b)
  | [], _, w => ⟨rfl, rfl, rfl, Nat.le_refl _, fun _ _ _ => rfl⟩
  | v :: vs, o, w => by
    have h := grownBy_setCells b vs (o + 1) (w.setCell ⟨b, o, none⟩ v)
    exact ⟨h.os, h.tape, h.output, by have := h.size; simpa [World.setCells] using this, fun k hk hne => (h.block k (by simpa using hk) hne).trans (Below.heap_setCell _ _ _ _ (fun e => hne (by rw [e])))⟩
theorem grownBy_trans {u v w : World} {r : Option Nat} (h : u.grownBy v r) (k : v.grownBy w r) : u.grownBy w r :=
  ⟨k.os.trans h.os, k.tape.trans h.tape, k.output.trans h.output, Nat.le_trans h.size k.size, fun i hi hne => (k.block i (Nat.lt_of_lt_of_le hi h.size) hne).trans (h.block i hi hne)⟩
theorem grownBy_drew (w : World) (r : Option Nat) : w.grownBy w.drew r := ⟨rfl, rfl, rfl, Nat.le_refl _, fun _ _ _ => rfl⟩
theorem grownBy_new {u v : World} {g : Nat} (h : u.grownBy v (some g)) (hg : u.heap.size ≤ g) (r : Option Nat) : u.grownBy v r := ⟨h.os, h.tape, h.output, h.size, fun k hk _ => h.block k hk (fun e => by cases e; omega)⟩

theorem tick_size : (Try.prog.info? 62).map (·.size) = some 2 := by kernel_rfl
theorem run_copy_ticks (w : World) (ty : TypeId) (g p dl dc : Nat) (a : Addr) (sl sc : Nat) (cs : List Value) (m : Nat) (hm : Nat.min sl dl = m) (hl : cs.length = m * 2)
    (hsrc : ∀ j v, cs[j]? = some v → w.cell? (a.add j) = some v) (C : List Value) (T : TypeId) (hb : Blk w g C T) (hfit : p + cs.length ≤ C.length) (h1 : ∀ v ∈ cs, v.oneCell' = true) :
    (Builtin.copy_ #[23, 23] ty #[.slice (some ⟨g, p, none⟩) dl dc, .slice (some a) sl sc]).run Try.prog w = .ok (goInt m) (w.setCells g p cs) := by
  have hst := run_storeCells_cells (P := Try.prog) g p cs 0 w (fun j hj => by rw [Nat.add_zero, hb.cell_eq, List.getElem?_eq_getElem (by omega)]; rfl) (fun j hj => hb.frozen _) h1
  rw [Nat.add_zero] at hst
  have hf := run_firstCells_some (P := Try.prog) w 2 m a sl sc cs hl hsrc
  cases hq : Try.prog.info? 62 with
  | none => have h := tick_size; rw [hq] at h; simp at h
  | some i =>
    have hi : i.size = 2 := by have h := tick_size; rw [hq] at h; simpa using h
    have hm' : min sl dl = m := hm
    simp [Builtin.copy_, run_underlying under_ticks, Builtin.lenOf, sizeOf, typeInfo, hq, hi, hm, hm', hf, hst]

theorem run_clear_ticks (w : World) (ty : TypeId) (g p c : Nat) (C : List Value) (T : TypeId) (hb : Blk w g C T) (hfit : p + 2 ≤ C.length) :
    (Builtin.clear_ #[23] ty #[.slice (some ⟨g, p, none⟩) 1 c]).run Try.prog w = .ok (.tuple #[]) (w.setCells g p [.int .i64 0, .int .i64 0]) := by
  have hst := run_storeCells_cells (P := Try.prog) g p [.int .i64 0, .int .i64 0] 0 w (fun j hj => by rw [Nat.add_zero, hb.cell_eq, List.getElem?_eq_getElem (by simp at hj; omega)]; rfl) (fun j hj => hb.frozen _) (by intro v hv; simp at hv; rw [hv]; rfl)
  rw [Nat.add_zero] at hst
  obtain ⟨i0, hi, hz0, hz1, hz2⟩ := info_parts info_tick
  have hz : (zeroValue 62).run Try.prog w = .ok (.agg #[.int .i64 0, .int .i64 0]) w := by simp [zeroValue, typeInfo, Sem.run_bind, program, Sem.run, Result.andThen, hi, hz0]
  have hzc : (Builtin.zeroCells (Value.agg #[.int .i64 0, .int .i64 0]).cells 1).toList = [.int .i64 0, .int .i64 0] := by simp [Builtin.zeroCells, Value.cells]; rfl
  simp [Builtin.clear_, run_underlying under_ticks, hz, hzc, hst]

section
variable {P : Program}
theorem wp_copy_run (w : World) {o : Oper} {a : Act} {K : Act → World → Prop} {Q : Exit → Act → World → Prop} (d s : Operand) (t t' : TypeId)
    (ho : o.op = .call { callee := .builtin .copy, args := #[d, s], argTypes := #[t, t'] }) (v u : Value) (hd : a.eval d = v) (hs : a.eval s = u) {v' : Value} {w' : World}
    (hr : (Builtin.copy_ #[t, t'] o.type #[v, u]).run P w = .ok v' w') (h : K (a.put o.dst v') w') : o.wp P a w K Q := by
  unfold Oper.wp execOp
  simp only [ho, resolve, invoke, builtin, Sem.run_bind, Sem.run_pure, Result.andThen_ok, List.map_toArray, List.map_cons, List.map_nil, hd, hs, hr]
  exact h
theorem wpList_copy_run (w : World) {ops : Array Oper} {rest : List Oper} {o : Oper} {a : Act} {Q : Exit → Act → World → Prop} (hgd : o.guard = none) (d s : Operand) (t t' : TypeId)
    (ho : o.op = .call { callee := .builtin .copy, args := #[d, s], argTypes := #[t, t'] }) (v u : Value) (hd : a.eval d = v) (hs : a.eval s = u) {v' : Value} {w' : World}
    (hr : (Builtin.copy_ #[t, t'] o.type #[v, u]).run P w = .ok v' w') (h : wpList P ops Q rest (a.put o.dst v') w') : wpList P ops Q (o :: rest) a w :=
  wpList_plain hgd fun _ hK => wp_copy_run w d s t t' ho v u hd hs hr (hK _ _ h)
theorem step_copy_run {ops : Array Oper} {o : Oper} {a : Act} {w : World} {K : Act → World → Prop} {Q : Exit → Act → World → Prop} {E : Prop}
    (hg : o.guard = none) (d x : Operand) (dT sT : TypeId) (hop : o.op = Op.call { callee := Callee.builtin Builtin.copy, args := #[d, x], argTypes := #[dT, sT] })
    (v u : Value) (hd : a.eval d = v) (hx : a.eval x = u) {v' : Value} {w' : World} (hr : (Builtin.copy_ #[dT, sT] o.type #[v, u]).run P w = .ok v' w') (hK : K (a.put o.dst v') w') :
    if Region.wanted o (yielded ops a.tmps) = true then Oper.wp P o a w K Q else E := by
  have hw : Region.wanted o (yielded ops a.tmps) = true := by simp [Region.wanted, hg]
  rw [if_pos hw]
  exact wp_copy_run w d x dT sT hop v u hd hx hr hK
theorem wpList_clear_run (w : World) {ops : Array Oper} {rest : List Oper} {o : Oper} {a : Act} {Q : Exit → Act → World → Prop} (hgd : o.guard = none) (d : Operand) (t : TypeId)
    (ho : o.op = .call { callee := .builtin .clear, args := #[d], argTypes := #[t] }) (v : Value) (hd : a.eval d = v) {v' : Value} {w' : World}
    (hr : (Builtin.clear_ #[t] o.type #[v]).run P w = .ok v' w') (h : wpList P ops Q rest (a.put o.dst v') w') : wpList P ops Q (o :: rest) a w :=
  wpList_plain hgd fun _ hK => by
    unfold Oper.wp execOp
    simp only [ho, resolve, invoke, builtin, Sem.run_bind, Sem.run_pure, Result.andThen_ok, List.map_toArray, List.map_cons, List.map_nil, hd, hr]
    exact hK _ _ h
theorem wpList_append_run (w : World) {ops : Array Oper} {rest : List Oper} {o : Oper} {a : Act} {Q : Exit → Act → World → Prop} (hgd : o.guard = none) (d s : Operand) (t t' : TypeId)
    (ho : o.op = .call { callee := .builtin .append, args := #[d, s], argTypes := #[t, t'] }) (v u : Value) (hd : a.eval d = v) (hs : a.eval s = u) {v' : Value} {w' : World}
    (hr : (Builtin.append_ #[t, t'] o.type #[v, u]).run P w = .ok v' w') (h : wpList P ops Q rest (a.put o.dst v') w') : wpList P ops Q (o :: rest) a w :=
  wpList_plain hgd fun _ hK => by
    unfold Oper.wp execOp
    simp only [ho, resolve, invoke, builtin, Sem.run_bind, Sem.run_pure, Result.andThen_ok, List.map_toArray, List.map_cons, List.map_nil, hd, hs, hr]
    exact hK _ _ h
end

theorem cellsT_take (ts : List (Int × Int)) (k : Nat) : (cellsT ts).take (k * 2) = cellsT (ts.take k) := by
  by_cases h : k ≤ ts.length
  · have e : cellsT ts = cellsT (ts.take k) ++ cellsT (ts.drop k) := by rw [← cellsT_app, List.take_append_drop]
    rw [e, List.take_left' (by rw [cellsT_len, List.length_take]; omega)]
  · rw [List.take_of_length_le (by rw [cellsT_len]; omega), List.take_of_length_le (by omega)]
theorem cellsT_drop (ts : List (Int × Int)) (k : Nat) : (cellsT ts).drop (k * 2) = cellsT (ts.drop k) := by
  by_cases h : k ≤ ts.length
  · have e : cellsT ts = cellsT (ts.take k) ++ cellsT (ts.drop k) := by rw [← cellsT_app, List.take_append_drop]
    rw [e, List.drop_left' (by rw [cellsT_len, List.length_take]; omega)]
  · rw [List.drop_of_length_le (by rw [cellsT_len]; omega), List.drop_of_length_le (by omega)]
    rfl
/-- A row that is known whole: its ticks ahead of k, those from k on, what is spare. -/
theorem TOwn.whole {w : World} {B : Nat} {v : Value} {ts : List (Int × Int)} (h : TOwn w B v ts) (hne : ts ≠ []) (k : Nat) : ∃ g cap R, v = .slice (some ⟨g, 0, none⟩) ts.length cap ∧ B ≤ g ∧ ts.length ≤ cap ∧ cap ≤ maxLen ∧
    Blk w g (cellsT (ts.take k) ++ (cellsT (ts.drop k) ++ R)) 62 ∧ ts.length * 2 + R.length = cap * 2 := by
  rcases h.2 with ⟨rfl, h0⟩ | ⟨g, cap, cur, rfl, hb, hg, hnc, hcm, hcs, htake⟩
  · exact absurd (List.eq_nil_of_length_eq_zero h0) hne
  · refine ⟨g, cap, cur.toList.drop (ts.length * 2), rfl, hb, hnc, hcm, ?_, by
      have hcl : cur.toList.length = cap * 2 := by rw [Array.length_toList]; exact hcs
      rw [List.length_drop]
      omega⟩
    unfold Blk
    rw [← List.append_assoc, ← cellsT_app, List.take_append_drop, ← htake, List.take_append_drop]
    exact hg
theorem TOwn.of_blk {w : World} {B g cap n : Nat} {ts : List (Int × Int)} {R : List Value} (hb : Blk w g (cellsT ts ++ R) 62) (hB : B ≤ g) (hn : n = ts.length) (hc : ts.length ≤ cap) (hcm : cap ≤ maxLen) (hR : ts.length * 2 + R.length = cap * 2) :
    TOwn w B (.slice (some ⟨g, 0, none⟩) n cap) ts := by
  subst hn
  refine ⟨cellsT_len ts, .inr ⟨g, cap, _, rfl, hB, hb, hc, hcm, by rw [List.size_toArray, List.length_append, cellsT_len]; exact hR, ?_⟩⟩
  rw [List.toList_toArray, List.take_left' (cellsT_len ts)]
end Go.Proofs.Ytmpnpanlabkkdaa
