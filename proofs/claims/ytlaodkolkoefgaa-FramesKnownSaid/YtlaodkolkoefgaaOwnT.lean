/-
  An owned row of ticks: one tick set; cut short; what lies behind it cleared.
-/
import Derived.Test.YtlaodkolkoefgaaChunkO
import Derived.Test.YtlaodkolkoefgaaChunkP
import Derived.Laws.IdiomCopy
namespace Go.Proofs.Ytlaodkolkoefgaa
open Go.RowKit
set_option linter.unusedSimpArgs false
set_option linter.unusedVariables false

theorem cellsT_set2 {ts : List Tk} {k : Nat} (hk : k < ts.length) (x y : Int) : ((cellsT ts).set (k * 2) (.int .i64 x)).set (k * 2 + 1) (.int .i64 y) = cellsT (ts.set k (x, y)) := by
  have e2 : ts = ts.take k ++ (ts[k] :: ts.drop (k + 1)) := by rw [← List.drop_eq_getElem_cons hk, List.take_append_drop]
  have e1 : cellsT ts = cellsT (ts.take k) ++ (tickV ts[k] ++ cellsT (ts.drop (k + 1))) := by
    conv => lhs; rw [e2]
    rw [cellsT_app]
    rfl
  have e3 : ts.set k (x, y) = ts.take k ++ ((x, y) :: ts.drop (k + 1)) := by rw [List.set_eq_take_append_cons_drop, if_pos hk]
  have hpl : (cellsT (ts.take k)).length = k * 2 := by rw [cellsT_len, List.length_take]; omega
  rw [e1, e3, cellsT_app, List.set_append_right _ _ (by rw [hpl]; omega), hpl, Nat.sub_self, List.set_append_right _ _ (by rw [hpl]; omega), hpl, Nat.add_sub_cancel_left]
  rfl
theorem cellsT_tk (ts : List Tk) (k : Nat) : (cellsT ts).take (k * 2) = cellsT (ts.take k) := by
  by_cases h : k ≤ ts.length
  · have e : cellsT ts = cellsT (ts.take k) ++ cellsT (ts.drop k) := by rw [← cellsT_app, List.take_append_drop]
    rw [e, List.take_left' (by rw [cellsT_len, List.length_take]; omega)]
  · rw [List.take_of_length_le (by rw [cellsT_len]; omega), List.take_of_length_le (by omega)]
section
variable {w : World} {B g n cap : Nat} {us : List Tk}
theorem TOwn.split (h : TOwn w B (.slice (some ⟨g, 0, none⟩) n cap) us) : ∃ cs : List Value, Blk w g cs 56 ∧ B ≤ g ∧ n = us.length ∧ us.length ≤ cap ∧ cap ≤ maxLen ∧ cs.length = cap * 2 ∧ cs.take (us.length * 2) = cellsT us := by
  rcases h.2 with ⟨h1, _⟩ | ⟨g', cap', cur, hv, hb, hg, hnc, hcm, hcs, htake⟩
  · cases h1
  · injection hv with e1 e2 e3
    injection e1 with e1
    injection e1 with e1 _ _
    subst e1 e3
    exact ⟨cur.toList, hg, hb, e2, hnc, hcm, by rw [Array.length_toList]; exact hcs, htake⟩
theorem TOwn.unsplit {cs : List Value} (h1 : Blk w g cs 56) (h2 : B ≤ g) (h4 : us.length ≤ cap) (h5 : cap ≤ maxLen) (h6 : cs.length = cap * 2) (h7 : cs.take (us.length * 2) = cellsT us) (hn : n = us.length) : TOwn w B (.slice (some ⟨g, 0, none⟩) n cap) us := by
  subst hn
  exact ⟨cellsT_len us, .inr ⟨g, cap, cs.toArray, rfl, h2, h1, h4, h5, by rw [List.size_toArray]; exact h6, by rw [List.toList_toArray]; exact h7⟩⟩
theorem TOwn.cellAt (h : TOwn w B (.slice (some ⟨g, 0, none⟩) n cap) us) {j : Nat} {t : Tk} (ht : us[j]? = some t) : w.cell? ⟨g, j * 2, none⟩ = some (.int .i64 t.1) ∧ w.cell? ⟨g, j * 2 + 1, none⟩ = some (.int .i64 t.2) := by
  obtain ⟨cs, h1, h2, h3, h4, h5, h6, h7⟩ := h.split
  have hj := (List.getElem?_eq_some_iff.1 ht).1
  obtain ⟨c0, c1⟩ := cellsT_at ht
  rw [← h7, List.getElem?_take_of_lt (by omega)] at c0
  rw [← h7, List.getElem?_take_of_lt (by omega)] at c1
  exact ⟨h1.cell _ c0, h1.cell _ c1⟩
theorem TOwn.setAt (h : TOwn w B (.slice (some ⟨g, 0, none⟩) n cap) us) {k : Nat} (hk : k < us.length) (x y : Int) :
    TOwn ((w.setCell ⟨g, k * 2, none⟩ (.int .i64 x)).setCell ⟨g, k * 2 + 1, none⟩ (.int .i64 y)) B (.slice (some ⟨g, 0, none⟩) n cap) (us.set k (x, y)) ∧ g < w.heap.size ∧ B ≤ g ∧
      w.frozen? ⟨g, k * 2, none⟩ = false ∧ w.frozen? ⟨g, k * 2 + 1, none⟩ = false ∧ (∃ u, w.cell? ⟨g, k * 2, none⟩ = some u) ∧ ∃ u, w.cell? ⟨g, k * 2 + 1, none⟩ = some u := by
  obtain ⟨cs, h1, h2, h3, h4, h5, h6, h7⟩ := h.split
  refine ⟨TOwn.unsplit ((h1.set _ _).set _ _) h2 (by rw [List.length_set]; exact h4) h5 (by rw [List.length_set, List.length_set]; exact h6) ?_ (by rw [List.length_set]; exact h3), h1.lt, h2, h1.frozen _, h1.frozen _,
    ⟨_, h1.cell (k * 2) (List.getElem?_eq_getElem (by omega))⟩, ⟨_, h1.cell (k * 2 + 1) (List.getElem?_eq_getElem (by omega))⟩⟩
  rw [List.length_set, List.take_set, List.take_set, h7, cellsT_set2 hk]
theorem TOwn.shrink (h : TOwn w B (.slice (some ⟨g, 0, none⟩) n cap) us) {i : Nat} (hi : i ≤ us.length) : TOwn w B (.slice (some ⟨g, 0, none⟩) i cap) (us.take i) := by
  obtain ⟨cs, h1, h2, h3, h4, h5, h6, h7⟩ := h.split
  have hl : (us.take i).length = i := by rw [List.length_take]; omega
  refine TOwn.unsplit h1 h2 (by omega) h5 h6 ?_ hl.symm
  rw [hl, ← cellsT_tk, ← h7, List.take_take]
  congr 1
  omega
end
theorem Blk.setCells {T : TypeId} {g : Nat} : ∀ (vs : List Value) (o : Nat) {w : World} {cs : List Value}, Blk w g cs T → ∃ cs', Blk (w.setCells g o vs) g cs' T ∧ cs'.length = cs.length ∧ ∀ k, k ≤ o → cs'.take k = cs.take k
  | [], o, w, cs, h => ⟨cs, h, rfl, fun _ _ => rfl⟩
  | v :: vs, o, w, cs, h => by
    obtain ⟨cs', h1, h2, h3⟩ := Blk.setCells vs (o + 1) (h.set o v)
    refine ⟨cs', h1, by rw [h2, List.length_set], fun k hk => ?_⟩
    rw [h3 k (by omega), List.take_set, List.set_eq_of_length_le (by rw [List.length_take]; omega)]
/-- What lies behind the row may be written over. -/
theorem TOwn.behind {w : World} {B g n cap : Nat} {us : List Tk} (h : TOwn w B (.slice (some ⟨g, 0, none⟩) n cap) us) (vs : List Value) {o : Nat} (ho : us.length * 2 ≤ o) : TOwn (w.setCells g o vs) B (.slice (some ⟨g, 0, none⟩) n cap) us := by
  obtain ⟨cs, h1, h2, h3, h4, h5, h6, h7⟩ := h.split
  obtain ⟨cs', k1, k2, k3⟩ := Blk.setCells vs o h1
  exact TOwn.unsplit k1 h2 h4 h5 (k2.trans h6) (by rw [k3 _ ho]; exact h7) h3
theorem But.setRun {b : Nat} : ∀ (vs : List Value) (o : Nat) {w W : World}, But b w W → But b w (W.setCells b o vs)
  | [], _, _, _, h => h
  | v :: vs, o, _, _, h => But.setRun vs (o + 1) (h.setCell o v)
/-- clear of ticks. -/
theorem run_clear_many (w : World) (g p m c : Nat) (hm : 0 < m) (cs : List Value) (hb : Blk w g cs 56) (hfit : p + m * 2 ≤ cs.length) :
    ∃ vs, ∀ ty, (Builtin.clear_ #[23] ty #[.slice (some ⟨g, p, none⟩) m c]).run Try.prog w = .ok (.tuple #[]) (w.setCells g p vs) := by
  obtain ⟨vs, hvs⟩ : ∃ vs, (Builtin.zeroCells (Value.agg #[.int .i64 0, .int .i64 0]).cells m).toList = vs := ⟨_, rfl⟩
  have hl : vs.length = m * 2 := by
    rw [← hvs]
    simp [Builtin.zeroCells, Value.cells]
  have hone : ∀ v ∈ vs, v.oneCell' = true := fun v hv => by
    rw [← hvs] at hv
    simp only [Builtin.zeroCells, Value.cells, Array.toList_map, List.mem_map] at hv
    obtain ⟨i, _, rfl⟩ := hv
    rcases (show i % (#[Value.int .i64 0, .int .i64 0] : Array Value).size = 0 ∨ i % (#[Value.int .i64 0, .int .i64 0] : Array Value).size = 1 by simp; omega) with h | h <;> rw [h] <;> rfl
  have hst := run_storeCells_cells (P := Try.prog) g p vs 0 w (fun j hj => by rw [Nat.add_zero, hb.cell_eq, List.getElem?_eq_getElem (by omega)]; rfl) (fun j hj => hb.frozen _) hone
  rw [Nat.add_zero] at hst
  obtain ⟨i0, hi, hz0, hz1, hz2⟩ := info_parts info_tick
  have hz : (zeroValue 56).run Try.prog w = .ok (.agg #[.int .i64 0, .int .i64 0]) w := by simp [zeroValue, typeInfo, Sem.run_bind, program, Sem.run, Result.andThen, hi, hz0]
  obtain ⟨m, rfl⟩ : ∃ k, m = k + 1 := ⟨m - 1, by omega⟩
  refine ⟨vs, fun ty => ?_⟩
  simp [Builtin.clear_, run_underlying under_ticks, hz, hvs, hst]
end Go.Proofs.Ytlaodkolkoefgaa
