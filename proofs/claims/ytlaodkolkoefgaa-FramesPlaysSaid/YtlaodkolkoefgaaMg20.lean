/-
  What a frame keeps while another one is changed: in plain Lean. Stored chunks beside a pool.
-/
import Derived.Test.YtlaodkolkoefgaaMg17
import Derived.Test.YtlaodkolkoefgaaMg19
import Derived.Test.YtlaodkolkoefgaaMg10
import Derived.Laws.IdiomCopy
namespace Go.Proofs.Ytlaodkolkoefgaa
open Go.RowKit
set_option linter.unusedSimpArgs false
set_option linter.unusedVariables false

theorem partP_congr {g h : Nat → Int × Int} {k : Nat} (e : ∀ i, i < k → g i = h i) : partP k g = partP k h := by
  funext i
  unfold partP
  by_cases hi : i < k
  · rw [if_pos hi, if_pos hi, e i hi]
  · rw [if_neg hi, if_neg hi]
theorem partP_at {g : Nat → Int × Int} {k i : Nat} (hi : i < k) : partP k g i = g i := if_pos hi
theorem partP_zeroP (k f : Nat) : partP k (shP f zeroP) = zeroP := by funext i; unfold partP shP zeroP; split <;> rfl
theorem U8.part {g : Nat → Int × Int} (h : U8 g) (k : Nat) : U8 (partP k g) := fun i => by
  unfold partP
  split
  · exact h i
  · simp
theorem tickD_zero : ∀ k, tickD (fun _ => 0) k = []
  | 0 => rfl
  | k + 1 => by unfold tickD; rw [tickD_zero k]; rfl
theorem sh_putP (f : Nat) (g h : Nat → Int × Int) {i : Nat} (hi : i < 4096) : shP f (putP f g h) i = g i := by
  unfold shP putP
  rw [if_pos (by omega), show f * 4096 + i - f * 4096 = i by omega]
theorem sh_putD (f : Nat) (g h : Nat → Int) {i : Nat} (hi : i < 4096) : shD f (putD f g h) i = g i := by
  unfold shD putD
  rw [if_pos (by omega), show f * 4096 + i - f * 4096 = i by omega]
theorem sh_setP {n f : Nat} {ok : Bool} {ce : Nat → Int × Int} {g i : Int} {v : Int × Int} (hg : g ≠ f) {j : Nat} (hj : j < 4096) : shP f (setP n ok ce g i v) j = shP f ce j := by
  unfold shP setP
  split
  · rename_i h
    have h1 := h.1
    unfold inR at h1
    rw [updP_other (by omega)]
  · rfl
theorem sh_wakeD {n f : Nat} {du : Nat → Int} {g i d : Int} (hg : g ≠ f) {j : Nat} (hj : j < 4096) : shD f (wakeD n du g i d) j = shD f du j := by
  unfold shD wakeD
  split
  · rename_i h
    have h1 := h.1
    unfold inR at h1
    rw [updD_other (by omega)]
  · rfl
theorem allN_congr {p q : Nat → Bool} : ∀ {n : Nat}, (∀ i, i < n → p i = q i) → allN p n = allN q n
  | 0, _ => rfl
  | n + 1, h => by
    unfold allN
    rw [allN_congr (fun i hi => h i (by omega)), h n (by omega)]
theorem checkE_part (ce li : Nat → Int × Int) (ts : List Tk) : checkE (partP 4096 ce) (partP 4096 li) ts = checkE ce li ts := by
  unfold checkE
  rw [allN_congr (p := mayC (partP 4096 ce)) (q := mayC ce) (fun i hi => by unfold mayC; rw [partP_at hi]), allN_congr (p := litC (partP 4096 li)) (q := litC li) (fun i hi => by unfold litC; rw [partP_at hi])]
theorem sameB_part (ce li : Nat → Int × Int) (ts : List Tk) : sameB (partP 4096 ce) ce (partP 4096 li) li ts ts = true := sameB_iff.2 ⟨fun i hi => ⟨partP_at hi, partP_at hi⟩, rfl⟩

/-- A chunk beside the slab in block sb. -/
def Sk (sb : Nat) (W : World) (b : Nat) (ce li : Nat → Int × Int) (ts : List Tk) : Prop := ∃ s, Ck W b ce li s ∧ TRow W s ts ∧ b ≠ sb ∧ Apart s sb
section
variable {sb b b' : Nat} {W W' : World} {ce li ce' li' : Nat → Int × Int} {ts us : List Tk}
theorem Sk.keep (h : Sk sb W b ce li ts) (hb : Below W.heap.size W W') : Sk sb W' b ce li ts := h.elim fun s h => ⟨s, h.1.keep hb, h.2.1.keep hb, h.2.2⟩
theorem Sk.but (h : Sk sb W b ce li ts) (hb : But sb W W') : Sk sb W' b ce li ts := h.elim fun s h => ⟨s, h.1.but hb h.2.2.1, SRow.but h.2.1 hb (Or.inr h.2.2.2), h.2.2⟩
theorem Sk.lt (h : Sk sb W b ce li ts) : b < W.heap.size := h.elim fun s h => h.1.lt
theorem Sk.same (h : Sk sb W b ce li ts) (k : Sk sb W b' ce' li' us) :
    Calls Try.prog 11 #[.pointer (some ⟨b, 0, none⟩), .pointer (some ⟨b', 0, none⟩)] W fun e w' => e = .returned (.bool (sameB ce ce' li li' ts us)) ∧ Below W.heap.size W w' := by
  obtain ⟨s, h1, h2, _⟩ := h
  obtain ⟨s', k1, k2, _⟩ := k
  exact (same_calls b b' ce ce' li li' s s' ts us W h1 k1 h2 k2).mono fun _ _ ⟨he, q, hw⟩ => ⟨he, by rw [hw]; exact below_drewN (Below.refl _ _) q⟩
theorem Sk.check (h : Sk sb W b ce li ts) (hu : U8 ce) :
    Calls Try.prog 10 #[.pointer (some ⟨b, 0, none⟩)] W fun e w' => e = .returned (.int .i64 (checkE ce li ts)) ∧ Below W.heap.size W w' := by
  obtain ⟨s, h1, h2, _⟩ := h
  exact check_calls b ce li s ts W h1 h2 hu
end
/-- A stored chunk is beside the slab. -/
theorem Sk.of_own {sb b : Nat} {W W' : World} {ce li : Nat → Int × Int} {s : Value} {ts : List Tk} (hs : sb < W.heap.size) (hb : W.heap.size ≤ b) (h1 : Ck W' b ce li s) (h2 : TOwn W' (b + 1) s ts) : Sk sb W' b ce li ts := ⟨s, h1, h2.row, by omega, h2.apart (by omega)⟩
section
variable {w W : World} {pb sb tb n : Nat} {ce li : Nat → Int × Int} {du : Nat → Int} {tk : Nat → Bool}
theorem Fp.storeS (h : Fp w W pb sb tb n ce li du tk) {f : Nat} (hf : f < n) {CE LI : Nat → Int × Int} {ts : List Tk} (h1 : partP 4096 (shP f ce) = CE) (h2 : partP 4096 (shP f li) = LI) (h3 : tickD (shD f du) 4096 = ts) :
    Calls Try.prog 12 #[.pointer (some ⟨pb, 0, none⟩), .int .i64 f] W fun e w' => ∃ b, e = .returned (.pointer (some ⟨b, 0, none⟩)) ∧ W.heap.size ≤ b ∧ Sk sb w' b CE LI ts ∧ Fp w w' pb sb tb n ce li du tk ∧ Below W.heap.size W w' := by
  have := h.store hf
  rw [h1, h2, h3] at this
  exact this.mono fun _ _ ⟨b, s, he, hb, hk, ho, hF, hB⟩ => ⟨b, he, hb, Sk.of_own h.lt hb hk ho, hF, hB⟩
theorem Fp.loadS (h : Fp w W pb sb tb n ce li du tk) {f cb : Nat} {cce cli : Nat → Int × Int} {ts : List Tk} (hf : f < n) (hk : Sk sb W cb cce cli ts) (hu : U8 cce) (hul : U8 cli) (hok : checkE cce cli ts = 0) :
    Calls Try.prog 9 #[.pointer (some ⟨pb, 0, none⟩), .int .i64 f, .pointer (some ⟨cb, 0, none⟩)] W fun e w' => e = .returned (.int .i64 0) ∧ Fp w w' pb sb tb n (putP f cce ce) (putP f cli li) (putD f (duF ts) du) tk ∧ But sb W w' := by
  obtain ⟨s, h1, h2, _⟩ := hk
  exact h.load hf h1 h2 hu hul hok
theorem Fp.loadBadS (h : Fp w W pb sb tb n ce li du tk) {f cb : Nat} {cce cli : Nat → Int × Int} {ts : List Tk} (hf : f < n) (hk : Sk sb W cb cce cli ts) (hu : U8 cce) (hok : checkE cce cli ts ≠ 0) :
    Calls Try.prog 9 #[.pointer (some ⟨pb, 0, none⟩), .int .i64 f, .pointer (some ⟨cb, 0, none⟩)] W fun e w' => e = .returned (.int .i64 (checkE cce cli ts)) ∧ Fp w w' pb sb tb n ce li du tk ∧ Below W.heap.size W w' := by
  obtain ⟨s, h1, h2, _⟩ := hk
  exact h.loadBad hf h1 h2 hu hok
end
/-- The last looks of FramesBack. -/
theorem back_7 (ce : Nat → Int × Int) : atP 3 (setP 3 (mayK 2 0) ce 1 7 (2, 0)) 1 7 = (2, 0) := by
  have h1 : inR 3 1 7 := by unfold inR; omega
  have h2 : mayK 2 0 = true := by decide
  unfold atP setP
  rw [if_pos h1, if_pos ⟨h1, h2⟩]
  exact updP_same _ _ _
theorem back_8 (CE : Nat → Int × Int) (ok : Bool) (at' : Int) (v : Int × Int) : atP 3 (setP 3 (mayK 2 0) (setP 3 ok (putP 1 CE zeroP) 0 at' v) 1 7 (2, 0)) 1 8 = CE 8 := by
  have h1 : inR 3 1 8 := by unfold inR; omega
  have h2 : inR 3 1 7 := by unfold inR; omega
  have h3 : mayK 2 0 = true := by decide
  have h4 := sh_setP (n := 3) (f := 1) (ok := ok) (ce := putP 1 CE zeroP) (g := 0) (i := at') (v := v) (by omega) (j := 8) (by omega)
  rw [sh_putP 1 CE zeroP (by omega)] at h4
  unfold atP
  rw [if_pos h1]
  conv => lhs; unfold setP
  rw [if_pos ⟨h2, h3⟩]
  show updP _ 4103 _ 4104 = _
  rw [updP_other (by omega)]
  exact h4
theorem back_due (du : Nat → Int) (h : 0 ≤ du 4096) : atD 3 (wakeD 3 du 1 0 1) 1 0 = 1 := by
  have h1 : inR 3 1 0 := by unfold inR; omega
  unfold atD
  rw [if_pos h1]
  show wakeD 3 du 1 0 1 4096 = 1
  unfold wakeD
  by_cases hc : du 4096 = 0 ∨ 1 < du 4096
  · rw [if_pos ⟨h1, by omega, hc⟩]
    exact updD_same _ _ _
  · rw [if_neg (fun h => hc h.2.2)]
    omega
end Go.Proofs.Ytlaodkolkoefgaa

/-
  An owned row of ticks: one tick set; cut short; what lies behind it cleared.
-/
namespace Go.Proofs.Ytlaodkolkoefgaa
open Go.RowKit
set_option linter.unusedSimpArgs false
set_option linter.unusedVariables false

theorem cellsT_set2 {ts : List Tk} {k : Nat} (hk : k < ts.length) (x y : Int) : ((cellsT ts).set (k * 2) (.int .i64 x)).set (k * 2 + 1) (.int .i64 y) = cellsT (ts.set k (x, y)) := by
  have e2 : ts = ts.take k ++ (ts[k] :: ts.drop (k + 1)) := by rw [← List.drop_eq_getElem_cons hk, List.take_append_drop]
  have e1 : cellsT ts = cellsT (ts.take k) ++ (tickV ts[k] ++ cellsT (ts.drop (k + 1))) := by
    conv => lhs; rw [e2]
    rw [cellsT_app]
    rfl
  have e3 : ts.set k (x, y) = ts.take k ++ ((x, y) :: ts.drop (k + 1)) := by rw [List.set_eq_take_append_cons_drop, if_pos hk]
  have hpl : (cellsT (ts.take k)).length = k * 2 := by rw [cellsT_len, List.length_take]; omega
  rw [e1, e3, cellsT_app, List.set_append_right _ _ (by rw [hpl]; omega), hpl, Nat.sub_self, List.set_append_right _ _ (by rw [hpl]; omega), hpl, Nat.add_sub_cancel_left]
  rfl
theorem cellsT_tk (ts : List Tk) (k : Nat) : (cellsT ts).take (k * 2) = cellsT (ts.take k) := by
  by_cases h : k ≤ ts.length
  · have e : cellsT ts = cellsT (ts.take k) ++ cellsT (ts.drop k) := by rw [← cellsT_app, List.take_append_drop]
    rw [e, List.take_left' (by rw [cellsT_len, List.length_take]; omega)]
  · rw [List.take_of_length_le (by rw [cellsT_len]; omega), List.take_of_length_le (by omega)]
section
variable {w : World} {B g n cap : Nat} {us : List Tk}
theorem TOwn.split (h : TOwn w B (.slice (some ⟨g, 0, none⟩) n cap) us) : ∃ cs : List Value, Blk w g cs 56 ∧ B ≤ g ∧ n = us.length ∧ us.length ≤ cap ∧ cap ≤ maxLen ∧ cs.length = cap * 2 ∧ cs.take (us.length * 2) = cellsT us := by
  rcases h.2 with ⟨h1, _⟩ | ⟨g', cap', cur, hv, hb, hg, hnc, hcm, hcs, htake⟩
  · cases h1
  · injection hv with e1 e2 e3
    injection e1 with e1
    injection e1 with e1 _ _
    subst e1 e3
    exact ⟨cur.toList, hg, hb, e2, hnc, hcm, by rw [Array.length_toList]; exact hcs, htake⟩
theorem TOwn.unsplit {cs : List Value} (h1 : Blk w g cs 56) (h2 : B ≤ g) (h4 : us.length ≤ cap) (h5 : cap ≤ maxLen) (h6 : cs.length = cap * 2) (h7 : cs.take (us.length * 2) = cellsT us) (hn : n = us.length) : TOwn w B (.slice (some ⟨g, 0, none⟩) n cap) us := by
  subst hn
  exact ⟨cellsT_len us, .inr ⟨g, cap, cs.toArray, rfl, h2, h1, h4, h5, by rw [List.size_toArray]; exact h6, by rw [List.toList_toArray]; exact h7⟩⟩
theorem TOwn.cellAt (h : TOwn w B (.slice (some ⟨g, 0, none⟩) n cap) us) {j : Nat} {t : Tk} (ht : us[j]? = some t) : w.cell? ⟨g, j * 2, none⟩ = some (.int .i64 t.1) ∧ w.cell? ⟨g, j * 2 + 1, none⟩ = some (.int .i64 t.2) := by
  obtain ⟨cs, h1, h2, h3, h4, h5, h6, h7⟩ := h.split
  have hj := (List.getElem?_eq_some_iff.1 ht).1
  obtain ⟨c0, c1⟩ := cellsT_at ht
  rw [← h7, List.getElem?_take_of_lt (by omega)] at c0
  rw [← h7, List.getElem?_take_of_lt (by omega)] at c1
  exact ⟨h1.cell _ c0, h1.cell _ c1⟩
theorem TOwn.setAt (h : TOwn w B (.slice (some ⟨g, 0, none⟩) n cap) us) {k : Nat} (hk : k < us.length) (x y : Int) :
    TOwn ((w.setCell ⟨g, k * 2, none⟩ (.int .i64 x)).setCell ⟨g, k * 2 + 1, none⟩ (.int .i64 y)) B (.slice (some ⟨g, 0, none⟩) n cap) (us.set k (x, y)) ∧ g < w.heap.size ∧ B ≤ g ∧
      w.frozen? ⟨g, k * 2, none⟩ = false ∧ w.frozen? ⟨g, k * 2 + 1, none⟩ = false ∧ (∃ u, w.cell? ⟨g, k * 2, none⟩ = some u) ∧ ∃ u, w.cell? ⟨g, k * 2 + 1, none⟩ = some u := by
  obtain ⟨cs, h1, h2, h3, h4, h5, h6, h7⟩ := h.split
  refine ⟨TOwn.unsplit ((h1.set _ _).set _ _) h2 (by rw [List.length_set]; exact h4) h5 (by rw [List.length_set, List.length_set]; exact h6) ?_ (by rw [List.length_set]; exact h3), h1.lt, h2, h1.frozen _, h1.frozen _,
    ⟨_, h1.cell (k * 2) (List.getElem?_eq_getElem (by omega))⟩, ⟨_, h1.cell (k * 2 + 1) (List.getElem?_eq_getElem (by omega))⟩⟩
  rw [List.length_set, List.take_set, List.take_set, h7, cellsT_set2 hk]
theorem TOwn.shrink (h : TOwn w B (.slice (some ⟨g, 0, none⟩) n cap) us) {i : Nat} (hi : i ≤ us.length) : TOwn w B (.slice (some ⟨g, 0, none⟩) i cap) (us.take i) := by
  obtain ⟨cs, h1, h2, h3, h4, h5, h6, h7⟩ := h.split
  have hl : (us.take i).length = i := by rw [List.length_take]; omega
  refine TOwn.unsplit h1 h2 (by omega) h5 h6 ?_ hl.symm
  rw [hl, ← cellsT_tk, ← h7, List.take_take]
  congr 1
  omega
end
theorem Blk.setCells {T : TypeId} {g : Nat} : ∀ (vs : List Value) (o : Nat) {w : World} {cs : List Value}, Blk w g cs T → ∃ cs', Blk (w.setCells g o vs) g cs' T ∧ cs'.length = cs.length ∧ ∀ k, k ≤ o → cs'.take k = cs.take k
  | [], o, w, cs, h => ⟨cs, h, rfl, fun _ _ => rfl⟩
  | v :: vs, o, w, cs, h => by
    obtain ⟨cs', h1, h2, h3⟩ := Blk.setCells vs (o + 1) (h.set o v)
    refine ⟨cs', h1, by rw [h2, List.length_set], fun k hk => ?_⟩
    rw [h3 k (by omega), List.take_set, List.set_eq_of_length_le (by rw [List.length_take]; omega)]
/-- What lies behind the row may be written over. -/
theorem TOwn.behind {w : World} {B g n cap : Nat} {us : List Tk} (h : TOwn w B (.slice (some ⟨g, 0, none⟩) n cap) us) (vs : List Value) {o : Nat} (ho : us.length * 2 ≤ o) : TOwn (w.setCells g o vs) B (.slice (some ⟨g, 0, none⟩) n cap) us := by
  obtain ⟨cs, h1, h2, h3, h4, h5, h6, h7⟩ := h.split
  obtain ⟨cs', k1, k2, k3⟩ := Blk.setCells vs o h1
  exact TOwn.unsplit k1 h2 h4 h5 (k2.trans h6) (by rw [k3 _ ho]; exact h7) h3
theorem But.setRun {b : Nat} : ∀ (vs : List Value) (o : Nat) {w W : World}, But b w W → But b w (W.setCells b o vs)
  | [], _, _, _, h => h
  | v :: vs, o, _, _, h => But.setRun vs (o + 1) (h.setCell o v)
/-- clear of ticks. -/
theorem run_clear_many (w : World) (g p m c : Nat) (hm : 0 < m) (cs : List Value) (hb : Blk w g cs 56) (hfit : p + m * 2 ≤ cs.length) :
    ∃ vs, ∀ ty, (Builtin.clear_ #[23] ty #[.slice (some ⟨g, p, none⟩) m c]).run Try.prog w = .ok (.tuple #[]) (w.setCells g p vs) := by
  obtain ⟨vs, hvs⟩ : ∃ vs, (Builtin.zeroCells (Value.agg #[.int .i64 0, .int .i64 0]).cells m).toList = vs := ⟨_, rfl⟩
  have hl : vs.length = m * 2 := by
    rw [← hvs]
    simp [Builtin.zeroCells, Value.cells]
  have hone : ∀ v ∈ vs, v.oneCell' = true := fun v hv => by
    rw [← hvs] at hv
    simp only [Builtin.zeroCells, Value.cells, Array.toList_map, List.mem_map] at hv
    obtain ⟨i, _, rfl⟩ := hv
    rcases (show i % (#[Value.int .i64 0, .int .i64 0] : Array Value).size = 0 ∨ i % (#[Value.int .i64 0, .int .i64 0] : Array Value).size = 1 by simp; omega) with h | h <;> rw [h] <;> rfl
  have hst := run_storeCells_cells (P := Try.prog) g p vs 0 w (fun j hj => by rw [Nat.add_zero, hb.cell_eq, List.getElem?_eq_getElem (by omega)]; rfl) (fun j hj => hb.frozen _) hone
  rw [Nat.add_zero] at hst
  obtain ⟨i0, hi, hz0, hz1, hz2⟩ := info_parts info_tick
  have hz : (zeroValue 56).run Try.prog w = .ok (.agg #[.int .i64 0, .int .i64 0]) w := by simp [zeroValue, typeInfo, Sem.run_bind, program, Sem.run, Result.andThen, hi, hz0]
  obtain ⟨m, rfl⟩ : ∃ k, m = k + 1 := ⟨m - 1, by omega⟩
  refine ⟨vs, fun ty => ?_⟩
  simp [Builtin.clear_, run_underlying under_ticks, hz, hvs, hst]
end Go.Proofs.Ytlaodkolkoefgaa
