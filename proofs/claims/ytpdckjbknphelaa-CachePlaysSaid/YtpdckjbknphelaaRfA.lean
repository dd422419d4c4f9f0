/-
  The reference's cache, as one reads it.
-/
import Derived.Test.YtpdckjbknphelaaCpD
import Derived.Test.YtpdckjbknphelaaCpE
namespace Go.Proofs.Ytpdckjbknphelaa
open Go.RowKit
set_option linter.unusedSimpArgs false
set_option linter.unusedVariables false
set_option linter.unusedSectionVars false

/-- All that is not of the set Y stays. -/
structure Kb (Y : Nat → Prop) (W W' : World) : Prop where
  os : W'.os = W.os
  tape : W'.tape = W.tape
  output : W'.output = W.output
  size : W.heap.size ≤ W'.heap.size
  block : ∀ c, c < W.heap.size → ¬ Y c → W'.heap[c]? = W.heap[c]?
structure Rb where
  B : Nat
  q : Nat
  qs : Nat
  n : Nat
  fail : Int
  stop : Int
def rX (r : Rb) (kv cv : Value) (x : Nat) : Prop := x = r.q ∨ x = r.qs ∨ kv.ownBlock = some x ∨ cv.ownBlock = some x
def rslL (x : Sl) (v : Int) : List Value := slL x ++ [.int .i64 v]
def rslF (g : Nat → Sl) (vs : Nat → Int) (i : Nat) : Value := (rslL (g (i / 8)) (vs (i / 8))).getD (i % 8) undef
structure Rv (W : World) (r : Rb) (kv cv : Value) (c : Cs) : Prop where
  cache : Blk W r.q [.slice (some ⟨r.qs, 0, none⟩) r.n r.n, .int .i64 c.hand, kv, cv, .int .i64 r.fail, .int .i64 r.stop] 74
  slots : ∃ vs, Row1 W r.qs 78 (r.n * 8) (rslF c.sl vs) ∧ ∀ j, j < r.n → (c.sl j).full = true → vs j = vOf c j
  kept : ROwn W r.B 84 4 kv (c.kept.map keptL)
  calls : ROwn W r.B 58 5 cv (c.calls.map callL)
  n1 : 1 ≤ r.n
  n64 : r.n ≤ 64
  lq : r.B ≤ r.q
  ls : r.B ≤ r.qs
/-- .. and what has changed since a world W0. -/
def Rw (W0 : World) (Y0 : Nat → Prop) (W : World) (r : Rb) (c : Cs) : Prop := ∃ kv cv, Rv W r kv cv c ∧ Kb Y0 W0 W ∧ ∀ x, rX r kv cv x → Y0 x ∨ W0.heap.size ≤ x
section
variable {W0 W W' u v w : World} {Y Y0 : Nat → Prop} {r : Rb} {c : Cs} {kv cv : Value}
theorem Kb.refl (Y : Nat → Prop) (w : World) : Kb Y w w := ⟨rfl, rfl, rfl, Nat.le_refl _, fun _ _ _ => rfl⟩
theorem Kb.of_below (h : Below w.heap.size w W) : Kb Y w W := ⟨h.os, h.tape, h.output, h.size, fun c hc _ => h.block c hc⟩
theorem Kb.trans (h : Kb Y u v) (k : Kb Y v w) : Kb Y u w := ⟨k.os.trans h.os, k.tape.trans h.tape, k.output.trans h.output, Nat.le_trans h.size k.size, fun c hc hn => (k.block c (Nat.lt_of_lt_of_le hc h.size) hn).trans (h.block c hc hn)⟩
theorem Kb.but {b : Nat} (h : Kb Y u v) (k : But b v w) (hb : Y b ∨ u.heap.size ≤ b) : Kb Y u w := ⟨k.os.trans h.os, k.tape.trans h.tape, k.output.trans h.output, Nat.le_trans h.size k.size, fun c hc hn => (k.block c (Nat.lt_of_lt_of_le hc h.size) (fun e => by
  subst e
  rcases hb with hb | hb
  · exact hn hb
  · omega)).trans (h.block c hc hn)⟩
theorem Kb.grown {x : Option Nat} (h : Kb Y u v) (k : v.grownBy w x) (hb : ∀ b, x = some b → Y b ∨ u.heap.size ≤ b) : Kb Y u w := ⟨k.os.trans h.os, k.tape.trans h.tape, k.output.trans h.output, Nat.le_trans h.size k.size, fun c hc hn => (k.block c (Nat.lt_of_lt_of_le hc h.size) (fun e => by
  rcases hb c e.symm with hb | hb
  · exact hn hb
  · omega)).trans (h.block c hc hn)⟩
theorem Rv.keep (h : Rv W r kv cv c) (hb : Below W.heap.size W W') : Rv W' r kv cv c :=
  { h with cache := h.cache.below hb h.cache.lt, slots := h.slots.elim fun vs k => ⟨vs, k.1.keep hb, k.2⟩, kept := h.kept.keep hb, calls := h.calls.keep hb }
theorem Rw.keep (h : Rw W0 Y0 W r c) (hb : Below W.heap.size W W') : Rw W0 Y0 W' r c := by
  obtain ⟨kv, cv, h1, h2, h3⟩ := h
  exact ⟨kv, cv, h1.keep hb, h2.trans (Kb.of_below hb), h3⟩
/-- Another state that reads the same. -/
theorem Rv.congr {c' : Cs} (h : Rv W r kv cv c) (h1 : c'.sl = c.sl) (h2 : c'.hand = c.hand) (h3 : c'.kept = c.kept) (h4 : c'.calls = c.calls) (h5 : ∀ j, j < r.n → (c.sl j).full = true → vOf c' j = vOf c j) : Rv W r kv cv c' :=
  { h with cache := by rw [h2]; exact h.cache, slots := h.slots.elim fun vs k => ⟨vs, by rw [h1]; exact k.1, fun j hj hf => by rw [h1] at hf; rw [h5 j hj hf]; exact k.2 j hj hf⟩, kept := by rw [h3]; exact h.kept, calls := by rw [h4]; exact h.calls }
theorem Rw.congr {c' : Cs} (h : Rw W0 Y0 W r c) (h1 : c'.sl = c.sl) (h2 : c'.hand = c.hand) (h3 : c'.kept = c.kept) (h4 : c'.calls = c.calls) (h5 : ∀ j, j < r.n → (c.sl j).full = true → vOf c' j = vOf c j) : Rw W0 Y0 W r c' := by
  obtain ⟨kv, cv, k1, k2, k3⟩ := h
  exact ⟨kv, cv, k1.congr h1 h2 h3 h4 h5, k2, k3⟩
theorem Rv.qne (h : Rv W r kv cv c) : r.q ≠ r.qs := by
  obtain ⟨vs, ⟨cs, k, _⟩, _⟩ := h.slots
  exact h.cache.neT k (by decide)
/-- Another row of slots. -/
theorem Rw.setSlots (h : Rw W0 Y0 W r c) (hb : But r.qs W W') {c' : Cs} (hs : ∀ vs, Row1 W r.qs 78 (r.n * 8) (rslF c.sl vs) → (∀ j, j < r.n → (c.sl j).full = true → vs j = vOf c j) → ∃ vs', Row1 W' r.qs 78 (r.n * 8) (rslF c'.sl vs') ∧ ∀ j, j < r.n → (c'.sl j).full = true → vs' j = vOf c' j)
    (h2 : c'.hand = c.hand) (h3 : c'.kept = c.kept) (h4 : c'.calls = c.calls) : Rw W0 Y0 W' r c' := by
  obtain ⟨kv, cv, k1, k2, k3⟩ := h
  obtain ⟨vs, hr, hv⟩ := k1.slots
  have hr0 := hr
  obtain ⟨cs, ks, _⟩ := hr0
  exact ⟨kv, cv, { k1 with cache := by rw [h2]; exact k1.cache.but hb k1.qne, slots := hs vs hr hv, kept := by rw [h3]; exact k1.kept.but hb (k1.kept.ne ks (by decide)), calls := by rw [h4]; exact k1.calls.but hb (k1.calls.ne ks (by decide)) }, k2.but hb (k3 _ (.inr (.inl rfl))), k3⟩
theorem rslF_at (g : Nat → Sl) (vs : Nat → Int) (i k : Nat) (hk : k < 8) : rslF g vs (i * 8 + k) = (rslL (g i) (vs i)).getD k undef := by
  unfold rslF
  rw [show (i * 8 + k) / 8 = i by omega, show (i * 8 + k) % 8 = k by omega]
/-- A slot's cells. -/
theorem Rw.cells (h : Rw W0 Y0 W r c) {i : Nat} (hi : i < r.n) : W.cell? ⟨r.qs, i * 8, none⟩ = some (.int .i64 (c.sl i).sp.1) ∧ W.cell? ⟨r.qs, i * 8 + 1, none⟩ = some (.int .i64 (c.sl i).sp.2.1) ∧ W.cell? ⟨r.qs, i * 8 + 2, none⟩ = some (.int .i64 (c.sl i).sp.2.2) ∧ W.cell? ⟨r.qs, i * 8 + 3, none⟩ = some (.bool (c.sl i).full) ∧
    W.cell? ⟨r.qs, i * 8 + 4, none⟩ = some (.bool (c.sl i).dirty) ∧ W.cell? ⟨r.qs, i * 8 + 5, none⟩ = some (.bool (c.sl i).mark) ∧ W.cell? ⟨r.qs, i * 8 + 6, none⟩ = some (.int .i64 (c.sl i).pins) ∧ ∃ v, W.cell? ⟨r.qs, i * 8 + 7, none⟩ = some (.int .i64 v) ∧ ((c.sl i).full = true → v = vOf c i) := by
  obtain ⟨kv, cv, k1, k2, k3⟩ := h
  obtain ⟨vs, hr, hv⟩ := k1.slots
  have key : ∀ k, k < 8 → W.cell? ⟨r.qs, i * 8 + k, none⟩ = some ((rslL (c.sl i) (vs i)).getD k undef) := fun k hk => by
    rw [hr.cell (by omega), rslF_at _ _ _ _ hk]
  exact ⟨key 0 (by omega), key 1 (by omega), key 2 (by omega), key 3 (by omega), key 4 (by omega), key 5 (by omega), key 6 (by omega), vs i, key 7 (by omega), hv i hi⟩
theorem Rw.frozen (h : Rw W0 Y0 W r c) (i : Nat) : W.frozen? ⟨r.qs, i, none⟩ = false := by
  obtain ⟨kv, cv, k1, k2, k3⟩ := h
  obtain ⟨vs, hr, hv⟩ := k1.slots
  exact hr.frozen i
theorem Rw.qcells (h : Rw W0 Y0 W r c) : W.cell? ⟨r.q, 0, none⟩ = some (.slice (some ⟨r.qs, 0, none⟩) r.n r.n) ∧ W.cell? ⟨r.q, 1, none⟩ = some (.int .i64 c.hand) ∧ W.cell? ⟨r.q, 4, none⟩ = some (.int .i64 r.fail) ∧ W.cell? ⟨r.q, 5, none⟩ = some (.int .i64 r.stop) ∧ ∀ i, W.frozen? ⟨r.q, i, none⟩ = false := by
  obtain ⟨kv, cv, k1, k2, k3⟩ := h
  exact ⟨k1.cache.cell 0 rfl, k1.cache.cell 1 rfl, k1.cache.cell 4 rfl, k1.cache.cell 5 rfl, k1.cache.frozen⟩
theorem Rw.n64 (h : Rw W0 Y0 W r c) : 1 ≤ r.n ∧ r.n ≤ 64 := by
  obtain ⟨kv, cv, k1, k2, k3⟩ := h
  exact ⟨k1.n1, k1.n64⟩
theorem Rw.lt (h : Rw W0 Y0 W r c) : r.q < W.heap.size ∧ r.qs < W.heap.size := by
  obtain ⟨kv, cv, k1, k2, k3⟩ := h
  obtain ⟨vs, hr, hv⟩ := k1.slots
  exact ⟨k1.cache.lt, hr.lt⟩
/-- The row of what was kept. -/
theorem Rw.kept (h : Rw W0 Y0 W r c) : ∃ base cap, W.cell? ⟨r.q, 2, none⟩ = some (.slice base c.kept.length cap) ∧ c.kept.length ≤ cap ∧ cap ≤ maxLen ∧ (c.kept ≠ [] → ∃ g, base = some ⟨g, 0, none⟩ ∧ ∀ j p, c.kept[j]? = some p → W.cell? ⟨g, j * 4, none⟩ = some (.int .i64 p.1.1) ∧ W.cell? ⟨g, j * 4 + 1, none⟩ = some (.int .i64 p.1.2.1) ∧ W.cell? ⟨g, j * 4 + 2, none⟩ = some (.int .i64 p.1.2.2) ∧ W.cell? ⟨g, j * 4 + 3, none⟩ = some (.int .i64 p.2)) := by
  obtain ⟨kv, cv, k1, k2, k3⟩ := h
  obtain ⟨base, cap, rfl, h1, h2, h3⟩ := k1.kept.open
  have := k1.cache.cell 2 rfl
  rw [List.length_map] at this h1
  refine ⟨base, cap, this, h1, h2, fun hne => ?_⟩
  obtain ⟨g, hg, _, hc⟩ := h3 (fun e => hne (List.map_eq_nil_iff.1 e))
  refine ⟨g, hg, fun j p hp => ?_⟩
  have hx : (c.kept.map keptL)[j]? = some (keptL p) := by rw [List.getElem?_map, hp]; rfl
  exact ⟨hc j _ hx 0 _ rfl, hc j _ hx 1 _ rfl, hc j _ hx 2 _ rfl, hc j _ hx 3 _ rfl⟩
theorem Rw.calls (h : Rw W0 Y0 W r c) : ∃ base cap, W.cell? ⟨r.q, 3, none⟩ = some (.slice base c.calls.length cap) ∧ c.calls.length ≤ cap ∧ cap ≤ maxLen ∧ (c.calls ≠ [] → ∃ g, base = some ⟨g, 0, none⟩ ∧ ∀ j p, c.calls[j]? = some p → W.cell? ⟨g, j * 5, none⟩ = some (.bool p.1) ∧ W.cell? ⟨g, j * 5 + 1, none⟩ = some (.int .i64 p.2.1.1) ∧ W.cell? ⟨g, j * 5 + 2, none⟩ = some (.int .i64 p.2.1.2.1) ∧ W.cell? ⟨g, j * 5 + 3, none⟩ = some (.int .i64 p.2.1.2.2) ∧ W.cell? ⟨g, j * 5 + 4, none⟩ = some (.int .i64 p.2.2)) := by
  obtain ⟨kv, cv, k1, k2, k3⟩ := h
  obtain ⟨base, cap, rfl, h1, h2, h3⟩ := k1.calls.open
  have := k1.cache.cell 3 rfl
  rw [List.length_map] at this h1
  refine ⟨base, cap, this, h1, h2, fun hne => ?_⟩
  obtain ⟨g, hg, _, hc⟩ := h3 (fun e => hne (List.map_eq_nil_iff.1 e))
  refine ⟨g, hg, fun j p hp => ?_⟩
  have hx : (c.calls.map callL)[j]? = some (callL p) := by rw [List.getElem?_map, hp]; rfl
  exact ⟨hc j _ hx 0 _ rfl, hc j _ hx 1 _ rfl, hc j _ hx 2 _ rfl, hc j _ hx 3 _ rfl, hc j _ hx 4 _ rfl⟩
/-- The hand moves. -/
theorem Rw.setHand (h : Rw W0 Y0 W r c) (k : Nat) : Rw W0 Y0 (W.setCell ⟨r.q, 1, none⟩ (.int .i64 k)) r { c with hand := k } := by
  obtain ⟨kv, cv, k1, k2, k3⟩ := h
  have hb : But r.q W (W.setCell ⟨r.q, 1, none⟩ (.int .i64 k)) := (But.refl _ _).setCell 1 _
  exact ⟨kv, cv, { k1 with cache := k1.cache.set 1 _, slots := k1.slots.elim fun vs k => ⟨vs, k.1.but hb k1.qne.symm, k.2⟩, kept := k1.kept.but hb (k1.kept.ne k1.cache (by decide)), calls := k1.calls.but hb (k1.calls.ne k1.cache (by decide)) }, k2.but hb (k3 _ (.inl rfl)), k3⟩
theorem rslF_upd {n : Nat} (g : Nat → Sl) (vs : Nat → Int) (i k : Nat) (x : Sl) (y : Int) (v : Value) (hk : k < 8) (hx : rslL x y = (rslL (g i) (vs i)).set k v) : ∀ j, j < n * 8 → rslF (updS g i x) (fun j => if j = i then y else vs j) j = if j = i * 8 + k then v else rslF g vs j := fun j hj => by
  unfold rslF updS
  dsimp only
  by_cases e : j / 8 = i
  · rw [if_pos e, if_pos e, hx, List.getD_eq_getElem?_getD, List.getElem?_set]
    by_cases e2 : j % 8 = k
    · rw [if_pos e2.symm, if_pos (by omega : j = i * 8 + k), if_pos (show k < (rslL (g i) (vs i)).length from hk)]
      rfl
    · rw [if_neg (Ne.symm e2), if_neg (by omega), e, List.getD_eq_getElem?_getD]
  · rw [if_neg e, if_neg e, if_neg (by omega)]
/-- One cell of a slot changes. -/
theorem Rw.setOne (h : Rw W0 Y0 W r c) {i k : Nat} {x : Sl} {v : Value} (hi : i < r.n) (hk : k < 7) (hx : slL x = (slL (c.sl i)).set k v) (hfu : x.full = (c.sl i).full) : Rw W0 Y0 (W.setCell ⟨r.qs, i * 8 + k, none⟩ v) r { c with sl := updS c.sl i x } := by
  refine h.setSlots ((But.refl _ _).setCell _ _) (fun vs hr hv => ⟨fun j => if j = i then vs i else vs j, (hr.set (i * 8 + k) v).congr fun j hj => (rslF_upd (n := r.n) c.sl vs i k x (vs i) v (by omega) ?_ j hj).symm, fun j hj hf => ?_⟩) rfl rfl rfl
  · unfold rslL
    rw [hx, List.set_append_left _ _ (show k < (slL (c.sl i)).length from hk)]
  · have hf' : (updS c.sl i x j).full = true := hf
    unfold updS at hf'
    show (if j = i then vs i else vs j) = vOf c j
    by_cases e : j = i
    · rw [if_pos e] at hf' ⊢
      rw [hfu] at hf'
      rw [e]; exact hv i hi hf'
    · rw [if_neg e] at hf' ⊢
      exact hv j hj hf'
/-- A value changes. -/
theorem Rw.setVal (h : Rw W0 Y0 W r c) {i : Nat} {y : Int} {c' : Cs} (hi : i < r.n) (h1 : c'.sl = c.sl) (h2 : c'.hand = c.hand) (h3 : c'.kept = c.kept) (h4 : c'.calls = c.calls) (h5 : ∀ j, vOf c' j = if j = i then y else vOf c j) : Rw W0 Y0 (W.setCell ⟨r.qs, i * 8 + 7, none⟩ (.int .i64 y)) r c' := by
  refine h.setSlots ((But.refl _ _).setCell _ _) (fun vs hr hv => ⟨fun j => if j = i then y else vs j, (hr.set (i * 8 + 7) _).congr fun j hj => ?_, fun j hj hf => ?_⟩) h2 h3 h4
  · rw [h1]
    have := rslF_upd (n := r.n) c.sl vs i 7 (c.sl i) y (.int .i64 y) (by omega) (by unfold rslL; rw [List.set_append_right _ _ (by simp [slL])]; simp [slL]) j hj
    rw [show updS c.sl i (c.sl i) = c.sl by funext z; unfold updS; split <;> simp_all] at this
    exact this.symm
  · rw [h1] at hf
    rw [h5]
    show (if j = i then y else vs j) = _
    split
    · rfl
    · exact hv j hj hf
/-- A whole slot is stored. -/
def set8 (W : World) (b o : Nat) (x : Sl) (y : Int) : World := (set7 W b o x).setCell ⟨b, o + 7, none⟩ (.int .i64 y)
theorem set8_but (W : World) (b o : Nat) (x : Sl) (y : Int) : But b W (set8 W b o x y) := (set7_but W b o x).setCell _ _
theorem Rw.set8 (h : Rw W0 Y0 W r c) {i : Nat} (x : Sl) (y : Int) {c' : Cs} (hi : i < r.n) (h1 : c'.sl = updS c.sl i x) (h2 : c'.hand = c.hand) (h3 : c'.kept = c.kept) (h4 : c'.calls = c.calls) (h5 : ∀ j, j ≠ i → vOf c' j = vOf c j) (h6 : x.full = true → vOf c' i = y) : Rw W0 Y0 (Go.Proofs.Ytpdckjbknphelaa.set8 W r.qs (i * 8) x y) r c' := by
  refine h.setSlots (set8_but _ _ _ _ _) (fun vs hr hv => ⟨fun j => if j = i then y else vs j, ((((((((hr.set (i * 8) _).set (i * 8 + 1) _).set (i * 8 + 2) _).set (i * 8 + 3) _).set (i * 8 + 4) _).set (i * 8 + 5) _).set (i * 8 + 6) _).set (i * 8 + 7) _).congr fun j hj => ?_, fun j hj hf => ?_⟩) h2 h3 h4
  · rw [h1]
    by_cases e : j / 8 = i
    · have hm : j % 8 = 0 ∨ j % 8 = 1 ∨ j % 8 = 2 ∨ j % 8 = 3 ∨ j % 8 = 4 ∨ j % 8 = 5 ∨ j % 8 = 6 ∨ j % 8 = 7 := by omega
      have hR : rslF (updS c.sl i x) (fun j => if j = i then y else vs j) j = (rslL x y).getD (j % 8) undef := by
        unfold rslF updS
        dsimp only
        rw [if_pos e, if_pos e]
      rw [hR]
      rcases hm with hm | hm | hm | hm | hm | hm | hm | hm
      all_goals rw [hm]
      · rw [if_neg (by omega), if_neg (by omega), if_neg (by omega), if_neg (by omega), if_neg (by omega), if_neg (by omega), if_neg (by omega), if_pos (by omega)]; rfl
      · rw [if_neg (by omega), if_neg (by omega), if_neg (by omega), if_neg (by omega), if_neg (by omega), if_neg (by omega), if_pos (by omega)]; rfl
      · rw [if_neg (by omega), if_neg (by omega), if_neg (by omega), if_neg (by omega), if_neg (by omega), if_pos (by omega)]; rfl
      · rw [if_neg (by omega), if_neg (by omega), if_neg (by omega), if_neg (by omega), if_pos (by omega)]; rfl
      · rw [if_neg (by omega), if_neg (by omega), if_neg (by omega), if_pos (by omega)]; rfl
      · rw [if_neg (by omega), if_neg (by omega), if_pos (by omega)]; rfl
      · rw [if_neg (by omega), if_pos (by omega)]; rfl
      · rw [if_pos (by omega)]; rfl
    · rw [if_neg (by omega), if_neg (by omega), if_neg (by omega), if_neg (by omega), if_neg (by omega), if_neg (by omega), if_neg (by omega), if_neg (by omega)]
      unfold rslF updS
      dsimp only
      rw [if_neg e, if_neg e]
  · rw [h1] at hf
    unfold updS at hf
    show (if j = i then y else vs j) = _
    by_cases e : j = i
    · rw [if_pos e] at hf ⊢
      rw [e]; exact (h6 hf).symm
    · rw [if_neg e] at hf ⊢
      rw [h5 j e]; exact hv j hj hf
/-- A call is written down. -/
theorem Rw.log (h : Rw W0 Y0 W r c) (hc : c.calls.length ≤ 100000) (x : Bool × Sp × Int) (ty : TypeId) :
    ∃ cv v' w', W.cell? ⟨r.q, 3, none⟩ = some cv ∧ (Builtin.append_ #[27, 27] ty #[cv, .slice (some ⟨W.heap.size, 0, none⟩) 1 1]).run Try.prog (W.alloc (.cells (callL x).toArray 58)) = .ok v' w' ∧
      w'.frozen? ⟨r.q, 3, none⟩ = false ∧ r.q < w'.heap.size ∧ (∃ u, w'.cell? ⟨r.q, 3, none⟩ = some u) ∧ (∃ b n c, v' = .slice b n c) ∧
      Rw W0 Y0 (w'.setCell ⟨r.q, 3, none⟩ v') r { c with calls := c.calls ++ [x] } ∧ (∀ b cs T, Blk W b cs T → T ≠ 74 → T ≠ 58 → Blk w' b cs T ∧ Blk (w'.setCell ⟨r.q, 3, none⟩ v') b cs T) ∧ w'.heap.size ≥ W.heap.size := by
  obtain ⟨kv, cv, k1, k2, k3⟩ := h
  have hWs : r.B ≤ W.heap.size := Nat.le_of_lt (Nat.lt_of_le_of_lt k1.lq k1.cache.lt)
  have hA : Below W.heap.size W (W.alloc (.cells (callL x).toArray 58)) := (Below.refl _ _).alloc (Nat.le_refl _) _
  have hn := Blk.new W (callL x).toArray 58
  rw [List.toList_toArray] at hn
  have k1A := k1.keep hA
  obtain ⟨v', w', hr, h4, h5, h6⟩ := k1A.calls.append (S := 27) ty Try.underlying27 info_call rfl (by omega) hn rfl (fun u hu => by simp [callL] at hu; rcases hu with rfl | rfl | rfl | rfl | rfl <;> rfl) (by rw [List.length_map]; omega) (by omega) (by simp; omega)
  have hne : ∀ {b : Nat} {cs : List Value} {T : TypeId}, Blk W b cs T → T ≠ 58 → some b ≠ cv.ownBlock := fun kb hT e => k1.calls.ne kb hT e.symm
  have hbk : ∀ {b : Nat} {cs : List Value} {T : TypeId}, Blk W b cs T → T ≠ 58 → Blk w' b cs T := fun {b cs T} kb hT => by
    have kb2 := kb.below hA kb.lt
    unfold Blk at kb2 ⊢
    rw [h5.block b (Array.getElem?_eq_some_iff.1 kb2).1 (hne kb hT)]; exact kb2
  have hq := hbk k1.cache (by decide)
  have hbut : But r.q w' (w'.setCell ⟨r.q, 3, none⟩ v') := (But.refl _ _).setCell 3 _
  obtain ⟨vs, ⟨cs, hcs, hrest⟩, hv⟩ := k1.slots
  have hkw : ROwn w' r.B 84 4 kv (c.kept.map keptL) := k1A.kept.grown h5 fun g hg e => by
    obtain ⟨cs, kb⟩ := k1A.kept.blk hg
    exact k1A.calls.ne kb (by decide) e.symm
  have hsz : W.heap.size ≤ w'.heap.size := Nat.le_trans hA.size h5.size
  have hk : Kb Y0 W0 w' := (k2.trans (Kb.of_below hA)).grown h5 fun b hb => k3 _ (.inr (.inr (.inr hb)))
  refine ⟨cv, v', w', k1.cache.cell 3 rfl, hr, hq.frozen 3, hq.lt, ⟨_, hq.cell 3 rfl⟩, (h4.open.elim fun b h => h.elim fun c h => ⟨b, _, c, h.1⟩), ⟨kv, v', { k1 with cache := hq.set 3 v', slots := ⟨vs, ⟨cs, (hbk hcs (by decide)).but hbut k1.qne.symm, hrest⟩, hv⟩, kept := hkw.but hbut (hkw.ne hq (by decide)), calls := ?_ }, hk.but hbut (k3 _ (.inl rfl)), fun y hy => ?_⟩, fun b cs T kb h1 h2 => ⟨hbk kb h2, (hbk kb h2).but hbut (fun e => ?_)⟩, hsz⟩
  · show ROwn _ _ _ _ _ ((c.calls ++ [x]).map callL)
    rw [List.map_append]
    exact h4.but hbut (h4.ne hq (by decide))
  · rcases hy with hy | hy | hy | hy
    · exact k3 _ (.inl hy)
    · exact k3 _ (.inr (.inl hy))
    · exact k3 _ (.inr (.inr (.inl hy)))
    · rcases h6 with h6 | h6
      · exact k3 _ (.inr (.inr (.inr (h6.symm.trans hy))))
      · rw [h6] at hy
        obtain rfl := Option.some.inj hy
        exact .inr (Nat.le_trans k2.size hA.size)
  · subst e
    have := hq.neT (hbk kb h2) (fun e => h1 e.symm)
    exact this rfl
/-- What is saved is kept. -/
theorem Rw.put (h : Rw W0 Y0 W r c) (hc : c.kept.length ≤ 100000) (x : Sp × Int) (ty : TypeId) :
    ∃ kv v' w', W.cell? ⟨r.q, 2, none⟩ = some kv ∧ (Builtin.append_ #[26, 26] ty #[kv, .slice (some ⟨W.heap.size, 0, none⟩) 1 1]).run Try.prog (W.alloc (.cells (keptL x).toArray 84)) = .ok v' w' ∧
      w'.frozen? ⟨r.q, 2, none⟩ = false ∧ r.q < w'.heap.size ∧ (∃ u, w'.cell? ⟨r.q, 2, none⟩ = some u) ∧ (∃ b n c, v' = .slice b n c) ∧
      Rw W0 Y0 (w'.setCell ⟨r.q, 2, none⟩ v') r { c with kept := c.kept ++ [x] } ∧ (∀ b cs T, Blk W b cs T → T ≠ 74 → T ≠ 84 → Blk w' b cs T ∧ Blk (w'.setCell ⟨r.q, 2, none⟩ v') b cs T) ∧ w'.heap.size ≥ W.heap.size := by
  obtain ⟨kv, cv, k1, k2, k3⟩ := h
  have hWs : r.B ≤ W.heap.size := Nat.le_of_lt (Nat.lt_of_le_of_lt k1.lq k1.cache.lt)
  have hA : Below W.heap.size W (W.alloc (.cells (keptL x).toArray 84)) := (Below.refl _ _).alloc (Nat.le_refl _) _
  have hn := Blk.new W (keptL x).toArray 84
  rw [List.toList_toArray] at hn
  have k1A := k1.keep hA
  obtain ⟨v', w', hr, h4, h5, h6⟩ := k1A.kept.append (S := 26) ty Try.underlying26 info_kept rfl (by omega) hn rfl (fun u hu => by simp [keptL] at hu; rcases hu with rfl | rfl | rfl | rfl <;> rfl) (by rw [List.length_map]; omega) (by omega) (by simp; omega)
  have hne : ∀ {b : Nat} {cs : List Value} {T : TypeId}, Blk W b cs T → T ≠ 84 → some b ≠ kv.ownBlock := fun kb hT e => k1.kept.ne kb hT e.symm
  have hbk : ∀ {b : Nat} {cs : List Value} {T : TypeId}, Blk W b cs T → T ≠ 84 → Blk w' b cs T := fun {b cs T} kb hT => by
    have kb2 := kb.below hA kb.lt
    unfold Blk at kb2 ⊢
    rw [h5.block b (Array.getElem?_eq_some_iff.1 kb2).1 (hne kb hT)]; exact kb2
  have hq := hbk k1.cache (by decide)
  have hbut : But r.q w' (w'.setCell ⟨r.q, 2, none⟩ v') := (But.refl _ _).setCell 2 _
  obtain ⟨vs, ⟨cs, hcs, hrest⟩, hv⟩ := k1.slots
  have hkw : ROwn w' r.B 58 5 cv (c.calls.map callL) := k1A.calls.grown h5 fun g hg e => by
    obtain ⟨cs, kb⟩ := k1A.calls.blk hg
    exact k1A.kept.ne kb (by decide) e.symm
  have hsz : W.heap.size ≤ w'.heap.size := Nat.le_trans hA.size h5.size
  have hk : Kb Y0 W0 w' := (k2.trans (Kb.of_below hA)).grown h5 fun b hb => k3 _ (.inr (.inr (.inl hb)))
  refine ⟨kv, v', w', k1.cache.cell 2 rfl, hr, hq.frozen 2, hq.lt, ⟨_, hq.cell 2 rfl⟩, (h4.open.elim fun b h => h.elim fun c h => ⟨b, _, c, h.1⟩), ⟨v', cv, { k1 with cache := hq.set 2 v', slots := ⟨vs, ⟨cs, (hbk hcs (by decide)).but hbut k1.qne.symm, hrest⟩, hv⟩, calls := hkw.but hbut (hkw.ne hq (by decide)), kept := ?_ }, hk.but hbut (k3 _ (.inl rfl)), fun y hy => ?_⟩, fun b cs T kb h1 h2 => ⟨hbk kb h2, (hbk kb h2).but hbut (fun e => ?_)⟩, hsz⟩
  · show ROwn _ _ _ _ _ ((c.kept ++ [x]).map keptL)
    rw [List.map_append]
    exact h4.but hbut (h4.ne hq (by decide))
  · rcases hy with hy | hy | hy | hy
    · exact k3 _ (.inl hy)
    · exact k3 _ (.inr (.inl hy))
    · rcases h6 with h6 | h6
      · exact k3 _ (.inr (.inr (.inl (h6.symm.trans hy))))
      · rw [h6] at hy
        obtain rfl := Option.some.inj hy
        exact .inr (Nat.le_trans k2.size hA.size)
    · exact k3 _ (.inr (.inr (.inr hy)))
  · subst e
    have := hq.neT (hbk kb h2) (fun e => h1 e.symm)
    exact this rfl
/-- From a later world on. -/
theorem Rw.rebase (h : Rw W0 Y0 W r c) : ∃ Y1, Rw W Y1 W r c ∧ (∀ V c', Rw W Y1 V r c' → Rw W0 Y0 V r c') ∧ ∀ b cs T, Blk W b cs T → (T ≠ 74 ∧ T ≠ 78 ∧ T ≠ 84 ∧ T ≠ 58) → ¬ Y1 b := by
  obtain ⟨kv, cv, k1, k2, k3⟩ := h
  refine ⟨rX r kv cv, ⟨kv, cv, k1, Kb.refl _ _, fun x hx => .inl hx⟩, fun V c' h' => ?_, fun b cs T kb hT hy => ?_⟩
  · obtain ⟨kv', cv', m1, m2, m3⟩ := h'
    refine ⟨kv', cv', m1, ⟨m2.os.trans k2.os, m2.tape.trans k2.tape, m2.output.trans k2.output, Nat.le_trans k2.size m2.size, fun x hx hn => (m2.block x (Nat.lt_of_lt_of_le hx k2.size) (fun hy => ?_)).trans (k2.block x hx hn)⟩, fun x hx => ?_⟩
    · rcases k3 x hy with h | h
      · exact hn h
      · omega
    · rcases m3 x hx with h | h
      · exact k3 x h
      · exact .inr (Nat.le_trans k2.size h)
  · rcases hy with hy | hy | hy | hy
    · subst hy
      exact kb.neT k1.cache hT.1 rfl
    · obtain ⟨vs, ⟨cs', k, _⟩, _⟩ := k1.slots
      subst hy
      exact kb.neT k hT.2.1 rfl
    · exact k1.kept.ne kb hT.2.2.1 hy
    · exact k1.calls.ne kb hT.2.2.2 hy
theorem Rw.blk {Y1 : Nat → Prop} {V : World} {c' : Cs} {b : Nat} {cs : List Value} {T : TypeId} (h : Rw W Y1 V r c') (k : Blk W b cs T) (hn : ¬ Y1 b) : Blk V b cs T := by
  obtain ⟨kv, cv, k1, k2, k3⟩ := h
  exact (k2.block b k.lt hn).trans k
theorem Rw.sne {b : Nat} {cs : List Value} {T : TypeId} (h : Rw W0 Y0 W r c) (k : Blk W b cs T) (hT : T ≠ 78) : b ≠ r.qs := by
  obtain ⟨kv, cv, k1, k2, k3⟩ := h
  obtain ⟨vs, ⟨cs', k', _⟩, _⟩ := k1.slots
  exact k.neT k' hT
theorem Rw.qbut (h : Rw W0 Y0 W r c) (hb : But r.qs W W') : W'.cell? ⟨r.q, 0, none⟩ = some (.slice (some ⟨r.qs, 0, none⟩) r.n r.n) := by
  obtain ⟨kv, cv, k1, k2, k3⟩ := h
  exact (k1.cache.but hb k1.qne).cell 0 rfl
end
end Go.Proofs.Ytpdckjbknphelaa
