/-
  What is known of a chunk in memory: its cells, its lights, the slice of its ticks; of a row of ticks.
-/
import Derived.Test.YtpdckjbknphelaaChunkA
import Derived.Deep.MidRow
namespace Go.Proofs.Ytpdckjbknphelaa
open Go.RowKit
set_option linter.unusedSimpArgs false
set_option linter.unusedVariables false

/-- All old blocks but b are as they were. -/
structure But (b : Nat) (w w' : World) : Prop where
  os : w'.os = w.os
  tape : w'.tape = w.tape
  output : w'.output = w.output
  size : w.heap.size ≤ w'.heap.size
  block : ∀ k, k < w.heap.size → k ≠ b → w'.heap[k]? = w.heap[k]?

theorem But.refl (b : Nat) (w : World) : But b w w := ⟨rfl, rfl, rfl, Nat.le_refl _, fun _ _ _ => rfl⟩
theorem But.trans {b : Nat} {u v w : World} (h : But b u v) (k : But b v w) : But b u w :=
  ⟨k.os.trans h.os, k.tape.trans h.tape, k.output.trans h.output, Nat.le_trans h.size k.size, fun i hi hne => (k.block i (Nat.lt_of_lt_of_le hi h.size) hne).trans (h.block i hi hne)⟩
theorem But.of_below {b : Nat} {w w' : World} (h : Below w.heap.size w w') : But b w w' := ⟨h.os, h.tape, h.output, h.size, fun k hk _ => h.block k hk⟩
theorem But.below {b B : Nat} {w w' : World} (h : But b w w') (hB : B ≤ b) (hs : B ≤ w.heap.size) : Below B w w' := ⟨h.os, h.tape, h.output, h.size, fun k hk => h.block k (by omega) (by omega)⟩
/-- Behind what came before: the block is one of the call's own. -/
theorem But.step {b B : Nat} {w W w' : World} (h0 : Below B w W) (h : But b W w') (hB : B ≤ b) (hs : B ≤ W.heap.size) : Below B w w' := h0.trans (h.below hB hs)
theorem But.alloc {b : Nat} {w W : World} (h : But b w W) (o : Obj) : But b w (W.alloc o) := h.trans (But.of_below ((Below.refl _ _).alloc (Nat.le_refl _) o))
theorem But.drew {b : Nat} {w W : World} (h : But b w W) : But b w W.drew := ⟨h.os, h.tape, h.output, h.size, h.block⟩
theorem But.drewN {b : Nat} {w W : World} (h : But b w W) (n : Nat) : But b w (W.drewN n) := ⟨h.os, h.tape, h.output, h.size, h.block⟩
theorem But.setCell {b : Nat} {w W : World} (h : But b w W) (i : Nat) (v : Value) : But b w (W.setCell ⟨b, i, none⟩ v) :=
  h.trans ⟨rfl, rfl, rfl, by simp [World.setCell], fun k hk hne => Below.heap_setCell _ _ _ _ hne⟩
/-- A store into a block that is newer than w. -/
theorem But.setNew {b : Nat} {w W : World} (h : But b w W) {a : Addr} (ha : w.heap.size ≤ a.block) (v : Value) : But b w (W.setCell a v) :=
  ⟨h.os, h.tape, h.output, by simpa [World.setCell] using h.size, fun k hk hne => (Below.heap_setCell _ _ _ _ (by omega)).trans (h.block k hk hne)⟩
theorem But.grown {b : Nat} {w W w' : World} {row : Option Nat} (h : But b w W) (hg : W.grownBy w' row) (hr : ∀ k, row = some k → w.heap.size ≤ k ∨ k = b) : But b w w' :=
  ⟨hg.os.trans h.os, hg.tape.trans h.tape, hg.output.trans h.output, Nat.le_trans h.size hg.size, fun k hk hne => (hg.block k (Nat.lt_of_lt_of_le hk h.size) (fun e => by have := hr k e.symm; omega)).trans (h.block k hk hne)⟩
theorem Blk.but {w w' : World} {b c : Nat} {cs : List Value} {T : TypeId} (h : Blk w c cs T) (hb : But b w w') (hne : c ≠ b) : Blk w' c cs T := (hb.block c h.lt hne).trans h

/-- The value in a chunk's cell j. -/
def ckF (ce li : Nat → Int × Int) (s : Value) (j : Nat) : Value :=
  if j < 8192 then (if j % 2 = 0 then .int .u8 (ce (j / 2)).1 else .int .u8 (ce (j / 2)).2)
  else if j < 16384 then (if j % 2 = 0 then .int .u8 (li (j / 2 - 4096)).1 else .int .u8 (li (j / 2 - 4096)).2)
  else s

structure CkL (cs : List Value) (ce li : Nat → Int × Int) (s : Value) : Prop where
  len : cs.length = 16385
  get : ∀ j, j < 16385 → cs[j]? = some (ckF ce li s j)

theorem ckF_c0 {ce li : Nat → Int × Int} {s : Value} {i : Nat} (h : i < 4096) : ckF ce li s (i * 2) = .int .u8 (ce i).1 := by
  unfold ckF; rw [if_pos (by omega), if_pos (by omega), Nat.mul_div_cancel _ (by omega)]
theorem ckF_c1 {ce li : Nat → Int × Int} {s : Value} {i : Nat} (h : i < 4096) : ckF ce li s (i * 2 + 1) = .int .u8 (ce i).2 := by
  unfold ckF; rw [if_pos (by omega), if_neg (by omega), show (i * 2 + 1) / 2 = i by omega]
theorem ckF_l0 {ce li : Nat → Int × Int} {s : Value} {i : Nat} (h : i < 4096) : ckF ce li s (8192 + i * 2) = .int .u8 (li i).1 := by
  unfold ckF; rw [if_neg (by omega), if_pos (by omega), if_pos (by omega), show (8192 + i * 2) / 2 - 4096 = i by omega]
theorem ckF_l1 {ce li : Nat → Int × Int} {s : Value} {i : Nat} (h : i < 4096) : ckF ce li s (8192 + i * 2 + 1) = .int .u8 (li i).2 := by
  unfold ckF; rw [if_neg (by omega), if_pos (by omega), if_neg (by omega), show (8192 + i * 2 + 1) / 2 - 4096 = i by omega]
theorem ckF_t {ce li : Nat → Int × Int} {s : Value} : ckF ce li s 16384 = s := by
  unfold ckF; rw [if_neg (by omega), if_neg (by omega)]

def updP (f : Nat → Int × Int) (i : Nat) (v : Int × Int) : Nat → Int × Int := fun j => if j = i then v else f j
theorem updP_same (f : Nat → Int × Int) (i : Nat) (v : Int × Int) : updP f i v i = v := if_pos rfl
theorem updP_other {f : Nat → Int × Int} {i j : Nat} {v : Int × Int} (h : j ≠ i) : updP f i v j = f j := if_neg h

theorem CkL.setTicks {cs : List Value} {ce li : Nat → Int × Int} {s : Value} (h : CkL cs ce li s) (s' : Value) : CkL (cs.set 16384 s') ce li s' := by
  refine ⟨by rw [List.length_set]; exact h.len, fun j hj => ?_⟩
  have hl := h.len
  rw [List.getElem?_set]
  by_cases e : 16384 = j
  · subst e; rw [if_pos rfl, if_pos (by omega), ckF_t]
  · rw [if_neg e, h.get j hj]
    unfold ckF
    by_cases e1 : j < 8192
    · rw [if_pos e1, if_pos e1]
    · have e2 : j < 16384 := by omega
      simp only [e1, e2, if_true, if_false]

theorem CkL.setCell {cs : List Value} {ce li : Nat → Int × Int} {s : Value} (h : CkL cs ce li s) {i : Nat} (hi : i < 4096) (x y : Int) : CkL ((cs.set (i * 2) (.int .u8 x)).set (i * 2 + 1) (.int .u8 y)) (updP ce i (x, y)) li s := by
  refine ⟨by rw [List.length_set, List.length_set]; exact h.len, fun j hj => ?_⟩
  have hl := h.len
  rw [List.getElem?_set, List.getElem?_set, List.length_set]
  by_cases e1 : i * 2 + 1 = j
  · subst e1; rw [if_pos rfl, if_pos (by omega), ckF_c1 hi, updP_same]
  rw [if_neg e1]
  by_cases e2 : i * 2 = j
  · subst e2; rw [if_pos rfl, if_pos (by omega), ckF_c0 hi, updP_same]
  rw [if_neg e2, h.get j hj]
  unfold ckF
  by_cases e3 : j < 8192
  · rw [if_pos e3, if_pos e3, updP_other (by omega)]
  · rw [if_neg e3, if_neg e3]

theorem CkL.setLight {cs : List Value} {ce li : Nat → Int × Int} {s : Value} (h : CkL cs ce li s) {i : Nat} (hi : i < 4096) (x y : Int) : CkL ((cs.set (8192 + i * 2) (.int .u8 x)).set (8192 + i * 2 + 1) (.int .u8 y)) ce (updP li i (x, y)) s := by
  refine ⟨by rw [List.length_set, List.length_set]; exact h.len, fun j hj => ?_⟩
  have hl := h.len
  rw [List.getElem?_set, List.getElem?_set, List.length_set]
  by_cases e1 : 8192 + i * 2 + 1 = j
  · subst e1; rw [if_pos rfl, if_pos (by omega), ckF_l1 hi, updP_same]
  rw [if_neg e1]
  by_cases e2 : 8192 + i * 2 = j
  · subst e2; rw [if_pos rfl, if_pos (by omega), ckF_l0 hi, updP_same]
  rw [if_neg e2, h.get j hj]
  unfold ckF
  by_cases e3 : j < 8192
  · rw [if_pos e3, if_pos e3]
  · rw [if_neg e3, if_neg e3]
    by_cases e4 : j < 16384
    · rw [if_pos e4, if_pos e4, updP_other (by omega)]
    · rw [if_neg e4, if_neg e4]

/-- A chunk in block b: what its cells and lights are, and the value of its ticks. -/
def Ck (w : World) (b : Nat) (ce li : Nat → Int × Int) (s : Value) : Prop := ∃ cs, Blk w b cs 91 ∧ CkL cs ce li s

section
variable {w w' : World} {b : Nat} {ce li : Nat → Int × Int} {s : Value}
theorem Ck.lt (h : Ck w b ce li s) : b < w.heap.size := h.elim fun _ h => h.1.lt
theorem Ck.get (h : Ck w b ce li s) {j : Nat} (hj : j < 16385) : w.cell? ⟨b, j, none⟩ = some (ckF ce li s j) := h.elim fun _ h => h.1.cell j (h.2.get j hj)
theorem Ck.c0 (h : Ck w b ce li s) {i : Nat} (hi : i < 4096) : w.cell? ⟨b, i * 2, none⟩ = some (.int .u8 (ce i).1) := by rw [h.get (by omega), ckF_c0 hi]
theorem Ck.c1 (h : Ck w b ce li s) {i : Nat} (hi : i < 4096) : w.cell? ⟨b, i * 2 + 1, none⟩ = some (.int .u8 (ce i).2) := by rw [h.get (by omega), ckF_c1 hi]
theorem Ck.l0 (h : Ck w b ce li s) {i : Nat} (hi : i < 4096) : w.cell? ⟨b, 8192 + i * 2, none⟩ = some (.int .u8 (li i).1) := by rw [h.get (by omega), ckF_l0 hi]
theorem Ck.l1 (h : Ck w b ce li s) {i : Nat} (hi : i < 4096) : w.cell? ⟨b, 8192 + i * 2 + 1, none⟩ = some (.int .u8 (li i).2) := by rw [h.get (by omega), ckF_l1 hi]
theorem Ck.tk (h : Ck w b ce li s) : w.cell? ⟨b, 16384, none⟩ = some s := by rw [h.get (by omega), ckF_t]
theorem Ck.frozen (h : Ck w b ce li s) (i : Nat) : w.frozen? ⟨b, i, none⟩ = false := h.elim fun _ h => h.1.frozen i
theorem Ck.below {B : Nat} (h : Ck w b ce li s) (hb : Below B w w') (hlt : b < B) : Ck w' b ce li s := h.elim fun cs h => ⟨cs, h.1.below hb hlt, h.2⟩
theorem Ck.keep (h : Ck w b ce li s) (hb : Below w.heap.size w w') : Ck w' b ce li s := h.below hb h.lt
theorem Ck.but {c : Nat} (h : Ck w b ce li s) (hb : But c w w') (hne : b ≠ c) : Ck w' b ce li s := h.elim fun cs h => ⟨cs, h.1.but hb hne, h.2⟩
theorem Ck.alloc (h : Ck w b ce li s) (o : Obj) : Ck (w.alloc o) b ce li s := h.elim fun cs h => ⟨cs, h.1.alloc o, h.2⟩
theorem Ck.drew (h : Ck w b ce li s) : Ck w.drew b ce li s := h
theorem Ck.drewN (h : Ck w b ce li s) (n : Nat) : Ck (w.drewN n) b ce li s := h
theorem Ck.set_other (h : Ck w b ce li s) {a : Addr} (v : Value) (hne : b ≠ a.block) : Ck (w.setCell a v) b ce li s := h.elim fun cs h => ⟨cs, h.1.set_other v hne, h.2⟩
theorem Ck.setTicks (h : Ck w b ce li s) (s' : Value) : Ck (w.setCell ⟨b, 16384, none⟩ s') b ce li s' := h.elim fun cs h => ⟨_, h.1.set _ _, h.2.setTicks s'⟩
theorem Ck.setCell (h : Ck w b ce li s) {i : Nat} (hi : i < 4096) (x y : Int) : Ck ((w.setCell ⟨b, i * 2, none⟩ (.int .u8 x)).setCell ⟨b, i * 2 + 1, none⟩ (.int .u8 y)) b (updP ce i (x, y)) li s := h.elim fun cs h => ⟨_, (h.1.set _ _).set _ _, h.2.setCell hi x y⟩
theorem Ck.setLight (h : Ck w b ce li s) {i : Nat} (hi : i < 4096) (x y : Int) : Ck ((w.setCell ⟨b, 8192 + i * 2, none⟩ (.int .u8 x)).setCell ⟨b, 8192 + i * 2 + 1, none⟩ (.int .u8 y)) b ce (updP li i (x, y)) s := h.elim fun cs h => ⟨_, (h.1.set _ _).set _ _, h.2.setLight hi x y⟩
end

def zeroP : Nat → Int × Int := fun _ => (0, 0)
set_option maxRecDepth 1000000 in
theorem chunkZ_ckL : CkL chunkZ.toList zeroP zeroP (.slice none 0 0) := by
  have hz : chunkZ.toList = List.replicate 16384 (.int .u8 0) ++ [.slice none 0 0] := by
    unfold chunkZ
    rw [Array.toList_push, Array.toList_replicate]
  rw [hz]
  refine ⟨by rw [List.length_append, List.length_replicate]; rfl, fun j hj => ?_⟩
  by_cases h : j < 16384
  · rw [List.getElem?_append_left (by rw [List.length_replicate]; exact h), List.getElem?_replicate, if_pos h]
    unfold ckF zeroP
    (repeat' split) <;> first | rfl | omega
  · obtain rfl : j = 16384 := by omega
    rw [List.getElem?_append_right (by rw [List.length_replicate]; omega), List.length_replicate, ckF_t]
    rfl
theorem ck_new (w : World) : Ck (w.alloc (.cells chunkZ 91)) w.heap.size zeroP zeroP (.slice none 0 0) := ⟨_, Blk.new w _ _, chunkZ_ckL⟩

/-! A row of plain values behind a slice: each of sz cells. -/
def SRow (w : World) (sz : Nat) (s : Value) (xs : List (List Value)) : Prop :=
  ∃ base cap, s = .slice base xs.length cap ∧ (xs.length ≤ cap ∧ (base = none → cap = 0)) ∧ cap ≤ maxLen ∧
    (xs ≠ [] → ∃ b off, base = some ⟨b, off, none⟩ ∧ ∀ j x, xs[j]? = some x → ∀ i v, x[i]? = some v → w.cell? ⟨b, off + j * sz + i, none⟩ = some v)

theorem SRow.mono {w w' : World} {sz : Nat} {s : Value} {xs : List (List Value)} (h : SRow w sz s xs) (hk : ∀ a v, w.cell? a = some v → (∀ a' n c, s = .slice (some a') n c → a.block = a'.block) → w'.cell? a = some v) : SRow w' sz s xs := by
  obtain ⟨base, cap, rfl, h1, h2, h3⟩ := h
  refine ⟨base, cap, rfl, h1, h2, fun hne => ?_⟩
  obtain ⟨b, off, rfl, h4⟩ := h3 hne
  exact ⟨b, off, rfl, fun j x hx i v hv => hk _ _ (h4 j x hx i v hv) (fun a' n c e => by cases e; rfl)⟩
theorem SRow.keep {w w' : World} {sz : Nat} {s : Value} {xs : List (List Value)} (h : SRow w sz s xs) (hb : Below w.heap.size w w') : SRow w' sz s xs :=
  h.mono fun a v hv _ => (hb.cell (World.block_lt_of_cell? w a hv)).trans hv
/-- The slice does not lie in block b. -/
def Apart (s : Value) (b : Nat) : Prop := ∀ a n c, s = .slice (some a) n c → a.block ≠ b
theorem SRow.but {w w' : World} {sz b : Nat} {s : Value} {xs : List (List Value)} (h : SRow w sz s xs) (hb : But b w w') (hap : xs = [] ∨ Apart s b) : SRow w' sz s xs := by
  obtain ⟨base, cap, rfl, h1, h2, h3⟩ := h
  refine ⟨base, cap, rfl, h1, h2, fun hne => ?_⟩
  obtain ⟨b', off, rfl, h4⟩ := h3 hne
  rcases hap with e | hap
  · exact absurd e hne
  · exact ⟨b', off, rfl, fun j x hx i v hv => by
      have h5 := h4 j x hx i v hv
      exact (World.cell?_of_block (w := w) (hb.block b' (World.block_lt_of_cell? w _ h5) (hap _ _ _ rfl))).trans h5⟩
theorem SRow.len {w : World} {sz : Nat} {s : Value} {xs : List (List Value)} (h : SRow w sz s xs) : xs.length ≤ maxLen := by
  obtain ⟨base, cap, rfl, h1, h2, h3⟩ := h; omega

def tickV (t : Int × Int) : List Value := [.int .i64 t.1, .int .i64 t.2]
/-- A row of ticks. -/
def TRow (w : World) (s : Value) (ts : List (Int × Int)) : Prop := SRow w 2 s (ts.map tickV)
theorem TRow.keep {w w' : World} {s : Value} {ts : List (Int × Int)} (h : TRow w s ts) (hb : Below w.heap.size w w') : TRow w' s ts := SRow.keep h hb
theorem TRow.open {w : World} {s : Value} {ts : List (Int × Int)} (h : TRow w s ts) : ∃ base cap, s = .slice base ts.length cap ∧ ts.length ≤ cap ∧ cap ≤ maxLen ∧
    (ts ≠ [] → ∃ b off, base = some ⟨b, off, none⟩ ∧ ∀ j t, ts[j]? = some t → w.cell? ⟨b, off + j * 2, none⟩ = some (.int .i64 t.1) ∧ w.cell? ⟨b, off + j * 2 + 1, none⟩ = some (.int .i64 t.2)) := by
  obtain ⟨base, cap, e, h1, h2, h3⟩ := h
  rw [List.length_map] at e h1
  refine ⟨base, cap, e, h1.1, h2, fun hne => ?_⟩
  obtain ⟨b, off, hb, h4⟩ := h3 (by simpa using hne)
  exact ⟨b, off, hb, fun j t ht => by
    have hj : (ts.map tickV)[j]? = some (tickV t) := by rw [List.getElem?_map, ht]; rfl
    exact ⟨h4 j _ hj 0 _ rfl, h4 j _ hj 1 _ rfl⟩⟩
theorem TRow.nil (w : World) : TRow w (.slice none 0 0) [] := ⟨none, 0, rfl, ⟨Nat.le_refl _, fun _ => rfl⟩, Nat.zero_le _, fun h => absurd rfl h⟩
end Go.Proofs.Ytpdckjbknphelaa
