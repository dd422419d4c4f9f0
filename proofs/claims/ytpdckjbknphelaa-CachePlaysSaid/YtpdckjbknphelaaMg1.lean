/-
  The order of spots: cmp.Compare, cmp.Or at three ints, place.Cmp, place.CmpSpot: they draw and lay blocks, and nothing else.
-/
import Derived.Test.YtpdckjbknphelaaMg0
import Derived.StillTailTactics
import Derived.Shelf.SlSortCmp.NoneTotal
import Derived.Deep.MidRow
namespace Go.Proofs.Ytpdckjbknphelaa
open Go.RowKit
set_option linter.unusedSimpArgs false
set_option linter.unusedVariables false

/-- Some draws, some new blocks. -/
def GrowB (w w' : World) : Prop := ∃ (q : Nat) (os : Array Obj), w' = Go.Sort.grow (w.drewN q) os
theorem GrowB.refl (w : World) : GrowB w w := ⟨0, #[], by simp [World.drewN]⟩
theorem GrowB.alloc {w W : World} (h : GrowB w W) (o : Obj) : GrowB w (W.alloc o) := by
  obtain ⟨q, os, rfl⟩ := h
  exact ⟨q, os ++ #[o], by rw [Go.Sort.alloc_eq_grow, Go.Sort.grow_grow]⟩
theorem GrowB.drew {w W : World} (h : GrowB w W) : GrowB w W.drew := by
  obtain ⟨q, os, rfl⟩ := h
  exact ⟨q + 1, os, by simp [World.drewN, World.drew, Go.Sort.grow, Nat.add_assoc]⟩
theorem GrowB.trans {u v w : World} (h : GrowB u v) (k : GrowB v w) : GrowB u w := by
  obtain ⟨q, os, rfl⟩ := h
  obtain ⟨q', os', rfl⟩ := k
  exact ⟨q + q', os ++ os', by simp [World.drewN, Go.Sort.grow, Nat.add_assoc]⟩
theorem GrowB.below {w w' : World} (h : GrowB w w') : Below w.heap.size w w' := by
  obtain ⟨q, os, rfl⟩ := h
  exact ⟨rfl, rfl, rfl, by simp [Go.Sort.grow, World.drewN], fun k hk => by simp [Go.Sort.grow, World.drewN, Array.getElem?_append_left hk]⟩
def cmpI (a b : Int) : Int := if a < b then -1 else if b < a then 1 else 0

set_option maxHeartbeats 400000 in
theorem compare_calls (a b : Int) (w : World) :
    Calls Try.prog 81 #[.int .i64 a, .int .i64 b] w fun e w' => e = .returned (.int .i64 (cmpI a b)) ∧ w' = w := by
  go_enter Try.func81, Try.ntmps81
  go_wp2
  all_goals go_ret
  all_goals exact ⟨ret_int (by unfold cmpI; split <;> (try split) <;> omega), rfl⟩

def orI (a b c : Int) : Int := if a = 0 then (if b = 0 then c else b) else a

set_option maxRecDepth 100000 in
set_option maxHeartbeats 1000000 in
theorem or_calls (v0 v1 v2 : Int) (b cap : Nat) (w : World) (h0 : w.cell? ⟨b, 0, none⟩ = some (.int .i64 v0)) (h1 : w.cell? ⟨b, 1, none⟩ = some (.int .i64 v1)) (h2 : w.cell? ⟨b, 2, none⟩ = some (.int .i64 v2)) :
    Calls Try.prog 80 #[.slice (some ⟨b, 0, none⟩) 3 cap] w fun e w' => e = .returned (.int .i64 (orI v0 v1 v2)) ∧ w' = w := by
  go_enter Try.func80, Try.ntmps80
  go_wp2
  go_loop [5, 8] (fun _ i => ∃ k : Nat, k ≤ 3 ∧ i = .int .i64 k ∧ (0 < k → v0 = 0) ∧ (1 < k → v1 = 0) ∧ (2 < k → v2 = 0)) (fun _ i => 3 - (intOf i).toNat)
  case atStart => exact ⟨0, by omega, rfl, by omega, by omega, by omega⟩
  case round =>
    obtain ⟨k, hk, rfl, z0, z1, z2⟩ := hrel
    obtain rfl | rfl | rfl | rfl : k = 0 ∨ k = 1 ∨ k = 2 ∨ k = 3 := by omega
    · go_wp2
      · have h : (v0 != 0) = true := by assumption
        go_ret
        exact ⟨ret_int (by rw [bne_iff_ne] at h; unfold orI; rw [if_neg h]), rfl⟩
      · have h : (v0 != 0) = false := by assumption
        have h' : v0 = 0 := by simpa using h
        exact ⟨⟨1, by omega, rfl, fun _ => h', by omega, by omega⟩, by simp [intOf]⟩
    · have z0' : v0 = 0 := z0 (by omega)
      subst z0'
      go_wp2
      · have h : (v1 != 0) = true := by assumption
        go_ret
        exact ⟨ret_int (by rw [bne_iff_ne] at h; unfold orI; rw [if_pos rfl, if_neg h]), rfl⟩
      · have h : (v1 != 0) = false := by assumption
        have h' : v1 = 0 := by simpa using h
        exact ⟨⟨2, by omega, rfl, by simp, fun _ => h', by omega⟩, by simp [intOf]⟩
    · have z0' : v0 = 0 := z0 (by omega)
      have z1' : v1 = 0 := z1 (by omega)
      subst z0' z1'
      go_wp2
      · have h : (v2 != 0) = true := by assumption
        go_ret
        exact ⟨ret_int (by unfold orI; rw [if_pos rfl, if_pos rfl]), rfl⟩
      · have h : (v2 != 0) = false := by assumption
        have h' : v2 = 0 := by simpa using h
        exact ⟨⟨3, by omega, rfl, by simp, by simp, fun _ => h'⟩, by simp [intOf]⟩
    · have z0' : v0 = 0 := z0 (by omega)
      have z1' : v1 = 0 := z1 (by omega)
      have z2' : v2 = 0 := z2 (by omega)
      subst z0' z1' z2'
      go_wp2
      go_ret
      exact ⟨ret_int (by unfold orI; rw [if_pos rfl, if_pos rfl]), rfl⟩

def cmpP (x y z a b c : Int) : Int := orI (cmpI x a) (cmpI z c) (cmpI y b)

set_option maxRecDepth 100000 in
set_option maxHeartbeats 1000000 in
theorem cmp_calls (x y z a b c : Int) (w : World) :
    Calls Try.prog 66 #[.agg #[.int .i64 x, .int .i64 y, .int .i64 z], .agg #[.int .i64 a, .int .i64 b, .int .i64 c]] w fun e w' => e = .returned (.int .i64 (cmpP x y z a b c)) ∧ GrowB w w' := by
  go_enter Try.func66, Try.ntmps66
  go_wp2_with fail
  have HB := Lib.hid (((GrowB.refl w).alloc (.cells #[.int .i64 x, .int .i64 y, .int .i64 z] 123)).alloc (.cells #[.int .i64 a, .int .i64 b, .int .i64 c] 123))
  have b0 := (Blk.new w #[.int .i64 x, .int .i64 y, .int .i64 z] 123).alloc (.cells #[.int .i64 a, .int .i64 b, .int .i64 c] 123)
  have b1 := Blk.new_at (w := w.alloc (.cells #[.int .i64 x, .int .i64 y, .int .i64 z] 123)) (n := w.heap.size + 1) #[.int .i64 a, .int .i64 b, .int .i64 c] 123 (by simp)
  generalize World.alloc (w.alloc _) _ = W at *
  have b0_l := b0.lt
  have b0_0 := b0.cell 0 rfl
  have b0_1 := b0.cell 1 rfl
  have b0_2 := b0.cell 2 rfl
  have b1_l := b1.lt
  have b1_0 := b1.cell 0 rfl
  have b1_1 := b1.cell 1 rfl
  have b1_2 := b1.cell 2 rfl
  refine wp_region_still_tail 15 (by kernel_rfl) (by kernel_rfl) ?_
  simp only [List.take_succ_cons, List.take_zero, List.drop_succ_cons, List.drop_zero]
  change wpStill _ _ W.drew _ _ _
  repeat (first | still_step | still_call (compare_calls _ _ _))
  refine wpStill_nil ?_
  change wpList _ _ _ _ _ W.drew
  replace HB := Lib.hid HB.out.drew
  clear b0_l b0_0 b0_1 b0_2
  clear b1_l b1_0 b1_1 b1_2
  clear b0 b1
  generalize W.drew = W2 at *
  go_wp2_with fail
  have b2 := Blk.new W2 #[.int .i64 (cmpI x a), .int .i64 (cmpI z c), .int .i64 (cmpI y b)] 3
  refine (or_calls _ _ _ _ _ _ (b2.cell 0 rfl) (b2.cell 1 rfl) (b2.cell 2 rfl)).mono ?_
  rintro e w' ⟨rfl, rfl⟩
  go_wp2_with fail
  go_ret
  exact ⟨rfl, HB.out.alloc _⟩

set_option maxRecDepth 100000 in
set_option maxHeartbeats 1000000 in
theorem cmpspot_calls (x y z a b c : Int) (w : World) :
    Calls Try.prog 55 #[.agg #[.int .i64 x, .int .i64 y, .int .i64 z], .agg #[.int .i64 a, .int .i64 b, .int .i64 c]] w fun e w' => e = .returned (.int .i64 (cmpP x y z a b c)) ∧ GrowB w w' := by
  go_enter Try.func55, Try.ntmps55
  go_wp2_with fail
  refine (cmp_calls _ _ _ _ _ _ _).mono ?_
  rintro e w1 ⟨rfl, hb⟩
  have HB := Lib.hid ((((GrowB.refl w).alloc (.cells #[.int .i64 x, .int .i64 y, .int .i64 z] 23)).alloc (.cells #[.int .i64 a, .int .i64 b, .int .i64 c] 23)).trans hb)
  clear hb
  go_wp2_with fail
  go_ret
  exact ⟨rfl, HB.out⟩
end Go.Proofs.Ytpdckjbknphelaa

/-
  A chunk's cells: what a new one holds.
-/
namespace Go.Proofs.Ytpdckjbknphelaa
open Go.RowKit
set_option linter.unusedSimpArgs false
set_option linter.unusedVariables false

/-- The cells of a new chunk: 4096 cells (kind, level), 4096 lights (sky, lamp), no ticks. -/
def chunkZ : Array Value := (Array.replicate 16384 (.int .u8 0)).push (.slice none 0 0)
set_option maxRecDepth 1000000 in
theorem info_chunk : (Try.prog.info? 91).map (fun i => (i.zero, i.size, i.bytes)) = some (some (.agg chunkZ), 16385, 16408) := by kernel_rfl

theorem zero_chunk (w : World) : (zeroValue 91).run Try.prog w = .ok (.agg chunkZ) w := by
  obtain ⟨i0, hi, hz0, hz1, hz2⟩ := info_parts info_chunk
  simp [zeroValue, typeInfo, Sem.run_bind, program, Sem.run, Result.andThen, hi, hz0]

set_option maxHeartbeats 1000000 in
theorem new_calls (w : World) : Calls Try.prog 32 #[] w fun e w' => e = .returned (.pointer (some ⟨w.heap.size, 0, none⟩)) ∧ w' = w.alloc (.cells chunkZ 91) := by
  have hz : ∀ w, (zeroValue 91).run Try.prog w = .ok (.agg chunkZ) w := zero_chunk
  generalize chunkZ = Z at *
  go_enter Try.func32, Try.ntmps32
  go_wp2_with fail
  go_ret
  exact ⟨rfl, rfl⟩
end Go.Proofs.Ytpdckjbknphelaa

/-
  What is known of a chunk in memory: its cells, its lights, the slice of its ticks; of a row of ticks.
-/
namespace Go.Proofs.Ytpdckjbknphelaa
open Go.RowKit
set_option linter.unusedSimpArgs false
set_option linter.unusedVariables false

/-- All old blocks but b are as they were. -/
structure But (b : Nat) (w w' : World) : Prop where
  os : w'.os = w.os
  tape : w'.tape = w.tape
  output : w'.output = w.output
  size : w.heap.size ≤ w'.heap.size
  block : ∀ k, k < w.heap.size → k ≠ b → w'.heap[k]? = w.heap[k]?

theorem But.refl (b : Nat) (w : World) : But b w w := ⟨rfl, rfl, rfl, Nat.le_refl _, fun _ _ _ => rfl⟩
theorem But.trans {b : Nat} {u v w : World} (h : But b u v) (k : But b v w) : But b u w :=
  ⟨k.os.trans h.os, k.tape.trans h.tape, k.output.trans h.output, Nat.le_trans h.size k.size, fun i hi hne => (k.block i (Nat.lt_of_lt_of_le hi h.size) hne).trans (h.block i hi hne)⟩
theorem But.of_below {b : Nat} {w w' : World} (h : Below w.heap.size w w') : But b w w' := ⟨h.os, h.tape, h.output, h.size, fun k hk _ => h.block k hk⟩
theorem But.below {b B : Nat} {w w' : World} (h : But b w w') (hB : B ≤ b) (hs : B ≤ w.heap.size) : Below B w w' := ⟨h.os, h.tape, h.output, h.size, fun k hk => h.block k (by omega) (by omega)⟩
/-- Behind what came before: the block is one of the call's own. -/
theorem But.step {b B : Nat} {w W w' : World} (h0 : Below B w W) (h : But b W w') (hB : B ≤ b) (hs : B ≤ W.heap.size) : Below B w w' := h0.trans (h.below hB hs)
theorem But.alloc {b : Nat} {w W : World} (h : But b w W) (o : Obj) : But b w (W.alloc o) := h.trans (But.of_below ((Below.refl _ _).alloc (Nat.le_refl _) o))
theorem But.drew {b : Nat} {w W : World} (h : But b w W) : But b w W.drew := ⟨h.os, h.tape, h.output, h.size, h.block⟩
theorem But.drewN {b : Nat} {w W : World} (h : But b w W) (n : Nat) : But b w (W.drewN n) := ⟨h.os, h.tape, h.output, h.size, h.block⟩
theorem But.setCell {b : Nat} {w W : World} (h : But b w W) (i : Nat) (v : Value) : But b w (W.setCell ⟨b, i, none⟩ v) :=
  h.trans ⟨rfl, rfl, rfl, by simp [World.setCell], fun k hk hne => Below.heap_setCell _ _ _ _ hne⟩
/-- A store into a block that is newer than w. -/
theorem But.setNew {b : Nat} {w W : World} (h : But b w W) {a : Addr} (ha : w.heap.size ≤ a.block) (v : Value) : But b w (W.setCell a v) :=
  ⟨h.os, h.tape, h.output, by simpa [World.setCell] using h.size, fun k hk hne => (Below.heap_setCell _ _ _ _ (by omega)).trans (h.block k hk hne)⟩
theorem But.grown {b : Nat} {w W w' : World} {row : Option Nat} (h : But b w W) (hg : W.grownBy w' row) (hr : ∀ k, row = some k → w.heap.size ≤ k ∨ k = b) : But b w w' :=
  ⟨hg.os.trans h.os, hg.tape.trans h.tape, hg.output.trans h.output, Nat.le_trans h.size hg.size, fun k hk hne => (hg.block k (Nat.lt_of_lt_of_le hk h.size) (fun e => by have := hr k e.symm; omega)).trans (h.block k hk hne)⟩
theorem Blk.but {w w' : World} {b c : Nat} {cs : List Value} {T : TypeId} (h : Blk w c cs T) (hb : But b w w') (hne : c ≠ b) : Blk w' c cs T := (hb.block c h.lt hne).trans h

/-- The value in a chunk's cell j. -/
def ckF (ce li : Nat → Int × Int) (s : Value) (j : Nat) : Value :=
  if j < 8192 then (if j % 2 = 0 then .int .u8 (ce (j / 2)).1 else .int .u8 (ce (j / 2)).2)
  else if j < 16384 then (if j % 2 = 0 then .int .u8 (li (j / 2 - 4096)).1 else .int .u8 (li (j / 2 - 4096)).2)
  else s

structure CkL (cs : List Value) (ce li : Nat → Int × Int) (s : Value) : Prop where
  len : cs.length = 16385
  get : ∀ j, j < 16385 → cs[j]? = some (ckF ce li s j)

theorem ckF_c0 {ce li : Nat → Int × Int} {s : Value} {i : Nat} (h : i < 4096) : ckF ce li s (i * 2) = .int .u8 (ce i).1 := by
  unfold ckF; rw [if_pos (by omega), if_pos (by omega), Nat.mul_div_cancel _ (by omega)]
theorem ckF_c1 {ce li : Nat → Int × Int} {s : Value} {i : Nat} (h : i < 4096) : ckF ce li s (i * 2 + 1) = .int .u8 (ce i).2 := by
  unfold ckF; rw [if_pos (by omega), if_neg (by omega), show (i * 2 + 1) / 2 = i by omega]
theorem ckF_l0 {ce li : Nat → Int × Int} {s : Value} {i : Nat} (h : i < 4096) : ckF ce li s (8192 + i * 2) = .int .u8 (li i).1 := by
  unfold ckF; rw [if_neg (by omega), if_pos (by omega), if_pos (by omega), show (8192 + i * 2) / 2 - 4096 = i by omega]
theorem ckF_l1 {ce li : Nat → Int × Int} {s : Value} {i : Nat} (h : i < 4096) : ckF ce li s (8192 + i * 2 + 1) = .int .u8 (li i).2 := by
  unfold ckF; rw [if_neg (by omega), if_pos (by omega), if_neg (by omega), show (8192 + i * 2 + 1) / 2 - 4096 = i by omega]
theorem ckF_t {ce li : Nat → Int × Int} {s : Value} : ckF ce li s 16384 = s := by
  unfold ckF; rw [if_neg (by omega), if_neg (by omega)]

def updP (f : Nat → Int × Int) (i : Nat) (v : Int × Int) : Nat → Int × Int := fun j => if j = i then v else f j
theorem updP_same (f : Nat → Int × Int) (i : Nat) (v : Int × Int) : updP f i v i = v := if_pos rfl
theorem updP_other {f : Nat → Int × Int} {i j : Nat} {v : Int × Int} (h : j ≠ i) : updP f i v j = f j := if_neg h

theorem CkL.setTicks {cs : List Value} {ce li : Nat → Int × Int} {s : Value} (h : CkL cs ce li s) (s' : Value) : CkL (cs.set 16384 s') ce li s' := by
  refine ⟨by rw [List.length_set]; exact h.len, fun j hj => ?_⟩
  have hl := h.len
  rw [List.getElem?_set]
  by_cases e : 16384 = j
  · subst e; rw [if_pos rfl, if_pos (by omega), ckF_t]
  · rw [if_neg e, h.get j hj]
    unfold ckF
    by_cases e1 : j < 8192
    · rw [if_pos e1, if_pos e1]
    · have e2 : j < 16384 := by omega
      simp only [e1, e2, if_true, if_false]

theorem CkL.setCell {cs : List Value} {ce li : Nat → Int × Int} {s : Value} (h : CkL cs ce li s) {i : Nat} (hi : i < 4096) (x y : Int) : CkL ((cs.set (i * 2) (.int .u8 x)).set (i * 2 + 1) (.int .u8 y)) (updP ce i (x, y)) li s := by
  refine ⟨by rw [List.length_set, List.length_set]; exact h.len, fun j hj => ?_⟩
  have hl := h.len
  rw [List.getElem?_set, List.getElem?_set, List.length_set]
  by_cases e1 : i * 2 + 1 = j
  · subst e1; rw [if_pos rfl, if_pos (by omega), ckF_c1 hi, updP_same]
  rw [if_neg e1]
  by_cases e2 : i * 2 = j
  · subst e2; rw [if_pos rfl, if_pos (by omega), ckF_c0 hi, updP_same]
  rw [if_neg e2, h.get j hj]
  unfold ckF
  by_cases e3 : j < 8192
  · rw [if_pos e3, if_pos e3, updP_other (by omega)]
  · rw [if_neg e3, if_neg e3]

theorem CkL.setLight {cs : List Value} {ce li : Nat → Int × Int} {s : Value} (h : CkL cs ce li s) {i : Nat} (hi : i < 4096) (x y : Int) : CkL ((cs.set (8192 + i * 2) (.int .u8 x)).set (8192 + i * 2 + 1) (.int .u8 y)) ce (updP li i (x, y)) s := by
  refine ⟨by rw [List.length_set, List.length_set]; exact h.len, fun j hj => ?_⟩
  have hl := h.len
  rw [List.getElem?_set, List.getElem?_set, List.length_set]
  by_cases e1 : 8192 + i * 2 + 1 = j
  · subst e1; rw [if_pos rfl, if_pos (by omega), ckF_l1 hi, updP_same]
  rw [if_neg e1]
  by_cases e2 : 8192 + i * 2 = j
  · subst e2; rw [if_pos rfl, if_pos (by omega), ckF_l0 hi, updP_same]
  rw [if_neg e2, h.get j hj]
  unfold ckF
  by_cases e3 : j < 8192
  · rw [if_pos e3, if_pos e3]
  · rw [if_neg e3, if_neg e3]
    by_cases e4 : j < 16384
    · rw [if_pos e4, if_pos e4, updP_other (by omega)]
    · rw [if_neg e4, if_neg e4]

/-- A chunk in block b: what its cells and lights are, and the value of its ticks. -/
def Ck (w : World) (b : Nat) (ce li : Nat → Int × Int) (s : Value) : Prop := ∃ cs, Blk w b cs 91 ∧ CkL cs ce li s

section
variable {w w' : World} {b : Nat} {ce li : Nat → Int × Int} {s : Value}
theorem Ck.lt (h : Ck w b ce li s) : b < w.heap.size := h.elim fun _ h => h.1.lt
theorem Ck.get (h : Ck w b ce li s) {j : Nat} (hj : j < 16385) : w.cell? ⟨b, j, none⟩ = some (ckF ce li s j) := h.elim fun _ h => h.1.cell j (h.2.get j hj)
theorem Ck.c0 (h : Ck w b ce li s) {i : Nat} (hi : i < 4096) : w.cell? ⟨b, i * 2, none⟩ = some (.int .u8 (ce i).1) := by rw [h.get (by omega), ckF_c0 hi]
theorem Ck.c1 (h : Ck w b ce li s) {i : Nat} (hi : i < 4096) : w.cell? ⟨b, i * 2 + 1, none⟩ = some (.int .u8 (ce i).2) := by rw [h.get (by omega), ckF_c1 hi]
theorem Ck.l0 (h : Ck w b ce li s) {i : Nat} (hi : i < 4096) : w.cell? ⟨b, 8192 + i * 2, none⟩ = some (.int .u8 (li i).1) := by rw [h.get (by omega), ckF_l0 hi]
theorem Ck.l1 (h : Ck w b ce li s) {i : Nat} (hi : i < 4096) : w.cell? ⟨b, 8192 + i * 2 + 1, none⟩ = some (.int .u8 (li i).2) := by rw [h.get (by omega), ckF_l1 hi]
theorem Ck.tk (h : Ck w b ce li s) : w.cell? ⟨b, 16384, none⟩ = some s := by rw [h.get (by omega), ckF_t]
theorem Ck.frozen (h : Ck w b ce li s) (i : Nat) : w.frozen? ⟨b, i, none⟩ = false := h.elim fun _ h => h.1.frozen i
theorem Ck.below {B : Nat} (h : Ck w b ce li s) (hb : Below B w w') (hlt : b < B) : Ck w' b ce li s := h.elim fun cs h => ⟨cs, h.1.below hb hlt, h.2⟩
theorem Ck.keep (h : Ck w b ce li s) (hb : Below w.heap.size w w') : Ck w' b ce li s := h.below hb h.lt
theorem Ck.but {c : Nat} (h : Ck w b ce li s) (hb : But c w w') (hne : b ≠ c) : Ck w' b ce li s := h.elim fun cs h => ⟨cs, h.1.but hb hne, h.2⟩
theorem Ck.alloc (h : Ck w b ce li s) (o : Obj) : Ck (w.alloc o) b ce li s := h.elim fun cs h => ⟨cs, h.1.alloc o, h.2⟩
theorem Ck.drew (h : Ck w b ce li s) : Ck w.drew b ce li s := h
theorem Ck.drewN (h : Ck w b ce li s) (n : Nat) : Ck (w.drewN n) b ce li s := h
theorem Ck.set_other (h : Ck w b ce li s) {a : Addr} (v : Value) (hne : b ≠ a.block) : Ck (w.setCell a v) b ce li s := h.elim fun cs h => ⟨cs, h.1.set_other v hne, h.2⟩
theorem Ck.setTicks (h : Ck w b ce li s) (s' : Value) : Ck (w.setCell ⟨b, 16384, none⟩ s') b ce li s' := h.elim fun cs h => ⟨_, h.1.set _ _, h.2.setTicks s'⟩
theorem Ck.setCell (h : Ck w b ce li s) {i : Nat} (hi : i < 4096) (x y : Int) : Ck ((w.setCell ⟨b, i * 2, none⟩ (.int .u8 x)).setCell ⟨b, i * 2 + 1, none⟩ (.int .u8 y)) b (updP ce i (x, y)) li s := h.elim fun cs h => ⟨_, (h.1.set _ _).set _ _, h.2.setCell hi x y⟩
theorem Ck.setLight (h : Ck w b ce li s) {i : Nat} (hi : i < 4096) (x y : Int) : Ck ((w.setCell ⟨b, 8192 + i * 2, none⟩ (.int .u8 x)).setCell ⟨b, 8192 + i * 2 + 1, none⟩ (.int .u8 y)) b ce (updP li i (x, y)) s := h.elim fun cs h => ⟨_, (h.1.set _ _).set _ _, h.2.setLight hi x y⟩
end

def zeroP : Nat → Int × Int := fun _ => (0, 0)
set_option maxRecDepth 1000000 in
theorem chunkZ_ckL : CkL chunkZ.toList zeroP zeroP (.slice none 0 0) := by
  have hz : chunkZ.toList = List.replicate 16384 (.int .u8 0) ++ [.slice none 0 0] := by
    unfold chunkZ
    rw [Array.toList_push, Array.toList_replicate]
  rw [hz]
  refine ⟨by rw [List.length_append, List.length_replicate]; rfl, fun j hj => ?_⟩
  by_cases h : j < 16384
  · rw [List.getElem?_append_left (by rw [List.length_replicate]; exact h), List.getElem?_replicate, if_pos h]
    unfold ckF zeroP
    (repeat' split) <;> first | rfl | omega
  · obtain rfl : j = 16384 := by omega
    rw [List.getElem?_append_right (by rw [List.length_replicate]; omega), List.length_replicate, ckF_t]
    rfl
theorem ck_new (w : World) : Ck (w.alloc (.cells chunkZ 91)) w.heap.size zeroP zeroP (.slice none 0 0) := ⟨_, Blk.new w _ _, chunkZ_ckL⟩

/-! A row of plain values behind a slice: each of sz cells. -/
def SRow (w : World) (sz : Nat) (s : Value) (xs : List (List Value)) : Prop :=
  ∃ base cap, s = .slice base xs.length cap ∧ (xs.length ≤ cap ∧ (base = none → cap = 0)) ∧ cap ≤ maxLen ∧
    (xs ≠ [] → ∃ b off, base = some ⟨b, off, none⟩ ∧ ∀ j x, xs[j]? = some x → ∀ i v, x[i]? = some v → w.cell? ⟨b, off + j * sz + i, none⟩ = some v)

theorem SRow.mono {w w' : World} {sz : Nat} {s : Value} {xs : List (List Value)} (h : SRow w sz s xs) (hk : ∀ a v, w.cell? a = some v → (∀ a' n c, s = .slice (some a') n c → a.block = a'.block) → w'.cell? a = some v) : SRow w' sz s xs := by
  obtain ⟨base, cap, rfl, h1, h2, h3⟩ := h
  refine ⟨base, cap, rfl, h1, h2, fun hne => ?_⟩
  obtain ⟨b, off, rfl, h4⟩ := h3 hne
  exact ⟨b, off, rfl, fun j x hx i v hv => hk _ _ (h4 j x hx i v hv) (fun a' n c e => by cases e; rfl)⟩
theorem SRow.keep {w w' : World} {sz : Nat} {s : Value} {xs : List (List Value)} (h : SRow w sz s xs) (hb : Below w.heap.size w w') : SRow w' sz s xs :=
  h.mono fun a v hv _ => (hb.cell (World.block_lt_of_cell? w a hv)).trans hv
/-- The slice does not lie in block b. -/
def Apart (s : Value) (b : Nat) : Prop := ∀ a n c, s = .slice (some a) n c → a.block ≠ b
theorem SRow.but {w w' : World} {sz b : Nat} {s : Value} {xs : List (List Value)} (h : SRow w sz s xs) (hb : But b w w') (hap : xs = [] ∨ Apart s b) : SRow w' sz s xs := by
  obtain ⟨base, cap, rfl, h1, h2, h3⟩ := h
  refine ⟨base, cap, rfl, h1, h2, fun hne => ?_⟩
  obtain ⟨b', off, rfl, h4⟩ := h3 hne
  rcases hap with e | hap
  · exact absurd e hne
  · exact ⟨b', off, rfl, fun j x hx i v hv => by
      have h5 := h4 j x hx i v hv
      exact (World.cell?_of_block (w := w) (hb.block b' (World.block_lt_of_cell? w _ h5) (hap _ _ _ rfl))).trans h5⟩
theorem SRow.len {w : World} {sz : Nat} {s : Value} {xs : List (List Value)} (h : SRow w sz s xs) : xs.length ≤ maxLen := by
  obtain ⟨base, cap, rfl, h1, h2, h3⟩ := h; omega

def tickV (t : Int × Int) : List Value := [.int .i64 t.1, .int .i64 t.2]
/-- A row of ticks. -/
def TRow (w : World) (s : Value) (ts : List (Int × Int)) : Prop := SRow w 2 s (ts.map tickV)
theorem TRow.keep {w w' : World} {s : Value} {ts : List (Int × Int)} (h : TRow w s ts) (hb : Below w.heap.size w w') : TRow w' s ts := SRow.keep h hb
theorem TRow.open {w : World} {s : Value} {ts : List (Int × Int)} (h : TRow w s ts) : ∃ base cap, s = .slice base ts.length cap ∧ ts.length ≤ cap ∧ cap ≤ maxLen ∧
    (ts ≠ [] → ∃ b off, base = some ⟨b, off, none⟩ ∧ ∀ j t, ts[j]? = some t → w.cell? ⟨b, off + j * 2, none⟩ = some (.int .i64 t.1) ∧ w.cell? ⟨b, off + j * 2 + 1, none⟩ = some (.int .i64 t.2)) := by
  obtain ⟨base, cap, e, h1, h2, h3⟩ := h
  rw [List.length_map] at e h1
  refine ⟨base, cap, e, h1.1, h2, fun hne => ?_⟩
  obtain ⟨b, off, hb, h4⟩ := h3 (by simpa using hne)
  exact ⟨b, off, hb, fun j t ht => by
    have hj : (ts.map tickV)[j]? = some (tickV t) := by rw [List.getElem?_map, ht]; rfl
    exact ⟨h4 j _ hj 0 _ rfl, h4 j _ hj 1 _ rfl⟩⟩
theorem TRow.nil (w : World) : TRow w (.slice none 0 0) [] := ⟨none, 0, rfl, ⟨Nat.le_refl _, fun _ => rfl⟩, Nat.zero_le _, fun h => absurd rfl h⟩
end Go.Proofs.Ytpdckjbknphelaa
