/-
  A frame is given.
-/
import Derived.Test.YtlaodkolkoefgaaFrG
namespace Go.Proofs.Ytlaodkolkoefgaa
open Go.RowKit
set_option linter.unusedSimpArgs false
set_option linter.unusedVariables false

/-- All old blocks but these two are as they were. -/
structure But2 (a b : Nat) (w w' : World) : Prop where
  os : w'.os = w.os
  tape : w'.tape = w.tape
  output : w'.output = w.output
  size : w.heap.size ≤ w'.heap.size
  block : ∀ k, k < w.heap.size → k ≠ a → k ≠ b → w'.heap[k]? = w.heap[k]?
section
variable {a b : Nat} {u w W : World}
theorem But2.refl (a b : Nat) (w : World) : But2 a b w w := ⟨rfl, rfl, rfl, Nat.le_refl _, fun _ _ _ _ => rfl⟩
theorem But2.left (h : But a w W) (b : Nat) : But2 a b w W := ⟨h.os, h.tape, h.output, h.size, fun k hk h1 _ => h.block k hk h1⟩
theorem But2.right (h : But b w W) (a : Nat) : But2 a b w W := ⟨h.os, h.tape, h.output, h.size, fun k hk _ h1 => h.block k hk h1⟩
theorem But2.trans (h : But2 a b u w) (k : But2 a b w W) : But2 a b u W :=
  ⟨k.os.trans h.os, k.tape.trans h.tape, k.output.trans h.output, Nat.le_trans h.size k.size, fun i hi h1 h2 => (k.block i (Nat.lt_of_lt_of_le hi h.size) h1 h2).trans (h.block i hi h1 h2)⟩
theorem But2.of_below (h : Below w.heap.size w W) (a b : Nat) : But2 a b w W := But2.left (But.of_below h) b
theorem But2.below {B : Nat} (h : But2 a b w W) (h1 : B ≤ a) (h2 : B ≤ b) (hs : B ≤ w.heap.size) : Below B w W := ⟨h.os, h.tape, h.output, h.size, fun k hk => h.block k (by omega) (by omega) (by omega)⟩
theorem But2.step {B : Nat} {v : World} (h0 : Below B v w) (h : But2 a b w W) (h1 : B ≤ a) (h2 : B ≤ b) (hs : B ≤ w.heap.size) : Below B v W := h0.trans (h.below h1 h2 hs)
theorem Blk.but2 {c : Nat} {cs : List Value} {T : TypeId} (h : Blk w c cs T) (hb : But2 a b w W) (h1 : c ≠ a) (h2 : c ≠ b) : Blk W c cs T := (hb.block c h.lt h1 h2).trans h
theorem Row1.but2 {c n : Nat} {T : TypeId} {f : Nat → Value} (h : Row1 w c T n f) (hb : But2 a b w W) (h1 : c ≠ a) (h2 : c ≠ b) : Row1 W c T n f := h.elim fun cs h => ⟨cs, h.1.but2 hb h1 h2, h.2⟩
end

def clrP (f : Nat) (g : Nat → Int × Int) : Nat → Int × Int := fun c => if f * 4096 ≤ c ∧ c < f * 4096 + 4096 then (0, 0) else g c
def clrD (f : Nat) (g : Nat → Int) : Nat → Int := fun c => if f * 4096 ≤ c ∧ c < f * 4096 + 4096 then 0 else g c
set_option maxRecDepth 100000 in
theorem slab_clear {ce li : Nat → Int × Int} {du : Nat → Int} (f : Nat) {Z : List Value} (hl : Z.length = 40960) (hz : ∀ i, i < 40960 → Z.getD i undef = .int .u8 0) (j : Nat) : runF (f * 40960) Z (slabF ce li du) j = slabF (clrP f ce) (clrP f li) (clrD f du) j := by
  unfold runF
  by_cases h : f * 40960 ≤ j ∧ j < f * 40960 + Z.length
  · rw [if_pos h, hz _ (by omega)]
    have hc : f * 4096 ≤ j / 10 ∧ j / 10 < f * 4096 + 4096 := by omega
    unfold slabF clrP clrD
    rw [if_pos hc, if_pos hc, if_pos hc, byteN_zero]
    split
    · rfl
    split
    · rfl
    split
    · rfl
    split <;> rfl
  · rw [if_neg h]
    have hc : ¬ (f * 4096 ≤ j / 10 ∧ j / 10 < f * 4096 + 4096) := by omega
    unfold slabF clrP clrD
    rw [if_neg hc, if_neg hc, if_neg hc]
theorem U8.clr {f : Nat} {g : Nat → Int × Int} (h : U8 g) : U8 (clrP f g) := fun c => by
  unfold clrP
  split
  · simp
  · exact h c
theorem zero_u8 : ∀ w : World, (zeroValue 5).run Try.prog w = .ok (.int .u8 0) w := fun w => by kernel_rfl

set_option maxRecDepth 100000 in
set_option maxHeartbeats 4000000 in
theorem pgive_in (pb sb tb n : Nat) (ce li : Nat → Int × Int) (du : Nat → Int) (tk : Nat → Bool) (f : Nat) (w : World) (h : Po w pb sb tb n ce li du tk) (hf : f < n) (ht : tk f = true) :
    Calls Try.prog 20 #[.pointer (some ⟨pb, 0, none⟩), .int .i64 f] w fun e w' => e = .returned (.int .i64 0) ∧ Po w' pb sb tb n (clrP f ce) (clrP f li) (clrD f du) (tkSet tk f false) ∧ But2 sb tb w w' := by
  have hn64 := h.n64
  have hc := frame_in pb sb tb n f w h.pool h.n64 hf
  have c1 := h.c1
  have cf := h.take.cell hf
  rw [ht] at cf
  have ff := h.take.frozen f
  have h2 := h.setTk f false
  have hclr := fun ty => Lib.run_clear_slice (P := Try.prog) (w.setCell ⟨tb, f, none⟩ (.bool false)) 58 5 ty (.int .u8 0) (by kernel_rfl) zero_u8 rfl rfl sb (f * 40960) 40960 40960 (by omega)
    (fun j hj => by rw [h2.slab.cell (by omega)]; rfl) (fun j hj => h2.slab.frozen _)
  obtain ⟨Z, hZ⟩ : ∃ Z, List.replicate 40960 (Value.int .u8 0) = Z := ⟨_, rfl⟩
  have hZl : Z.length = 40960 := by rw [← hZ]; exact List.length_replicate
  have hZg : ∀ i, i < 40960 → Z.getD i undef = .int .u8 0 := fun i hi => by rw [← hZ, List.getD_eq_getElem?_getD, List.getElem?_replicate, if_pos hi]; rfl
  rw [hZ] at hclr
  clear hZ
  have hrow := h2.slab.setCells Z (f * 40960)
  have hbut : But2 sb tb w ((w.setCell ⟨tb, f, none⟩ (.bool false)).setCells sb (f * 40960) Z) := (But2.right ((But.refl tb w).setCell f _) sb).trans (But2.left (But.setCells Z _ (But.refl _ _)) tb)
  have hend : Po ((w.setCell ⟨tb, f, none⟩ (.bool false)).setCells sb (f * 40960) Z) pb sb tb n (clrP f ce) (clrP f li) (clrD f du) (tkSet tk f false) :=
    h2.slabBut (But.setCells Z _ (But.refl _ _)) (hrow.congr fun j _ => slab_clear f hZl hZg j) (fun c => by
      unfold clrD
      split
      · exact ⟨Int.le_refl _, by omega⟩
      · exact h.dub c) h.uc.clr h.ul.clr
  have hfz : (f : Int) < (n : Int) := by omega
  have htl := h.take.lt
  have hpl := h.pool.lt
  have hne := h.ne2
  have hse := fs_eq
  have hbe := bs_eq
  replace hc := Lib.hid hc
  replace hbut := Lib.hid hbut
  replace hend := Lib.hid hend
  replace hZl := Lib.hid hZl
  replace hZg := Lib.hid hZg
  clear h h2 hrow ht
  go_enter Try.func20, Try.ntmps20
  go_wp2_with fail
  refine hc.out.mono ?_
  rintro e w1 ⟨rfl, rfl⟩
  clear hc
  go_wp2_with fail
  go_ret
  exact ⟨rfl, hend.out, hbut.out⟩
set_option maxRecDepth 100000 in
set_option maxHeartbeats 4000000 in
theorem pgive_free (pb sb tb n f : Nat) (tk : Nat → Bool) (w : World) (hp : Blk w pb (poolC sb tb n) 61) (hn : n ≤ 64) (htk : Row1 w tb 4 n (fun i => .bool (tk i))) (hf : f < n) (ht : tk f = false) :
    Calls Try.prog 20 #[.pointer (some ⟨pb, 0, none⟩), .int .i64 f] w fun e w' => e = .returned (.int .i64 5) ∧ w' = w := by
  have hc := frame_in pb sb tb n f w hp hn hf
  have c1 : w.cell? ⟨pb, 1, none⟩ = some (.slice (some ⟨tb, 0, none⟩) n n) := hp.cell 1 rfl
  have cf := htk.cell hf
  rw [ht] at cf
  have hfz : (f : Int) < (n : Int) := by omega
  have hse := fs_eq
  have hbe := bs_eq
  replace hc := Lib.hid hc
  clear hp htk ht
  go_enter Try.func20, Try.ntmps20
  go_wp2_with fail
  refine hc.out.mono ?_
  rintro e w1 ⟨rfl, rfl⟩
  clear hc
  go_wp2_with fail
  go_ret
  exact ⟨rfl, rfl⟩
set_option maxRecDepth 100000 in
set_option maxHeartbeats 4000000 in
theorem pgive_out (pb n c tb : Nat) (f : Int) (w : World) (c1 : w.cell? ⟨pb, 1, none⟩ = some (.slice (some ⟨tb, 0, none⟩) n c)) (hc : Calls Try.prog 29 #[.pointer (some ⟨pb, 0, none⟩), .int .i64 f] w fun e w' => e = .returned (.slice none 0 0) ∧ w' = w) :
    Calls Try.prog 20 #[.pointer (some ⟨pb, 0, none⟩), .int .i64 f] w fun e w' => e = .returned (.int .i64 2) ∧ w' = w := by
  have hse := fs_eq
  have hbe := bs_eq
  replace hc := Lib.hid hc
  go_enter Try.func20, Try.ntmps20
  go_wp2_with fail
  refine hc.out.mono ?_
  rintro e w1 ⟨rfl, rfl⟩
  clear hc
  go_wp2_with fail
  go_ret
  exact ⟨rfl, rfl⟩
set_option maxRecDepth 100000 in
set_option maxHeartbeats 4000000 in
theorem pgive_nil (f : Int) (w : World) : Calls Try.prog 20 #[.pointer none, .int .i64 f] w fun e w' => e = .returned (.int .i64 1) ∧ w' = w := by
  go_enter Try.func20, Try.ntmps20
  go_wp2_with fail
  go_ret
  exact ⟨rfl, rfl⟩
set_option maxRecDepth 100000 in
set_option maxHeartbeats 4000000 in
theorem pgive_zero (pb : Nat) (f : Int) (w : World) (c1 : w.cell? ⟨pb, 1, none⟩ = some (.slice none 0 0)) : Calls Try.prog 20 #[.pointer (some ⟨pb, 0, none⟩), .int .i64 f] w fun e w' => e = .returned (.int .i64 1) ∧ w' = w := by
  have hbe := bs_eq
  go_enter Try.func20, Try.ntmps20
  go_wp2_with fail
  go_ret
  exact ⟨rfl, rfl⟩
end Go.Proofs.Ytlaodkolkoefgaa
