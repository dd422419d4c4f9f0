/-
  A cell of a frame is woken, dropped.
-/
import Derived.Test.YtpdckjbknphelaaMg14
import Derived.BigRegion
namespace Go.Proofs.Ytpdckjbknphelaa
open Go.RowKit
set_option linter.unusedSimpArgs false
set_option linter.unusedVariables false

theorem Po.setDu {w W : World} {pb sb tb n : Nat} {ce li : Nat → Int × Int} {du : Nat → Int} {tk : Nat → Bool} (h : Po w pb sb tb n ce li du tk) (c : Nat) {d : Int} (hd : 0 ≤ d ∧ d ≤ 2199023255552) (hr : Row1 W sb 5 (n * 40960) (dueS (slabF ce li du) (c * 10) d)) (hb : But sb w W) : Po W pb sb tb n ce li (updD du c d) tk :=
  h.slabBut hb (hr.congr fun i _ => slab_due c d i) (fun k => by
    unfold updD
    split
    · exact hd
    · exact h.dub k) h.uc h.ul

def wakeD (n : Nat) (du : Nat → Int) (f i d : Int) : Nat → Int := if inR n f i ∧ (1 ≤ d ∧ d ≤ 2199023255552) ∧ (du (f.toNat * 4096 + i.toNat) = 0 ∨ d < du (f.toNat * 4096 + i.toNat)) then updD du (f.toNat * 4096 + i.toNat) d else du
def dropD (n : Nat) (du : Nat → Int) (f i : Int) : Nat → Int := if inR n f i then updD du (f.toNat * 4096 + i.toNat) 0 else du
end Go.Proofs.Ytpdckjbknphelaa

/-
  A new pool of frames; a frame is taken, given; how many are taken.
-/
namespace Go.Proofs.Ytpdckjbknphelaa
open Go.RowKit
set_option linter.unusedSimpArgs false
set_option linter.unusedVariables false

theorem slab_zero (j : Nat) : slabF zeroP zeroP (fun _ => 0) j = .int .u8 0 := by
  unfold slabF zeroP
  rw [byteN_zero]
  split
  · rfl
  split
  · rfl
  split
  · rfl
  split <;> rfl
theorem make_bytes (n : Nat) (hn : n ≤ 10000000) : ∀ u : World, (Instr.makeSlice 103 (.int .i64 (n : Int)) (.int .i64 (n : Int))).run Try.prog u = .ok (.slice (some ⟨u.heap.size, 0, none⟩) n n) (u.alloc (.cells (madeCells #[.int .u8 0] n) 5)) := fun u =>
  run_make_row' 103 5 (.int .u8 0) 1 (by kernel_rfl) (by kernel_rfl) rfl .i64 .i64 n (by omega) (by omega) u
theorem make_taken (n : Nat) (hn : n ≤ 10000000) : ∀ u : World, (Instr.makeSlice 109 (.int .i64 (n : Int)) (.int .i64 (n : Int))).run Try.prog u = .ok (.slice (some ⟨u.heap.size, 0, none⟩) n n) (u.alloc (.cells (madeCells #[.bool false] n) 4)) := fun u =>
  run_make_row' 109 4 (.bool false) 1 (by kernel_rfl) (by kernel_rfl) rfl .i64 .i64 n (by omega) (by omega) u
/-- A new pool lies in w's new blocks. -/
def Fresh (w w' : World) (pb sb tb : Nat) : Prop := w.heap.size ≤ pb ∧ w.heap.size ≤ sb ∧ w.heap.size ≤ tb ∧ Below w.heap.size w w'
theorem po_mk {W : World} {pb sb tb n : Nat} (hp : Blk W pb (poolC sb tb n) 111) (hs : Row1 W sb 5 (n * 40960) (fun _ => .int .u8 0)) (ht : Row1 W tb 4 n (fun _ => .bool false)) (h1 : pb ≠ sb) (h2 : pb ≠ tb) (h3 : sb ≠ tb) (n1 : 1 ≤ n) (n64 : n ≤ 64) : Po W pb sb tb n zeroP zeroP (fun _ => 0) (fun _ => false) :=
  ⟨hp, hs.congr fun i _ => (slab_zero i).symm, ht, h1, h2, h3, n1, n64, fun _ => by simp, U8.zero, U8.zero⟩
set_option maxRecDepth 100000 in
set_option maxHeartbeats 4000000 in
theorem fnew_calls (n : Nat) (w : World) (h1 : 1 ≤ n) (hn : n ≤ 64) :
    Calls Try.prog 30 #[.int .i64 n] w fun e w' => ∃ pb sb tb, e = .returned (.tuple #[.pointer (some ⟨pb, 0, none⟩), .int .i64 0]) ∧ Po w' pb sb tb n zeroP zeroP (fun _ => 0) (fun _ => false) ∧ Fresh w w' pb sb tb := by
  have hm1 := make_bytes (n * 40960) (by omega)
  have hm2 := make_taken n (by omega)
  have hr1 := fun W T => made_row (.int .u8 0) (n * 40960) W T
  have hr2 := fun W T => made_row (.bool false) n W T
  have e1 : ((n * 40960 : Nat) : Int) = (n : Int) * 40960 := by omega
  rw [e1] at hm1
  generalize madeCells #[.int .u8 0] (n * 40960) = Z1 at *
  generalize madeCells #[.bool false] n = Z2 at *
  have hw1 : IntKind.i64.wrap ((n : Int) * 40960) = (n : Int) * 40960 := IntWalk.i64_in _ (by omega)
  have q1 : decide ((n : Int) < 1) = false := by simp; omega
  have q2 : decide (64 < (n : Int)) = false := by simp; omega
  replace hr1 := Lib.hid hr1
  replace hr2 := Lib.hid hr2
  replace e1 := Lib.hid e1
  go_enter Try.func30, Try.ntmps30
  go_wp2_with fail
  go_region
  · have hB : Below w.heap.size w (((w.alloc (.cells Z1 5)).alloc (.cells Z2 4)).alloc (.cells #[.slice (some ⟨w.heap.size, 0, none⟩) (n * 40960) (n * 40960), .slice (some ⟨w.heap.size + 1, 0, none⟩) n n] 111)).drew := ((((Below.refl _ _).alloc (Nat.le_refl _) _).alloc (by simp) _).alloc (by simp; omega) _).drew
    have hs := (((hr1.out w 5).alloc (.cells Z2 4)).alloc (.cells #[.slice (some ⟨w.heap.size, 0, none⟩) (n * 40960) (n * 40960), .slice (some ⟨w.heap.size + 1, 0, none⟩) n n] 111)).drew
    have ht := ((hr2.out (w.alloc (.cells Z1 5)) 4).alloc (.cells #[.slice (some ⟨w.heap.size, 0, none⟩) (n * 40960) (n * 40960), .slice (some ⟨w.heap.size + 1, 0, none⟩) n n] 111)).drew
    rw [show (w.alloc (.cells Z1 5)).heap.size = w.heap.size + 1 from by simp] at ht
    have hp : Blk (((w.alloc (.cells Z1 5)).alloc (.cells Z2 4)).alloc (.cells #[.slice (some ⟨w.heap.size, 0, none⟩) (n * 40960) (n * 40960), .slice (some ⟨w.heap.size + 1, 0, none⟩) n n] 111)).drew (w.heap.size + 1 + 1) (poolC w.heap.size (w.heap.size + 1) n) 111 := (Blk.new_at _ _ (by simp)).drew
    have hend := po_mk hp hs ht (by omega) (by omega) (by omega) h1 hn
    clear hs ht hp
    replace hend := Lib.hid hend
    replace hB := Lib.hid hB
    go_wp2_with fail
    go_ret2
    exact ⟨_, _, _, rfl, hend.out, by omega, by omega, by omega, hB.out⟩
  · have hB : Below w.heap.size w (((w.alloc (.cells Z2 4)).alloc (.cells Z1 5)).alloc (.cells #[.slice (some ⟨w.heap.size + 1, 0, none⟩) (n * 40960) (n * 40960), .slice (some ⟨w.heap.size, 0, none⟩) n n] 111)).drew := ((((Below.refl _ _).alloc (Nat.le_refl _) _).alloc (by simp) _).alloc (by simp; omega) _).drew
    have ht := (((hr2.out w 4).alloc (.cells Z1 5)).alloc (.cells #[.slice (some ⟨w.heap.size + 1, 0, none⟩) (n * 40960) (n * 40960), .slice (some ⟨w.heap.size, 0, none⟩) n n] 111)).drew
    have hs := ((hr1.out (w.alloc (.cells Z2 4)) 5).alloc (.cells #[.slice (some ⟨w.heap.size + 1, 0, none⟩) (n * 40960) (n * 40960), .slice (some ⟨w.heap.size, 0, none⟩) n n] 111)).drew
    rw [show (w.alloc (.cells Z2 4)).heap.size = w.heap.size + 1 from by simp] at hs
    have hp : Blk (((w.alloc (.cells Z2 4)).alloc (.cells Z1 5)).alloc (.cells #[.slice (some ⟨w.heap.size + 1, 0, none⟩) (n * 40960) (n * 40960), .slice (some ⟨w.heap.size, 0, none⟩) n n] 111)).drew (w.heap.size + 1 + 1) (poolC (w.heap.size + 1) w.heap.size n) 111 := (Blk.new_at _ _ (by simp)).drew
    have hend := po_mk hp hs ht (by omega) (by omega) (by omega) h1 hn
    clear hs ht hp
    replace hend := Lib.hid hend
    replace hB := Lib.hid hB
    go_wp2_with fail
    go_ret2
    exact ⟨_, _, _, rfl, hend.out, by omega, by omega, by omega, hB.out⟩
set_option maxRecDepth 100000 in
set_option maxHeartbeats 4000000 in
theorem fnew_no (n : Int) (w : World) (hn : ¬ (1 ≤ n ∧ n ≤ 64)) :
    Calls Try.prog 30 #[.int .i64 n] w fun e w' => e = .returned (.tuple #[.pointer none, .int .i64 2]) ∧ w' = w := by
  by_cases q1 : n < 1
  · clear hn
    go_enter Try.func30, Try.ntmps30
    go_wp2_with fail
    go_ret2
    exact ⟨rfl, rfl⟩
  · have q1' : decide (n < 1) = false := by simp; omega
    have q2 : 64 < n := by omega
    clear hn
    go_enter Try.func30, Try.ntmps30
    go_wp2_with fail
    go_ret2
    exact ⟨rfl, rfl⟩

/-! Taken frames. -/
def firstF (n : Nat) (tk : Nat → Bool) : Option Nat := (List.range n).find? (fun i => !tk i)
end Go.Proofs.Ytpdckjbknphelaa
