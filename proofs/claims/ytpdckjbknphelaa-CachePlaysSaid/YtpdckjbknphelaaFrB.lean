/-
  A pool of frames in memory; a frame's bytes, a cell's bytes.
-/
import Derived.Test.YtpdckjbknphelaaMg6
import Derived.Test.YtpdckjbknphelaaMg3
import Derived.Lib.SliceRun
import Derived.WalkSpells
namespace Go.Proofs.Ytpdckjbknphelaa
open Go.RowKit
set_option linter.unusedSimpArgs false
set_option linter.unusedVariables false

theorem fs_eq : ∀ (W : World) (a : Option Addr) (n c : Nat), (binOp .eql 103 (.slice a n c) (.slice none 0 0)).run Try.prog W = .ok (.bool a.isNone) W := fun W a n c => Lib.run_eql_slice_nil W _ 5 a n c 0 0 (by kernel_rfl)
theorem fs_ne : ∀ (W : World) (a : Option Addr) (n c : Nat), (binOp .neq 103 (.slice a n c) (.slice none 0 0)).run Try.prog W = .ok (.bool (!a.isNone)) W := fun W a n c => run_neq_slice_nil_any W _ 5 a n c 0 0 (by kernel_rfl)
theorem bs_eq : ∀ (W : World) (a : Option Addr) (n c : Nat), (binOp .eql 109 (.slice a n c) (.slice none 0 0)).run Try.prog W = .ok (.bool a.isNone) W := fun W a n c => Lib.run_eql_slice_nil W _ 4 a n c 0 0 (by kernel_rfl)
def poolC (sb tb n : Nat) : List Value := [.slice (some ⟨sb, 0, none⟩) (n * 40960) (n * 40960), .slice (some ⟨tb, 0, none⟩) n n]
/-- A pool of n frames: its cells, lights, when each is due; which are taken. -/
structure Po (w : World) (pb sb tb n : Nat) (ce li : Nat → Int × Int) (du : Nat → Int) (tk : Nat → Bool) : Prop where
  pool : Blk w pb (poolC sb tb n) 111
  slab : Row1 w sb 5 (n * 40960) (slabF ce li du)
  take : Row1 w tb 4 n (fun i => .bool (tk i))
  ne1 : pb ≠ sb
  ne2 : pb ≠ tb
  ne3 : sb ≠ tb
  n1 : 1 ≤ n
  n64 : n ≤ 64
  dub : ∀ c, 0 ≤ du c ∧ du c ≤ 2199023255552
  uc : U8 ce
  ul : U8 li
section
variable {w w' : World} {pb sb tb n : Nat} {ce li : Nat → Int × Int} {du : Nat → Int} {tk : Nat → Bool}
theorem Po.keep (h : Po w pb sb tb n ce li du tk) (hb : Below w.heap.size w w') : Po w' pb sb tb n ce li du tk :=
  { h with pool := h.pool.below hb h.pool.lt, slab := h.slab.keep hb, take := h.take.keep hb }
theorem Po.but {c : Nat} (h : Po w pb sb tb n ce li du tk) (hb : But c w w') (h1 : pb ≠ c) (h2 : sb ≠ c) (h3 : tb ≠ c) : Po w' pb sb tb n ce li du tk :=
  { h with pool := h.pool.but hb h1, slab := h.slab.but hb h2, take := h.take.but hb h3 }
theorem Po.alloc (h : Po w pb sb tb n ce li du tk) (o : Obj) : Po (w.alloc o) pb sb tb n ce li du tk := h.keep ((Below.refl _ _).alloc (Nat.le_refl _) o)
theorem Po.ext (h : Po w pb sb tb n ce li du tk) (p : Ext) : Po (Go.Proofs.Ytpdckjbknphelaa.ext w p) pb sb tb n ce li du tk := h.keep (below_ext w p)
theorem Po.drewN (h : Po w pb sb tb n ce li du tk) (q : Nat) : Po (w.drewN q) pb sb tb n ce li du tk := h.keep (below_drewN (Below.refl _ _) q)
theorem Po.c0 (h : Po w pb sb tb n ce li du tk) : w.cell? ⟨pb, 0, none⟩ = some (.slice (some ⟨sb, 0, none⟩) (n * 40960) (n * 40960)) := h.pool.cell 0 rfl
theorem Po.c1 (h : Po w pb sb tb n ce li du tk) : w.cell? ⟨pb, 1, none⟩ = some (.slice (some ⟨tb, 0, none⟩) n n) := h.pool.cell 1 rfl
/-- A store into the slab: all the rest stands. -/
theorem Po.slabBut (h : Po w pb sb tb n ce li du tk) {ce' li' : Nat → Int × Int} {du' : Nat → Int} (hb : But sb w w') (hs : Row1 w' sb 5 (n * 40960) (slabF ce' li' du')) (hd : ∀ c, 0 ≤ du' c ∧ du' c ≤ 2199023255552) (hc : U8 ce') (hl : U8 li') : Po w' pb sb tb n ce' li' du' tk :=
  { h with pool := h.pool.but hb h.ne1, slab := hs, take := h.take.but hb (Ne.symm h.ne3), dub := hd, uc := hc, ul := hl }
theorem Po.b (h : Po w pb sb tb n ce li du tk) {f i : Nat} (hf : f < n) (hi : i < 4096) {b : Nat} (hb : b < 10) : w.cell? ⟨sb, (f * 4096 + i) * 10 + b, none⟩ = some (slabF ce li du ((f * 4096 + i) * 10 + b)) := h.slab.cell (by omega)
end

set_option maxRecDepth 100000 in
set_option maxHeartbeats 4000000 in
theorem frame_in (pb sb tb n f : Nat) (w : World) (hp : Blk w pb (poolC sb tb n) 111) (hn : n ≤ 64) (hf : f < n) :
    Calls Try.prog 51 #[.pointer (some ⟨pb, 0, none⟩), .int .i64 f] w fun e w' => e = .returned (.slice (some ⟨sb, f * 40960, none⟩) 40960 40960) ∧ w' = w := by
  have c0 : w.cell? ⟨pb, 0, none⟩ = some (.slice (some ⟨sb, 0, none⟩) (n * 40960) (n * 40960)) := hp.cell 0 rfl
  have c1 : w.cell? ⟨pb, 1, none⟩ = some (.slice (some ⟨tb, 0, none⟩) n n) := hp.cell 1 rfl
  have hd : decide ((n : Int) ≤ (f : Int)) = false := by simp; omega
  have hd0 : decide ((f : Int) < 0) = false := by simp
  have hw1 : IntKind.i64.wrap ((f : Int) * 40960) = (f : Int) * 40960 := IntWalk.i64_in _ (by omega)
  have hw2 : IntKind.i64.wrap (((f : Int) + 1) * 40960) = ((f : Int) + 1) * 40960 := IntWalk.i64_in _ (by omega)
  have t1 : ((f : Int) * 40960).toNat = f * 40960 := by omega
  have t2 : (((f : Int) + 1) * 40960).toNat = f * 40960 + 40960 := by omega
  clear hp
  go_enter Try.func51, Try.ntmps51
  go_wp2_with fail
  go_ret
  exact ⟨rfl, rfl⟩

set_option maxRecDepth 100000 in
set_option maxHeartbeats 4000000 in
theorem frame_out (pb n c : Nat) (tb : Option Addr) (f : Int) (w : World) (c1 : w.cell? ⟨pb, 1, none⟩ = some (.slice tb n c)) (hc : c ≤ 1000000) (hn : n ≤ c) (hf : ¬ (0 ≤ f ∧ f < n)) :
    Calls Try.prog 51 #[.pointer (some ⟨pb, 0, none⟩), .int .i64 f] w fun e w' => e = .returned (.slice none 0 0) ∧ w' = w := by
  by_cases q : f < 0
  · clear hf
    go_enter Try.func51, Try.ntmps51
    go_wp2_with fail
    go_ret
    exact ⟨rfl, rfl⟩
  · have q1 : decide (f < 0) = false := by simp; omega
    have q2 : (n : Int) ≤ f := by omega
    clear hf
    go_enter Try.func51, Try.ntmps51
    go_wp2_with fail
    go_ret
    exact ⟨rfl, rfl⟩
set_option maxRecDepth 100000 in
set_option maxHeartbeats 4000000 in
theorem frame_nil (f : Int) (w : World) :
    Calls Try.prog 51 #[.pointer none, .int .i64 f] w fun e w' => e = .returned (.slice none 0 0) ∧ w' = w := by
  go_enter Try.func51, Try.ntmps51
  go_wp2_with fail
  go_ret
  exact ⟨rfl, rfl⟩
set_option maxRecDepth 100000 in
set_option maxHeartbeats 4000000 in
theorem cell_in (pb sb tb n f i : Nat) (w : World) (hp : Blk w pb (poolC sb tb n) 111) (hn : n ≤ 64) (hf : f < n) (hi : i < 4096) :
    Calls Try.prog 40 #[.pointer (some ⟨pb, 0, none⟩), .int .i64 f, .int .i64 i] w fun e w' => e = .returned (.slice (some ⟨sb, (f * 4096 + i) * 10, none⟩) 10 10) ∧ w' = w := by
  have hc := frame_in pb sb tb n f w hp hn hf
  replace hc := Lib.hid hc
  have hd : decide (4096 ≤ (i : Int)) = false := by simp; omega
  have hd0 : decide ((i : Int) < 0) = false := by simp
  have hw1 : IntKind.i64.wrap ((i : Int) * 10) = (i : Int) * 10 := IntWalk.i64_in _ (by omega)
  have hw2 : IntKind.i64.wrap (((i : Int) + 1) * 10) = ((i : Int) + 1) * 10 := IntWalk.i64_in _ (by omega)
  have t1 : ((i : Int) * 10).toNat = i * 10 := by omega
  have t2 : (((i : Int) + 1) * 10).toNat = i * 10 + 10 := by omega
  have hoff : f * 40960 + i * 10 = (f * 4096 + i) * 10 := by omega
  clear hp
  have hse := fs_eq
  go_enter Try.func40, Try.ntmps40
  go_wp2_with fail
  refine hc.out.mono ?_
  rintro e w1 ⟨rfl, rfl⟩
  clear hc
  go_wp2_with fail
  go_ret
  exact ⟨rfl, rfl⟩
/-- There is such a frame, such an index. -/
def inR (n : Nat) (f i : Int) : Prop := 0 ≤ f ∧ f < n ∧ 0 ≤ i ∧ i < 4096
instance (n : Nat) (f i : Int) : Decidable (inR n f i) := by unfold inR; infer_instance
set_option maxRecDepth 100000 in
set_option maxHeartbeats 4000000 in
theorem cell_no (pb sb tb n : Nat) (f i : Int) (w : World) (hp : Blk w pb (poolC sb tb n) 111) (hn : n ≤ 64) (h : ¬ inR n f i) :
    Calls Try.prog 40 #[.pointer (some ⟨pb, 0, none⟩), .int .i64 f, .int .i64 i] w fun e w' => e = .returned (.slice none 0 0) ∧ w' = w := by
  unfold inR at h
  by_cases q : 0 ≤ f ∧ f < n
  · obtain ⟨m, rfl⟩ : ∃ m : Nat, f = (m : Int) := ⟨f.toNat, by omega⟩
    have hc := frame_in pb sb tb n m w hp hn (by omega)
    replace hc := Lib.hid hc
    clear hp
    by_cases q1 : i < 0
    · clear h q
      have hse := fs_eq
      go_enter Try.func40, Try.ntmps40
      go_wp2_with fail
      refine hc.out.mono ?_
      rintro e w1 ⟨rfl, rfl⟩
      clear hc
      go_wp2_with fail
      go_ret
      exact ⟨rfl, rfl⟩
    · have q1' : decide (i < 0) = false := by simp; omega
      have q2 : 4096 ≤ i := by omega
      clear h q
      have hse := fs_eq
      go_enter Try.func40, Try.ntmps40
      go_wp2_with fail
      refine hc.out.mono ?_
      rintro e w1 ⟨rfl, rfl⟩
      clear hc
      go_wp2_with fail
      go_ret
      exact ⟨rfl, rfl⟩
  · have hc := frame_out pb n n _ f w (hp.cell 1 rfl) (by omega) (Nat.le_refl _) q
    replace hc := Lib.hid hc
    clear hp h q
    have hse := fs_eq
    go_enter Try.func40, Try.ntmps40
    go_wp2_with fail
    refine hc.out.mono ?_
    rintro e w1 ⟨rfl, rfl⟩
    clear hc
    go_wp2_with fail
    go_ret
    exact ⟨rfl, rfl⟩
set_option maxRecDepth 100000 in
set_option maxHeartbeats 4000000 in
/-- A pool without frames, or none: no cell. -/
theorem cell_none (p : Option Addr) (f i : Int) (w : World) (hc : Calls Try.prog 51 #[.pointer p, .int .i64 f] w fun e w' => e = .returned (.slice none 0 0) ∧ w' = w) :
    Calls Try.prog 40 #[.pointer p, .int .i64 f, .int .i64 i] w fun e w' => e = .returned (.slice none 0 0) ∧ w' = w := by
  replace hc := Lib.hid hc
  have hse := fs_eq
  go_enter Try.func40, Try.ntmps40
  go_wp2_with fail
  refine hc.out.mono ?_
  rintro e w1 ⟨rfl, rfl⟩
  clear hc
  go_wp2_with fail
  go_ret
  exact ⟨rfl, rfl⟩

end Go.Proofs.Ytpdckjbknphelaa
