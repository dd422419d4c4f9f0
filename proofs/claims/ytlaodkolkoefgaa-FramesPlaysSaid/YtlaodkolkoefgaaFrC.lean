/-
  A cell of a frame, its light, and when it is due.
-/
import Derived.Test.YtlaodkolkoefgaaFrB
namespace Go.Proofs.Ytlaodkolkoefgaa
open Go.RowKit
set_option linter.unusedSimpArgs false
set_option linter.unusedVariables false

def atP (n : Nat) (ce : Nat → Int × Int) (f i : Int) : Int × Int := if inR n f i then ce (f.toNat * 4096 + i.toNat) else (0, 0)
def atD (n : Nat) (du : Nat → Int) (f i : Int) : Int := if inR n f i then du (f.toNat * 4096 + i.toNat) else 0
theorem inR_nat {n : Nat} {f i : Int} (h : inR n f i) : ∃ m j : Nat, f = m ∧ i = j ∧ m < n ∧ j < 4096 := by
  unfold inR at h
  exact ⟨f.toNat, i.toNat, by omega, by omega, by omega, by omega⟩
theorem atP_in {n : Nat} {ce : Nat → Int × Int} {m j : Nat} (hm : m < n) (hj : j < 4096) : atP n ce m j = ce (m * 4096 + j) := by
  unfold atP
  rw [if_pos (by unfold inR; omega)]
  simp
theorem atP_no {n : Nat} {ce : Nat → Int × Int} {f i : Int} (h : ¬ inR n f i) : atP n ce f i = (0, 0) := if_neg h
theorem atD_in {n : Nat} {du : Nat → Int} {m j : Nat} (hm : m < n) (hj : j < 4096) : atD n du m j = du (m * 4096 + j) := by
  unfold atD
  rw [if_pos (by unfold inR; omega)]
  simp
theorem atD_no {n : Nat} {du : Nat → Int} {f i : Int} (h : ¬ inR n f i) : atD n du f i = 0 := if_neg h

set_option maxRecDepth 100000 in
set_option maxHeartbeats 4000000 in
theorem fcell_in (pb sb tb n : Nat) (ce li : Nat → Int × Int) (du : Nat → Int) (tk : Nat → Bool) (m j : Nat) (w : World) (h : Po w pb sb tb n ce li du tk) (hm : m < n) (hj : j < 4096) :
    Calls Try.prog 17 #[.pointer (some ⟨pb, 0, none⟩), .int .i64 m, .int .i64 j] w fun e w' => e = .returned (.agg #[.int .u8 (ce (m * 4096 + j)).1, .int .u8 (ce (m * 4096 + j)).2]) ∧ Below w.heap.size w w' := by
  have hA : Below w.heap.size w (w.alloc (.cells #[.int .u8 0, .int .u8 0] 25)) := (Below.refl _ _).alloc (Nat.le_refl _) _
  have hx := Blk.new w #[.int .u8 0, .int .u8 0] 25
  have h1 := h.alloc (.cells #[.int .u8 0, .int .u8 0] 25)
  have hsb := h.slab.lt
  obtain ⟨W1, hW1⟩ : ∃ W1, w.alloc (.cells #[.int .u8 0, .int .u8 0] 25) = W1 := ⟨_, rfl⟩
  rw [hW1] at hA hx h1
  have hc := cell_in pb sb tb n m j W1 h1.pool h1.n64 hm hj
  have c0 : W1.cell? ⟨sb, (m * 4096 + j) * 10, none⟩ = some (.int .u8 (ce (m * 4096 + j)).1) := by rw [h1.slab.cell (by omega), slabF_0]
  have c1 : W1.cell? ⟨sb, (m * 4096 + j) * 10 + 1, none⟩ = some (.int .u8 (ce (m * 4096 + j)).2) := by rw [h1.slab.cell (by omega), slabF_1]
  have x0 := hx.cell 0 rfl
  have x1 := hx.cell 1 rfl
  have y0 := hx.frozen 0
  have y1 := hx.frozen 1
  have hne : ¬ sb = w.heap.size := by omega
  obtain ⟨P, hP⟩ : ∃ P, ce (m * 4096 + j) = P := ⟨_, rfl⟩
  rw [hP] at c0 c1 ⊢
  have hl1 := hx.lt
  have hsn := fs_ne
  replace hc := Lib.hid hc
  replace hA := Lib.hid hA
  replace hx := Lib.hid hx
  clear h h1 hP
  go_enter Try.func17, Try.ntmps17
  go_wp2_with fail
  refine hc.out.mono ?_
  rintro e w1 ⟨rfl, rfl⟩
  clear hc hW1
  go_wp2_with fail
  go_region
  go_wp2_with fail
  have hx2 : Blk ((w1.setCell ⟨w.heap.size, 0, none⟩ (.int .u8 P.1)).setCell ⟨w.heap.size, 1, none⟩ (.int .u8 P.2)).drew w.heap.size [.int .u8 P.1, .int .u8 P.2] 25 := ((hx.out.set 0 _).set 1 _).drew
  refine bodyPost_ret (results_cell_row rfl _ _ w.heap.size 25 #[.int .u8 P.1, .int .u8 P.2] (0, 0) _ rfl hx2 Try.underlying25 rfl (by kernel_rfl)) rfl ?_
  exact ⟨rfl, ((hA.out.setCell (p := ⟨_, _, none⟩) (Nat.le_refl _) _).setCell (p := ⟨_, _, none⟩) (Nat.le_refl _) _).drew⟩
set_option maxRecDepth 100000 in
set_option maxHeartbeats 4000000 in
theorem fcell_no (p : Option Addr) (f i : Int) (w : World) (hc : ∀ W : World, Below w.heap.size w W → Calls Try.prog 34 #[.pointer p, .int .i64 f, .int .i64 i] W fun e w' => e = .returned (.slice none 0 0) ∧ w' = W) :
    Calls Try.prog 17 #[.pointer p, .int .i64 f, .int .i64 i] w fun e w' => e = .returned (.agg #[.int .u8 0, .int .u8 0]) ∧ Below w.heap.size w w' := by
  have hA : Below w.heap.size w (w.alloc (.cells #[.int .u8 0, .int .u8 0] 25)) := (Below.refl _ _).alloc (Nat.le_refl _) _
  have hx := Blk.new w #[.int .u8 0, .int .u8 0] 25
  obtain ⟨W1, hW1⟩ : ∃ W1, w.alloc (.cells #[.int .u8 0, .int .u8 0] 25) = W1 := ⟨_, rfl⟩
  rw [hW1] at hA hx
  replace hc := hc W1 hA
  have x0 := hx.cell 0 rfl
  have x1 := hx.cell 1 rfl
  have y0 := hx.frozen 0
  have y1 := hx.frozen 1
  have hl1 := hx.lt
  have hsn := fs_ne
  replace hc := Lib.hid hc
  replace hA := Lib.hid hA
  replace hx := Lib.hid hx
  go_enter Try.func17, Try.ntmps17
  go_wp2_with fail
  refine hc.out.mono ?_
  rintro e w1 ⟨rfl, rfl⟩
  clear hc hW1
  go_wp2_with fail
  have hx2 : Blk ((w1.setCell ⟨w.heap.size, 0, none⟩ (.int .u8 0)).setCell ⟨w.heap.size, 1, none⟩ (.int .u8 0)) w.heap.size [.int .u8 0, .int .u8 0] 25 := (hx.out.set 0 _).set 1 _
  refine bodyPost_ret (results_cell_row rfl _ _ w.heap.size 25 #[.int .u8 0, .int .u8 0] (0, 0) _ rfl hx2 Try.underlying25 rfl (by kernel_rfl)) rfl ?_
  exact ⟨rfl, (hA.out.setCell (p := ⟨_, _, none⟩) (Nat.le_refl _) _).setCell (p := ⟨_, _, none⟩) (Nat.le_refl _) _⟩
theorem fcell_calls (pb sb tb n : Nat) (ce li : Nat → Int × Int) (du : Nat → Int) (tk : Nat → Bool) (f i : Int) (w : World) (h : Po w pb sb tb n ce li du tk) :
    Calls Try.prog 17 #[.pointer (some ⟨pb, 0, none⟩), .int .i64 f, .int .i64 i] w fun e w' => e = .returned (.agg #[.int .u8 (atP n ce f i).1, .int .u8 (atP n ce f i).2]) ∧ Below w.heap.size w w' := by
  by_cases hr : inR n f i
  · obtain ⟨m, j, rfl, rfl, hm, hj⟩ := inR_nat hr
    rw [atP_in hm hj]
    exact fcell_in pb sb tb n ce li du tk m j w h hm hj
  · rw [atP_no hr]
    exact fcell_no _ f i w fun W hb => cell_no pb sb tb n f i W (h.keep hb).pool h.n64 hr
set_option maxRecDepth 100000 in
set_option maxHeartbeats 4000000 in
theorem flight_in (pb sb tb n : Nat) (ce li : Nat → Int × Int) (du : Nat → Int) (tk : Nat → Bool) (m j : Nat) (w : World) (h : Po w pb sb tb n ce li du tk) (hm : m < n) (hj : j < 4096) :
    Calls Try.prog 52 #[.pointer (some ⟨pb, 0, none⟩), .int .i64 m, .int .i64 j] w fun e w' => e = .returned (.agg #[.int .u8 (li (m * 4096 + j)).1, .int .u8 (li (m * 4096 + j)).2]) ∧ Below w.heap.size w w' := by
  have hA : Below w.heap.size w (w.alloc (.cells #[.int .u8 0, .int .u8 0] 42)) := (Below.refl _ _).alloc (Nat.le_refl _) _
  have hx := Blk.new w #[.int .u8 0, .int .u8 0] 42
  have h1 := h.alloc (.cells #[.int .u8 0, .int .u8 0] 42)
  have hsb := h.slab.lt
  obtain ⟨W1, hW1⟩ : ∃ W1, w.alloc (.cells #[.int .u8 0, .int .u8 0] 42) = W1 := ⟨_, rfl⟩
  rw [hW1] at hA hx h1
  have hc := cell_in pb sb tb n m j W1 h1.pool h1.n64 hm hj
  have c0 : W1.cell? ⟨sb, (m * 4096 + j) * 10 + 2, none⟩ = some (.int .u8 (li (m * 4096 + j)).1) := by rw [h1.slab.cell (by omega), slabF_2]
  have c1 : W1.cell? ⟨sb, (m * 4096 + j) * 10 + 3, none⟩ = some (.int .u8 (li (m * 4096 + j)).2) := by rw [h1.slab.cell (by omega), slabF_3]
  have x0 := hx.cell 0 rfl
  have x1 := hx.cell 1 rfl
  have y0 := hx.frozen 0
  have y1 := hx.frozen 1
  have hne : ¬ sb = w.heap.size := by omega
  obtain ⟨P, hP⟩ : ∃ P, li (m * 4096 + j) = P := ⟨_, rfl⟩
  rw [hP] at c0 c1 ⊢
  have hl1 := hx.lt
  have hsn := fs_ne
  replace hc := Lib.hid hc
  replace hA := Lib.hid hA
  replace hx := Lib.hid hx
  clear h h1 hP
  go_enter Try.func52, Try.ntmps52
  go_wp2_with fail
  refine hc.out.mono ?_
  rintro e w1 ⟨rfl, rfl⟩
  clear hc hW1
  go_wp2_with fail
  go_region
  go_wp2_with fail
  have hx2 : Blk ((w1.setCell ⟨w.heap.size, 0, none⟩ (.int .u8 P.1)).setCell ⟨w.heap.size, 1, none⟩ (.int .u8 P.2)).drew w.heap.size [.int .u8 P.1, .int .u8 P.2] 42 := ((hx.out.set 0 _).set 1 _).drew
  refine bodyPost_ret (results_cell_row rfl _ _ w.heap.size 42 #[.int .u8 P.1, .int .u8 P.2] (0, 0) _ rfl hx2 Try.underlying42 rfl (by kernel_rfl)) rfl ?_
  exact ⟨rfl, ((hA.out.setCell (p := ⟨_, _, none⟩) (Nat.le_refl _) _).setCell (p := ⟨_, _, none⟩) (Nat.le_refl _) _).drew⟩
set_option maxRecDepth 100000 in
set_option maxHeartbeats 4000000 in
theorem flight_no (p : Option Addr) (f i : Int) (w : World) (hc : ∀ W : World, Below w.heap.size w W → Calls Try.prog 34 #[.pointer p, .int .i64 f, .int .i64 i] W fun e w' => e = .returned (.slice none 0 0) ∧ w' = W) :
    Calls Try.prog 52 #[.pointer p, .int .i64 f, .int .i64 i] w fun e w' => e = .returned (.agg #[.int .u8 0, .int .u8 0]) ∧ Below w.heap.size w w' := by
  have hA : Below w.heap.size w (w.alloc (.cells #[.int .u8 0, .int .u8 0] 42)) := (Below.refl _ _).alloc (Nat.le_refl _) _
  have hx := Blk.new w #[.int .u8 0, .int .u8 0] 42
  obtain ⟨W1, hW1⟩ : ∃ W1, w.alloc (.cells #[.int .u8 0, .int .u8 0] 42) = W1 := ⟨_, rfl⟩
  rw [hW1] at hA hx
  replace hc := hc W1 hA
  have x0 := hx.cell 0 rfl
  have x1 := hx.cell 1 rfl
  have y0 := hx.frozen 0
  have y1 := hx.frozen 1
  have hl1 := hx.lt
  have hsn := fs_ne
  replace hc := Lib.hid hc
  replace hA := Lib.hid hA
  replace hx := Lib.hid hx
  go_enter Try.func52, Try.ntmps52
  go_wp2_with fail
  refine hc.out.mono ?_
  rintro e w1 ⟨rfl, rfl⟩
  clear hc hW1
  go_wp2_with fail
  have hx2 : Blk ((w1.setCell ⟨w.heap.size, 0, none⟩ (.int .u8 0)).setCell ⟨w.heap.size, 1, none⟩ (.int .u8 0)) w.heap.size [.int .u8 0, .int .u8 0] 42 := (hx.out.set 0 _).set 1 _
  refine bodyPost_ret (results_cell_row rfl _ _ w.heap.size 42 #[.int .u8 0, .int .u8 0] (0, 0) _ rfl hx2 Try.underlying42 rfl (by kernel_rfl)) rfl ?_
  exact ⟨rfl, (hA.out.setCell (p := ⟨_, _, none⟩) (Nat.le_refl _) _).setCell (p := ⟨_, _, none⟩) (Nat.le_refl _) _⟩
theorem flight_calls (pb sb tb n : Nat) (ce li : Nat → Int × Int) (du : Nat → Int) (tk : Nat → Bool) (f i : Int) (w : World) (h : Po w pb sb tb n ce li du tk) :
    Calls Try.prog 52 #[.pointer (some ⟨pb, 0, none⟩), .int .i64 f, .int .i64 i] w fun e w' => e = .returned (.agg #[.int .u8 (atP n li f i).1, .int .u8 (atP n li f i).2]) ∧ Below w.heap.size w w' := by
  by_cases hr : inR n f i
  · obtain ⟨m, j, rfl, rfl, hm, hj⟩ := inR_nat hr
    rw [atP_in hm hj]
    exact flight_in pb sb tb n ce li du tk m j w h hm hj
  · rw [atP_no hr]
    exact flight_no _ f i w fun W hb => cell_no pb sb tb n f i W (h.keep hb).pool h.n64 hr

set_option maxRecDepth 100000 in
set_option maxHeartbeats 4000000 in
theorem due_no (p : Option Addr) (f i : Int) (w : World) (hc : Calls Try.prog 34 #[.pointer p, .int .i64 f, .int .i64 i] w fun e w' => e = .returned (.slice none 0 0) ∧ w' = w) :
    Calls Try.prog 18 #[.pointer p, .int .i64 f, .int .i64 i] w fun e w' => e = .returned (.int .i64 0) ∧ w' = w := by
  have hsn := fs_ne
  replace hc := Lib.hid hc
  go_enter Try.func18, Try.ntmps18
  go_wp2_with fail
  refine hc.out.mono ?_
  rintro e w1 ⟨rfl, rfl⟩
  clear hc
  go_wp2_with fail
  go_ret
  exact ⟨rfl, rfl⟩
set_option maxRecDepth 100000 in
set_option maxHeartbeats 4000000 in
theorem pdue_calls (pb sb tb n : Nat) (ce li : Nat → Int × Int) (du : Nat → Int) (tk : Nat → Bool) (f i : Int) (w : World) (h : Po w pb sb tb n ce li du tk) :
    Calls Try.prog 18 #[.pointer (some ⟨pb, 0, none⟩), .int .i64 f, .int .i64 i] w fun e w' => e = .returned (.int .i64 (atD n du f i)) ∧ w' = w := by
  by_cases hr : inR n f i
  · obtain ⟨m, j, rfl, rfl, hm, hj⟩ := inR_nat hr
    rw [atD_in hm hj]
    have hc := cell_in pb sb tb n m j w h.pool h.n64 hm hj
    have hd := h.dub (m * 4096 + j)
    have hu := fdue_calls sb ((m * 4096 + j) * 10) 10 10 (du (m * 4096 + j)) w hd.1 (by omega) (Nat.le_refl _) (by omega) (Nat.le_refl _) (fun b hb => by rw [h.slab.cell (by omega), slabF_4 _ hb])
    have hsn := fs_ne
    replace hc := Lib.hid hc
    replace hu := Lib.hid hu
    clear h hr
    go_enter Try.func18, Try.ntmps18
    go_wp2_with fail
    refine hc.out.mono ?_
    rintro e w1 ⟨rfl, rfl⟩
    clear hc
    go_wp2_with fail
    refine hu.out.mono ?_
    rintro e w1 ⟨rfl, rfl⟩
    clear hu
    go_wp2_with fail
    go_ret
    exact ⟨rfl, rfl⟩
  · rw [atD_no hr]
    exact due_no _ f i w (cell_no pb sb tb n f i w h.pool h.n64 hr)
end Go.Proofs.Ytlaodkolkoefgaa
