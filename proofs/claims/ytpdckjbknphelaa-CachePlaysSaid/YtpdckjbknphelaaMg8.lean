/-
  A cell of a frame, its light, and when it is due.
-/
import Derived.Test.YtpdckjbknphelaaFrB
namespace Go.Proofs.Ytpdckjbknphelaa
open Go.RowKit
set_option linter.unusedSimpArgs false
set_option linter.unusedVariables false

def atP (n : Nat) (ce : Nat → Int × Int) (f i : Int) : Int × Int := if inR n f i then ce (f.toNat * 4096 + i.toNat) else (0, 0)
def atD (n : Nat) (du : Nat → Int) (f i : Int) : Int := if inR n f i then du (f.toNat * 4096 + i.toNat) else 0
theorem inR_nat {n : Nat} {f i : Int} (h : inR n f i) : ∃ m j : Nat, f = m ∧ i = j ∧ m < n ∧ j < 4096 := by
  unfold inR at h
  exact ⟨f.toNat, i.toNat, by omega, by omega, by omega, by omega⟩
theorem atP_in {n : Nat} {ce : Nat → Int × Int} {m j : Nat} (hm : m < n) (hj : j < 4096) : atP n ce m j = ce (m * 4096 + j) := by
  unfold atP
  rw [if_pos (by unfold inR; omega)]
  simp
theorem atP_no {n : Nat} {ce : Nat → Int × Int} {f i : Int} (h : ¬ inR n f i) : atP n ce f i = (0, 0) := if_neg h
theorem atD_in {n : Nat} {du : Nat → Int} {m j : Nat} (hm : m < n) (hj : j < 4096) : atD n du m j = du (m * 4096 + j) := by
  unfold atD
  rw [if_pos (by unfold inR; omega)]
  simp
theorem atD_no {n : Nat} {du : Nat → Int} {f i : Int} (h : ¬ inR n f i) : atD n du f i = 0 := if_neg h

set_option maxRecDepth 100000 in
set_option maxHeartbeats 4000000 in
theorem fcell_in (pb sb tb n : Nat) (ce li : Nat → Int × Int) (du : Nat → Int) (tk : Nat → Bool) (m j : Nat) (w : World) (h : Po w pb sb tb n ce li du tk) (hm : m < n) (hj : j < 4096) :
    Calls Try.prog 21 #[.pointer (some ⟨pb, 0, none⟩), .int .i64 m, .int .i64 j] w fun e w' => e = .returned (.agg #[.int .u8 (ce (m * 4096 + j)).1, .int .u8 (ce (m * 4096 + j)).2]) ∧ Below w.heap.size w w' := by
  have hA : Below w.heap.size w (w.alloc (.cells #[.int .u8 0, .int .u8 0] 51)) := (Below.refl _ _).alloc (Nat.le_refl _) _
  have hx := Blk.new w #[.int .u8 0, .int .u8 0] 51
  have h1 := h.alloc (.cells #[.int .u8 0, .int .u8 0] 51)
  have hsb := h.slab.lt
  obtain ⟨W1, hW1⟩ : ∃ W1, w.alloc (.cells #[.int .u8 0, .int .u8 0] 51) = W1 := ⟨_, rfl⟩
  rw [hW1] at hA hx h1
  have hc := cell_in pb sb tb n m j W1 h1.pool h1.n64 hm hj
  have c0 : W1.cell? ⟨sb, (m * 4096 + j) * 10, none⟩ = some (.int .u8 (ce (m * 4096 + j)).1) := by rw [h1.slab.cell (by omega), slabF_0]
  have c1 : W1.cell? ⟨sb, (m * 4096 + j) * 10 + 1, none⟩ = some (.int .u8 (ce (m * 4096 + j)).2) := by rw [h1.slab.cell (by omega), slabF_1]
  have x0 := hx.cell 0 rfl
  have x1 := hx.cell 1 rfl
  have y0 := hx.frozen 0
  have y1 := hx.frozen 1
  have hne : ¬ sb = w.heap.size := by omega
  obtain ⟨P, hP⟩ : ∃ P, ce (m * 4096 + j) = P := ⟨_, rfl⟩
  rw [hP] at c0 c1 ⊢
  have hl1 := hx.lt
  have hsn := fs_ne
  replace hc := Lib.hid hc
  replace hA := Lib.hid hA
  replace hx := Lib.hid hx
  clear h h1 hP
  go_enter Try.func21, Try.ntmps21
  go_wp2_with fail
  refine hc.out.mono ?_
  rintro e w1 ⟨rfl, rfl⟩
  clear hc hW1
  go_wp2_with fail
  go_region
  go_wp2_with fail
  have hx2 : Blk ((w1.setCell ⟨w.heap.size, 0, none⟩ (.int .u8 P.1)).setCell ⟨w.heap.size, 1, none⟩ (.int .u8 P.2)).drew w.heap.size [.int .u8 P.1, .int .u8 P.2] 51 := ((hx.out.set 0 _).set 1 _).drew
  refine bodyPost_ret (results_cell_row rfl _ _ w.heap.size 51 #[.int .u8 P.1, .int .u8 P.2] (0, 0) _ rfl hx2 Try.underlying51 rfl (by kernel_rfl)) rfl ?_
  exact ⟨rfl, ((hA.out.setCell (p := ⟨_, _, none⟩) (Nat.le_refl _) _).setCell (p := ⟨_, _, none⟩) (Nat.le_refl _) _).drew⟩
set_option maxRecDepth 100000 in
set_option maxHeartbeats 4000000 in
theorem fcell_no (p : Option Addr) (f i : Int) (w : World) (hc : ∀ W : World, Below w.heap.size w W → Calls Try.prog 40 #[.pointer p, .int .i64 f, .int .i64 i] W fun e w' => e = .returned (.slice none 0 0) ∧ w' = W) :
    Calls Try.prog 21 #[.pointer p, .int .i64 f, .int .i64 i] w fun e w' => e = .returned (.agg #[.int .u8 0, .int .u8 0]) ∧ Below w.heap.size w w' := by
  have hA : Below w.heap.size w (w.alloc (.cells #[.int .u8 0, .int .u8 0] 51)) := (Below.refl _ _).alloc (Nat.le_refl _) _
  have hx := Blk.new w #[.int .u8 0, .int .u8 0] 51
  obtain ⟨W1, hW1⟩ : ∃ W1, w.alloc (.cells #[.int .u8 0, .int .u8 0] 51) = W1 := ⟨_, rfl⟩
  rw [hW1] at hA hx
  replace hc := hc W1 hA
  have x0 := hx.cell 0 rfl
  have x1 := hx.cell 1 rfl
  have y0 := hx.frozen 0
  have y1 := hx.frozen 1
  have hl1 := hx.lt
  have hsn := fs_ne
  replace hc := Lib.hid hc
  replace hA := Lib.hid hA
  replace hx := Lib.hid hx
  go_enter Try.func21, Try.ntmps21
  go_wp2_with fail
  refine hc.out.mono ?_
  rintro e w1 ⟨rfl, rfl⟩
  clear hc hW1
  go_wp2_with fail
  have hx2 : Blk ((w1.setCell ⟨w.heap.size, 0, none⟩ (.int .u8 0)).setCell ⟨w.heap.size, 1, none⟩ (.int .u8 0)) w.heap.size [.int .u8 0, .int .u8 0] 51 := (hx.out.set 0 _).set 1 _
  refine bodyPost_ret (results_cell_row rfl _ _ w.heap.size 51 #[.int .u8 0, .int .u8 0] (0, 0) _ rfl hx2 Try.underlying51 rfl (by kernel_rfl)) rfl ?_
  exact ⟨rfl, (hA.out.setCell (p := ⟨_, _, none⟩) (Nat.le_refl _) _).setCell (p := ⟨_, _, none⟩) (Nat.le_refl _) _⟩
theorem fcell_calls (pb sb tb n : Nat) (ce li : Nat → Int × Int) (du : Nat → Int) (tk : Nat → Bool) (f i : Int) (w : World) (h : Po w pb sb tb n ce li du tk) :
    Calls Try.prog 21 #[.pointer (some ⟨pb, 0, none⟩), .int .i64 f, .int .i64 i] w fun e w' => e = .returned (.agg #[.int .u8 (atP n ce f i).1, .int .u8 (atP n ce f i).2]) ∧ Below w.heap.size w w' := by
  by_cases hr : inR n f i
  · obtain ⟨m, j, rfl, rfl, hm, hj⟩ := inR_nat hr
    rw [atP_in hm hj]
    exact fcell_in pb sb tb n ce li du tk m j w h hm hj
  · rw [atP_no hr]
    exact fcell_no _ f i w fun W hb => cell_no pb sb tb n f i W (h.keep hb).pool h.n64 hr
end Go.Proofs.Ytpdckjbknphelaa

/-
  A cell, a light, a due of a frame is set.
-/
namespace Go.Proofs.Ytpdckjbknphelaa
open Go.RowKit
set_option linter.unusedSimpArgs false
set_option linter.unusedVariables false

section
variable {w w' : World} {pb sb tb n : Nat} {ce li : Nat → Int × Int} {du : Nat → Int} {tk : Nat → Bool}
theorem Po.setCe (h : Po w pb sb tb n ce li du tk) {m j : Nat} (hm : m < n) (hj : j < 4096) {x y : Int} (hx : 0 ≤ x ∧ x ≤ 255) (hy : 0 ≤ y ∧ y ≤ 255) : Po ((w.setCell ⟨sb, (m * 4096 + j) * 10, none⟩ (.int .u8 x)).setCell ⟨sb, (m * 4096 + j) * 10 + 1, none⟩ (.int .u8 y)) pb sb tb n (updP ce (m * 4096 + j) (x, y)) li du tk :=
  h.slabBut (((But.refl sb w).setCell _ _).setCell _ _) (((h.slab.set _ _).set _ _).congr fun i _ => slab_cell (m * 4096 + j) x y i) h.dub (h.uc.upd _ hx hy) h.ul
theorem Po.setLi (h : Po w pb sb tb n ce li du tk) {m j : Nat} (hm : m < n) (hj : j < 4096) {x y : Int} (hx : 0 ≤ x ∧ x ≤ 255) (hy : 0 ≤ y ∧ y ≤ 255) : Po ((w.setCell ⟨sb, (m * 4096 + j) * 10 + 2, none⟩ (.int .u8 x)).setCell ⟨sb, (m * 4096 + j) * 10 + 3, none⟩ (.int .u8 y)) pb sb tb n ce (updP li (m * 4096 + j) (x, y)) du tk :=
  h.slabBut (((But.refl sb w).setCell _ _).setCell _ _) (((h.slab.set _ _).set _ _).congr fun i _ => slab_light (m * 4096 + j) x y i) h.dub h.uc (h.ul.upd _ hx hy)
end

set_option maxRecDepth 100000 in
set_option maxHeartbeats 4000000 in
/-- There is such a cell, and it may be so: it is set. -/
theorem fset_yes (pb sb tb n : Nat) (ce li : Nat → Int × Int) (du : Nat → Int) (tk : Nat → Bool) (m j : Nat) (x y : Int) (w : World) (h : Po w pb sb tb n ce li du tk) (hm : m < n) (hj : j < 4096) (hx : 0 ≤ x ∧ x ≤ 255) (hy : 0 ≤ y ∧ y ≤ 255) (hk : mayK x y = true) :
    Calls Try.prog 18 #[.pointer (some ⟨pb, 0, none⟩), .int .i64 m, .int .i64 j, .agg #[.int .u8 x, .int .u8 y]] w fun e w' => e = .returned (.bool true) ∧ Po w' pb sb tb n (updP ce (m * 4096 + j) (x, y)) li du tk ∧ But sb w w' := by
  have hA : Below w.heap.size w (w.alloc (.cells #[.int .u8 x, .int .u8 y] 51)) := (Below.refl _ _).alloc (Nat.le_refl _) _
  have hb := Blk.new w #[.int .u8 x, .int .u8 y] 51
  have h1 := h.alloc (.cells #[.int .u8 x, .int .u8 y] 51)
  have hsb := h.slab.lt
  obtain ⟨W1, hW1⟩ : ∃ W1, w.alloc (.cells #[.int .u8 x, .int .u8 y] 51) = W1 := ⟨_, rfl⟩
  rw [hW1] at hA hb h1
  have hc := cell_in pb sb tb n m j W1 h1.pool h1.n64 hm hj
  have hma := kmay_calls x y W1 hx.1 hx.2 hy.1
  rw [hk] at hma
  have x0 := hb.cell 0 rfl
  have x1 := hb.cell 1 rfl
  have hse := fs_eq
  replace hc := Lib.hid hc
  replace hma := Lib.hid hma
  replace hA := Lib.hid hA
  replace h1 := Lib.hid h1
  replace hb := Lib.hid hb
  clear h
  go_enter Try.func18, Try.ntmps18
  go_wp2_with fail
  refine hc.out.mono ?_
  rintro e w1 ⟨rfl, rfl⟩
  clear hc
  go_wp2_with fail
  refine hma.out.mono ?_
  rintro e W2 ⟨rfl, hb2⟩
  clear hma hW1 x0 x1
  have h2 := h1.out.keep hb2
  have hbb := hb.out.below hb2 hb.out.lt
  have x0 := hbb.cell 0 rfl
  have x1 := hbb.cell 1 rfl
  have s0 := h2.b hm hj (b := 0) (by omega)
  have s1 := h2.b hm hj (b := 1) (by omega)
  rw [Nat.add_zero] at s0
  have z0 := h2.slab.frozen ((m * 4096 + j) * 10)
  have z1 := h2.slab.frozen ((m * 4096 + j) * 10 + 1)
  obtain ⟨v0, hv0⟩ : ∃ v, slabF ce li du ((m * 4096 + j) * 10) = v := ⟨_, rfl⟩
  obtain ⟨v1, hv1⟩ : ∃ v, slabF ce li du ((m * 4096 + j) * 10 + 1) = v := ⟨_, rfl⟩
  rw [hv0] at s0
  rw [hv1] at s1
  have hl2 := h2.slab.lt
  have hfin := h2.setCe hm hj hx hy
  have hne : ¬ w.heap.size = sb := by omega
  have hbut : But sb w ((W2.setCell ⟨sb, (m * 4096 + j) * 10, none⟩ (.int .u8 x)).setCell ⟨sb, (m * 4096 + j) * 10 + 1, none⟩ (.int .u8 y)) := ((But.of_below (hA.out.trans (hb2.mono hA.out.size))).setCell _ _).setCell _ _
  replace hfin := Lib.hid hfin
  replace hbut := Lib.hid hbut
  clear h1 hb hbb h2 hb2 hv0 hv1 hA hk
  go_wp2_with fail
  go_region
  go_wp2_with fail
  go_ret
  exact ⟨rfl, hfin.out.drewN 1, hbut.out.drew⟩

set_option maxRecDepth 100000 in
set_option maxHeartbeats 4000000 in
/-- It may not be so: nothing is set. -/
theorem fset_not (pb sb tb n : Nat) (m j : Nat) (x y : Int) (w : World) (hp : Blk w pb (poolC sb tb n) 111) (hn : n ≤ 64) (hm : m < n) (hj : j < 4096) (hx : 0 ≤ x ∧ x ≤ 255) (hy : 0 ≤ y ∧ y ≤ 255) (hk : mayK x y = false) :
    Calls Try.prog 18 #[.pointer (some ⟨pb, 0, none⟩), .int .i64 m, .int .i64 j, .agg #[.int .u8 x, .int .u8 y]] w fun e w' => e = .returned (.bool false) ∧ Below w.heap.size w w' := by
  have hA : Below w.heap.size w (w.alloc (.cells #[.int .u8 x, .int .u8 y] 51)) := (Below.refl _ _).alloc (Nat.le_refl _) _
  have hb := Blk.new w #[.int .u8 x, .int .u8 y] 51
  have h1 := hp.alloc (.cells #[.int .u8 x, .int .u8 y] 51)
  obtain ⟨W1, hW1⟩ : ∃ W1, w.alloc (.cells #[.int .u8 x, .int .u8 y] 51) = W1 := ⟨_, rfl⟩
  rw [hW1] at hA hb h1
  have hc := cell_in pb sb tb n m j W1 h1 hn hm hj
  have hma := kmay_calls x y W1 hx.1 hx.2 hy.1
  rw [hk] at hma
  have x0 := hb.cell 0 rfl
  have x1 := hb.cell 1 rfl
  have hse := fs_eq
  replace hc := Lib.hid hc
  replace hma := Lib.hid hma
  replace hA := Lib.hid hA
  clear h1 hb hp
  go_enter Try.func18, Try.ntmps18
  go_wp2_with fail
  refine hc.out.mono ?_
  rintro e w1 ⟨rfl, rfl⟩
  clear hc
  go_wp2_with fail
  refine hma.out.mono ?_
  rintro e W2 ⟨rfl, hb2⟩
  clear hma hW1 x0 x1
  have hA2 := hA.out.trans (hb2.mono hA.out.size)
  replace hA2 := Lib.hid hA2
  clear hb2 hA hk
  go_wp2_with fail
  go_ret
  exact ⟨rfl, hA2.out⟩
set_option maxRecDepth 100000 in
set_option maxHeartbeats 4000000 in
theorem fset_none (p : Option Addr) (f i : Int) (x y : Int) (w : World) (hc : ∀ W : World, Below w.heap.size w W → Calls Try.prog 40 #[.pointer p, .int .i64 f, .int .i64 i] W fun e w' => e = .returned (.slice none 0 0) ∧ w' = W) :
    Calls Try.prog 18 #[.pointer p, .int .i64 f, .int .i64 i, .agg #[.int .u8 x, .int .u8 y]] w fun e w' => e = .returned (.bool false) ∧ Below w.heap.size w w' := by
  have hA : Below w.heap.size w (w.alloc (.cells #[.int .u8 x, .int .u8 y] 51)) := (Below.refl _ _).alloc (Nat.le_refl _) _
  obtain ⟨W1, hW1⟩ : ∃ W1, w.alloc (.cells #[.int .u8 x, .int .u8 y] 51) = W1 := ⟨_, rfl⟩
  rw [hW1] at hA
  replace hc := hc W1 hA
  have hse := fs_eq
  replace hc := Lib.hid hc
  replace hA := Lib.hid hA
  go_enter Try.func18, Try.ntmps18
  go_wp2_with fail
  refine hc.out.mono ?_
  rintro e w1 ⟨rfl, rfl⟩
  clear hc hW1
  go_wp2_with fail
  go_ret
  exact ⟨rfl, hA.out⟩
/-! Together. -/
def setP (n : Nat) (ok : Bool) (ce : Nat → Int × Int) (f i : Int) (v : Int × Int) : Nat → Int × Int := if inR n f i ∧ ok = true then updP ce (f.toNat * 4096 + i.toNat) v else ce
def okL (x y : Int) : Bool := decide (x ≤ 15 ∧ y ≤ 15)
theorem setcell_calls (pb sb tb n : Nat) (ce li : Nat → Int × Int) (du : Nat → Int) (tk : Nat → Bool) (f i : Int) (x y : Int) (w : World) (h : Po w pb sb tb n ce li du tk) (hx : 0 ≤ x ∧ x ≤ 255) (hy : 0 ≤ y ∧ y ≤ 255) :
    Calls Try.prog 18 #[.pointer (some ⟨pb, 0, none⟩), .int .i64 f, .int .i64 i, .agg #[.int .u8 x, .int .u8 y]] w fun e w' => e = .returned (.bool (decide (inR n f i) && mayK x y)) ∧ Po w' pb sb tb n (setP n (mayK x y) ce f i (x, y)) li du tk ∧ But sb w w' := by
  by_cases hr : inR n f i
  · rw [decide_eq_true hr, Bool.true_and]
    obtain ⟨m, j, rfl, rfl, hm, hj⟩ := inR_nat hr
    unfold setP
    cases hk : mayK x y with
    | true =>
      rw [if_pos ⟨hr, rfl⟩]
      exact fset_yes pb sb tb n ce li du tk m j x y w h hm hj hx hy hk
    | false =>
      rw [if_neg (fun h => by cases h.2)]
      exact (fset_not pb sb tb n m j x y w h.pool h.n64 hm hj hx hy hk).mono fun _ _ ⟨he, hb⟩ => ⟨he, h.keep hb, But.of_below hb⟩
  · rw [decide_eq_false hr, Bool.false_and]
    unfold setP
    rw [if_neg (fun h => hr h.1)]
    exact (fset_none _ f i x y w fun W hb => cell_no pb sb tb n f i W (h.keep hb).pool h.n64 hr).mono fun _ _ ⟨he, hb⟩ => ⟨he, h.keep hb, But.of_below hb⟩
end Go.Proofs.Ytpdckjbknphelaa
