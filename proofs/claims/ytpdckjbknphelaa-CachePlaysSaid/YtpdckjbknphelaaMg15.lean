/-
  What Load refuses.
-/
import Derived.Test.YtpdckjbknphelaaFrK
namespace Go.Proofs.Ytpdckjbknphelaa
open Go.RowKit
set_option linter.unusedSimpArgs false
set_option linter.unusedVariables false

set_option maxHeartbeats 1000000 in
theorem check_nil (w : World) : Calls Try.prog 52 #[.pointer none] w fun e w' => e = .returned (.int .i64 1) ∧ Below w.heap.size w w' := by
  go_enter Try.func52, Try.ntmps52
  go_wp2_with fail
  go_ret
  exact ⟨rfl, Below.refl _ _⟩
set_option maxRecDepth 100000 in
set_option maxHeartbeats 4000000 in
/-- The chunk may not be. -/
theorem pload_bad (pb sb tb n f : Nat) (c : Option Addr) (E : Int) (w : World) (hp : Blk w pb (poolC sb tb n) 111) (hn : n ≤ 64) (hf : f < n) (hE : E ≠ 0)
    (hc : Calls Try.prog 52 #[.pointer c] w fun e w' => e = .returned (.int .i64 E) ∧ Below w.heap.size w w') :
    Calls Try.prog 36 #[.pointer (some ⟨pb, 0, none⟩), .int .i64 f, .pointer c] w fun e w' => e = .returned (.int .i64 E) ∧ Below w.heap.size w w' := by
  have hfr := frame_in pb sb tb n f w hp hn hf
  have c1 : w.cell? ⟨pb, 1, none⟩ = some (.slice (some ⟨tb, 0, none⟩) n n) := hp.cell 1 rfl
  have hse := fs_eq
  have hbe := bs_eq
  have hE0 : (E == 0) = false := beq_eq_false_iff_ne.2 hE
  replace hfr := Lib.hid hfr
  replace hc := Lib.hid hc
  replace hE := Lib.hid hE
  clear hp
  go_enter Try.func36, Try.ntmps36
  go_wp2_with fail
  refine hfr.out.mono ?_
  rintro e w1 ⟨rfl, rfl⟩
  clear hfr
  go_wp2_with fail
  refine hc.out.mono ?_
  rintro e W1 ⟨rfl, B1⟩
  clear hc c1
  replace B1 := Lib.hid B1
  go_wp2_with fail
  go_ret
  exact ⟨rfl, B1.out⟩
set_option maxRecDepth 100000 in
set_option maxHeartbeats 4000000 in
theorem pload_out (pb n cp tb : Nat) (f : Int) (c : Option Addr) (w : World) (c1 : w.cell? ⟨pb, 1, none⟩ = some (.slice (some ⟨tb, 0, none⟩) n cp)) (hc : Calls Try.prog 51 #[.pointer (some ⟨pb, 0, none⟩), .int .i64 f] w fun e w' => e = .returned (.slice none 0 0) ∧ w' = w) :
    Calls Try.prog 36 #[.pointer (some ⟨pb, 0, none⟩), .int .i64 f, .pointer c] w fun e w' => e = .returned (.int .i64 2) ∧ w' = w := by
  have hse := fs_eq
  have hbe := bs_eq
  replace hc := Lib.hid hc
  go_enter Try.func36, Try.ntmps36
  go_wp2_with fail
  refine hc.out.mono ?_
  rintro e w1 ⟨rfl, rfl⟩
  clear hc
  go_wp2_with fail
  go_ret
  exact ⟨rfl, rfl⟩
set_option maxRecDepth 100000 in
set_option maxHeartbeats 4000000 in
theorem pload_nil (f : Int) (c : Option Addr) (w : World) : Calls Try.prog 36 #[.pointer none, .int .i64 f, .pointer c] w fun e w' => e = .returned (.int .i64 1) ∧ w' = w := by
  go_enter Try.func36, Try.ntmps36
  go_wp2_with fail
  go_ret
  exact ⟨rfl, rfl⟩
set_option maxRecDepth 100000 in
set_option maxHeartbeats 4000000 in
theorem pload_zero (pb : Nat) (f : Int) (c : Option Addr) (w : World) (c1 : w.cell? ⟨pb, 1, none⟩ = some (.slice none 0 0)) : Calls Try.prog 36 #[.pointer (some ⟨pb, 0, none⟩), .int .i64 f, .pointer c] w fun e w' => e = .returned (.int .i64 1) ∧ w' = w := by
  have hbe := bs_eq
  go_enter Try.func36, Try.ntmps36
  go_wp2_with fail
  go_ret
  exact ⟨rfl, rfl⟩
set_option maxRecDepth 100000 in
set_option maxHeartbeats 4000000 in
theorem pstore_none (p : Option Addr) (f : Int) (w : World) (hc : Calls Try.prog 51 #[.pointer p, .int .i64 f] w fun e w' => e = .returned (.slice none 0 0) ∧ w' = w) :
    Calls Try.prog 50 #[.pointer p, .int .i64 f] w fun e w' => e = .returned (.pointer none) ∧ w' = w := by
  have hse := fs_eq
  replace hc := Lib.hid hc
  go_enter Try.func50, Try.ntmps50
  go_wp2_with fail
  refine hc.out.mono ?_
  rintro e w1 ⟨rfl, rfl⟩
  clear hc
  go_wp2_with fail
  go_ret
  exact ⟨rfl, rfl⟩
end Go.Proofs.Ytpdckjbknphelaa

/-
  A pool of the walk's own: what each call leaves of it; awake.
-/
namespace Go.Proofs.Ytpdckjbknphelaa
open Go.RowKit
set_option linter.unusedSimpArgs false
set_option linter.unusedVariables false

/-- A pool in blocks that are new since w; below them nothing has changed. -/
def Fp (w W : World) (pb sb tb n : Nat) (ce li : Nat → Int × Int) (du : Nat → Int) (tk : Nat → Bool) : Prop := Po W pb sb tb n ce li du tk ∧ w.heap.size ≤ pb ∧ w.heap.size ≤ sb ∧ w.heap.size ≤ tb ∧ Below w.heap.size w W
section
variable {w W W' : World} {pb sb tb n : Nat} {ce li : Nat → Int × Int} {du : Nat → Int} {tk : Nat → Bool}
theorem Fp.keep (h : Fp w W pb sb tb n ce li du tk) (hb : Below W.heap.size W W') : Fp w W' pb sb tb n ce li du tk := ⟨h.1.keep hb, h.2.1, h.2.2.1, h.2.2.2.1, h.2.2.2.2.trans (hb.mono h.2.2.2.2.size)⟩
theorem Fp.alloc (h : Fp w W pb sb tb n ce li du tk) (o : Obj) : Fp w (W.alloc o) pb sb tb n ce li du tk := h.keep ((Below.refl _ _).alloc (Nat.le_refl _) o)
theorem Fp.drewN (h : Fp w W pb sb tb n ce li du tk) (q : Nat) : Fp w (W.drewN q) pb sb tb n ce li du tk := h.keep (below_drewN (Below.refl _ _) q)
theorem Fp.ext (h : Fp w W pb sb tb n ce li du tk) (p : Ext) : Fp w (Go.Proofs.Ytpdckjbknphelaa.ext W p) pb sb tb n ce li du tk := h.keep (below_ext W p)
theorem Fp.below (h : Fp w W pb sb tb n ce li du tk) : Below w.heap.size w W := h.2.2.2.2
theorem Fp.sbut {ce' li' : Nat → Int × Int} {du' : Nat → Int} {tk' : Nat → Bool} (h : Fp w W pb sb tb n ce li du tk) (hp : Po W' pb sb tb n ce' li' du' tk') (hb : But sb W W') : Fp w W' pb sb tb n ce' li' du' tk' := ⟨hp, h.2.1, h.2.2.1, h.2.2.2.1, But.step h.below hb h.2.2.1 h.below.size⟩
theorem Fp.tbut {ce' li' : Nat → Int × Int} {du' : Nat → Int} {tk' : Nat → Bool} (h : Fp w W pb sb tb n ce li du tk) (hp : Po W' pb sb tb n ce' li' du' tk') (hb : But tb W W') : Fp w W' pb sb tb n ce' li' du' tk' := ⟨hp, h.2.1, h.2.2.1, h.2.2.2.1, But.step h.below hb h.2.2.2.1 h.below.size⟩
theorem Fp.but2 {ce' li' : Nat → Int × Int} {du' : Nat → Int} {tk' : Nat → Bool} (h : Fp w W pb sb tb n ce li du tk) (hp : Po W' pb sb tb n ce' li' du' tk') (hb : But2 sb tb W W') : Fp w W' pb sb tb n ce' li' du' tk' := ⟨hp, h.2.1, h.2.2.1, h.2.2.2.1, But2.step h.below hb h.2.2.1 h.2.2.2.1 h.below.size⟩
theorem Fp.lt (h : Fp w W pb sb tb n ce li du tk) : sb < W.heap.size := h.1.slab.lt
theorem Fp.cell (h : Fp w W pb sb tb n ce li du tk) (f i : Int) :
    Calls Try.prog 21 #[.pointer (some ⟨pb, 0, none⟩), .int .i64 f, .int .i64 i] W fun e w' => e = .returned (.agg #[.int .u8 (atP n ce f i).1, .int .u8 (atP n ce f i).2]) ∧ Fp w w' pb sb tb n ce li du tk ∧ Below W.heap.size W w' :=
  (fcell_calls pb sb tb n ce li du tk f i W h.1).mono fun _ _ ⟨he, hb⟩ => ⟨he, h.keep hb, hb⟩
theorem Fp.set (h : Fp w W pb sb tb n ce li du tk) (f i : Int) {x y : Int} (hx : 0 ≤ x ∧ x ≤ 255) (hy : 0 ≤ y ∧ y ≤ 255) :
    Calls Try.prog 18 #[.pointer (some ⟨pb, 0, none⟩), .int .i64 f, .int .i64 i, .agg #[.int .u8 x, .int .u8 y]] W fun e w' => e = .returned (.bool (decide (inR n f i) && mayK x y)) ∧ Fp w w' pb sb tb n (setP n (mayK x y) ce f i (x, y)) li du tk ∧ But sb W w' :=
  (setcell_calls pb sb tb n ce li du tk f i x y W h.1 hx hy).mono fun _ _ ⟨he, hp, hb⟩ => ⟨he, h.sbut hp hb, hb⟩
theorem Fp.store (h : Fp w W pb sb tb n ce li du tk) {f : Nat} (hf : f < n) :
    Calls Try.prog 50 #[.pointer (some ⟨pb, 0, none⟩), .int .i64 f] W fun e w' => ∃ b s, e = .returned (.pointer (some ⟨b, 0, none⟩)) ∧ W.heap.size ≤ b ∧ Ck w' b (partP 4096 (shP f ce)) (partP 4096 (shP f li)) s ∧ TOwn w' (b + 1) s (tickD (shD f du) 4096) ∧ Fp w w' pb sb tb n ce li du tk ∧ Below W.heap.size W w' :=
  (pstore_in pb sb tb n ce li du tk f W h.1 hf).mono fun _ _ ⟨b, s, he, h1, h2, h3, hb⟩ => ⟨b, s, he, h1, h2, h3, h.keep hb, hb⟩
theorem Fp.load (h : Fp w W pb sb tb n ce li du tk) {f cb : Nat} {cce cli : Nat → Int × Int} {s : Value} {ts : List Tk} (hf : f < n) (hk : Ck W cb cce cli s) (ht : TRow W s ts) (hu : U8 cce) (hul : U8 cli) (hok : checkE cce cli ts = 0) :
    Calls Try.prog 36 #[.pointer (some ⟨pb, 0, none⟩), .int .i64 f, .pointer (some ⟨cb, 0, none⟩)] W fun e w' => e = .returned (.int .i64 0) ∧ Fp w w' pb sb tb n (putP f cce ce) (putP f cli li) (putD f (duF ts) du) tk ∧ But sb W w' :=
  (pload_in pb sb tb n ce li du tk f cb cce cli s ts W h.1 hf hk ht hu hul hok).mono fun _ _ ⟨he, hp, hb⟩ => ⟨he, h.sbut hp hb, hb⟩
theorem Fp.loadBad (h : Fp w W pb sb tb n ce li du tk) {f cb : Nat} {cce cli : Nat → Int × Int} {s : Value} {ts : List Tk} (hf : f < n) (hk : Ck W cb cce cli s) (ht : TRow W s ts) (hu : U8 cce) (hok : checkE cce cli ts ≠ 0) :
    Calls Try.prog 36 #[.pointer (some ⟨pb, 0, none⟩), .int .i64 f, .pointer (some ⟨cb, 0, none⟩)] W fun e w' => e = .returned (.int .i64 (checkE cce cli ts)) ∧ Fp w w' pb sb tb n ce li du tk ∧ Below W.heap.size W w' :=
  (pload_bad pb sb tb n f _ _ W h.1.pool h.1.n64 hf hok (check_calls cb cce cli s ts W hk ht hu)).mono fun _ _ ⟨he, hb⟩ => ⟨he, h.keep hb, hb⟩
end
theorem Fp.start {w W : World} {pb sb tb n : Nat} (hp : Po W pb sb tb n zeroP zeroP (fun _ => 0) (fun _ => false)) (hf : Fresh w W pb sb tb) : Fp w W pb sb tb n zeroP zeroP (fun _ => 0) (fun _ => false) := ⟨hp, hf⟩

theorem fst_0 : Fst 2 (fun _ => false) (some 0) := ⟨fun k e => by cases e; exact ⟨by omega, rfl, fun j hj => absurd hj (Nat.not_lt_zero _)⟩, fun h => by cases h⟩
def tk1 : Nat → Bool := takenT (fun _ => false) (some 0)
def tk2 : Nat → Bool := takenT tk1 (some 1)
theorem fst_1 : Fst 2 tk1 (some 1) := ⟨fun k e => by cases e; exact ⟨by omega, rfl, fun j hj => by
  have e : j = 0 := by omega
  subst e
  rfl⟩, fun h => by cases h⟩
theorem fst_2 : Fst 2 tk2 none := ⟨fun k e => (by cases e), fun _ j hj => by
  rcases (show j = 0 ∨ j = 1 by omega) with rfl | rfl <;> rfl⟩
theorem used_2 : usedN tk2 2 = 2 := by decide
def ceA : Nat → Int × Int := setP 2 (mayK 4 0) zeroP 1 9 (4, 0)
def duA : Nat → Int := wakeD 2 (fun _ => 0) 1 9 5
theorem atA1 : atP 2 ceA 1 9 = (4, 0) := by decide
theorem atA2 : atP 2 ceA 0 9 = (0, 0) := by decide
theorem atA3 : atD 2 duA 1 9 = 5 := by decide
theorem setA : (decide (inR 2 1 9) && mayK 4 0) = true := by decide
end Go.Proofs.Ytpdckjbknphelaa
