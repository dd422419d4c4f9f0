/-
  A pool of the walk's own: what each call leaves of it; awake.
-/
import Derived.Test.YtlaodkolkoefgaaFrL
import Derived.Test.YtlaodkolkoefgaaMg0
namespace Go.Proofs.Ytlaodkolkoefgaa
open Go.RowKit
set_option linter.unusedSimpArgs false
set_option linter.unusedVariables false

/-- A pool in blocks that are new since w; below them nothing has changed. -/
def Fp (w W : World) (pb sb tb n : Nat) (ce li : Nat → Int × Int) (du : Nat → Int) (tk : Nat → Bool) : Prop := Po W pb sb tb n ce li du tk ∧ w.heap.size ≤ pb ∧ w.heap.size ≤ sb ∧ w.heap.size ≤ tb ∧ Below w.heap.size w W
section
variable {w W W' : World} {pb sb tb n : Nat} {ce li : Nat → Int × Int} {du : Nat → Int} {tk : Nat → Bool}
theorem Fp.keep (h : Fp w W pb sb tb n ce li du tk) (hb : Below W.heap.size W W') : Fp w W' pb sb tb n ce li du tk := ⟨h.1.keep hb, h.2.1, h.2.2.1, h.2.2.2.1, h.2.2.2.2.trans (hb.mono h.2.2.2.2.size)⟩
theorem Fp.alloc (h : Fp w W pb sb tb n ce li du tk) (o : Obj) : Fp w (W.alloc o) pb sb tb n ce li du tk := h.keep ((Below.refl _ _).alloc (Nat.le_refl _) o)
theorem Fp.drewN (h : Fp w W pb sb tb n ce li du tk) (q : Nat) : Fp w (W.drewN q) pb sb tb n ce li du tk := h.keep (below_drewN (Below.refl _ _) q)
theorem Fp.ext (h : Fp w W pb sb tb n ce li du tk) (p : Ext) : Fp w (Go.Proofs.Ytlaodkolkoefgaa.ext W p) pb sb tb n ce li du tk := h.keep (below_ext W p)
theorem Fp.below (h : Fp w W pb sb tb n ce li du tk) : Below w.heap.size w W := h.2.2.2.2
theorem Fp.sbut {ce' li' : Nat → Int × Int} {du' : Nat → Int} {tk' : Nat → Bool} (h : Fp w W pb sb tb n ce li du tk) (hp : Po W' pb sb tb n ce' li' du' tk') (hb : But sb W W') : Fp w W' pb sb tb n ce' li' du' tk' := ⟨hp, h.2.1, h.2.2.1, h.2.2.2.1, But.step h.below hb h.2.2.1 h.below.size⟩
theorem Fp.tbut {ce' li' : Nat → Int × Int} {du' : Nat → Int} {tk' : Nat → Bool} (h : Fp w W pb sb tb n ce li du tk) (hp : Po W' pb sb tb n ce' li' du' tk') (hb : But tb W W') : Fp w W' pb sb tb n ce' li' du' tk' := ⟨hp, h.2.1, h.2.2.1, h.2.2.2.1, But.step h.below hb h.2.2.2.1 h.below.size⟩
theorem Fp.but2 {ce' li' : Nat → Int × Int} {du' : Nat → Int} {tk' : Nat → Bool} (h : Fp w W pb sb tb n ce li du tk) (hp : Po W' pb sb tb n ce' li' du' tk') (hb : But2 sb tb W W') : Fp w W' pb sb tb n ce' li' du' tk' := ⟨hp, h.2.1, h.2.2.1, h.2.2.2.1, But2.step h.below hb h.2.2.1 h.2.2.2.1 h.below.size⟩
theorem Fp.lt (h : Fp w W pb sb tb n ce li du tk) : sb < W.heap.size := h.1.slab.lt
theorem Fp.cell (h : Fp w W pb sb tb n ce li du tk) (f i : Int) :
    Calls Try.prog 17 #[.pointer (some ⟨pb, 0, none⟩), .int .i64 f, .int .i64 i] W fun e w' => e = .returned (.agg #[.int .u8 (atP n ce f i).1, .int .u8 (atP n ce f i).2]) ∧ Fp w w' pb sb tb n ce li du tk ∧ Below W.heap.size W w' :=
  (fcell_calls pb sb tb n ce li du tk f i W h.1).mono fun _ _ ⟨he, hb⟩ => ⟨he, h.keep hb, hb⟩
theorem Fp.light (h : Fp w W pb sb tb n ce li du tk) (f i : Int) :
    Calls Try.prog 52 #[.pointer (some ⟨pb, 0, none⟩), .int .i64 f, .int .i64 i] W fun e w' => e = .returned (.agg #[.int .u8 (atP n li f i).1, .int .u8 (atP n li f i).2]) ∧ Fp w w' pb sb tb n ce li du tk ∧ Below W.heap.size W w' :=
  (flight_calls pb sb tb n ce li du tk f i W h.1).mono fun _ _ ⟨he, hb⟩ => ⟨he, h.keep hb, hb⟩
theorem Fp.due (h : Fp w W pb sb tb n ce li du tk) (f i : Int) :
    Calls Try.prog 18 #[.pointer (some ⟨pb, 0, none⟩), .int .i64 f, .int .i64 i] W fun e w' => e = .returned (.int .i64 (atD n du f i)) ∧ Fp w w' pb sb tb n ce li du tk ∧ Below W.heap.size W w' :=
  (pdue_calls pb sb tb n ce li du tk f i W h.1).mono fun _ _ ⟨he, hw⟩ => by subst hw; exact ⟨he, h, Below.refl _ _⟩
theorem Fp.set (h : Fp w W pb sb tb n ce li du tk) (f i : Int) {x y : Int} (hx : 0 ≤ x ∧ x ≤ 255) (hy : 0 ≤ y ∧ y ≤ 255) :
    Calls Try.prog 14 #[.pointer (some ⟨pb, 0, none⟩), .int .i64 f, .int .i64 i, .agg #[.int .u8 x, .int .u8 y]] W fun e w' => e = .returned (.bool (decide (inR n f i) && mayK x y)) ∧ Fp w w' pb sb tb n (setP n (mayK x y) ce f i (x, y)) li du tk ∧ But sb W w' :=
  (setcell_calls pb sb tb n ce li du tk f i x y W h.1 hx hy).mono fun _ _ ⟨he, hp, hb⟩ => ⟨he, h.sbut hp hb, hb⟩
theorem Fp.setL (h : Fp w W pb sb tb n ce li du tk) (f i : Int) {x y : Int} (hx : 0 ≤ x ∧ x ≤ 255) (hy : 0 ≤ y ∧ y ≤ 255) :
    Calls Try.prog 16 #[.pointer (some ⟨pb, 0, none⟩), .int .i64 f, .int .i64 i, .agg #[.int .u8 x, .int .u8 y]] W fun e w' => e = .returned (.bool (decide (inR n f i) && okL x y)) ∧ Fp w w' pb sb tb n ce (setP n (okL x y) li f i (x, y)) du tk ∧ But sb W w' :=
  (setlight_calls pb sb tb n ce li du tk f i x y W h.1 hx hy).mono fun _ _ ⟨he, hp, hb⟩ => ⟨he, h.sbut hp hb, hb⟩
theorem Fp.wake (h : Fp w W pb sb tb n ce li du tk) (f i d : Int) :
    Calls Try.prog 15 #[.pointer (some ⟨pb, 0, none⟩), .int .i64 f, .int .i64 i, .int .i64 d] W fun e w' => e = .returned (.tuple #[]) ∧ Fp w w' pb sb tb n ce li (wakeD n du f i d) tk ∧ But sb W w' :=
  (pwake_calls pb sb tb n ce li du tk f i d W h.1).mono fun _ _ ⟨he, hp, hb⟩ => ⟨he, h.sbut hp hb, hb⟩
theorem Fp.drop (h : Fp w W pb sb tb n ce li du tk) (f i : Int) :
    Calls Try.prog 23 #[.pointer (some ⟨pb, 0, none⟩), .int .i64 f, .int .i64 i] W fun e w' => e = .returned (.tuple #[]) ∧ Fp w w' pb sb tb n ce li (dropD n du f i) tk ∧ But sb W w' :=
  (pdrop_calls pb sb tb n ce li du tk f i W h.1).mono fun _ _ ⟨he, hp, hb⟩ => ⟨he, h.sbut hp hb, hb⟩
theorem Fp.take (h : Fp w W pb sb tb n ce li du tk) {r : Option Nat} (hr : Fst n tk r) :
    Calls Try.prog 19 #[.pointer (some ⟨pb, 0, none⟩)] W fun e w' => e = .returned (.tuple #[.int .i64 (optN r), .bool r.isSome]) ∧ Fp w w' pb sb tb n ce li du (takenT tk r) ∧ But tb W w' :=
  (ptake_calls pb sb tb n ce li du tk W h.1).mono fun _ _ ⟨r', he, hf, hp, hb⟩ => by
    obtain rfl := hf.unique hr
    exact ⟨he, h.tbut hp hb, hb⟩
theorem Fp.used (h : Fp w W pb sb tb n ce li du tk) :
    Calls Try.prog 24 #[.pointer (some ⟨pb, 0, none⟩)] W fun e w' => e = .returned (.int .i64 (usedN tk n : Nat)) ∧ Fp w w' pb sb tb n ce li du tk ∧ Below W.heap.size W w' :=
  (pused_calls pb sb tb n ce li du tk W h.1).mono fun _ _ ⟨he, hw⟩ => by subst hw; exact ⟨he, h, Below.refl _ _⟩
theorem Fp.store (h : Fp w W pb sb tb n ce li du tk) {f : Nat} (hf : f < n) :
    Calls Try.prog 12 #[.pointer (some ⟨pb, 0, none⟩), .int .i64 f] W fun e w' => ∃ b s, e = .returned (.pointer (some ⟨b, 0, none⟩)) ∧ W.heap.size ≤ b ∧ Ck w' b (partP 4096 (shP f ce)) (partP 4096 (shP f li)) s ∧ TOwn w' (b + 1) s (tickD (shD f du) 4096) ∧ Fp w w' pb sb tb n ce li du tk ∧ Below W.heap.size W w' :=
  (pstore_in pb sb tb n ce li du tk f W h.1 hf).mono fun _ _ ⟨b, s, he, h1, h2, h3, hb⟩ => ⟨b, s, he, h1, h2, h3, h.keep hb, hb⟩
theorem Fp.load (h : Fp w W pb sb tb n ce li du tk) {f cb : Nat} {cce cli : Nat → Int × Int} {s : Value} {ts : List Tk} (hf : f < n) (hk : Ck W cb cce cli s) (ht : TRow W s ts) (hu : U8 cce) (hul : U8 cli) (hok : checkE cce cli ts = 0) :
    Calls Try.prog 9 #[.pointer (some ⟨pb, 0, none⟩), .int .i64 f, .pointer (some ⟨cb, 0, none⟩)] W fun e w' => e = .returned (.int .i64 0) ∧ Fp w w' pb sb tb n (putP f cce ce) (putP f cli li) (putD f (duF ts) du) tk ∧ But sb W w' :=
  (pload_in pb sb tb n ce li du tk f cb cce cli s ts W h.1 hf hk ht hu hul hok).mono fun _ _ ⟨he, hp, hb⟩ => ⟨he, h.sbut hp hb, hb⟩
theorem Fp.loadBad (h : Fp w W pb sb tb n ce li du tk) {f cb : Nat} {cce cli : Nat → Int × Int} {s : Value} {ts : List Tk} (hf : f < n) (hk : Ck W cb cce cli s) (ht : TRow W s ts) (hu : U8 cce) (hok : checkE cce cli ts ≠ 0) :
    Calls Try.prog 9 #[.pointer (some ⟨pb, 0, none⟩), .int .i64 f, .pointer (some ⟨cb, 0, none⟩)] W fun e w' => e = .returned (.int .i64 (checkE cce cli ts)) ∧ Fp w w' pb sb tb n ce li du tk ∧ Below W.heap.size W w' :=
  (pload_bad pb sb tb n f _ _ W h.1.pool h.1.n64 hf hok (check_calls cb cce cli s ts W hk ht hu)).mono fun _ _ ⟨he, hb⟩ => ⟨he, h.keep hb, hb⟩
end
theorem Fp.start {w W : World} {pb sb tb n : Nat} (hp : Po W pb sb tb n zeroP zeroP (fun _ => 0) (fun _ => false)) (hf : Fresh w W pb sb tb) : Fp w W pb sb tb n zeroP zeroP (fun _ => 0) (fun _ => false) := ⟨hp, hf⟩

theorem fst_0 : Fst 2 (fun _ => false) (some 0) := ⟨fun k e => by cases e; exact ⟨by omega, rfl, fun j hj => absurd hj (Nat.not_lt_zero _)⟩, fun h => by cases h⟩
def tk1 : Nat → Bool := takenT (fun _ => false) (some 0)
def tk2 : Nat → Bool := takenT tk1 (some 1)
theorem fst_1 : Fst 2 tk1 (some 1) := ⟨fun k e => by cases e; exact ⟨by omega, rfl, fun j hj => by
  have e : j = 0 := by omega
  subst e
  rfl⟩, fun h => by cases h⟩
theorem fst_2 : Fst 2 tk2 none := ⟨fun k e => (by cases e), fun _ j hj => by
  rcases (show j = 0 ∨ j = 1 by omega) with rfl | rfl <;> rfl⟩
theorem used_2 : usedN tk2 2 = 2 := by decide
def ceA : Nat → Int × Int := setP 2 (mayK 4 0) zeroP 1 9 (4, 0)
def duA : Nat → Int := wakeD 2 (fun _ => 0) 1 9 5
theorem atA1 : atP 2 ceA 1 9 = (4, 0) := by decide
theorem atA2 : atP 2 ceA 0 9 = (0, 0) := by decide
theorem atA3 : atD 2 duA 1 9 = 5 := by decide
theorem setA : (decide (inR 2 1 9) && mayK 4 0) = true := by decide
set_option maxRecDepth 100000 in
set_option maxHeartbeats 8000000 in
theorem fawake_calls (w : World) : Calls Try.prog 6 #[] w fun e w' => e = .returned (.bool true) ∧ Below w.heap.size w w' := by
  have hn := fnew_calls 2 w (by omega) (by omega)
  rw [show ((2 : Nat) : Int) = 2 from rfl] at hn
  replace hn := Lib.hid hn
  go_enter Try.func6, Try.ntmps6
  go_wp2_with fail
  refine hn.out.mono ?_
  rintro e W1 ⟨pb, sb, tb, rfl, hp, hf⟩
  clear hn
  have F := Fp.start hp hf
  clear hp hf
  have hc := F.take fst_0
  replace hc := Lib.hid hc
  clear F
  go_wp2_with fail
  refine hc.out.mono ?_
  rintro e W2 ⟨rfl, F, _⟩
  clear hc
  have hc := F.take fst_1
  replace hc := Lib.hid hc
  clear F
  go_wp2_with fail
  refine hc.out.mono ?_
  rintro e W2 ⟨rfl, F, _⟩
  clear hc
  have hc := F.take fst_2
  replace hc := Lib.hid hc
  clear F
  go_wp2_with fail
  refine hc.out.mono ?_
  rintro e W2 ⟨rfl, F, _⟩
  clear hc
  change Fp w W2 pb sb tb 2 zeroP zeroP (fun _ => 0) tk2 at F
  have hc := F.set 1 9 (x := 4) (y := 0) (by omega) (by omega)
  rw [setA] at hc
  change Calls _ _ _ _ (fun e w' => _ ∧ Fp w w' pb sb tb 2 ceA zeroP (fun _ => 0) tk2 ∧ _) at hc
  replace hc := Lib.hid hc
  clear F
  go_wp2_with fail
  refine hc.out.mono ?_
  rintro e W2 ⟨rfl, F, _⟩
  clear hc
  have hc := F.wake 1 9 5
  change Calls _ _ _ _ (fun e w' => _ ∧ Fp w w' pb sb tb 2 ceA zeroP duA tk2 ∧ _) at hc
  replace hc := Lib.hid hc
  clear F
  go_wp2_with fail
  refine hc.out.mono ?_
  rintro e W2 ⟨rfl, F, _⟩
  clear hc
  have hc := F.used
  rw [used_2] at hc
  rw [show ((2 : Nat) : Int) = 2 from rfl] at hc
  replace hc := Lib.hid hc
  clear F
  go_wp2_with fail
  refine hc.out.mono ?_
  rintro e W2 ⟨rfl, F, _⟩
  clear hc
  have hc := F.cell 1 9
  rw [atA1] at hc
  replace hc := Lib.hid hc
  clear F
  go_wp2_with fail
  refine hc.out.mono ?_
  rintro e W2 ⟨rfl, F, _⟩
  clear hc
  have hc := F.cell 0 9
  rw [atA2] at hc
  replace hc := Lib.hid hc
  clear F
  go_wp2_with fail
  refine hc.out.mono ?_
  rintro e W2 ⟨rfl, F, _⟩
  clear hc
  have hc := F.due 1 9
  rw [atA3] at hc
  replace hc := Lib.hid hc
  clear F
  go_wp2_with fail
  refine hc.out.mono ?_
  rintro e W2 ⟨rfl, F, _⟩
  clear hc
  have hb := F.below
  replace hb := Lib.hid hb
  clear F
  go_wp2_with fail
  go_ret
  exact ⟨rfl, hb.out⟩
end Go.Proofs.Ytlaodkolkoefgaa

/-
  '==' at arrays, element by element.
-/
namespace Go.Proofs.Ytlaodkolkoefgaa
open Go.RowKit
set_option linter.unusedSimpArgs false
set_option linter.unusedVariables false

section
variable {P : Program} {w : World}

theorem run_equalIn_array (d : Nat) (t e len n : Nat) (xs ys : Array Value) (ht : P.underlying t = some (.array len e)) (hs : ∀ w, (sizeOf e).run P w = .ok n w) (b : Nat → Bool)
    (hb : ∀ i, i < len → ∃ x y, (part e xs (i * n)).run P w = .ok x w ∧ (part e ys (i * n)).run P w = .ok y w ∧ (Op.equalIn d e x y).run P w = .ok (b i) w) :
    (Op.equalIn (d + 1) t (.agg xs) (.agg ys)).run P w = .ok ((List.range len).all b) w := by
  simp only [Op.equalIn, Sem.run_bind, run_underlying ht, Result.andThen_ok, hs]
  rw [Std.Legacy.Range.forIn_eq_forIn_range']
  have key : ∀ (l : List Nat), (∀ i ∈ l, i < len) →
      (Sem.run P (forIn l ((none, PUnit.unit) : Option Bool × PUnit) fun i (_ : Option Bool × PUnit) => do
        let a ← part e xs (i * n)
        let c ← part e ys (i * n)
        let q ← Op.equalIn d e a c
        if (!q) = true then pure (ForInStep.done (some false, PUnit.unit)) else pure (ForInStep.yield (none, PUnit.unit))) w) =
      .ok (if l.all b then (none, PUnit.unit) else (some false, PUnit.unit)) w := by
    intro l
    induction l with
    | nil => intro _; simp
    | cons i l ih =>
      intro hl
      obtain ⟨x, y, h1, h2, h3⟩ := hb i (hl i List.mem_cons_self)
      simp only [List.forIn_cons, Sem.run_bind, h1, h2, h3, Result.andThen_ok, List.all_cons]
      rcases Bool.eq_false_or_eq_true (b i) with hbi | hbi
      rotate_left
      · simp [hbi]
      · simp only [hbi, Bool.not_true, Bool.false_eq_true, if_false, Sem.run_pure, Result.andThen_ok, Bool.true_and]
        exact ih fun j hj => hl j (List.mem_cons_of_mem _ hj)
  have hr : List.range' [:len].start [:len].size [:len].step = List.range len := by
    rw [List.range_eq_range']; simp [Std.Legacy.Range.size]
  rw [hr, key _ (fun i hi => List.mem_range.1 hi)]
  cases (List.range len).all b <;> simp

/-- Three ints. -/
theorem run_eq_int3 (d : Nat) (t e : Nat) (a b c a' b' c' : Int) (ht : P.underlying t = some (.array 3 e)) (hs : ∀ w, (sizeOf e).run P w = .ok 1 w) (he : P.underlying e = some (.int .i64))
    (hp : ∀ (x y z : Int) (i : Nat) (w : World), i < 3 → (part e #[.int .i64 x, .int .i64 y, .int .i64 z] (i * 1)).run P w = .ok (.int .i64 (if i = 0 then x else if i = 1 then y else z)) w) :
    (Op.equalIn (d + 2) t (.agg #[.int .i64 a, .int .i64 b, .int .i64 c]) (.agg #[.int .i64 a', .int .i64 b', .int .i64 c'])).run P w = .ok (a == a' && (b == b' && c == c')) w := by
  rw [run_equalIn_array (d + 1) t e 3 1 _ _ ht hs (fun i => if i = 0 then a == a' else if i = 1 then b == b' else c == c') (fun i hi => ⟨_, _, hp _ _ _ i w hi, hp _ _ _ i w hi, by
    rw [run_equalIn_int w d e .i64 .i64 _ _ he]
    congr 1
    split
    · rfl
    · split <;> rfl⟩)]
  congr 1
  rw [show List.range 3 = [0, 1, 2] from rfl]
  simp
end
end Go.Proofs.Ytlaodkolkoefgaa
