/-
  The contract of place.Box.
-/
import Derived.Test.YtjodiclmibiboaaPlace
import Derived.StillTailTactics
namespace Go.Proofs.Ytjodiclmibiboaa
open Go.RowKit
set_option linter.unusedSimpArgs false
set_option linter.unusedVariables false

def mxI (a b : Int) : Int := if a < b then b else a
def mnI (a b : Int) : Int := if b < a then b else a
theorem max2_mx (k k' : IntKind) (x y : Int) : Builtin.max2 (.int k x) (.int k' y) = pure (.int k (mxI x y)) := by simp only [Builtin.max2, gt_iff_lt, mxI]
theorem min2_mn (k k' : IntKind) (x y : Int) : Builtin.min2 (.int k x) (.int k' y) = pure (.int k (mnI x y)) := by simp only [Builtin.min2, mnI]
theorem max_2 (ats : Array TypeId) (ty : TypeId) (a b : Value) : Builtin.max_ ats ty #[a, b] = (Builtin.max2 a b >>= fun s => pure s) := by simp only [Builtin.max_, List.foldlM_cons, List.foldlM_nil]
theorem min_2 (ats : Array TypeId) (ty : TypeId) (a b : Value) : Builtin.min_ ats ty #[a, b] = (Builtin.min2 a b >>= fun s => pure s) := by simp only [Builtin.min_, List.foldlM_cons, List.foldlM_nil]
theorem max_3 (ats : Array TypeId) (ty : TypeId) (a b c : Value) : Builtin.max_ ats ty #[a, b, c] = (Builtin.max2 a b >>= fun s => Builtin.max2 s c >>= fun s => pure s) := by simp only [Builtin.max_, List.foldlM_cons, List.foldlM_nil]
theorem min_3 (ats : Array TypeId) (ty : TypeId) (a b c : Value) : Builtin.min_ ats ty #[a, b, c] = (Builtin.min2 a b >>= fun s => Builtin.min2 s c >>= fun s => pure s) := by simp only [Builtin.min_, List.foldlM_cons, List.foldlM_nil]
theorem mxmn (a b : Int) : mnI a b ≤ mxI a b ∧ mnI a b ≤ a ∧ mnI a b ≤ b ∧ a ≤ mxI a b ∧ b ≤ mxI a b ∧ (mnI a b = a ∨ mnI a b = b) ∧ (mxI a b = a ∨ mxI a b = b) := by
  unfold mxI mnI; split <;> split <;> omega

def boxN (a b : Int) : Int := mxI a b - mnI a b + 1
def boxLong (x y z a b c : Int) : Bool := decide (16 < mxI (mxI (boxN x a) (boxN y b)) (boxN z c)) || decide (512 < boxN x a * boxN y b * boxN z c)
def boxOk (x y z a b c : Int) : Bool := mayB x y z && mayB a b c && !boxLong x y z a b c
def boxE (x y z a b c : Int) : Int := if mayB x y z && mayB a b c then (if boxLong x y z a b c then 3 else 0) else 10
def boxLow (x y z a b c : Int) : Value := if boxOk x y z a b c then .agg #[.int .i64 (mnI x a), .int .i64 (mnI y b), .int .i64 (mnI z c)] else .agg #[.int .i64 0, .int .i64 0, .int .i64 0]
def boxHigh (x y z a b c : Int) : Value := if boxOk x y z a b c then .agg #[.int .i64 (mxI x a), .int .i64 (mxI y b), .int .i64 (mxI z c)] else .agg #[.int .i64 0, .int .i64 0, .int .i64 0]
def boxMany (x y z a b c : Int) : Int := if boxOk x y z a b c then boxN x a * boxN y b * boxN z c else 0

theorem prod3 {a b c : Int} (ha : 1 ≤ a) (ha' : a ≤ 16) (hb : 1 ≤ b) (hb' : b ≤ 16) (hc : 1 ≤ c) (hc' : c ≤ 16) : 1 ≤ a * b ∧ a * b ≤ 256 ∧ 1 ≤ a * b * c ∧ a * b * c ≤ 4096 := by
  have h1 : 1 ≤ a * b := by have := Int.mul_le_mul ha hb (by omega) (by omega); simpa using this
  have h2 : a * b ≤ 16 * 16 := Int.mul_le_mul ha' hb' (by omega) (by omega)
  have h3 : 1 ≤ a * b * c := by have := Int.mul_le_mul h1 hc (by omega) (by omega); simpa using this
  have h4 : a * b * c ≤ 256 * 16 := Int.mul_le_mul (by omega) hc' (by omega) (by omega)
  omega

attribute [local go_sem] max_2 min_2 max_3 min_3 max2_mx min2_mn

set_option maxRecDepth 100000 in
set_option maxHeartbeats 4000000 in
theorem box_no (x y z a b c : Int) (w : World) (h : (mayB x y z && mayB a b c) = false) :
    Calls Try.prog 27 #[.agg #[.int .i64 x, .int .i64 y, .int .i64 z], .agg #[.int .i64 a, .int .i64 b, .int .i64 c]] w fun e w' =>
      e = .returned (.tuple #[.agg #[.int .i64 0, .int .i64 0, .int .i64 0], .agg #[.int .i64 0, .int .i64 0, .int .i64 0], .int .i64 0, .int .i64 10]) ∧ Below w.heap.size w w' := by
  cases h1 : mayB x y z
  · go_enter Try.func27, Try.ntmps27
    go_wp2_with fail
    refine (may_calls _ _ _ _).mono ?_
    rintro e w1 ⟨rfl, hb⟩
    rw [h1]
    have HB := Lib.hid (below_step (((((Below.refl w.heap.size w).alloc (by first | exact Nat.le_refl _ | (simp; done) | (simp; omega) | omega) _).alloc (by first | exact Nat.le_refl _ | (simp; done) | (simp; omega) | omega) _).alloc (by first | exact Nat.le_refl _ | (simp; done) | (simp; omega) | omega) _).alloc (by first | exact Nat.le_refl _ | (simp; done) | (simp; omega) | omega) _) (by first | exact Nat.le_refl _ | (simp; done) | (simp; omega) | omega) hb)
    have b0 := ((((Blk.new_at (w := w) (n := w.heap.size) #[.int .i64 x, .int .i64 y, .int .i64 z] 23 (by simp)).alloc (.cells #[.int .i64 a, .int .i64 b, .int .i64 c] 23)).alloc (.cells #[.int .i64 0, .int .i64 0, .int .i64 0] 23)).alloc (.cells #[.int .i64 0, .int .i64 0, .int .i64 0] 23)).below hb (by first | exact Nat.le_refl _ | (simp; done) | (simp; omega) | omega)
    have b1 := (((Blk.new_at (w := (w.alloc (.cells #[.int .i64 x, .int .i64 y, .int .i64 z] 23))) (n := w.heap.size + 1) #[.int .i64 a, .int .i64 b, .int .i64 c] 23 (by simp)).alloc (.cells #[.int .i64 0, .int .i64 0, .int .i64 0] 23)).alloc (.cells #[.int .i64 0, .int .i64 0, .int .i64 0] 23)).below hb (by first | exact Nat.le_refl _ | (simp; done) | (simp; omega) | omega)
    have b2 := ((Blk.new_at (w := ((w.alloc (.cells #[.int .i64 x, .int .i64 y, .int .i64 z] 23)).alloc (.cells #[.int .i64 a, .int .i64 b, .int .i64 c] 23))) (n := w.heap.size + 2) #[.int .i64 0, .int .i64 0, .int .i64 0] 23 (by simp)).alloc (.cells #[.int .i64 0, .int .i64 0, .int .i64 0] 23)).below hb (by first | exact Nat.le_refl _ | (simp; done) | (simp; omega) | omega)
    have b3 := (Blk.new_at (w := (((w.alloc (.cells #[.int .i64 x, .int .i64 y, .int .i64 z] 23)).alloc (.cells #[.int .i64 a, .int .i64 b, .int .i64 c] 23)).alloc (.cells #[.int .i64 0, .int .i64 0, .int .i64 0] 23))) (n := w.heap.size + 3) #[.int .i64 0, .int .i64 0, .int .i64 0] 23 (by simp)).below hb (by first | exact Nat.le_refl _ | (simp; done) | (simp; omega) | omega)
    clear hb
    have b0_l := b0.lt
    have b0_0 := b0.cell 0 rfl
    have b0_1 := b0.cell 1 rfl
    have b0_2 := b0.cell 2 rfl
    have b1_l := b1.lt
    have b1_0 := b1.cell 0 rfl
    have b1_1 := b1.cell 1 rfl
    have b1_2 := b1.cell 2 rfl
    have b2_l := b2.lt
    have b2_0 := b2.cell 0 rfl
    have b2_1 := b2.cell 1 rfl
    have b2_2 := b2.cell 2 rfl
    have b2_f0 := b2.frozen 0
    have b2_f1 := b2.frozen 1
    have b2_f2 := b2.frozen 2
    have b3_l := b3.lt
    have b3_0 := b3.cell 0 rfl
    have b3_1 := b3.cell 1 rfl
    have b3_2 := b3.cell 2 rfl
    have b3_f0 := b3.frozen 0
    have b3_f1 := b3.frozen 1
    have b3_f2 := b3.frozen 2
    go_wp2_with fail
    refine bodyPost_ret (by simp [results, Try.results27, go_sem, b2_0, b2_1, b2_2, b3_0, b3_1, b3_2]) rfl ⟨rfl, ?_⟩
    repeat (refine Below.setCell ?_ (by simp <;> omega) _)
    exact HB.out
  · have h2 : mayB a b c = false := by rw [h1] at h; exact h
    go_enter Try.func27, Try.ntmps27
    go_wp2_with fail
    refine (may_calls _ _ _ _).mono ?_
    rintro e w1 ⟨rfl, hb⟩
    rw [h1]
    have HB := Lib.hid (below_step (((((Below.refl w.heap.size w).alloc (by first | exact Nat.le_refl _ | (simp; done) | (simp; omega) | omega) _).alloc (by first | exact Nat.le_refl _ | (simp; done) | (simp; omega) | omega) _).alloc (by first | exact Nat.le_refl _ | (simp; done) | (simp; omega) | omega) _).alloc (by first | exact Nat.le_refl _ | (simp; done) | (simp; omega) | omega) _) (by first | exact Nat.le_refl _ | (simp; done) | (simp; omega) | omega) hb)
    have b0 := ((((Blk.new_at (w := w) (n := w.heap.size) #[.int .i64 x, .int .i64 y, .int .i64 z] 23 (by simp)).alloc (.cells #[.int .i64 a, .int .i64 b, .int .i64 c] 23)).alloc (.cells #[.int .i64 0, .int .i64 0, .int .i64 0] 23)).alloc (.cells #[.int .i64 0, .int .i64 0, .int .i64 0] 23)).below hb (by first | exact Nat.le_refl _ | (simp; done) | (simp; omega) | omega)
    have b1 := (((Blk.new_at (w := (w.alloc (.cells #[.int .i64 x, .int .i64 y, .int .i64 z] 23))) (n := w.heap.size + 1) #[.int .i64 a, .int .i64 b, .int .i64 c] 23 (by simp)).alloc (.cells #[.int .i64 0, .int .i64 0, .int .i64 0] 23)).alloc (.cells #[.int .i64 0, .int .i64 0, .int .i64 0] 23)).below hb (by first | exact Nat.le_refl _ | (simp; done) | (simp; omega) | omega)
    have b2 := ((Blk.new_at (w := ((w.alloc (.cells #[.int .i64 x, .int .i64 y, .int .i64 z] 23)).alloc (.cells #[.int .i64 a, .int .i64 b, .int .i64 c] 23))) (n := w.heap.size + 2) #[.int .i64 0, .int .i64 0, .int .i64 0] 23 (by simp)).alloc (.cells #[.int .i64 0, .int .i64 0, .int .i64 0] 23)).below hb (by first | exact Nat.le_refl _ | (simp; done) | (simp; omega) | omega)
    have b3 := (Blk.new_at (w := (((w.alloc (.cells #[.int .i64 x, .int .i64 y, .int .i64 z] 23)).alloc (.cells #[.int .i64 a, .int .i64 b, .int .i64 c] 23)).alloc (.cells #[.int .i64 0, .int .i64 0, .int .i64 0] 23))) (n := w.heap.size + 3) #[.int .i64 0, .int .i64 0, .int .i64 0] 23 (by simp)).below hb (by first | exact Nat.le_refl _ | (simp; done) | (simp; omega) | omega)
    clear hb
    have b0_l := b0.lt
    have b0_0 := b0.cell 0 rfl
    have b0_1 := b0.cell 1 rfl
    have b0_2 := b0.cell 2 rfl
    have b1_l := b1.lt
    have b1_0 := b1.cell 0 rfl
    have b1_1 := b1.cell 1 rfl
    have b1_2 := b1.cell 2 rfl
    have b2_l := b2.lt
    have b2_0 := b2.cell 0 rfl
    have b2_1 := b2.cell 1 rfl
    have b2_2 := b2.cell 2 rfl
    have b2_f0 := b2.frozen 0
    have b2_f1 := b2.frozen 1
    have b2_f2 := b2.frozen 2
    have b3_l := b3.lt
    have b3_0 := b3.cell 0 rfl
    have b3_1 := b3.cell 1 rfl
    have b3_2 := b3.cell 2 rfl
    have b3_f0 := b3.frozen 0
    have b3_f1 := b3.frozen 1
    have b3_f2 := b3.frozen 2
    go_wp2_with fail
    try clear b0_l b0_0 b0_1 b0_2
    try clear b1_l b1_0 b1_1 b1_2
    try clear b2_l b2_0 b2_1 b2_2 b2_f0 b2_f1 b2_f2
    try clear b3_l b3_0 b3_1 b3_2 b3_f0 b3_f1 b3_f2
    refine (may_calls _ _ _ _).mono ?_
    rintro e w2 ⟨rfl, hb⟩
    rw [h2]
    replace HB := Lib.hid (below_step HB.out (by have := HB.out.size; first | omega | (simp; omega)) hb)
    replace b0 := b0.below hb b0.lt
    replace b1 := b1.below hb b1.lt
    replace b2 := b2.below hb b2.lt
    replace b3 := b3.below hb b3.lt
    clear hb
    have b0_l := b0.lt
    have b0_0 := b0.cell 0 rfl
    have b0_1 := b0.cell 1 rfl
    have b0_2 := b0.cell 2 rfl
    have b1_l := b1.lt
    have b1_0 := b1.cell 0 rfl
    have b1_1 := b1.cell 1 rfl
    have b1_2 := b1.cell 2 rfl
    have b2_l := b2.lt
    have b2_0 := b2.cell 0 rfl
    have b2_1 := b2.cell 1 rfl
    have b2_2 := b2.cell 2 rfl
    have b2_f0 := b2.frozen 0
    have b2_f1 := b2.frozen 1
    have b2_f2 := b2.frozen 2
    have b3_l := b3.lt
    have b3_0 := b3.cell 0 rfl
    have b3_1 := b3.cell 1 rfl
    have b3_2 := b3.cell 2 rfl
    have b3_f0 := b3.frozen 0
    have b3_f1 := b3.frozen 1
    have b3_f2 := b3.frozen 2
    go_wp2_with fail
    refine bodyPost_ret (by simp [results, Try.results27, go_sem, b2_0, b2_1, b2_2, b3_0, b3_1, b3_2]) rfl ⟨rfl, ?_⟩
    repeat (refine Below.setCell ?_ (by simp <;> omega) _)
    exact HB.out

set_option maxRecDepth 100000 in
set_option maxHeartbeats 8000000 in
theorem box_yes (x y z a b c : Int) (w : World) (h1 : mayB x y z = true) (h2 : mayB a b c = true) :
    Calls Try.prog 27 #[.agg #[.int .i64 x, .int .i64 y, .int .i64 z], .agg #[.int .i64 a, .int .i64 b, .int .i64 c]] w fun e w' =>
      e = .returned (.tuple #[boxLow x y z a b c, boxHigh x y z a b c, .int .i64 (boxMany x y z a b c), .int .i64 (boxE x y z a b c)]) ∧ Below w.heap.size w w' := by
  have i1 := mayB_iff.1 h1
  have i2 := mayB_iff.1 h2
  have m1 := mxmn x a
  have m2 := mxmn y b
  have m3 := mxmn z c
  have n1 : 1 ≤ boxN x a ∧ boxN x a ≤ 2097152 := by unfold boxN; omega
  have n2 : 1 ≤ boxN y b ∧ boxN y b ≤ 2097152 := by unfold boxN; omega
  have n3 : 1 ≤ boxN z c ∧ boxN z c ≤ 2097152 := by unfold boxN; omega
  have u1 : mxI x a - mnI x a + 1 = boxN x a := rfl
  have u2 : mxI y b - mnI y b + 1 = boxN y b := rfl
  have u3 : mxI z c - mnI z c + 1 = boxN z c := rfl
  replace u1 := Lib.hid u1
  replace u2 := Lib.hid u2
  replace u3 := Lib.hid u3
  have e1 : IntKind.i64.wrap (mxI x a - mnI x a) = mxI x a - mnI x a := IntWalk.i64_in _ (by omega)
  have e2 : IntKind.i64.wrap (mxI y b - mnI y b) = mxI y b - mnI y b := IntWalk.i64_in _ (by omega)
  have e3 : IntKind.i64.wrap (mxI z c - mnI z c) = mxI z c - mnI z c := IntWalk.i64_in _ (by omega)
  have e4 : IntKind.i64.wrap (mxI x a - mnI x a + 1) = mxI x a - mnI x a + 1 := IntWalk.i64_in _ (by omega)
  have e5 : IntKind.i64.wrap (mxI y b - mnI y b + 1) = mxI y b - mnI y b + 1 := IntWalk.i64_in _ (by omega)
  have e6 : IntKind.i64.wrap (mxI z c - mnI z c + 1) = mxI z c - mnI z c + 1 := IntWalk.i64_in _ (by omega)
  clear i1 i2 m1 m2 m3
  go_enter Try.func27, Try.ntmps27
  go_wp2_with fail
  refine (may_calls _ _ _ _).mono ?_
  rintro e w1 ⟨rfl, hb⟩
  rw [h1]
  have HB := Lib.hid (below_step (((((Below.refl w.heap.size w).alloc (by first | exact Nat.le_refl _ | (simp; done) | (simp; omega) | omega) _).alloc (by first | exact Nat.le_refl _ | (simp; done) | (simp; omega) | omega) _).alloc (by first | exact Nat.le_refl _ | (simp; done) | (simp; omega) | omega) _).alloc (by first | exact Nat.le_refl _ | (simp; done) | (simp; omega) | omega) _) (by first | exact Nat.le_refl _ | (simp; done) | (simp; omega) | omega) hb)
  have b0 := ((((Blk.new_at (w := w) (n := w.heap.size) #[.int .i64 x, .int .i64 y, .int .i64 z] 23 (by simp)).alloc (.cells #[.int .i64 a, .int .i64 b, .int .i64 c] 23)).alloc (.cells #[.int .i64 0, .int .i64 0, .int .i64 0] 23)).alloc (.cells #[.int .i64 0, .int .i64 0, .int .i64 0] 23)).below hb (by first | exact Nat.le_refl _ | (simp; done) | (simp; omega) | omega)
  have b1 := (((Blk.new_at (w := (w.alloc (.cells #[.int .i64 x, .int .i64 y, .int .i64 z] 23))) (n := w.heap.size + 1) #[.int .i64 a, .int .i64 b, .int .i64 c] 23 (by simp)).alloc (.cells #[.int .i64 0, .int .i64 0, .int .i64 0] 23)).alloc (.cells #[.int .i64 0, .int .i64 0, .int .i64 0] 23)).below hb (by first | exact Nat.le_refl _ | (simp; done) | (simp; omega) | omega)
  have b2 := ((Blk.new_at (w := ((w.alloc (.cells #[.int .i64 x, .int .i64 y, .int .i64 z] 23)).alloc (.cells #[.int .i64 a, .int .i64 b, .int .i64 c] 23))) (n := w.heap.size + 2) #[.int .i64 0, .int .i64 0, .int .i64 0] 23 (by simp)).alloc (.cells #[.int .i64 0, .int .i64 0, .int .i64 0] 23)).below hb (by first | exact Nat.le_refl _ | (simp; done) | (simp; omega) | omega)
  have b3 := (Blk.new_at (w := (((w.alloc (.cells #[.int .i64 x, .int .i64 y, .int .i64 z] 23)).alloc (.cells #[.int .i64 a, .int .i64 b, .int .i64 c] 23)).alloc (.cells #[.int .i64 0, .int .i64 0, .int .i64 0] 23))) (n := w.heap.size + 3) #[.int .i64 0, .int .i64 0, .int .i64 0] 23 (by simp)).below hb (by first | exact Nat.le_refl _ | (simp; done) | (simp; omega) | omega)
  clear hb
  have b0_l := b0.lt
  have b0_0 := b0.cell 0 rfl
  have b0_1 := b0.cell 1 rfl
  have b0_2 := b0.cell 2 rfl
  have b1_l := b1.lt
  have b1_0 := b1.cell 0 rfl
  have b1_1 := b1.cell 1 rfl
  have b1_2 := b1.cell 2 rfl
  have b2_l := b2.lt
  have b2_0 := b2.cell 0 rfl
  have b2_1 := b2.cell 1 rfl
  have b2_2 := b2.cell 2 rfl
  have b2_f0 := b2.frozen 0
  have b2_f1 := b2.frozen 1
  have b2_f2 := b2.frozen 2
  have b3_l := b3.lt
  have b3_0 := b3.cell 0 rfl
  have b3_1 := b3.cell 1 rfl
  have b3_2 := b3.cell 2 rfl
  have b3_f0 := b3.frozen 0
  have b3_f1 := b3.frozen 1
  have b3_f2 := b3.frozen 2
  go_wp2_with fail
  try clear b0_l b0_0 b0_1 b0_2
  try clear b1_l b1_0 b1_1 b1_2
  try clear b2_l b2_0 b2_1 b2_2 b2_f0 b2_f1 b2_f2
  try clear b3_l b3_0 b3_1 b3_2 b3_f0 b3_f1 b3_f2
  refine (may_calls _ _ _ _).mono ?_
  rintro e w2 ⟨rfl, hb⟩
  rw [h2]
  replace HB := Lib.hid (below_step HB.out (by have := HB.out.size; first | omega | (simp; omega)) hb)
  replace b0 := b0.below hb b0.lt
  replace b1 := b1.below hb b1.lt
  replace b2 := b2.below hb b2.lt
  replace b3 := b3.below hb b3.lt
  clear hb
  have b0_l := b0.lt
  have b0_0 := b0.cell 0 rfl
  have b0_1 := b0.cell 1 rfl
  have b0_2 := b0.cell 2 rfl
  have b1_l := b1.lt
  have b1_0 := b1.cell 0 rfl
  have b1_1 := b1.cell 1 rfl
  have b1_2 := b1.cell 2 rfl
  have b2_l := b2.lt
  have b2_0 := b2.cell 0 rfl
  have b2_1 := b2.cell 1 rfl
  have b2_2 := b2.cell 2 rfl
  have b2_f0 := b2.frozen 0
  have b2_f1 := b2.frozen 1
  have b2_f2 := b2.frozen 2
  have b3_l := b3.lt
  have b3_0 := b3.cell 0 rfl
  have b3_1 := b3.cell 1 rfl
  have b3_2 := b3.cell 2 rfl
  have b3_f0 := b3.frozen 0
  have b3_f1 := b3.frozen 1
  have b3_f2 := b3.frozen 2
  go_wp2_with fail
  refine wp_world (fun W => Blk W (w.heap.size + 2) [.int .i64 (mnI x a), .int .i64 (mnI y b), .int .i64 (mnI z c)] 23 ∧ Blk W (w.heap.size + 3) [.int .i64 (mxI x a), .int .i64 (mxI y b), .int .i64 (mxI z c)] 23 ∧ Below w.heap.size w W) ⟨?_, ?_, ?_⟩ ?_
  · exact (((((b2.set 0 _).set 1 _).set 2 _).set_other _ (by simp)).set_other _ (by simp)).set_other _ (by simp)
  · exact (((((b3.set_other _ (by simp)).set_other _ (by simp)).set_other _ (by simp)).set 0 _).set 1 _).set 2 _
  · repeat (refine Below.setCell ?_ (by simp <;> omega) _)
    exact HB.out
  clear b0_l b0_0 b0_1 b0_2
  clear b1_l b1_0 b1_1 b1_2
  clear b2_l b2_0 b2_1 b2_2
  clear b2_f0 b2_f1 b2_f2
  clear b3_l b3_0 b3_1 b3_2
  clear b3_f0 b3_f1 b3_f2
  clear b0 b1 b2 b3 HB
  rintro W ⟨b2, b3, HB⟩
  replace HB := Lib.hid HB
  have b2_l := b2.lt
  have b2_0 := b2.cell 0 rfl
  have b2_1 := b2.cell 1 rfl
  have b2_2 := b2.cell 2 rfl
  have b2_f0 := b2.frozen 0
  have b2_f1 := b2.frozen 1
  have b2_f2 := b2.frozen 2
  have b3_l := b3.lt
  have b3_0 := b3.cell 0 rfl
  have b3_1 := b3.cell 1 rfl
  have b3_2 := b3.cell 2 rfl
  have b3_f0 := b3.frozen 0
  have b3_f1 := b3.frozen 1
  have b3_f2 := b3.frozen 2
  go_quiet (fail)
  rw [u1.out, u2.out, u3.out]
  clear e1 e2 e3 e4 e5 e6
  replace HB := Lib.hid (below_drewN HB.out nq)
  replace b2 := b2.drewN nq
  replace b3 := b3.drewN nq
  clear b2_l b2_0 b2_1 b2_2
  clear b2_f0 b2_f1 b2_f2
  clear b3_l b3_0 b3_1 b3_2
  clear b3_f0 b3_f1 b3_f2
  generalize W.drewN nq = W at *
  have b2_l := b2.lt
  have b2_0 := b2.cell 0 rfl
  have b2_1 := b2.cell 1 rfl
  have b2_2 := b2.cell 2 rfl
  have b2_f0 := b2.frozen 0
  have b2_f1 := b2.frozen 1
  have b2_f2 := b2.frozen 2
  have b3_l := b3.lt
  have b3_0 := b3.cell 0 rfl
  have b3_1 := b3.cell 1 rfl
  have b3_2 := b3.cell 2 rfl
  have b3_f0 := b3.frozen 0
  have b3_f1 := b3.frozen 1
  have b3_f2 := b3.frozen 2
  have hN : (mayB x y z && mayB a b c) = true := by rw [h1, h2]; rfl
  have hlong : boxLong x y z a b c = (decide (16 < mxI (mxI (boxN x a) (boxN y b)) (boxN z c)) || decide (512 < boxN x a * boxN y b * boxN z c)) := rfl
  have hmany : boxOk x y z a b c = true → boxMany x y z a b c = boxN x a * boxN y b * boxN z c := fun h => by unfold boxMany; rw [h]; rfl
  have q1 := mxmn (boxN x a) (boxN y b)
  have q2 := mxmn (mxI (boxN x a) (boxN y b)) (boxN z c)
  replace hlong := Lib.hid hlong
  replace hmany := Lib.hid hmany
  obtain ⟨nx, hx⟩ : ∃ nx, boxN x a = nx := ⟨_, rfl⟩
  obtain ⟨ny, hy⟩ : ∃ ny, boxN y b = ny := ⟨_, rfl⟩
  obtain ⟨nz, hz⟩ : ∃ nz, boxN z c = nz := ⟨_, rfl⟩
  rw [hx, hy, hz] at hlong hmany
  rw [hx, hy, hz]
  rw [hx, hy] at q1
  rw [hx, hy, hz] at q2
  rw [hx] at n1
  rw [hy] at n2
  rw [hz] at n3
  clear hx hy hz
  by_cases L1 : 16 < mxI (mxI nx ny) nz
  · have hL : boxLong x y z a b c = true := by rw [hlong.out, decide_eq_true L1]; rfl
    have hO : boxOk x y z a b c = false := by unfold boxOk; rw [hL]; simp
    have r1 : boxLow x y z a b c = .agg #[.int .i64 0, .int .i64 0, .int .i64 0] := by unfold boxLow; rw [hO]; rfl
    have r2 : boxHigh x y z a b c = .agg #[.int .i64 0, .int .i64 0, .int .i64 0] := by unfold boxHigh; rw [hO]; rfl
    have r3 : boxMany x y z a b c = 0 := by unfold boxMany; rw [hO]; rfl
    have r4 : boxE x y z a b c = 3 := by unfold boxE; rw [hN, hL]; rfl
    replace r1 := Lib.hid r1
    replace r2 := Lib.hid r2
    replace r3 := Lib.hid r3
    replace r4 := Lib.hid r4
    clear q1 q2
    go_wp2_with fail
    refine bodyPost_ret (v := .tuple #[.agg #[.int .i64 0, .int .i64 0, .int .i64 0], .agg #[.int .i64 0, .int .i64 0, .int .i64 0], .int .i64 0, .int .i64 3]) (by simp [results, Try.results27, go_sem, b2_0, b2_1, b2_2, b3_0, b3_1, b3_2]) rfl ⟨by rw [r1.out, r2.out, r3.out, r4.out], ?_⟩
    repeat (refine Below.setCell ?_ (by simp <;> omega) _)
    exact HB.out
  · have L1' : mxI (mxI nx ny) nz ≤ 16 := by omega
    have p := prod3 n1.1 (by omega : nx ≤ 16) n2.1 (by omega : ny ≤ 16) n3.1 (by omega : nz ≤ 16)
    obtain ⟨pp1, pp2, pp3, pp4⟩ := p
    by_cases L2 : 512 < nx * ny * nz
    · have hL : boxLong x y z a b c = true := by rw [hlong.out, decide_eq_true L2]; simp
      have hO : boxOk x y z a b c = false := by unfold boxOk; rw [hL]; simp
      have r1 : boxLow x y z a b c = .agg #[.int .i64 0, .int .i64 0, .int .i64 0] := by unfold boxLow; rw [hO]; rfl
      have r2 : boxHigh x y z a b c = .agg #[.int .i64 0, .int .i64 0, .int .i64 0] := by unfold boxHigh; rw [hO]; rfl
      have r3 : boxMany x y z a b c = 0 := by unfold boxMany; rw [hO]; rfl
      have r4 : boxE x y z a b c = 3 := by unfold boxE; rw [hN, hL]; rfl
      replace r1 := Lib.hid r1
      replace r2 := Lib.hid r2
      replace r3 := Lib.hid r3
      replace r4 := Lib.hid r4
      clear q1 q2 L1
      go_wp2_with fail
      refine bodyPost_ret (v := .tuple #[.agg #[.int .i64 0, .int .i64 0, .int .i64 0], .agg #[.int .i64 0, .int .i64 0, .int .i64 0], .int .i64 0, .int .i64 3]) (by simp [results, Try.results27, go_sem, b2_0, b2_1, b2_2, b3_0, b3_1, b3_2]) rfl ⟨by rw [r1.out, r2.out, r3.out, r4.out], ?_⟩
      repeat (refine Below.setCell ?_ (by simp <;> omega) _)
      exact HB.out
    · have hL : boxLong x y z a b c = false := by rw [hlong.out, decide_eq_false L1, decide_eq_false L2]; rfl
      have hO : boxOk x y z a b c = true := by unfold boxOk; rw [hL, hN]; rfl
      have r1 : boxLow x y z a b c = .agg #[.int .i64 (mnI x a), .int .i64 (mnI y b), .int .i64 (mnI z c)] := by unfold boxLow; rw [hO]; rfl
      have r2 : boxHigh x y z a b c = .agg #[.int .i64 (mxI x a), .int .i64 (mxI y b), .int .i64 (mxI z c)] := by unfold boxHigh; rw [hO]; rfl
      have r3 : boxMany x y z a b c = nx * ny * nz := hmany.out hO
      have r4 : boxE x y z a b c = 0 := by unfold boxE; rw [hN, hL]; rfl
      replace r1 := Lib.hid r1
      replace r2 := Lib.hid r2
      replace r3 := Lib.hid r3
      replace r4 := Lib.hid r4
      have L2' : nx * ny * nz ≤ 512 := by omega
      clear q1 q2 L1 L2
      have e1 : IntKind.i64.wrap (nx * ny) = nx * ny := IntWalk.i64_in _ (by omega)
      have e2 : IntKind.i64.wrap (nx * ny * nz) = nx * ny * nz := IntWalk.i64_in _ (by omega)
      go_wp2_with fail
      go_region
      go_wp2_with fail
      refine bodyPost_ret (v := .tuple #[.agg #[.int .i64 (mnI x a), .int .i64 (mnI y b), .int .i64 (mnI z c)], .agg #[.int .i64 (mxI x a), .int .i64 (mxI y b), .int .i64 (mxI z c)], .int .i64 (nx * ny * nz), .int .i64 0]) (by simp [results, Try.results27, go_sem, b2_0, b2_1, b2_2, b3_0, b3_1, b3_2]) rfl ⟨by rw [r1.out, r2.out, r3.out, r4.out], ?_⟩
      refine Below.drew ?_
      repeat (refine Below.setCell ?_ (by simp <;> omega) _)
      exact HB.out

theorem box_calls (x y z a b c : Int) (w : World) :
    Calls Try.prog 27 #[.agg #[.int .i64 x, .int .i64 y, .int .i64 z], .agg #[.int .i64 a, .int .i64 b, .int .i64 c]] w fun e w' =>
      e = .returned (.tuple #[boxLow x y z a b c, boxHigh x y z a b c, .int .i64 (boxMany x y z a b c), .int .i64 (boxE x y z a b c)]) ∧ Below w.heap.size w w' := by
  cases h : (mayB x y z && mayB a b c)
  · have hO : boxOk x y z a b c = false := by unfold boxOk; rw [h]; rfl
    have r1 : boxLow x y z a b c = .agg #[.int .i64 0, .int .i64 0, .int .i64 0] := by unfold boxLow; rw [hO]; rfl
    have r2 : boxHigh x y z a b c = .agg #[.int .i64 0, .int .i64 0, .int .i64 0] := by unfold boxHigh; rw [hO]; rfl
    have r3 : boxMany x y z a b c = 0 := by unfold boxMany; rw [hO]; rfl
    have r4 : boxE x y z a b c = 10 := by unfold boxE; rw [h]; rfl
    rw [r1, r2, r3, r4]
    exact box_no x y z a b c w h
  · rw [Bool.and_eq_true] at h
    exact box_yes x y z a b c w h.1 h.2
end Go.Proofs.Ytjodiclmibiboaa
