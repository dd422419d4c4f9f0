/-
  The contracts of package place: each function gives what the plain functions here say, and leaves what lay before as it lay.
-/
import Derived.Test.YtpdckjbknphelaaMg0
import Derived.Test.YtpdckjbknphelaaMg6
import Derived.Test.YtpdckjbknphelaaCpZ
import Derived.Deep.LoopGhost
namespace Go.Proofs.Ytpdckjbknphelaa
set_option linter.unusedSimpArgs false
set_option linter.unusedVariables false
open Go.RowKit

def mayB (x y z : Int) : Bool := decide (-1048576 ≤ x ∧ x < 1048576 ∧ -1048576 ≤ z ∧ z < 1048576 ∧ 0 ≤ y ∧ y < 64)
theorem mayB_iff {x y z : Int} : mayB x y z = true ↔ (-1048576 ≤ x ∧ x < 1048576 ∧ -1048576 ≤ z ∧ z < 1048576 ∧ 0 ≤ y ∧ y < 64) := by simp [mayB]

def mayS (x y z : Int) : Bool := decide (-65536 ≤ x ∧ x < 65536 ∧ -65536 ≤ z ∧ z < 65536 ∧ 0 ≤ y ∧ y < 4)
theorem mayS_iff {x y z : Int} : mayS x y z = true ↔ (-65536 ≤ x ∧ x < 65536 ∧ -65536 ≤ z ∧ z < 65536 ∧ 0 ≤ y ∧ y < 4) := by simp [mayS]

set_option maxHeartbeats 400000 in
theorem mayspot_calls (x y z : Int) (w : World) :
    Calls Try.prog 11 #[.agg #[.int .i64 x, .int .i64 y, .int .i64 z]] w fun e w' => e = .returned (.bool (mayS x y z)) ∧ Below w.heap.size w w' := by
  go_enter Try.func11, Try.ntmps11
  go_wp2
  all_goals go_ret
  all_goals exact ⟨ret_bool (by rw [Bool.eq_iff_iff]; simp [mayS]; omega), (Below.refl _ _).alloc (Nat.le_refl _) _⟩

def spotB (x y z : Int) : Value := if mayB x y z then .agg #[.int .i64 (x / 16), .int .i64 (y / 16), .int .i64 (z / 16)] else .agg #[.int .i64 0, .int .i64 0, .int .i64 0]


def indexI (x y z : Int) : Int := if mayB x y z then y % 16 * 256 + z % 16 * 16 + x % 16 else 0


def ofOk (x y z i : Int) : Bool := mayS x y z && decide (0 ≤ i ∧ i < 4096)
def ofV (x y z i : Int) : Value := if ofOk x y z i then .agg #[.int .i64 (x * 16 + i % 16), .int .i64 (y * 16 + i / 256), .int .i64 (z * 16 + i / 16 % 16)] else .agg #[.int .i64 0, .int .i64 0, .int .i64 0]



end Go.Proofs.Ytpdckjbknphelaa

/-
  A cache, as one reads it: slots, the hand, the map, the frames, the world behind it. The search for a frame, in plain Lean.
-/
namespace Go.Proofs.Ytpdckjbknphelaa
open Go.RowKit
set_option linter.unusedSimpArgs false
set_option linter.unusedVariables false
set_option linter.unusedSectionVars false

structure Sl where
  sp : Sp
  full : Bool
  dirty : Bool
  mark : Bool
  pins : Int
def slZ : Sl := ⟨(0, 0, 0), false, false, false, 0⟩
def slL (x : Sl) : List Value := [.int .i64 x.sp.1, .int .i64 x.sp.2.1, .int .i64 x.sp.2.2, .bool x.full, .bool x.dirty, .bool x.mark, .int .i64 x.pins]
def slF (g : Nat → Sl) (i : Nat) : Value := (slL (g (i / 7))).getD (i % 7) undef
def updS (g : Nat → Sl) (i : Nat) (x : Sl) : Nat → Sl := fun j => if j = i then x else g j
theorem updS_same (g : Nat → Sl) (i : Nat) (x : Sl) : updS g i x i = x := if_pos rfl
theorem updS_other {g : Nat → Sl} {i j : Nat} {x : Sl} (h : j ≠ i) : updS g i x j = g j := if_neg h
theorem slF_at (g : Nat → Sl) (i k : Nat) (hk : k < 7) : slF g (i * 7 + k) = (slL (g i)).getD k undef := by
  unfold slF
  rw [show (i * 7 + k) / 7 = i by omega, show (i * 7 + k) % 7 = k by omega]
/-- The blocks of a cache. -/
structure Bc where
  cb : Nat
  sb : Nat
  mb : Nat
  pb : Nat
  slab : Nat
  tb : Nat
  wb : Nat
  n : Nat
  ld : Value
structure Cs where
  sl : Nat → Sl
  hand : Nat
  wh : Sp → Option Nat
  ce : Nat → Int × Int
  kept : List (Sp × Int)
  calls : List (Bool × Sp × Int)
def loadF (wb : Nat) : Value := .func (.func 9) #[.pointer (some ⟨wb, 0, none⟩)] #[]
def saveF (wb : Nat) : Value := .func (.func 10) #[.pointer (some ⟨wb, 0, none⟩)] #[]
/-- What calls of a cache change. -/
def chA [Xs] (c : Nat) : Obj → Prop
  | .cells _ T _ => ¬ Xs.X c ∧ (T = 29 ∨ T = 84 ∨ T = 58 ∨ T = 63 ∨ T = 94 ∨ T = 5)
  | .map _ _ => ¬ Xs.X c
  | _ => False
theorem chW_A [Xs] {c : Nat} {o : Obj} (h : chW c o) : chA c o := by
  cases o <;> simp [chW, chA] at *
  refine ⟨h.1, ?_⟩
  rcases h.2 with h | h | h <;> simp [h]
structure Cv [Xs] (w W : World) (b : Bc) (c : Cs) (fail stop : Int) : Prop where
  cache : Blk W b.cb [.pointer (some ⟨b.pb, 0, none⟩), .slice (some ⟨b.sb, 0, none⟩) b.n b.n, .map (some b.mb), .int .i64 c.hand, b.ld, saveF b.wb] 63
  slots : Row1 W b.sb 94 (b.n * 7) (slF c.sl)
  map : ∃ K, K ≤ c.calls.length ∧ Mp W b.mb K c.wh
  whOk : ∀ s i, c.wh s = some i ↔ i < b.n ∧ (c.sl i).full = true ∧ (c.sl i).sp = s
  spOk : ∀ i, (c.sl i).full = true → spOk (c.sl i).sp
  pool : ∃ li du tk, Fp w W b.pb b.slab b.tb b.n c.ce li du tk
  world : Wv W w.heap.size b.wb c.kept c.calls fail stop
  hand : c.hand < b.n
  vals : ∀ i, i < b.n → ∃ v, 0 ≤ v ∧ v ≤ 7 ∧ c.ce (i * 4096 + 5) = cellV v
  keptv : ∀ p ∈ c.kept, 0 ≤ p.2 ∧ p.2 ≤ 7
  n1 : 1 ≤ b.n
  n64 : b.n ≤ 64
  lc : w.heap.size ≤ b.cb
  ls : w.heap.size ≤ b.sb
  lm : w.heap.size ≤ b.mb
  nx : ¬ Xs.X b.cb ∧ ¬ Xs.X b.sb ∧ ¬ Xs.X b.mb ∧ ¬ Xs.X b.pb ∧ ¬ Xs.X b.slab ∧ ¬ Xs.X b.tb
section
variable [Xs] {w W W' : World} {b : Bc} {c : Cs} {fail stop : Int}
theorem Cv.below (h : Cv w W b c fail stop) : Below w.heap.size w W := h.pool.elim fun _ h => h.elim fun _ h => h.elim fun _ h => h.below
theorem Cv.keep (h : Cv w W b c fail stop) (hb : Below W.heap.size W W') : Cv w W' b c fail stop :=
  { h with cache := h.cache.below hb h.cache.lt, slots := h.slots.keep hb, map := h.map.elim fun K k => ⟨K, k.1, k.2.keep hb⟩, pool := h.pool.elim fun li k => k.elim fun du k => k.elim fun tk k => ⟨li, du, tk, k.keep hb⟩, world := h.world.keep hb }
omit [Xs] in
theorem Blk.neT {w : World} {b b' : Nat} {cs cs' : List Value} {T T' : TypeId} (h : Blk w b cs T) (k : Blk w b' cs' T') (hT : T ≠ T') : b ≠ b' := fun e => by
  subst e
  unfold Blk at h k
  rw [h] at k
  injection k with k
  injection k with _ k2
  exact hT k2
omit [Xs] in
theorem Mp.neB {w : World} {m b n : Nat} {cs : List Value} {T : TypeId} {g : Sp → Option Nat} (h : Mp w m n g) (k : Blk w b cs T) : m ≠ b := fun e => by
  subst e
  obtain ⟨D, ⟨es, clock, h1, _⟩, _⟩ := h
  unfold Blk at k
  rw [h1] at k
  cases k
omit [Xs] in
/-- A block changes that is none of the pool's. -/
theorem Fp.other {pb sb tb n a : Nat} {ce li : Nat → Int × Int} {du : Nat → Int} {tk : Nat → Bool} (h : Fp w W pb sb tb n ce li du tk) (hb : But a W W') (ha : w.heap.size ≤ a) (h1 : pb ≠ a) (h2 : sb ≠ a) (h3 : tb ≠ a) : Fp w W' pb sb tb n ce li du tk :=
  ⟨{ h.1 with pool := h.1.pool.but hb h1, slab := h.1.slab.but hb h2, take := h.1.take.but hb h3 }, h.2.1, h.2.2.1, h.2.2.2.1, But.step h.below hb ha h.below.size⟩
theorem Wv.other {B wb a : Nat} {kept : List (Sp × Int)} {calls : List (Bool × Sp × Int)} {cs : List Value} {T : TypeId} (h : Wv W B wb kept calls fail stop) (hb : But a W W') (k : Blk W a cs T) (hT : T ≠ 29 ∧ T ≠ 84 ∧ T ≠ 58) : Wv W' B wb kept calls fail stop := by
  obtain ⟨h0, kv, cv, h1, h2, h3⟩ := h
  exact ⟨h0.mono hb.size, kv, cv, h1.but hb (h1.neT k hT.1.symm), h2.but hb (h2.ne k hT.2.1), h3.but hb (h3.ne k hT.2.2)⟩
/-- The map's block changes. -/
theorem Wv.otherM {B wb a : Nat} {kept : List (Sp × Int)} {calls : List (Bool × Sp × Int)} {n : Nat} {g : Sp → Option Nat} (h : Wv W B wb kept calls fail stop) (hb : But a W W') (k : Mp W a n g) : Wv W' B wb kept calls fail stop := by
  obtain ⟨h0, kv, cv, h1, h2, h3⟩ := h
  exact ⟨h0.mono hb.size, kv, cv, h1.but hb (k.neB h1).symm, h2.but hb (fun e => by obtain ⟨cs, kb⟩ := h2.blk e; exact k.neB kb rfl), h3.but hb (fun e => by obtain ⟨cs, kb⟩ := h3.blk e; exact k.neB kb rfl)⟩
omit [Xs] in
theorem Row1.lt' {w : World} {c n : Nat} {T : TypeId} {f : Nat → Value} (h : Row1 w c T n f) : ∃ cs, Blk w c cs T := h.elim fun cs k => ⟨cs, k.1⟩
/-- The slots' row is another one. -/
theorem Cv.setSlots (h : Cv w W b c fail stop) (hb : But b.sb W W') {g : Nat → Sl} (hr : Row1 W' b.sb 94 (b.n * 7) (slF g)) (hw : ∀ s i, c.wh s = some i ↔ i < b.n ∧ (g i).full = true ∧ (g i).sp = s) (ho : ∀ i, (g i).full = true → Go.Proofs.Ytpdckjbknphelaa.spOk (g i).sp) :
    Cv w W' b { c with sl := g } fail stop := by
  obtain ⟨cs, ks⟩ := h.slots.lt'
  obtain ⟨K, hK, hm⟩ := h.map
  obtain ⟨li, du, tk, hp⟩ := h.pool
  obtain ⟨c1, k1⟩ := hp.1.slab.lt'
  obtain ⟨c2, k2⟩ := hp.1.take.lt'
  exact { h with cache := h.cache.but hb (h.cache.neT ks (by decide)), slots := hr, map := ⟨K, hK, hm.but hb (hm.neB ks)⟩, whOk := hw, spOk := ho, pool := ⟨li, du, tk, hp.other hb h.ls (hp.1.pool.neT ks (by decide)) (k1.neT ks (by decide)) (k2.neT ks (by decide))⟩, world := h.world.other hb ks ⟨by decide, by decide, by decide⟩ }
/-- The hand moves. -/
theorem Cv.setHand (h : Cv w W b c fail stop) {k : Nat} (hk : k < b.n) : Cv w (W.setCell ⟨b.cb, 3, none⟩ (.int .i64 k)) b { c with hand := k } fail stop := by
  have hb : But b.cb W (W.setCell ⟨b.cb, 3, none⟩ (.int .i64 k)) := (But.refl _ _).setCell 3 _
  obtain ⟨cs, ks⟩ := h.slots.lt'
  obtain ⟨K, hK, hm⟩ := h.map
  obtain ⟨li, du, tk, hp⟩ := h.pool
  obtain ⟨c1, k1⟩ := hp.1.slab.lt'
  obtain ⟨c2, k2⟩ := hp.1.take.lt'
  exact { h with cache := h.cache.set 3 _, slots := h.slots.but hb (ks.neT h.cache (by decide)), map := ⟨K, hK, hm.but hb (hm.neB h.cache)⟩, pool := ⟨li, du, tk, hp.other hb h.lc (hp.1.pool.neT h.cache (by decide)) (k1.neT h.cache (by decide)) (k2.neT h.cache (by decide))⟩, world := h.world.other hb h.cache ⟨by decide, by decide, by decide⟩, hand := hk }
/-- The map tells something else, as the slots do. -/
theorem Cv.setMap (h : Cv w W b c fail stop) (hb : But b.mb W W') {K : Nat} {wh : Sp → Option Nat} (hK : K ≤ c.calls.length) (hm' : Mp W' b.mb K wh) (hw : ∀ s i, wh s = some i ↔ i < b.n ∧ (c.sl i).full = true ∧ (c.sl i).sp = s) : Cv w W' b { c with wh := wh } fail stop := by
  obtain ⟨cs, ks⟩ := h.slots.lt'
  obtain ⟨K0, hK0, hm⟩ := h.map
  obtain ⟨li, du, tk, hp⟩ := h.pool
  obtain ⟨c1, k1⟩ := hp.1.slab.lt'
  obtain ⟨c2, k2⟩ := hp.1.take.lt'
  exact { h with cache := h.cache.but hb (hm.neB h.cache).symm, slots := h.slots.but hb (hm.neB ks).symm, map := ⟨K, hK, hm'⟩, whOk := hw, pool := ⟨li, du, tk, hp.other hb h.lm (hm.neB hp.1.pool).symm (hm.neB k1).symm (hm.neB k2).symm⟩, world := h.world.otherM hb hm }
end

/-! The search: the hand's steps. -/
def stepM (g : Nat → Sl) (i : Nat) : Nat → Sl := updS g i { g i with mark := false }
/-- So many steps of the hand at most: the slot that it stops at, the slots, the hand. -/
def findIt (n : Nat) : Nat → (Nat → Sl) → Nat → Option (Nat × (Nat → Sl) × Nat)
  | 0, _, _ => none
  | F + 1, g, h => if 0 < (g h).pins then findIt n F g ((h + 1) % n) else if (g h).mark = true then findIt n F (stepM g h) ((h + 1) % n) else some (h, g, (h + 1) % n)
/-- The first slot that is empty. -/
def emptyAt (n : Nat) (g : Nat → Sl) : Option Nat := (List.range n).find? fun i => !(g i).full
def pinnedN (g : Nat → Sl) : Nat → Nat
  | 0 => 0
  | k + 1 => pinnedN g k + if 0 < (g k).pins then 1 else 0
def findS (n : Nat) (g : Nat → Sl) (h : Nat) : Option (Nat × (Nat → Sl) × Nat) := match emptyAt n g with
  | some i => some (i, g, h)
  | none => if pinnedN g n = n then none else findIt n (2 * n + 1) g h
end Go.Proofs.Ytpdckjbknphelaa

/-
  The cache's search for a frame: in plain Lean.
-/
namespace Go.Proofs.Ytpdckjbknphelaa
open Go.RowKit
set_option linter.unusedSimpArgs false
set_option linter.unusedVariables false
set_option linter.unusedSectionVars false

theorem stepM_u (g : Nat → Sl) (i j : Nat) : (stepM g i j).sp = (g j).sp ∧ (stepM g i j).full = (g j).full ∧ (stepM g i j).dirty = (g j).dirty ∧ (stepM g i j).pins = (g j).pins ∧ ((g j).mark = false → (stepM g i j).mark = false) := by
  unfold stepM updS
  split
  · rename_i e
    subst e
    exact ⟨rfl, rfl, rfl, rfl, fun _ => rfl⟩
  · exact ⟨rfl, rfl, rfl, rfl, fun h => h⟩
theorem findIt_near {n : Nat} (hn : 0 < n) : ∀ (d F : Nat) (g : Nat → Sl) (h u : Nat), d < F → (h + d) % n = u → h < n → (g u).pins ≤ 0 → (g u).mark = false → findIt n F g h ≠ none
  | d, 0, g, h, u, hd, _, _, _, _ => absurd hd (Nat.not_lt_zero _)
  | 0, F + 1, g, h, u, hd, hu, hh, hp, hm => by
    rw [Nat.add_zero, Nat.mod_eq_of_lt hh] at hu
    subst hu
    unfold findIt
    rw [if_neg (by omega), if_neg (by rw [hm]; simp)]
    simp
  | d + 1, F + 1, g, h, u, hd, hu, hh, hp, hm => by
    have hu' : ((h + 1) % n + d) % n = u := by rw [Nat.mod_add_mod, ← hu]; congr 1; omega
    unfold findIt
    split
    · exact findIt_near hn d F g _ u (by omega) hu' (Nat.mod_lt _ hn) hp hm
    · split
      · have := stepM_u g h u
        exact findIt_near hn d F _ _ u (by omega) hu' (Nat.mod_lt _ hn) (by rw [this.2.2.2.1]; exact hp) (this.2.2.2.2 hm)
      · simp
theorem findIt_some {n : Nat} (hn : 0 < n) : ∀ (d F : Nat) (g : Nat → Sl) (h u : Nat), d + n < F → (h + d) % n = u → h < n → (g u).pins ≤ 0 → findIt n F g h ≠ none
  | d, 0, g, h, u, hd, _, _, _ => absurd hd (Nat.not_lt_zero _)
  | 0, F + 1, g, h, u, hd, hu, hh, hp => by
    rw [Nat.add_zero, Nat.mod_eq_of_lt hh] at hu
    subst hu
    unfold findIt
    rw [if_neg (by omega)]
    split
    · refine findIt_near hn (n - 1) F _ _ h (by omega) ?_ (Nat.mod_lt _ hn) (by rw [(stepM_u g h h).2.2.2.1]; exact hp) (by unfold stepM; rw [updS_same])
      rw [Nat.mod_add_mod, show h + 1 + (n - 1) = h + n by omega, Nat.add_mod_right, Nat.mod_eq_of_lt hh]
    · simp
  | d + 1, F + 1, g, h, u, hd, hu, hh, hp => by
    have hu' : ((h + 1) % n + d) % n = u := by rw [Nat.mod_add_mod, ← hu]; congr 1; omega
    unfold findIt
    split
    · exact findIt_some hn d F g _ u (by omega) hu' (Nat.mod_lt _ hn) hp
    · split
      · exact findIt_some hn d F _ _ u (by omega) hu' (Nat.mod_lt _ hn) (by rw [(stepM_u g h u).2.2.2.1]; exact hp)
      · simp
/-- The slots but for their marks. -/
def SameBut (g g' : Nat → Sl) : Prop := ∀ j, (g' j).sp = (g j).sp ∧ (g' j).full = (g j).full ∧ (g' j).dirty = (g j).dirty ∧ (g' j).pins = (g j).pins
theorem SameBut.refl (g : Nat → Sl) : SameBut g g := fun j => ⟨rfl, rfl, rfl, rfl⟩
theorem SameBut.step {g g' : Nat → Sl} {h : Nat} (k : SameBut (stepM g h) g') : SameBut g g' := fun j => by
  obtain ⟨a1, a2, a3, a4⟩ := k j
  obtain ⟨b1, b2, b3, b4, _⟩ := stepM_u g h j
  exact ⟨a1.trans b1, a2.trans b2, a3.trans b3, a4.trans b4⟩
theorem findIt_res {n : Nat} (hn : 0 < n) : ∀ (F : Nat) (g : Nat → Sl) (h i : Nat) (g' : Nat → Sl) (h' : Nat), h < n → findIt n F g h = some (i, g', h') → i < n ∧ (g' i).pins ≤ 0 ∧ SameBut g g' ∧ h' < n
  | 0, g, h, i, g', h', _, e => by cases e
  | F + 1, g, h, i, g', h', hh, e => by
    unfold findIt at e
    split at e
    · exact findIt_res hn F g _ i g' h' (Nat.mod_lt _ hn) e
    · split at e
      · obtain ⟨h1, h2, h3, h4⟩ := findIt_res hn F _ _ i g' h' (Nat.mod_lt _ hn) e
        exact ⟨h1, h2, h3.step, h4⟩
      · cases e
        exact ⟨hh, by omega, SameBut.refl _, Nat.mod_lt _ hn⟩
theorem emptyAt_some {n k : Nat} {g : Nat → Sl} (h : ∀ j, j < k → (g j).full = true) (hk : k < n) (hf : (g k).full = false) : emptyAt n g = some k := by
  unfold emptyAt
  rw [List.find?_eq_some_iff_append]
  refine ⟨by simp [hf], List.range k, (List.range (n - k - 1)).map (· + (k + 1)), ?_, fun a ha => by simp [h a (List.mem_range.1 ha)]⟩
  rw [show n = k + ((n - k - 1) + 1) by omega, List.range_add, List.range_succ_eq_map]
  simp
  intro a _
  omega
theorem emptyAt_none {n : Nat} {g : Nat → Sl} (h : ∀ j, j < n → (g j).full = true) : emptyAt n g = none := by
  unfold emptyAt
  rw [List.find?_eq_none]
  intro a ha
  simp [h a (List.mem_range.1 ha)]
theorem pinnedN_le (g : Nat → Sl) : ∀ k, pinnedN g k ≤ k
  | 0 => Nat.le_refl _
  | k + 1 => by
    have := pinnedN_le g k
    unfold pinnedN
    split <;> omega
theorem pinnedN_lt {g : Nat → Sl} : ∀ {n : Nat}, pinnedN g n ≠ n → ∃ u, u < n ∧ (g u).pins ≤ 0
  | 0, h => absurd rfl h
  | n + 1, h => by
    unfold pinnedN at h
    by_cases hp : 0 < (g n).pins
    · rw [if_pos hp] at h
      obtain ⟨u, h1, h2⟩ := pinnedN_lt (n := n) (fun e => h (by rw [e]))
      exact ⟨u, by omega, h2⟩
    · exact ⟨n, by omega, by omega⟩
theorem findIt_go {n : Nat} {g : Nat → Sl} {h : Nat} (hn : 0 < n) (hh : h < n) (hp : pinnedN g n ≠ n) : findIt n (2 * n + 1) g h ≠ none := by
  obtain ⟨u, hu, hpu⟩ := pinnedN_lt hp
  refine findIt_some hn ((u + n - h) % n) _ g h u ?_ ?_ hh hpu
  · have := Nat.mod_lt (u + n - h) hn
    omega
  · rw [Nat.add_mod_mod, show h + (u + n - h) = u + n by omega, Nat.add_mod_right, Nat.mod_eq_of_lt hu]
section
variable [Xs] {w W W' : World} {b : Bc} {c : Cs} {fail stop : Int}
/-- A slot's cells. -/
theorem Cv.slotAt (h : Cv w W b c fail stop) {i k : Nat} (hi : i < b.n) (hk : k < 7) : W.cell? ⟨b.sb, i * 7 + k, none⟩ = some ((slL (c.sl i)).getD k undef) := by
  rw [h.slots.cell (by omega), slF_at _ _ _ hk]
omit [Xs] in
theorem slF_upd {n : Nat} (g : Nat → Sl) (i k : Nat) (x : Sl) (v : Value) (hk : k < 7) (hx : slL x = (slL (g i)).set k v) : ∀ j, j < n * 7 → slF (updS g i x) j = if j = i * 7 + k then v else slF g j := fun j hj => by
  unfold slF updS
  by_cases e : j / 7 = i
  · rw [if_pos e, hx, List.getD_eq_getElem?_getD, List.getElem?_set]
    by_cases e2 : j % 7 = k
    · rw [if_pos e2.symm, if_pos (by omega : j = i * 7 + k), if_pos (show k < (slL (g i)).length from hk)]
      rfl
    · rw [if_neg (Ne.symm e2), if_neg (by omega), e, List.getD_eq_getElem?_getD]
  · rw [if_neg e, if_neg (by omega)]
/-- A mark, whether it is dirty, its pins: one cell of a slot changes. -/
theorem Cv.setOne (h : Cv w W b c fail stop) {i k : Nat} {x : Sl} {v : Value} (hi : i < b.n) (hk : k < 7) (hx : slL x = (slL (c.sl i)).set k v) (hsp : x.sp = (c.sl i).sp) (hfu : x.full = (c.sl i).full) : Cv w (W.setCell ⟨b.sb, i * 7 + k, none⟩ v) b { c with sl := updS c.sl i x } fail stop := by
  have hall : ∀ j, (updS c.sl i x j).sp = (c.sl j).sp ∧ (updS c.sl i x j).full = (c.sl j).full := fun j => by
    unfold updS
    split
    · rename_i e; subst e; exact ⟨hsp, hfu⟩
    · exact ⟨rfl, rfl⟩
  refine h.setSlots ((But.refl _ _).setCell _ _) ((h.slots.set (i * 7 + k) v).congr fun j hj => ?_) (fun s j => ?_) (fun j hj => ?_)
  · rw [slF_upd (n := b.n) c.sl i k x v hk hx j hj]
  · rw [(hall j).1, (hall j).2]; exact h.whOk s j
  · rw [(hall j).2] at hj
    rw [(hall j).1]; exact h.spOk j hj
end
end Go.Proofs.Ytpdckjbknphelaa
