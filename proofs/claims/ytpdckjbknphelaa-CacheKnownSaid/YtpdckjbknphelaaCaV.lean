/-
  A cache, as one reads it: slots, the hand, the map, the frames, the world behind it. The search for a frame, in plain Lean.
-/
import Derived.Test.YtpdckjbknphelaaCaZ
import Derived.Test.YtpdckjbknphelaaPlace
namespace Go.Proofs.Ytpdckjbknphelaa
open Go.RowKit
set_option linter.unusedSimpArgs false
set_option linter.unusedVariables false

structure Sl where
  sp : Sp
  full : Bool
  dirty : Bool
  mark : Bool
  pins : Int
def slZ : Sl := ⟨(0, 0, 0), false, false, false, 0⟩
def slL (x : Sl) : List Value := [.int .i64 x.sp.1, .int .i64 x.sp.2.1, .int .i64 x.sp.2.2, .bool x.full, .bool x.dirty, .bool x.mark, .int .i64 x.pins]
def slF (g : Nat → Sl) (i : Nat) : Value := (slL (g (i / 7))).getD (i % 7) undef
def updS (g : Nat → Sl) (i : Nat) (x : Sl) : Nat → Sl := fun j => if j = i then x else g j
theorem updS_same (g : Nat → Sl) (i : Nat) (x : Sl) : updS g i x i = x := if_pos rfl
theorem updS_other {g : Nat → Sl} {i j : Nat} {x : Sl} (h : j ≠ i) : updS g i x j = g j := if_neg h
theorem slF_at (g : Nat → Sl) (i k : Nat) (hk : k < 7) : slF g (i * 7 + k) = (slL (g i)).getD k undef := by
  unfold slF
  rw [show (i * 7 + k) / 7 = i by omega, show (i * 7 + k) % 7 = k by omega]
/-- The blocks of a cache. -/
structure Bc where
  cb : Nat
  sb : Nat
  mb : Nat
  pb : Nat
  slab : Nat
  tb : Nat
  wb : Nat
  n : Nat
  ld : Value
structure Cs where
  sl : Nat → Sl
  hand : Nat
  wh : Sp → Option Nat
  ce : Nat → Int × Int
  kept : List (Sp × Int)
  calls : List (Bool × Sp × Int)
def loadF (wb : Nat) : Value := .func (.func 9) #[.pointer (some ⟨wb, 0, none⟩)] #[]
def saveF (wb : Nat) : Value := .func (.func 10) #[.pointer (some ⟨wb, 0, none⟩)] #[]
/-- What calls of a cache change. -/
def chA : Obj → Prop
  | .cells _ T _ => T = 29 ∨ T = 84 ∨ T = 58 ∨ T = 63 ∨ T = 94 ∨ T = 5
  | .map _ _ => True
  | _ => False
theorem chW_A {o : Obj} (h : chW o) : chA o := by
  cases o <;> simp [chW, chA] at *
  rcases h with h | h | h <;> simp [h]
structure Cv (w W : World) (b : Bc) (c : Cs) (fail stop : Int) : Prop where
  cache : Blk W b.cb [.pointer (some ⟨b.pb, 0, none⟩), .slice (some ⟨b.sb, 0, none⟩) b.n b.n, .map (some b.mb), .int .i64 c.hand, b.ld, saveF b.wb] 63
  slots : Row1 W b.sb 94 (b.n * 7) (slF c.sl)
  map : ∃ K, K ≤ c.calls.length ∧ Mp W b.mb K c.wh
  whOk : ∀ s i, c.wh s = some i ↔ i < b.n ∧ (c.sl i).full = true ∧ (c.sl i).sp = s
  spOk : ∀ i, (c.sl i).full = true → spOk (c.sl i).sp
  pool : ∃ li du tk, Fp w W b.pb b.slab b.tb b.n c.ce li du tk
  world : Wv W w.heap.size b.wb c.kept c.calls fail stop
  hand : c.hand < b.n
  vals : ∀ i, i < b.n → ∃ v, 0 ≤ v ∧ v ≤ 7 ∧ c.ce (i * 4096 + 5) = cellV v
  keptv : ∀ p ∈ c.kept, 0 ≤ p.2 ∧ p.2 ≤ 7
  n1 : 1 ≤ b.n
  n64 : b.n ≤ 64
  lc : w.heap.size ≤ b.cb
  ls : w.heap.size ≤ b.sb
  lm : w.heap.size ≤ b.mb
section
variable {w W W' : World} {b : Bc} {c : Cs} {fail stop : Int}
theorem Cv.below (h : Cv w W b c fail stop) : Below w.heap.size w W := h.pool.elim fun _ h => h.elim fun _ h => h.elim fun _ h => h.below
theorem Cv.keep (h : Cv w W b c fail stop) (hb : Below W.heap.size W W') : Cv w W' b c fail stop :=
  { h with cache := h.cache.below hb h.cache.lt, slots := h.slots.keep hb, map := h.map.elim fun K k => ⟨K, k.1, k.2.keep hb⟩, pool := h.pool.elim fun li k => k.elim fun du k => k.elim fun tk k => ⟨li, du, tk, k.keep hb⟩, world := h.world.keep hb }
theorem Blk.neT {w : World} {b b' : Nat} {cs cs' : List Value} {T T' : TypeId} (h : Blk w b cs T) (k : Blk w b' cs' T') (hT : T ≠ T') : b ≠ b' := fun e => by
  subst e
  unfold Blk at h k
  rw [h] at k
  injection k with k
  injection k with _ k2
  exact hT k2
theorem Mp.neB {w : World} {m b n : Nat} {cs : List Value} {T : TypeId} {g : Sp → Option Nat} (h : Mp w m n g) (k : Blk w b cs T) : m ≠ b := fun e => by
  subst e
  obtain ⟨D, ⟨es, clock, h1, _⟩, _⟩ := h
  unfold Blk at k
  rw [h1] at k
  cases k
/-- A block changes that is none of the pool's. -/
theorem Fp.other {pb sb tb n a : Nat} {ce li : Nat → Int × Int} {du : Nat → Int} {tk : Nat → Bool} (h : Fp w W pb sb tb n ce li du tk) (hb : But a W W') (ha : w.heap.size ≤ a) (h1 : pb ≠ a) (h2 : sb ≠ a) (h3 : tb ≠ a) : Fp w W' pb sb tb n ce li du tk :=
  ⟨{ h.1 with pool := h.1.pool.but hb h1, slab := h.1.slab.but hb h2, take := h.1.take.but hb h3 }, h.2.1, h.2.2.1, h.2.2.2.1, But.step h.below hb ha h.below.size⟩
theorem Wv.other {B wb a : Nat} {kept : List (Sp × Int)} {calls : List (Bool × Sp × Int)} {cs : List Value} {T : TypeId} (h : Wv W B wb kept calls fail stop) (hb : But a W W') (k : Blk W a cs T) (hT : T ≠ 29 ∧ T ≠ 84 ∧ T ≠ 58) : Wv W' B wb kept calls fail stop := by
  obtain ⟨h0, kv, cv, h1, h2, h3⟩ := h
  exact ⟨h0, kv, cv, h1.but hb (h1.neT k hT.1.symm), h2.but hb (h2.ne k hT.2.1), h3.but hb (h3.ne k hT.2.2)⟩
/-- The map's block changes. -/
theorem Wv.otherM {B wb a : Nat} {kept : List (Sp × Int)} {calls : List (Bool × Sp × Int)} {n : Nat} {g : Sp → Option Nat} (h : Wv W B wb kept calls fail stop) (hb : But a W W') (k : Mp W a n g) : Wv W' B wb kept calls fail stop := by
  obtain ⟨h0, kv, cv, h1, h2, h3⟩ := h
  exact ⟨h0, kv, cv, h1.but hb (k.neB h1).symm, h2.but hb (fun e => by obtain ⟨cs, kb⟩ := h2.blk e; exact k.neB kb rfl), h3.but hb (fun e => by obtain ⟨cs, kb⟩ := h3.blk e; exact k.neB kb rfl)⟩
theorem Row1.lt' {w : World} {c n : Nat} {T : TypeId} {f : Nat → Value} (h : Row1 w c T n f) : ∃ cs, Blk w c cs T := h.elim fun cs k => ⟨cs, k.1⟩
/-- The slots' row is another one. -/
theorem Cv.setSlots (h : Cv w W b c fail stop) (hb : But b.sb W W') {g : Nat → Sl} (hr : Row1 W' b.sb 94 (b.n * 7) (slF g)) (hw : ∀ s i, c.wh s = some i ↔ i < b.n ∧ (g i).full = true ∧ (g i).sp = s) (ho : ∀ i, (g i).full = true → Go.Proofs.Ytpdckjbknphelaa.spOk (g i).sp) :
    Cv w W' b { c with sl := g } fail stop := by
  obtain ⟨cs, ks⟩ := h.slots.lt'
  obtain ⟨K, hK, hm⟩ := h.map
  obtain ⟨li, du, tk, hp⟩ := h.pool
  obtain ⟨c1, k1⟩ := hp.1.slab.lt'
  obtain ⟨c2, k2⟩ := hp.1.take.lt'
  exact { h with cache := h.cache.but hb (h.cache.neT ks (by decide)), slots := hr, map := ⟨K, hK, hm.but hb (hm.neB ks)⟩, whOk := hw, spOk := ho, pool := ⟨li, du, tk, hp.other hb h.ls (hp.1.pool.neT ks (by decide)) (k1.neT ks (by decide)) (k2.neT ks (by decide))⟩, world := h.world.other hb ks ⟨by decide, by decide, by decide⟩ }
/-- The hand moves. -/
theorem Cv.setHand (h : Cv w W b c fail stop) {k : Nat} (hk : k < b.n) : Cv w (W.setCell ⟨b.cb, 3, none⟩ (.int .i64 k)) b { c with hand := k } fail stop := by
  have hb : But b.cb W (W.setCell ⟨b.cb, 3, none⟩ (.int .i64 k)) := (But.refl _ _).setCell 3 _
  obtain ⟨cs, ks⟩ := h.slots.lt'
  obtain ⟨K, hK, hm⟩ := h.map
  obtain ⟨li, du, tk, hp⟩ := h.pool
  obtain ⟨c1, k1⟩ := hp.1.slab.lt'
  obtain ⟨c2, k2⟩ := hp.1.take.lt'
  exact { h with cache := h.cache.set 3 _, slots := h.slots.but hb (ks.neT h.cache (by decide)), map := ⟨K, hK, hm.but hb (hm.neB h.cache)⟩, pool := ⟨li, du, tk, hp.other hb h.lc (hp.1.pool.neT h.cache (by decide)) (k1.neT h.cache (by decide)) (k2.neT h.cache (by decide))⟩, world := h.world.other hb h.cache ⟨by decide, by decide, by decide⟩, hand := hk }
/-- The map tells something else, as the slots do. -/
theorem Cv.setMap (h : Cv w W b c fail stop) (hb : But b.mb W W') {K : Nat} {wh : Sp → Option Nat} (hK : K ≤ c.calls.length) (hm' : Mp W' b.mb K wh) (hw : ∀ s i, wh s = some i ↔ i < b.n ∧ (c.sl i).full = true ∧ (c.sl i).sp = s) : Cv w W' b { c with wh := wh } fail stop := by
  obtain ⟨cs, ks⟩ := h.slots.lt'
  obtain ⟨K0, hK0, hm⟩ := h.map
  obtain ⟨li, du, tk, hp⟩ := h.pool
  obtain ⟨c1, k1⟩ := hp.1.slab.lt'
  obtain ⟨c2, k2⟩ := hp.1.take.lt'
  exact { h with cache := h.cache.but hb (hm.neB h.cache).symm, slots := h.slots.but hb (hm.neB ks).symm, map := ⟨K, hK, hm'⟩, whOk := hw, pool := ⟨li, du, tk, hp.other hb h.lm (hm.neB hp.1.pool).symm (hm.neB k1).symm (hm.neB k2).symm⟩, world := h.world.otherM hb hm }
end

/-! The search: the hand's steps. -/
def stepM (g : Nat → Sl) (i : Nat) : Nat → Sl := updS g i { g i with mark := false }
/-- So many steps of the hand at most: the slot that it stops at, the slots, the hand. -/
def findIt (n : Nat) : Nat → (Nat → Sl) → Nat → Option (Nat × (Nat → Sl) × Nat)
  | 0, _, _ => none
  | F + 1, g, h => if 0 < (g h).pins then findIt n F g ((h + 1) % n) else if (g h).mark = true then findIt n F (stepM g h) ((h + 1) % n) else some (h, g, (h + 1) % n)
/-- The first slot that is empty. -/
def emptyAt (n : Nat) (g : Nat → Sl) : Option Nat := (List.range n).find? fun i => !(g i).full
def pinnedN (g : Nat → Sl) : Nat → Nat
  | 0 => 0
  | k + 1 => pinnedN g k + if 0 < (g k).pins then 1 else 0
def findS (n : Nat) (g : Nat → Sl) (h : Nat) : Option (Nat × (Nat → Sl) × Nat) := match emptyAt n g with
  | some i => some (i, g, h)
  | none => if pinnedN g n = n then none else findIt n (2 * n + 1) g h
end Go.Proofs.Ytpdckjbknphelaa
