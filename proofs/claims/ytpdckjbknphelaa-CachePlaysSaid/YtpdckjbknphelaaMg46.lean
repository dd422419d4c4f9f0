/-
  Both caches, one beside the other; how they are made.
-/
import Derived.Test.YtpdckjbknphelaaRfI
namespace Go.Proofs.Ytpdckjbknphelaa
open Go.RowKit
set_option linter.unusedSimpArgs false
set_option linter.unusedVariables false
section
variable {w W W' : World} {r : Rb} {c : Cs} {kv cv : Value} {b : Bc} {fail stop : Int}
/-- The cache's calls leave the reference's blocks. -/
theorem Rv.chg {B : Nat} (h : Rv W r kv cv c) (k : Chg B (@chA ⟨rX r kv cv⟩) W W') : Rv W' r kv cv c := by
  have hx : ∀ x o, rX r kv cv x → W.heap[x]? = some o → W'.heap[x]? = some o := fun x o hX ho => k.block x o ho (.inr (fun hc => by
    cases o <;> simp [chA] at hc
    · exact hc.1 hX
    · exact hc hX))
  have hrow : ∀ {B' z : Nat} {E : TypeId} {v : Value} {xs : List (List Value)}, ROwn W B' E z v xs → (∀ g, v.ownBlock = some g → rX r kv cv g) → ROwn W' B' E z v xs := fun kr hg => kr.block fun g hgg => by
    obtain ⟨cs, kb⟩ := kr.blk hgg
    unfold Blk at kb
    rw [hx g _ (hg g hgg) kb, kb]
  exact { h with cache := hx _ _ (.inl rfl) h.cache, slots := h.slots.elim fun vs ⟨⟨cs, k1, k2⟩, k3⟩ => ⟨vs, ⟨cs, hx _ _ (.inr (.inl rfl)) k1, k2⟩, k3⟩, kept := hrow h.kept fun g hg => .inr (.inr (.inl hg)), calls := hrow h.calls fun g hg => .inr (.inr (.inr hg)) }
theorem Rv.rw (h : Rv W r kv cv c) : Rw W (rX r kv cv) W r c := ⟨kv, cv, h, Kb.refl _ _, fun x hx => .inl hx⟩
theorem Rv.lo (h : Rv W r kv cv c) : ∀ x, rX r kv cv x → r.B ≤ x ∧ x < W.heap.size := by
  intro x hx
  rcases hx with hx | hx | hx | hx
  · rw [hx]; exact ⟨h.lq, h.cache.lt⟩
  · rw [hx]; exact ⟨h.ls, h.slots.elim fun vs k => k.1.lt⟩
  · exact h.kept.lt hx
  · exact h.calls.lt hx
/-- The reference's calls leave the cache's blocks. -/
theorem Cv.moved {X X' : Nat → Prop} (h : @Cv ⟨X⟩ w W b c fail stop) (k : Kb X W W') (hX : ∀ x, X' x → X x ∨ W.heap.size ≤ x) (hlo : ∀ x, X x → w.heap.size ≤ x) (hlt : ∀ x, X' x → x < W'.heap.size) : @Cv ⟨X'⟩ w W' b c fail stop := by
  have hb : ∀ {a : Nat} {cs : List Value} {T : TypeId}, Blk W a cs T → ¬ X a → Blk W' a cs T := fun kb hn => (k.block _ kb.lt hn).trans kb
  have hn : ∀ {a : Nat}, a < W.heap.size → ¬ X a → ¬ X' a := fun hl hx hx' => (hX _ hx').elim hx (fun hh => by omega)
  have hr : ∀ {B' z : Nat} {E : TypeId} {v : Value} {xs : List (List Value)}, @ROwx ⟨X⟩ W B' E z v xs → @ROwx ⟨X'⟩ W' B' E z v xs := fun kr => ⟨kr.1.block fun g hg => k.block g (kr.1.lt hg).2 (kr.2 g hg), fun g hg => hn (kr.1.lt hg).2 (kr.2 g hg)⟩
  letI : Xs := ⟨X⟩
  obtain ⟨n1, n2, n3, n4, n5, n6⟩ := h.nx
  obtain ⟨K, hK, hm⟩ := h.map
  obtain ⟨li, du, tk, hp⟩ := h.pool
  obtain ⟨hwx, wkv, wcv, w1, w2, w3⟩ := h.world
  have hwnx := hwx.nx
  have hwle := hwx.le
  have hca := h.cache
  have hsl := h.slots
  have e1 := h.whOk
  have e2 := h.spOk
  have e3 := h.hand
  have e4 := h.vals
  have e5 := h.keptv
  have e6 := h.n1
  have e7 := h.n64
  have e8 := h.lc
  have e9 := h.ls
  have e10 := h.lm
  have hbel := hp.below
  have hbel' : Below w.heap.size w W' := ⟨k.os.trans hbel.os, k.tape.trans hbel.tape, k.output.trans hbel.output, Nat.le_trans hbel.size k.size, fun x hx => (k.block x (Nat.lt_of_lt_of_le hx hbel.size) (fun hxx => by have := hlo x hxx; omega)).trans (hbel.block x hx)⟩
  have hrow : ∀ {a n : Nat} {T : TypeId} {f : Nat → Value}, Row1 W a T n f → ¬ X a → Row1 W' a T n f := fun kr hx => kr.elim fun cs q => ⟨cs, hb q.1 hx, q.2⟩
  letI : Xs := ⟨X'⟩
  exact {
    cache := hb hca n1
    slots := hrow hsl n2
    map := ⟨K, hK, hm.block (k.block _ hm.lt n3)⟩
    whOk := e1
    spOk := e2
    pool := ⟨li, du, tk, ⟨{ hp.1 with pool := hb hp.1.pool n4, slab := hrow hp.1.slab n5, take := hrow hp.1.take n6 }, hp.2.1, hp.2.2.1, hp.2.2.2.1, hbel'⟩⟩
    world := ⟨⟨hwle, hn w1.lt hwnx, hlt⟩, wkv, wcv, hb w1 hwnx, hr w2, hr w3⟩
    hand := e3
    vals := e4
    keptv := e5
    n1 := e6
    n64 := e7
    lc := e8
    ls := e9
    lm := e10
    nx := ⟨hn hca.lt n1, hn hsl.lt n2, hn hm.lt n3, hn hp.1.pool.lt n4, hn hp.1.slab.lt n5, hn hp.1.take.lt n6⟩ }
end
theorem info_rslot : (Try.prog.info? 78).map (fun i => (i.zero, i.size, i.bytes)) = some (some (.agg #[.int .i64 0, .int .i64 0, .int .i64 0, .bool false, .bool false, .bool false, .int .i64 0, .int .i64 0]), 8, 48) := by kernel_rfl
theorem make_rslots (n : Nat) (hn : n ≤ 1000) : ∀ u : World, (Instr.makeSlice 72 (.int .i64 (n : Int)) (.int .i64 (n : Int))).run Try.prog u = .ok (.slice (some ⟨u.heap.size, 0, none⟩) n n) (u.alloc (.cells (madeCells #[.int .i64 0, .int .i64 0, .int .i64 0, .bool false, .bool false, .bool false, .int .i64 0, .int .i64 0] (n * 8)) 78)) := fun u => by
  obtain ⟨i, hi, hz, h1, h2⟩ := info_parts info_rslot
  have hr := run_make (P := Try.prog) u 72 78 i _ Try.underlying72 hi hz .i64 .i64 n n (by omega) (Int.le_refl _) (by rw [h2]; omega) (by omega)
  rw [h1] at hr
  exact hr
theorem rslots_made (n : Nat) (u : World) : Row1 (u.alloc (.cells (madeCells #[.int .i64 0, .int .i64 0, .int .i64 0, .bool false, .bool false, .bool false, .int .i64 0, .int .i64 0] (n * 8)) 78)) u.heap.size 78 (n * 8) (rslF (fun _ => slZ) fun _ => 0) := by
  refine ⟨_, Blk.new u _ _, by simp [madeCells], fun i hi => ?_⟩
  have hm : i % 8 = 0 ∨ i % 8 = 1 ∨ i % 8 = 2 ∨ i % 8 = 3 ∨ i % 8 = 4 ∨ i % 8 = 5 ∨ i % 8 = 6 ∨ i % 8 = 7 := by omega
  simp [madeCells, hi]
  unfold rslF
  rcases hm with hm | hm | hm | hm | hm | hm | hm | hm <;> simp [hm, rslL, slL, slZ]
set_option maxRecDepth 100000 in
set_option maxHeartbeats 8000000 in
theorem rnew_calls (n : Nat) (fail stop : Int) (W : World) (h1 : 1 ≤ n) (h64 : n ≤ 64) :
    Calls Try.prog 26 #[.int .i64 n, .int .i64 fail, .int .i64 stop] W fun e w' => ∃ r : Rb, e = .returned (.tuple #[.pointer (some ⟨r.q, 0, none⟩), .int .i64 0]) ∧ r.n = n ∧ r.fail = fail ∧ r.stop = stop ∧ r.B = W.heap.size ∧ Rv w' r (.slice none 0 0) (.slice none 0 0) cs0 ∧ Below W.heap.size W w' := by
  have hmk := make_rslots n (by omega)
  have hrow := rslots_made n W
  have g1 : decide ((n : Int) < 1) = false := by simp; omega
  have g2 : decide (64 < (n : Int)) = false := by simp; omega
  generalize madeCells #[.int .i64 0, .int .i64 0, .int .i64 0, .bool false, .bool false, .bool false, .int .i64 0, .int .i64 0] (n * 8) = Z at *
  have hA1 : Below W.heap.size W (W.alloc (.cells Z 78)) := (Below.refl _ _).alloc (Nat.le_refl _) _
  have hz1 : (W.alloc (.cells Z 78)).heap.size = W.heap.size + 1 := by simp
  have hA2 := hA1.alloc hA1.size (.cells #[.slice (some ⟨W.heap.size, 0, none⟩) n n, .int .i64 0, .slice none 0 0, .slice none 0 0, .int .i64 fail, .int .i64 stop] 74)
  have hc2 := Blk.new_at (w := W.alloc (.cells Z 78)) (n := W.heap.size + 1) #[.slice (some ⟨W.heap.size, 0, none⟩) n n, .int .i64 0, .slice none 0 0, .slice none 0 0, .int .i64 fail, .int .i64 stop] 74 hz1.symm
  have hrow2 := hrow.alloc (.cells #[.slice (some ⟨W.heap.size, 0, none⟩) n n, .int .i64 0, .slice none 0 0, .slice none 0 0, .int .i64 fail, .int .i64 stop] 74)
  have hE : Rv _ ⟨W.heap.size, W.heap.size + 1, W.heap.size, n, fail, stop⟩ (.slice none 0 0) (.slice none 0 0) cs0 :=
    { cache := hc2, slots := ⟨fun _ => 0, hrow2, fun j _ h => by cases h⟩, kept := ROwn.nil _ _ _ _, calls := ROwn.nil _ _ _ _, n1 := h1, n64 := h64, lq := by show W.heap.size ≤ W.heap.size + 1; omega, ls := Nat.le_refl _ }
  replace hE := Lib.hid hE
  replace hA2 := Lib.hid hA2
  clear hrow hA1 hz1 hc2 hrow2
  go_enter Try.func26, Try.ntmps26
  go_wp2_with fail
  go_ret2
  exact ⟨⟨W.heap.size, W.heap.size + 1, W.heap.size, n, fail, stop⟩, rfl, rfl, rfl, rfl, rfl, hE.out, hA2.out⟩
set_option maxRecDepth 100000 in
set_option maxHeartbeats 4000000 in
theorem rnew_bad (n : Int) (fail stop : Int) (W : World) (h : n < 1 ∨ 64 < n) :
    Calls Try.prog 26 #[.int .i64 n, .int .i64 fail, .int .i64 stop] W fun e w' => e = .returned (.tuple #[.pointer none, .int .i64 2]) ∧ w' = W := by
  by_cases h1 : n < 1
  · have g1 : decide (n < 1) = true := decide_eq_true h1
    go_enter Try.func26, Try.ntmps26
    go_wp2_with fail
    go_ret2
    exact ⟨rfl, rfl⟩
  · have g1 : decide (n < 1) = false := decide_eq_false h1
    have g2 : decide (64 < n) = true := decide_eq_true (by omega)
    go_enter Try.func26, Try.ntmps26
    go_wp2_with fail
    go_ret2
    exact ⟨rfl, rfl⟩
set_option maxRecDepth 100000 in
set_option maxHeartbeats 4000000 in
theorem cnew_bad (n : Int) (wb : Nat) (W : World) (h : n < 1 ∨ 64 < n) :
    Calls Try.prog 8 #[.int .i64 n, loadF wb, saveF wb] W fun e w' => e = .returned (.tuple #[.pointer none, .int .i64 2]) ∧ w' = W := by
  unfold loadF saveF
  by_cases h1 : n < 1
  · have g1 : decide (n < 1) = true := decide_eq_true h1
    go_enter Try.func8, Try.ntmps8
    go_wp2_with fail
    go_ret2
    exact ⟨rfl, rfl⟩
  · have g1 : decide (n < 1) = false := decide_eq_false h1
    have g2 : decide (64 < n) = true := decide_eq_true (by omega)
    go_enter Try.func8, Try.ntmps8
    go_wp2_with fail
    go_ret2
    exact ⟨rfl, rfl⟩
end Go.Proofs.Ytpdckjbknphelaa

/-
  Both caches: a call of the one, a call of the other; what a Get brings, in plain Lean.
-/
namespace Go.Proofs.Ytpdckjbknphelaa
open Go.RowKit
set_option linter.unusedSimpArgs false
set_option linter.unusedVariables false
/-- Both caches in one world: ours in the state c1, the document's in the state c. -/
structure Md (w W : World) (b : Bc) (r : Rb) (c c1 : Cs) (fail stop : Int) : Prop where
  ex : ∃ kv cv, @Cv ⟨rX r kv cv⟩ w W b c1 fail stop ∧ Rv W r kv cv c
  rn : r.n = b.n
  rf : r.fail = fail
  rs : r.stop = stop
  rB : w.heap.size ≤ r.B
  ld : b.ld = loadF b.wb
/-- Boxes of the law's stay. -/
def KeepD (W W' : World) : Prop := ∀ a cs, Blk W a cs 71 → Blk W' a cs 71
section
variable {w W W' : World} {b : Bc} {r : Rb} {c c1 c2 : Cs} {fail stop : Int}
theorem KeepD.of_below (h : Below W.heap.size W W') : KeepD W W' := fun a cs k => k.below h k.lt
theorem Md.below (h : Md w W b r c c1 fail stop) : Below w.heap.size w W := by
  obtain ⟨kv, cv, hC, _⟩ := h.ex
  exact @Cv.below ⟨rX r kv cv⟩ _ _ _ _ _ _ hC
theorem Md.keep (h : Md w W b r c c1 fail stop) (hb : Below W.heap.size W W') : Md w W' b r c c1 fail stop := by
  obtain ⟨kv, cv, hC, hR⟩ := h.ex
  exact { h with ex := ⟨kv, cv, @Cv.keep ⟨rX r kv cv⟩ _ _ _ _ _ _ _ hC hb, hR.keep hb⟩ }
/-- A call of ours. -/
theorem Md.our {f : FuncId} {args : Array Value} {v : Value} (h : Md w W b r c c1 fail stop) (hc : ∀ (X : Xs), @Cv X w W b c1 fail stop → Calls Try.prog f args W fun e W' => e = .returned v ∧ @Cv X w W' b c2 fail stop ∧ Chg w.heap.size (@chA X) W W') :
    Calls Try.prog f args W fun e W' => e = .returned v ∧ Md w W' b r c c2 fail stop ∧ KeepD W W' := by
  obtain ⟨kv, cv, hC, hR⟩ := h.ex
  exact (hc _ hC).mono fun e W' ⟨he, hC', hch⟩ => ⟨he, { h with ex := ⟨kv, cv, hC', hR.chg hch⟩ }, fun a cs k => hch.blk k (by simp [chA])⟩
/-- A call of the document's. -/
theorem Md.ref {f : FuncId} {args : Array Value} {v : Value} (h : Md w W b r c c1 fail stop) (hc : ∀ W0 Y0, Rw W0 Y0 W r c → Calls Try.prog f args W fun e W' => e = .returned v ∧ Rw W0 Y0 W' r c2) :
    Calls Try.prog f args W fun e W' => e = .returned v ∧ Md w W' b r c2 c1 fail stop ∧ KeepD W W' := by
  obtain ⟨kv, cv, hC, hR⟩ := h.ex
  obtain ⟨Y1, hY, _, hoth⟩ := hR.rw.rebase
  refine (hc W (rX r kv cv) hR.rw).mono fun e W' ⟨he, kv', cv', hR', hk, hx⟩ => ⟨he, { h with ex := ⟨kv', cv', hC.moved hk hx (fun x hx => Nat.le_trans h.rB (hR.lo x hx).1) (fun x hx => (hR'.lo x hx).2), hR'⟩ }, fun a cs k => ?_⟩
  refine (hk.block a k.lt (fun hy => ?_)).trans k
  rcases hy with hy | hy | hy | hy
  · subst hy
    exact k.neT hR.cache (by decide) rfl
  · obtain ⟨vs, ⟨cs', k', _⟩, _⟩ := hR.slots
    subst hy
    exact k.neT k' (by decide) rfl
  · exact hR.kept.ne k (by decide) hy
  · exact hR.calls.ne k (by decide) hy
/-- A call of ours that only reads. -/
theorem Md.ourQ {f : FuncId} {args : Array Value} {v : Value} (h : Md w W b r c c1 fail stop) (hc : ∀ (X : Xs), @Cv X w W b c1 fail stop → Calls Try.prog f args W fun e W' => e = .returned v ∧ Below W.heap.size W W') :
    Calls Try.prog f args W fun e W' => e = .returned v ∧ Below W.heap.size W W' := by
  obtain ⟨kv, cv, hC, hR⟩ := h.ex
  exact hc _ hC
theorem Md.rw (h : Md w W b r c c1 fail stop) : ∃ Y, Rw W Y W r c := by
  obtain ⟨kv, cv, hC, hR⟩ := h.ex
  exact ⟨_, hR.rw⟩
theorem Md.wl (h : Md w W b r c c1 fail stop) : Wl b.n c1 := by
  obtain ⟨kv, cv, hC, hR⟩ := h.ex
  exact @Cv.wl ⟨rX r kv cv⟩ _ _ _ _ _ _ hC
theorem Md.n64 (h : Md w W b r c c1 fail stop) : 1 ≤ b.n ∧ b.n ≤ 64 := by
  obtain ⟨kv, cv, hC, hR⟩ := h.ex
  exact ⟨@Cv.n1 ⟨rX r kv cv⟩ _ _ _ _ _ _ hC, @Cv.n64 ⟨rX r kv cv⟩ _ _ _ _ _ _ hC⟩
theorem Md.vOf (h : Md w W b r c c1 fail stop) {i : Nat} (hi : i < b.n) : c1.ce (i * 4096 + 5) = cellV (Go.Proofs.Ytpdckjbknphelaa.vOf c1 i) ∧ 0 ≤ Go.Proofs.Ytpdckjbknphelaa.vOf c1 i ∧ Go.Proofs.Ytpdckjbknphelaa.vOf c1 i ≤ 7 := by
  obtain ⟨kv, cv, hC, hR⟩ := h.ex
  exact @Cv.vOf ⟨rX r kv cv⟩ _ _ _ _ _ _ hC i hi
end
/-! Plain: what stays true from call to call. -/
theorem findIt_emp {n : Nat} {g : Nat → Sl} (he : ∀ j, (g j).full = false → g j = slZ) : ∀ (F h i : Nat) (g' : Nat → Sl) (h' : Nat) (_ : Nat), findIt n F g h = some (i, g', h') → ∀ j, (g' j).full = false → g' j = slZ
  | 0, h, i, g', h', _, e => by cases e
  | F + 1, h, i, g', h', z, e => by
    rw [findIt_succ] at e
    split at e
    · exact findIt_emp he F _ i g' h' z e
    · split at e
      · rename_i hm
        refine findIt_emp (g := stepM g h) (fun j hj => ?_) F _ i g' h' z e
        unfold stepM updS at hj ⊢
        split at hj
        · rename_i ej
          have := he h hj
          rw [this] at hm
          cases hm
        · rename_i ej
          rw [if_neg ej]
          exact he j hj
      · cases e
        exact he

structure Pl (k : Nat) (c : Cs) : Prop where
  emp : Emp c
  pins : ∀ i, 0 ≤ (c.sl i).pins ∧ (c.sl i).pins ≤ k
  calls : c.calls.length ≤ 66 * k
  kept : c.kept.length ≤ 66 * k
theorem Pl.start : Pl 0 cs0 := ⟨fun j _ => rfl, fun i => by simp [cs0, slZ], by simp [cs0], by simp [cs0]⟩
theorem Pl.mono {k m : Nat} {c : Cs} (h : Pl k c) (hm : k ≤ m) : Pl m c := ⟨h.emp, fun i => by have := h.pins i; omega, by have := h.calls; omega, by have := h.kept; omega⟩
/-- One slot changes. -/
theorem emp_upd {g : Nat → Sl} {i : Nat} {x : Sl} (h : ∀ j, (g j).full = false → g j = slZ) (hx : x.full = false → x = slZ) : ∀ j, (updS g i x j).full = false → updS g i x j = slZ := fun j hj => by
  unfold updS at hj ⊢
  split at hj
  · rename_i e; rw [if_pos e]; exact hx hj
  · rename_i e; rw [if_neg e]; exact h j hj
theorem pins_upd {g : Nat → Sl} {i : Nat} {x : Sl} {k : Int} (h : ∀ j, 0 ≤ (g j).pins ∧ (g j).pins ≤ k) (hx : 0 ≤ x.pins ∧ x.pins ≤ k) : ∀ j, 0 ≤ (updS g i x j).pins ∧ (updS g i x j).pins ≤ k := fun j => by
  unfold updS
  split
  · exact hx
  · exact h j
theorem pl_clean {fail stop : Int} {k i : Nat} {c : Cs} {v : Int} (he : Emp c) (hp : ∀ j, 0 ≤ (c.sl j).pins ∧ (c.sl j).pins ≤ k) : Emp (cleanS fail stop c i v).2 ∧ ∀ j, 0 ≤ ((cleanS fail stop c i v).2.sl j).pins ∧ ((cleanS fail stop c i v).2.sl j).pins ≤ k := by
  unfold cleanS Emp
  split
  · rename_i hfd
    show (∀ j, ((if badB fail stop c.calls.length = true then c.sl else updS c.sl i { c.sl i with dirty := false }) j).full = false → _ = slZ) ∧ ∀ j, 0 ≤ ((if badB fail stop c.calls.length = true then c.sl else updS c.sl i { c.sl i with dirty := false }) j).pins ∧ ((if badB fail stop c.calls.length = true then c.sl else updS c.sl i { c.sl i with dirty := false }) j).pins ≤ k
    split
    · exact ⟨he, hp⟩
    · exact ⟨emp_upd he (fun h => by
        have : (c.sl i).full = false := h
        rw [hfd.1] at this; cases this), pins_upd hp (hp i)⟩
  · exact ⟨he, hp⟩
theorem pl_getL {fail stop : Int} {k i : Nat} {c : Cs} {s : Sp} (he : Emp c) (hp : ∀ j, 0 ≤ (c.sl j).pins ∧ (c.sl j).pins ≤ k) : Emp (getL fail stop c i s).2.2 ∧ (∀ j, 0 ≤ ((getL fail stop c i s).2.2.sl j).pins ∧ ((getL fail stop c i s).2.2.sl j).pins ≤ k) ∧ (getL fail stop c i s).2.2.calls.length ≤ c.calls.length + 1 ∧ (getL fail stop c i s).2.2.kept.length ≤ c.kept.length ∧ ((getL fail stop c i s).2.1 = 0 → (getL fail stop c i s).1 = i ∧ (getL fail stop c i s).2.2.wh s = some i) := by
  unfold getL
  split
  · exact ⟨he, hp, by simp, Nat.le_refl _, fun h => by cases h⟩
  · refine ⟨emp_upd he (fun h => by cases h), pins_upd hp (by first | (simp; done) | (simp; omega)), by simp [enterS, loadS], Nat.le_refl _, fun _ => ⟨rfl, ?_⟩⟩
    show setM c.wh s (some i) s = some i
    unfold setM
    rw [if_pos rfl]
theorem pl_get {fail stop : Int} {n k : Nat} {c : Cs} {s : Sp} (hw : Wl n c) (h : Pl k c) : Pl (k + 1) (getS fail stop n c s).2.2 ∧ ((getS fail stop n c s).2.1 = 0 → ∃ i, (getS fail stop n c s).1 = (i : Nat) ∧ (getS fail stop n c s).2.2.wh s = some i) := by
  have hc := h.calls
  have hk := h.kept
  unfold getS
  split
  · exact ⟨h.mono (by omega), fun h => by cases h⟩
  · cases hwh : c.wh s with
    | some i =>
      simp only
      refine ⟨⟨emp_upd h.emp (fun hf => ?_), pins_upd (fun j => by have := h.pins j; omega) (by have := h.pins i; simp; omega), ?_, ?_⟩, fun _ => ⟨i, rfl, hwh⟩⟩
      · have : (c.sl i).full = false := hf
        rw [((hw.wh s i).1 hwh).2.1] at this; cases this
      · show c.calls.length ≤ _; omega
      · show c.kept.length ≤ _; omega
    | none =>
      simp only
      cases hf : findS n c.sl c.hand with
      | none => exact ⟨h.mono (by omega), fun h => by cases h⟩
      | some p =>
        obtain ⟨i, g, hd⟩ := p
        obtain ⟨hi, hkn, hsb, hq4⟩ := findS_res hw.n1 hw.hand hf
        have hgE : ∀ j, (g j).full = false → g j = slZ := fun j hj => by
          unfold findS at hf
          cases hee : emptyAt n c.sl with
          | some x =>
            rw [hee] at hf
            simp only [Option.some.injEq, Prod.mk.injEq] at hf
            rw [← hf.2.1] at hj ⊢
            exact h.emp _ hj
          | none =>
            rw [hee] at hf
            simp only at hf
            split at hf
            · cases hf
            · rename_i hpn
              exact findIt_emp h.emp _ _ _ _ _ 0 hf j hj
        have hgp : ∀ j, 0 ≤ (g j).pins ∧ (g j).pins ≤ (k : Int) := fun j => by rw [(hsb j).2.2.2]; exact h.pins j
        obtain ⟨c1e, c1p⟩ := pl_clean (fail := fail) (stop := stop) (i := i) (v := vOf c i) (c := { c with sl := g, hand := hd }) hgE hgp
        have c1l := cleanS_len fail stop { c with sl := g, hand := hd } i (vOf c i)
        obtain ⟨P, hP⟩ : ∃ P, cleanS fail stop { c with sl := g, hand := hd } i (vOf c i) = P := ⟨_, rfl⟩
        have hvv : vOf ({ c with sl := g, hand := hd } : Cs) i = vOf c i := rfl
        simp only
        rw [hP] at c1e c1p c1l
        replace c1l : P.2.calls.length ≤ c.calls.length + 1 ∧ P.2.kept.length ≤ c.kept.length + 1 := c1l
        first | rw [hP] | (rw [← hvv, hP])
        obtain ⟨pe, pc⟩ := P
        simp only at c1e c1p c1l
        obtain ⟨c1l1, c1l2⟩ := c1l
        unfold getT
        dsimp only
        split
        · split
          · have hE : Emp (evictS pc i) := emp_upd c1e (fun _ => rfl)
            have hPn : ∀ j, 0 ≤ ((evictS pc i).sl j).pins ∧ ((evictS pc i).sl j).pins ≤ (k : Int) := pins_upd c1p (by simp [slZ])
            obtain ⟨q1, q2, q3, q4, q5⟩ := pl_getL (fail := fail) (stop := stop) (i := i) (s := s) hE hPn
            refine ⟨⟨q1, fun j => by have := q2 j; omega, ?_, ?_⟩, fun h0 => ⟨i, q5 h0⟩⟩
            · have : (evictS pc i).calls = pc.calls := rfl
              rw [this] at q3; omega
            · have : (evictS pc i).kept = pc.kept := rfl
              rw [this] at q4; omega
          · obtain ⟨q1, q2, q3, q4, q5⟩ := pl_getL (fail := fail) (stop := stop) (i := i) (s := s) c1e c1p
            exact ⟨⟨q1, fun j => by have := q2 j; omega, by omega, by omega⟩, fun h0 => ⟨i, q5 h0⟩⟩
        · rename_i hne
          exact ⟨⟨c1e, fun j => by have := c1p j; simp only; omega, by simp only; omega, by simp only; omega⟩, fun h0 => absurd h0 hne⟩
end Go.Proofs.Ytpdckjbknphelaa
