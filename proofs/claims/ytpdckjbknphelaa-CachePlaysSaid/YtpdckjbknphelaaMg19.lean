/-
  The law's world, that a cache loads from and saves to: what is kept, what was called; bad, cell.
-/
import Derived.Test.YtpdckjbknphelaaMg5
import Derived.Test.YtpdckjbknphelaaMg15
import Derived.Test.YtpdckjbknphelaaStagG
import Derived.StillTailTactics
namespace Go.Proofs.Ytpdckjbknphelaa
open Go.RowKit
set_option linter.unusedSimpArgs false
set_option linter.unusedVariables false
set_option linter.unusedSectionVars false

/-- Blocks that are another's. -/
class Xs where
  X : Nat → Prop
/-- From block B on, objects of the class S may change; all else that was there stays. -/
structure Chg (B : Nat) (S : Nat → Obj → Prop) (W W' : World) : Prop where
  os : W'.os = W.os
  tape : W'.tape = W.tape
  output : W'.output = W.output
  size : W.heap.size ≤ W'.heap.size
  block : ∀ c o, W.heap[c]? = some o → (c < B ∨ ¬ S c o) → W'.heap[c]? = some o
section
variable {B : Nat} {S S' : Nat → Obj → Prop} {u v w : World}
theorem Chg.refl (B : Nat) (S : Nat → Obj → Prop) (w : World) : Chg B S w w := ⟨rfl, rfl, rfl, Nat.le_refl _, fun _ _ h _ => h⟩
theorem Chg.trans (h : Chg B S u v) (k : Chg B S v w) : Chg B S u w := ⟨k.os.trans h.os, k.tape.trans h.tape, k.output.trans h.output, Nat.le_trans h.size k.size, fun c o ho hn => k.block c o (h.block c o ho hn) hn⟩
theorem Chg.mono (h : Chg B S u v) (hS : ∀ c o, S c o → S' c o) : Chg B S' u v := ⟨h.os, h.tape, h.output, h.size, fun c o ho hn => h.block c o ho (hn.imp id fun h k => h (hS c o k))⟩
theorem lt_of_obj {c : Nat} {o : Obj} (h : u.heap[c]? = some o) : c < u.heap.size := (Array.getElem?_eq_some_iff.1 h).1
theorem Chg.of_below (h : Below u.heap.size u v) : Chg B S u v := ⟨h.os, h.tape, h.output, h.size, fun c o ho _ => by rw [h.block c (lt_of_obj ho)]; exact ho⟩
theorem Chg.below (h : Chg B S u v) (k : Below v.heap.size v w) : Chg B S u w := h.trans (Chg.of_below k)
theorem Chg.but {b : Nat} (h : Chg B S u v) (k : But b v w) (hb : B ≤ b) (hS : ∀ o, u.heap[b]? = some o → S b o) : Chg B S u w :=
  ⟨k.os.trans h.os, k.tape.trans h.tape, k.output.trans h.output, Nat.le_trans h.size k.size, fun c o ho hn => by
    have h1 := h.block c o ho hn
    rw [k.block c (lt_of_obj h1) (fun e => by
      subst e
      rcases hn with hn | hn
      · omega
      · exact hn (hS o ho))]
    exact h1⟩
theorem Chg.grown {r : Option Nat} (h : Chg B S u v) (k : v.grownBy w r) (hr : ∀ b, r = some b → B ≤ b ∧ ∀ o, u.heap[b]? = some o → S b o) : Chg B S u w :=
  ⟨k.os.trans h.os, k.tape.trans h.tape, k.output.trans h.output, Nat.le_trans h.size k.size, fun c o ho hn => by
    have h1 := h.block c o ho hn
    rw [k.block c (lt_of_obj h1) (fun e => by
      obtain ⟨h2, h3⟩ := hr c e.symm
      rcases hn with hn | hn
      · omega
      · exact hn (h3 o ho))]
    exact h1⟩
theorem Chg.belowB (h : Chg B S u v) (hB : B ≤ u.heap.size) : Below B u v := ⟨h.os, h.tape, h.output, h.size, fun k hk => by
  have e : u.heap[k]? = some u.heap[k] := Array.getElem?_eq_getElem (by omega)
  rw [h.block k _ e (.inl hk), e]⟩
theorem Chg.blk {c : Nat} {cs : List Value} {T : TypeId} (h : Chg B S u v) (k : Blk u c cs T) (hS : ¬ S c (.cells cs.toArray T (0, 0))) : Blk v c cs T := h.block c _ k (.inr hS)
theorem Chg.row {B' z : Nat} {E : TypeId} {x : Value} {xs : List (List Value)} (h : Chg B S u v) (k : ROwn u B' E z x xs) (hS : ∀ g cs, ¬ S g (.cells cs E (0, 0))) : ROwn v B' E z x xs := k.block fun g hg => by
  obtain ⟨cs, kb⟩ := k.blk hg
  rw [h.block g _ kb (.inr (hS _ _)), kb]
theorem Chg.row1 {c n : Nat} {T : TypeId} {f : Nat → Value} (h : Chg B S u v) (k : Row1 u c T n f) (hS : ∀ cs, ¬ S c (.cells cs T (0, 0))) : Row1 v c T n f := k.elim fun cs k => ⟨cs, h.blk k.1 (hS _), k.2⟩
theorem Chg.mp {b n : Nat} {g : Sp → Option Nat} (h : Chg B S u v) (k : Mp u b n g) (hS : ∀ es cl, ¬ S b (.map es cl)) : Mp v b n g := by
  obtain ⟨D, ⟨es, clock, h1, h2⟩, h3⟩ := k
  exact ⟨D, ⟨es, clock, h.block b _ h1 (.inr (hS _ _)), h2⟩, h3⟩
end

/-- A row that is no other's. -/
def ROwx [Xs] (w : World) (B : Nat) (E : TypeId) (z : Nat) (v : Value) (xs : List (List Value)) : Prop := ROwn w B E z v xs ∧ ∀ g, v.ownBlock = some g → ¬ Xs.X g
section
variable [Xs] {w w' : World} {B z : Nat} {E : TypeId} {v : Value} {xs : List (List Value)}
theorem ROwx.nil (w : World) (B : Nat) (E : TypeId) (z : Nat) : ROwx w B E z (.slice none 0 0) [] := ⟨ROwn.nil _ _ _ _, fun g h => by simp [Value.ownBlock] at h⟩
theorem ROwx.keep (h : ROwx w B E z v xs) (hb : Below w.heap.size w w') : ROwx w' B E z v xs := ⟨h.1.keep hb, h.2⟩
theorem ROwx.but {b : Nat} (h : ROwx w B E z v xs) (hb : But b w w') (hne : v.ownBlock ≠ some b) : ROwx w' B E z v xs := ⟨h.1.but hb hne, h.2⟩
theorem ROwx.grown {r : Option Nat} (h : ROwx w B E z v xs) (hb : w.grownBy w' r) (hne : ∀ g, v.ownBlock = some g → some g ≠ r) : ROwx w' B E z v xs := ⟨h.1.grown hb hne, h.2⟩
theorem ROwx.blk (h : ROwx w B E z v xs) {g : Nat} (hg : v.ownBlock = some g) : ∃ cs, Blk w g cs E := h.1.blk hg
theorem ROwx.ne (h : ROwx w B E z v xs) {b : Nat} {cs : List Value} {T : TypeId} (k : Blk w b cs T) (hT : T ≠ E) : v.ownBlock ≠ some b := h.1.ne k hT
theorem ROwx.lt (h : ROwx w B E z v xs) {g : Nat} (hg : v.ownBlock = some g) : B ≤ g ∧ g < w.heap.size := h.1.lt hg
theorem ROwx.open (h : ROwx w B E z v xs) : ∃ base cap, v = .slice base xs.length cap ∧ xs.length ≤ cap ∧ cap ≤ maxLen ∧ (xs ≠ [] → ∃ g, base = some ⟨g, 0, none⟩ ∧ B ≤ g ∧ ∀ j x, xs[j]? = some x → ∀ i u, x[i]? = some u → w.cell? ⟨g, j * z + i, none⟩ = some u) := h.1.open
theorem ROwx.chg {S : Nat → Obj → Prop} {B' : Nat} (h : Chg B' S w w') (k : ROwx w B E z v xs) (hS : ∀ g cs, ¬ S g (.cells cs E (0, 0))) : ROwx w' B E z v xs := ⟨h.row k.1 hS, k.2⟩
theorem ROwx.append {S : TypeId} {zv : Value} {by_ b : Nat} {x : List Value} (h : ROwx w B E z v xs) (ty : TypeId) (hS : Try.prog.underlying S = some (.slice E)) (hinf : (Try.prog.info? E).map (fun i => (i.zero, i.size, i.bytes)) = some (some zv, z, by_)) (hzv : zv.cells.size = z) (hz0 : 0 < z)
    (hb : Blk w b x E) (hx : x.length = z) (hx1 : ∀ u ∈ x, u.oneCell' = true) (hlen : xs.length ≤ 1000000) (hby : by_ ≤ 1000) (hB : B ≤ w.heap.size) (hX : ∀ c, Xs.X c → c < w.heap.size) :
    ∃ v' w', (Builtin.append_ #[S, S] ty #[v, .slice (some ⟨b, 0, none⟩) 1 1]).run Try.prog w = .ok v' w' ∧ ROwx w' B E z v' (xs ++ [x]) ∧ w.grownBy w' v.ownBlock ∧ (v'.ownBlock = v.ownBlock ∨ v'.ownBlock = some w.heap.size) := by
  obtain ⟨v', w', h1, h2, h3, h4⟩ := h.1.append ty hS hinf hzv hz0 hb hx hx1 hlen hby hB
  refine ⟨v', w', h1, ⟨h2, fun g hg => ?_⟩, h3, h4⟩
  rcases h4 with h4 | h4
  · exact h.2 g (h4.symm.trans hg)
  · rw [h4] at hg
    obtain rfl := Option.some.inj hg
    exact fun hx => Nat.lt_irrefl _ (hX _ hx)
end
/-- The world's own block. -/
structure WX [Xs] (W : World) (B wb : Nat) : Prop where
  le : B ≤ wb
  nx : ¬ Xs.X wb
  lt : ∀ c, Xs.X c → c < W.heap.size
theorem WX.mono [Xs] {W W' : World} {B wb : Nat} (h : WX W B wb) (hs : W.heap.size ≤ W'.heap.size) : WX W' B wb := ⟨h.le, h.nx, fun c hc => Nat.lt_of_lt_of_le (h.lt c hc) hs⟩

def keptL (p : Sp × Int) : List Value := [.int .i64 p.1.1, .int .i64 p.1.2.1, .int .i64 p.1.2.2, .int .i64 p.2]
def callL (c : Bool × Sp × Int) : List Value := [.bool c.1, .int .i64 c.2.1.1, .int .i64 c.2.1.2.1, .int .i64 c.2.1.2.2, .int .i64 c.2.2]
/-- The world: what is kept, what was called. -/
def Wv [Xs] (W : World) (B wb : Nat) (kept : List (Sp × Int)) (calls : List (Bool × Sp × Int)) (fail stop : Int) : Prop :=
  WX W B wb ∧ ∃ kv cv, Blk W wb [kv, cv, .int .i64 fail, .int .i64 stop] 29 ∧ ROwx W B 84 4 kv (kept.map keptL) ∧ ROwx W B 58 5 cv (calls.map callL)
/-- What load and save change. -/
def chW [Xs] (c : Nat) : Obj → Prop
  | .cells _ T _ => ¬ Xs.X c ∧ (T = 29 ∨ T = 84 ∨ T = 58)
  | _ => False
section
variable [Xs] {W W' : World} {B wb : Nat} {kept : List (Sp × Int)} {calls : List (Bool × Sp × Int)} {fail stop : Int}
theorem Wv.keep (h : Wv W B wb kept calls fail stop) (hb : Below W.heap.size W W') : Wv W' B wb kept calls fail stop := ⟨h.1.mono hb.size, h.2.elim fun kv h => h.elim fun cv h => ⟨kv, cv, h.1.below hb h.1.lt, h.2.1.keep hb, h.2.2.keep hb⟩⟩
theorem Wv.frame {S : Nat → Obj → Prop} {B' : Nat} (h : Wv W B wb kept calls fail stop) (k : Chg B' S W W') (hS : ∀ T, (T = 29 ∨ T = 84 ∨ T = 58) → ∀ c cs, ¬ S c (.cells cs T (0, 0))) : Wv W' B wb kept calls fail stop :=
  ⟨h.1.mono k.size, h.2.elim fun kv h => h.elim fun cv h => ⟨kv, cv, k.blk h.1 (hS _ (.inl rfl) _ _), ROwx.chg k h.2.1 (hS _ (.inr (.inl rfl))), ROwx.chg k h.2.2 (hS _ (.inr (.inr rfl)))⟩⟩
theorem Wv.lt (h : Wv W B wb kept calls fail stop) : wb < W.heap.size := h.2.elim fun kv h => h.elim fun cv h => h.1.lt
end
def badB (fail stop : Int) (n : Nat) : Bool := decide (0 ≤ fail ∧ fail ≤ n ∧ n < stop)
set_option maxRecDepth 100000 in
set_option maxHeartbeats 4000000 in
theorem bad_calls [Xs] (wb B : Nat) (kept : List (Sp × Int)) (calls : List (Bool × Sp × Int)) (fail stop : Int) (W : World) (h : Wv W B wb kept calls fail stop) (hc : calls.length ≤ 100000) :
    Calls Try.prog 31 #[.pointer (some ⟨wb, 0, none⟩)] W fun e w' => e = .returned (.bool (badB fail stop calls.length)) ∧ ∃ q, w' = W.drewN q := by
  obtain ⟨_, kv, cv, hb, _, hcv⟩ := h
  obtain ⟨base, cap, rfl, hn, hcap, _⟩ := hcv.open
  rw [List.length_map] at hn hb
  unfold maxLen at hcap
  obtain ⟨n, hnn⟩ : ∃ n, calls.length = n := ⟨_, rfl⟩
  rw [hnn] at hn hb hc ⊢
  have x1 := hb.cell 1 rfl
  have x2 := hb.cell 2 rfl
  have x3 := hb.cell 3 rfl
  clear hb hcv hnn
  by_cases q1 : 0 ≤ fail
  · by_cases q2 : fail ≤ n
    · by_cases q3 : (n : Int) < stop
      · rw [show badB fail stop n = true from decide_eq_true ⟨q1, q2, q3⟩]
        have p1 : decide (0 ≤ fail) = true := decide_eq_true q1
        have p2 : decide (fail ≤ (n : Int)) = true := decide_eq_true q2
        have p3 : decide ((n : Int) < stop) = true := decide_eq_true q3
        go_enter Try.func31, Try.ntmps31
        go_wp2_with fail
        go_ret
        exact ⟨rfl, 0, rfl⟩
      · rw [show badB fail stop n = false from decide_eq_false fun h => q3 h.2.2]
        have p1 : decide (0 ≤ fail) = true := decide_eq_true q1
        have p2 : decide (fail ≤ (n : Int)) = true := decide_eq_true q2
        have p3 : decide ((n : Int) < stop) = false := decide_eq_false q3
        go_enter Try.func31, Try.ntmps31
        go_wp2_with fail
        go_ret
        exact ⟨rfl, 0, rfl⟩
    · rw [show badB fail stop n = false from decide_eq_false fun h => q2 h.2.1]
      have p1 : decide (0 ≤ fail) = true := decide_eq_true q1
      have p2 : decide (fail ≤ (n : Int)) = false := decide_eq_false q2
      go_enter Try.func31, Try.ntmps31
      go_wp2_with fail
      go_ret
      exact ⟨rfl, 0, rfl⟩
  · rw [show badB fail stop n = false from decide_eq_false fun h => q1 h.1]
    have p1 : decide (0 ≤ fail) = false := decide_eq_false q1
    go_enter Try.func31, Try.ntmps31
    go_wp2_with fail
    go_ret
    exact ⟨rfl, 0, rfl⟩
/-- The cell of a value. -/
def cellV (v : Int) : Int × Int := if v = 0 then (0, 0) else (13, v)
set_option maxRecDepth 100000 in
set_option maxHeartbeats 4000000 in
theorem cell_calls (v : Int) (W : World) (hv : 0 ≤ v ∧ v ≤ 255) :
    Calls Try.prog 19 #[.int .i64 v] W fun e w' => e = .returned (.agg #[.int .u8 (cellV v).1, .int .u8 (cellV v).2]) ∧ Below W.heap.size W w' := by
  have hb := Blk.new W #[.int .u8 0, .int .u8 0] 51
  have hl := hb.lt
  have x0 := hb.cell 0 rfl
  have x1 := hb.cell 1 rfl
  have y0 := hb.frozen 0
  have y1 := hb.frozen 1
  by_cases h0 : v = 0
  · subst h0
    rw [show cellV 0 = (0, 0) from rfl]
    go_enter Try.func19, Try.ntmps19
    go_wp2_with fail
    refine bodyPost_ret (results_cell_row rfl _ _ W.heap.size 51 #[.int .u8 0, .int .u8 0] (0, 0) _ rfl (Blk.new W _ _) Try.underlying51 rfl (by kernel_rfl)) rfl ?_
    exact ⟨rfl, (Below.refl _ _).alloc (Nat.le_refl _) _⟩
  · rw [show cellV v = (13, v) from if_neg h0]
    have h1 : (v == 0) = false := beq_eq_false_iff_ne.2 h0
    go_enter Try.func19, Try.ntmps19
    go_wp2_with fail
    refine bodyPost_ret (results_cell_row rfl _ _ W.heap.size 51 #[.int .u8 13, .int .u8 v] (0, 0) _ rfl (Blk.new W _ _) Try.underlying51 rfl (by kernel_rfl)) rfl ?_
    exact ⟨rfl, (Below.refl _ _).alloc (Nat.le_refl _) _⟩
end Go.Proofs.Ytpdckjbknphelaa

/-
  The law's world: load, save.
-/
namespace Go.Proofs.Ytpdckjbknphelaa
open Go.RowKit
set_option linter.unusedSimpArgs false
set_option linter.unusedVariables false
set_option linter.unusedSectionVars false

theorem info_kept : (Try.prog.info? 84).map (fun i => (i.zero, i.size, i.bytes)) = some (some (.agg #[.int .i64 0, .int .i64 0, .int .i64 0, .int .i64 0]), 4, 32) := by kernel_rfl
theorem info_call : (Try.prog.info? 58).map (fun i => (i.zero, i.size, i.bytes)) = some (some (.agg #[.bool false, .int .i64 0, .int .i64 0, .int .i64 0, .int .i64 0]), 5, 40) := by kernel_rfl
/-- A spot's value, as it was kept last. -/
def valK (kept : List (Sp × Int)) (s : Sp) : Int := kept.foldl (fun a p => if p.1 = s then p.2 else a) 0
section
variable [Xs] {W W' : World} {B wb : Nat} {kept : List (Sp × Int)} {calls : List (Bool × Sp × Int)} {fail stop : Int}
/-- A chunk changes. -/
theorem Wv.butO {b : Nat} {ce li : Nat → Int × Int} {x : Value} (h : Wv W B wb kept calls fail stop) (hb : But b W W') (hk : Ck W b ce li x) : Wv W' B wb kept calls fail stop := by
  obtain ⟨h0, kv, cv, h1, h2, h3⟩ := h
  obtain ⟨cs, k, _⟩ := hk
  refine ⟨h0.mono hb.size, kv, cv, h1.but hb (fun e => ?_), h2.but hb (h2.ne k (by decide)), h3.but hb (h3.ne k (by decide))⟩
  subst e
  unfold Blk at h1 k
  rw [h1] at k
  injection k with k
  injection k with _ k2
  exact absurd k2 (by decide)
/-- A call is written down: its one-element row is laid, appended, and the world's slice is stored. -/
theorem Wv.log (h : Wv W B wb kept calls fail stop) (hB : B ≤ W.heap.size) (hc : calls.length ≤ 100000) (c : Bool × Sp × Int) (ty : TypeId) :
    ∃ cv v' w', W.cell? ⟨wb, 1, none⟩ = some cv ∧ (Builtin.append_ #[27, 27] ty #[cv, .slice (some ⟨W.heap.size, 0, none⟩) 1 1]).run Try.prog (W.alloc (.cells (callL c).toArray 58)) = .ok v' w' ∧
      w'.frozen? ⟨wb, 1, none⟩ = false ∧ wb < w'.heap.size ∧ (∃ u, w'.cell? ⟨wb, 1, none⟩ = some u) ∧ (∃ b n c, v' = .slice b n c) ∧
      Wv (w'.setCell ⟨wb, 1, none⟩ v') B wb kept (calls ++ [c]) fail stop ∧ Chg B chW W w' ∧ Chg B chW W (w'.setCell ⟨wb, 1, none⟩ v') := by
  obtain ⟨hBw, kv, cv, hb, hk, hcv⟩ := h
  have hA : Below W.heap.size W (W.alloc (.cells (callL c).toArray 58)) := (Below.refl _ _).alloc (Nat.le_refl _) _
  have hn := Blk.new W (callL c).toArray 58
  rw [List.toList_toArray] at hn
  have h1 := hb.below hA hb.lt
  have h2 := hcv.keep hA
  have h3 := hk.keep hA
  obtain ⟨v', w', hr, h4, h5, h6⟩ := h2.append (S := 27) ty Try.underlying27 info_call rfl (by omega) hn rfl (fun u hu => by simp [callL] at hu; rcases hu with rfl | rfl | rfl | rfl | rfl <;> rfl) (by rw [List.length_map]; omega) (by omega) (by simp; omega) (hBw.mono hA.size).lt
  have hne : some wb ≠ cv.ownBlock := fun e => hcv.ne hb (by decide) e.symm
  have hb' : Blk w' wb [kv, cv, .int .i64 fail, .int .i64 stop] 29 := by
    unfold Blk at h1 ⊢
    rw [h5.block wb (Array.getElem?_eq_some_iff.1 h1).1 hne]; exact h1
  have hk' : ROwx w' B 84 4 kv (kept.map keptL) := h3.grown h5 fun g hg e => by
    obtain ⟨cs, kb⟩ := h3.blk hg
    exact h2.ne kb (by decide) e.symm
  have hchg : Chg B chW W w' := (Chg.of_below hA).grown h5 fun b hbb => ⟨(h2.lt hbb).1, fun o ho => by
    obtain ⟨cs, kb⟩ := hcv.blk hbb
    unfold Blk at kb
    rw [kb] at ho
    obtain rfl := Option.some.inj ho
    exact ⟨hcv.2 _ hbb, .inr (.inr rfl)⟩⟩
  have hbut : But wb w' (w'.setCell ⟨wb, 1, none⟩ v') := (But.refl _ _).setCell 1 _
  refine ⟨cv, v', w', hb.cell 1 rfl, hr, hb'.frozen 1, hb'.lt, ⟨_, hb'.cell 1 rfl⟩, (h4.open.elim fun b h => h.elim fun c h => ⟨b, _, c, h.1⟩), ⟨hBw.mono (Nat.le_trans hchg.size hbut.size), kv, v', hb'.set 1 v', hk'.but hbut (hk'.ne hb' (by decide)), ?_⟩, ?_, ?_⟩
  · rw [List.map_append]
    exact h4.but hbut (h4.ne hb' (by decide))
  · exact hchg
  · refine hchg.but hbut hBw.le fun o ho => ?_
    · unfold Blk at hb
      rw [hb] at ho
      obtain rfl := Option.some.inj ho
      exact ⟨hBw.nx, .inl rfl⟩
/-- What is saved is kept. -/
theorem Wv.put (h : Wv W B wb kept calls fail stop) (hB : B ≤ W.heap.size) (hc : kept.length ≤ 100000) (c : Sp × Int) (ty : TypeId) :
    ∃ kv v' w', W.cell? ⟨wb, 0, none⟩ = some kv ∧ (Builtin.append_ #[26, 26] ty #[kv, .slice (some ⟨W.heap.size, 0, none⟩) 1 1]).run Try.prog (W.alloc (.cells (keptL c).toArray 84)) = .ok v' w' ∧
      w'.frozen? ⟨wb, 0, none⟩ = false ∧ wb < w'.heap.size ∧ (∃ u, w'.cell? ⟨wb, 0, none⟩ = some u) ∧ (∃ b n c, v' = .slice b n c) ∧
      Wv (w'.setCell ⟨wb, 0, none⟩ v') B wb (kept ++ [c]) calls fail stop ∧ Chg B chW W w' ∧ Chg B chW W (w'.setCell ⟨wb, 0, none⟩ v') := by
  obtain ⟨hBw, kv, cv, hb, hk, hcv⟩ := h
  have hA : Below W.heap.size W (W.alloc (.cells (keptL c).toArray 84)) := (Below.refl _ _).alloc (Nat.le_refl _) _
  have hn := Blk.new W (keptL c).toArray 84
  rw [List.toList_toArray] at hn
  have h1 := hb.below hA hb.lt
  have h2 := hcv.keep hA
  have h3 := hk.keep hA
  obtain ⟨v', w', hr, h4, h5, h6⟩ := h3.append (S := 26) ty Try.underlying26 info_kept rfl (by omega) hn rfl (fun u hu => by simp [keptL] at hu; rcases hu with rfl | rfl | rfl | rfl <;> rfl) (by rw [List.length_map]; omega) (by omega) (by simp; omega) (hBw.mono hA.size).lt
  have hne : some wb ≠ kv.ownBlock := fun e => hk.ne hb (by decide) e.symm
  have hb' : Blk w' wb [kv, cv, .int .i64 fail, .int .i64 stop] 29 := by
    unfold Blk at h1 ⊢
    rw [h5.block wb (Array.getElem?_eq_some_iff.1 h1).1 hne]; exact h1
  have hc' : ROwx w' B 58 5 cv (calls.map callL) := h2.grown h5 fun g hg e => by
    obtain ⟨cs, kb⟩ := h2.blk hg
    exact h3.ne kb (by decide) e.symm
  have hchg : Chg B chW W w' := (Chg.of_below hA).grown h5 fun b hbb => ⟨(h3.lt hbb).1, fun o ho => by
    obtain ⟨cs, kb⟩ := hk.blk hbb
    unfold Blk at kb
    rw [kb] at ho
    obtain rfl := Option.some.inj ho
    exact ⟨hk.2 _ hbb, .inr (.inl rfl)⟩⟩
  have hbut : But wb w' (w'.setCell ⟨wb, 0, none⟩ v') := (But.refl _ _).setCell 0 _
  refine ⟨kv, v', w', hb.cell 0 rfl, hr, hb'.frozen 0, hb'.lt, ⟨_, hb'.cell 0 rfl⟩, (h4.open.elim fun b h => h.elim fun c h => ⟨b, _, c, h.1⟩), ⟨hBw.mono (Nat.le_trans hchg.size hbut.size), v', cv, hb'.set 0 v', ?_, hc'.but hbut (hc'.ne hb' (by decide))⟩, ?_, ?_⟩
  · rw [List.map_append]
    exact h4.but hbut (h4.ne hb' (by decide))
  · exact hchg
  · refine hchg.but hbut hBw.le fun o ho => ?_
    · unfold Blk at hb
      rw [hb] at ho
      obtain rfl := Option.some.inj ho
      exact ⟨hBw.nx, .inl rfl⟩
end
theorem callAtU_append {P : Program} {o : Oper} {a : Act} {R : Value → World → Prop} {w w' : World} (s x : Operand) (S : TypeId) (ho : o.op = .call { callee := .builtin .append, args := #[s, x], argTypes := #[S, S] }) {v sl v' : Value} (hs : a.eval s = v) (hx : a.eval x = sl)
    (hr : (Builtin.append_ #[S, S] o.type #[v, sl]).run P w = .ok v' w') (hR : R v' w') : callAtU P o a R w := by
  unfold callAtU
  simp [execOp, ho, resolve, invoke, builtin, hs, hx, hr, Result.andThen]
  exact hR
theorem callAtU_delete {P : Program} {o : Oper} {a : Act} {R : Value → World → Prop} {w w' : World} (m x : Operand) (t k : TypeId) (ho : o.op = .call { callee := .builtin .delete, args := #[m, x], argTypes := #[t, k] }) {v sl : Value} (hs : a.eval m = v) (hx : a.eval x = sl)
    (hr : (Builtin.delete_ #[t, k] o.type #[v, sl]).run P w = .ok (.tuple #[]) w') (hR : R (.tuple #[]) w') : callAtU P o a R w := by
  unfold callAtU
  simp [execOp, ho, resolve, invoke, builtin, hs, hx, hr, Result.andThen]
  exact hR
theorem callAtU_put {P : Program} {o : Oper} {a : Act} {R : Value → World → Prop} {w w' : World} (m k x : Operand) (t : TypeId) (ho : o.op = .mapUpdate t m k x) {v kv xv : Value} (hs : a.eval m = v) (hk : a.eval k = kv) (hx : a.eval x = xv)
    (hr : (Instr.mapUpdate t v kv xv).run P w = .ok () w') (hR : R undef w') : callAtU P o a R w := by
  unfold callAtU
  simp [execOp, ho, hs, hk, hx, hr, Result.andThen]
  exact hR
/-- The worlds of an append to a slice of the world's: the row of one is laid, appended, stored. -/
def appC (w0 w1 w2 w3 : World) (u : Nat → Value) (s : Nat) (W : World) : Prop := match s with
  | 0 => W = w0
  | 1 => W = w1
  | 2 => W = w2
  | _ => W = w3
def appV (a b : Value) (s : Nat) (v : Value) : Prop := match s with
  | 0 => v = a
  | 1 => v = b
  | _ => True
theorem appV_some (a b : Value) (s : Nat) : ∃ v, appV a b s v := match s with
  | 0 => ⟨_, rfl⟩
  | 1 => ⟨_, rfl⟩
  | _ + 2 => ⟨undef, trivial⟩
theorem appC_all {I : World → Prop} {w0 w1 w2 w3 : World} (h0 : I w0) (h1 : I w1) (h2 : I w2) (h3 : I w3) {u : Nat → Value} {N : Nat} (p : {w // AnyStage (appC w0 w1 w2 w3 u) N w}) : I p.val := by
  obtain ⟨W, s, _, h⟩ := p
  match s, h with
  | 0, h => cases h; exact h0
  | 1, h => cases h; exact h1
  | 2, h => cases h; exact h2
  | _ + 3, h => cases h; exact h3
theorem appC_lo {I : World → Prop} {w0 w1 w2 w3 : World} (h0 : I w0) (h1 : I w1) {u : Nat → Value} (p : {w // AnyStage (appC w0 w1 w2 w3 u) 1 w}) : I p.val := by
  obtain ⟨W, s, hs, h⟩ := p
  match s, hs, h with
  | 0, _, h => cases h; exact h0
  | 1, _, h => cases h; exact h1
  | _ + 2, hs, _ => omega
/-- The worlds of one store. -/
def oneE (w0 w1 : World) (u : Nat → Value) (s : Nat) (W : World) : Prop := match s with
  | 0 => W = w0
  | _ => W = w1
theorem oneE_lo {I : World → Prop} {w0 w1 : World} (h0 : I w0) {u : Nat → Value} (p : {w // AnyStage (oneE w0 w1 u) 0 w}) : I p.val := by
  obtain ⟨W, s, hs, h⟩ := p
  match s, hs, h with
  | 0, _, h => cases h; exact h0
  | _ + 1, hs, _ => omega
theorem oneE_all {I : World → Prop} {w0 w1 : World} (h0 : I w0) (h1 : I w1) {u : Nat → Value} {N : Nat} (p : {w // AnyStage (oneE w0 w1 u) N w}) : I p.val := by
  obtain ⟨W, s, _, h⟩ := p
  match s, h with
  | 0, h => cases h; exact h0
  | _ + 1, h => cases h; exact h1
end Go.Proofs.Ytpdckjbknphelaa
