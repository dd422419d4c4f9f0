/-
  The law's world, that a cache loads from and saves to: what is kept, what was called; bad, cell.
-/
import Derived.Test.YtpdckjbknphelaaCaO
import Derived.Test.YtpdckjbknphelaaCaA
import Derived.Test.YtpdckjbknphelaaMg23
import Derived.Test.YtpdckjbknphelaaStagG
namespace Go.Proofs.Ytpdckjbknphelaa
open Go.RowKit
set_option linter.unusedSimpArgs false
set_option linter.unusedVariables false

/-- From block B on, objects of the class S may change; all else that was there stays. -/
structure Chg (B : Nat) (S : Obj → Prop) (W W' : World) : Prop where
  os : W'.os = W.os
  tape : W'.tape = W.tape
  output : W'.output = W.output
  size : W.heap.size ≤ W'.heap.size
  block : ∀ c o, W.heap[c]? = some o → (c < B ∨ ¬ S o) → W'.heap[c]? = some o
section
variable {B : Nat} {S S' : Obj → Prop} {u v w : World}
theorem Chg.refl (B : Nat) (S : Obj → Prop) (w : World) : Chg B S w w := ⟨rfl, rfl, rfl, Nat.le_refl _, fun _ _ h _ => h⟩
theorem Chg.trans (h : Chg B S u v) (k : Chg B S v w) : Chg B S u w := ⟨k.os.trans h.os, k.tape.trans h.tape, k.output.trans h.output, Nat.le_trans h.size k.size, fun c o ho hn => k.block c o (h.block c o ho hn) hn⟩
theorem Chg.mono (h : Chg B S u v) (hS : ∀ o, S o → S' o) : Chg B S' u v := ⟨h.os, h.tape, h.output, h.size, fun c o ho hn => h.block c o ho (hn.imp id fun h k => h (hS o k))⟩
theorem lt_of_obj {c : Nat} {o : Obj} (h : u.heap[c]? = some o) : c < u.heap.size := (Array.getElem?_eq_some_iff.1 h).1
theorem Chg.of_below (h : Below u.heap.size u v) : Chg B S u v := ⟨h.os, h.tape, h.output, h.size, fun c o ho _ => by rw [h.block c (lt_of_obj ho)]; exact ho⟩
theorem Chg.below (h : Chg B S u v) (k : Below v.heap.size v w) : Chg B S u w := h.trans (Chg.of_below k)
theorem Chg.but {b : Nat} (h : Chg B S u v) (k : But b v w) (hb : B ≤ b) (hS : ∀ o, u.heap[b]? = some o → S o) : Chg B S u w :=
  ⟨k.os.trans h.os, k.tape.trans h.tape, k.output.trans h.output, Nat.le_trans h.size k.size, fun c o ho hn => by
    have h1 := h.block c o ho hn
    rw [k.block c (lt_of_obj h1) (fun e => by
      subst e
      rcases hn with hn | hn
      · omega
      · exact hn (hS o ho))]
    exact h1⟩
theorem Chg.grown {r : Option Nat} (h : Chg B S u v) (k : v.grownBy w r) (hr : ∀ b, r = some b → B ≤ b ∧ ∀ o, u.heap[b]? = some o → S o) : Chg B S u w :=
  ⟨k.os.trans h.os, k.tape.trans h.tape, k.output.trans h.output, Nat.le_trans h.size k.size, fun c o ho hn => by
    have h1 := h.block c o ho hn
    rw [k.block c (lt_of_obj h1) (fun e => by
      obtain ⟨h2, h3⟩ := hr c e.symm
      rcases hn with hn | hn
      · omega
      · exact hn (h3 o ho))]
    exact h1⟩
theorem Chg.belowB (h : Chg B S u v) (hB : B ≤ u.heap.size) : Below B u v := ⟨h.os, h.tape, h.output, h.size, fun k hk => by
  have e : u.heap[k]? = some u.heap[k] := Array.getElem?_eq_getElem (by omega)
  rw [h.block k _ e (.inl hk), e]⟩
theorem Chg.blk {c : Nat} {cs : List Value} {T : TypeId} (h : Chg B S u v) (k : Blk u c cs T) (hS : ¬ S (.cells cs.toArray T (0, 0))) : Blk v c cs T := h.block c _ k (.inr hS)
theorem Chg.row {B' z : Nat} {E : TypeId} {x : Value} {xs : List (List Value)} (h : Chg B S u v) (k : ROwn u B' E z x xs) (hS : ∀ cs, ¬ S (.cells cs E (0, 0))) : ROwn v B' E z x xs := k.block fun g hg => by
  obtain ⟨cs, kb⟩ := k.blk hg
  rw [h.block g _ kb (.inr (hS _)), kb]
theorem Chg.row1 {c n : Nat} {T : TypeId} {f : Nat → Value} (h : Chg B S u v) (k : Row1 u c T n f) (hS : ∀ cs, ¬ S (.cells cs T (0, 0))) : Row1 v c T n f := k.elim fun cs k => ⟨cs, h.blk k.1 (hS _), k.2⟩
theorem Chg.mp {b n : Nat} {g : Sp → Option Nat} (h : Chg B S u v) (k : Mp u b n g) (hS : ∀ es cl, ¬ S (.map es cl)) : Mp v b n g := by
  obtain ⟨D, ⟨es, clock, h1, h2⟩, h3⟩ := k
  exact ⟨D, ⟨es, clock, h.block b _ h1 (.inr (hS _ _)), h2⟩, h3⟩
end

def keptL (p : Sp × Int) : List Value := [.int .i64 p.1.1, .int .i64 p.1.2.1, .int .i64 p.1.2.2, .int .i64 p.2]
def callL (c : Bool × Sp × Int) : List Value := [.bool c.1, .int .i64 c.2.1.1, .int .i64 c.2.1.2.1, .int .i64 c.2.1.2.2, .int .i64 c.2.2]
/-- The world: what is kept, what was called. -/
def Wv (W : World) (B wb : Nat) (kept : List (Sp × Int)) (calls : List (Bool × Sp × Int)) (fail stop : Int) : Prop :=
  B ≤ wb ∧ ∃ kv cv, Blk W wb [kv, cv, .int .i64 fail, .int .i64 stop] 29 ∧ ROwn W B 84 4 kv (kept.map keptL) ∧ ROwn W B 58 5 cv (calls.map callL)
/-- What load and save change. -/
def chW : Obj → Prop
  | .cells _ T _ => T = 29 ∨ T = 84 ∨ T = 58
  | _ => False
section
variable {W W' : World} {B wb : Nat} {kept : List (Sp × Int)} {calls : List (Bool × Sp × Int)} {fail stop : Int}
theorem Wv.keep (h : Wv W B wb kept calls fail stop) (hb : Below W.heap.size W W') : Wv W' B wb kept calls fail stop := ⟨h.1, h.2.elim fun kv h => h.elim fun cv h => ⟨kv, cv, h.1.below hb h.1.lt, h.2.1.keep hb, h.2.2.keep hb⟩⟩
theorem Wv.frame {S : Obj → Prop} {B' : Nat} (h : Wv W B wb kept calls fail stop) (k : Chg B' S W W') (hS : ∀ o, chW o → ¬ S o) : Wv W' B wb kept calls fail stop :=
  ⟨h.1, h.2.elim fun kv h => h.elim fun cv h => ⟨kv, cv, k.blk h.1 (hS _ (.inl rfl)), k.row h.2.1 fun _ => hS _ (.inr (.inl rfl)), k.row h.2.2 fun _ => hS _ (.inr (.inr rfl))⟩⟩
theorem Wv.lt (h : Wv W B wb kept calls fail stop) : wb < W.heap.size := h.2.elim fun kv h => h.elim fun cv h => h.1.lt
end
def badB (fail stop : Int) (n : Nat) : Bool := decide (0 ≤ fail ∧ fail ≤ n ∧ n < stop)
set_option maxRecDepth 100000 in
set_option maxHeartbeats 4000000 in
theorem bad_calls (wb B : Nat) (kept : List (Sp × Int)) (calls : List (Bool × Sp × Int)) (fail stop : Int) (W : World) (h : Wv W B wb kept calls fail stop) (hc : calls.length ≤ 100000) :
    Calls Try.prog 31 #[.pointer (some ⟨wb, 0, none⟩)] W fun e w' => e = .returned (.bool (badB fail stop calls.length)) ∧ ∃ q, w' = W.drewN q := by
  obtain ⟨_, kv, cv, hb, _, hcv⟩ := h
  obtain ⟨base, cap, rfl, hn, hcap, _⟩ := hcv.open
  rw [List.length_map] at hn hb
  unfold maxLen at hcap
  obtain ⟨n, hnn⟩ : ∃ n, calls.length = n := ⟨_, rfl⟩
  rw [hnn] at hn hb hc ⊢
  have x1 := hb.cell 1 rfl
  have x2 := hb.cell 2 rfl
  have x3 := hb.cell 3 rfl
  clear hb hcv hnn
  by_cases q1 : 0 ≤ fail
  · by_cases q2 : fail ≤ n
    · by_cases q3 : (n : Int) < stop
      · rw [show badB fail stop n = true from decide_eq_true ⟨q1, q2, q3⟩]
        have p1 : decide (0 ≤ fail) = true := decide_eq_true q1
        have p2 : decide (fail ≤ (n : Int)) = true := decide_eq_true q2
        have p3 : decide ((n : Int) < stop) = true := decide_eq_true q3
        go_enter Try.func31, Try.ntmps31
        go_wp2_with fail
        go_ret
        exact ⟨rfl, 0, rfl⟩
      · rw [show badB fail stop n = false from decide_eq_false fun h => q3 h.2.2]
        have p1 : decide (0 ≤ fail) = true := decide_eq_true q1
        have p2 : decide (fail ≤ (n : Int)) = true := decide_eq_true q2
        have p3 : decide ((n : Int) < stop) = false := decide_eq_false q3
        go_enter Try.func31, Try.ntmps31
        go_wp2_with fail
        go_ret
        exact ⟨rfl, 0, rfl⟩
    · rw [show badB fail stop n = false from decide_eq_false fun h => q2 h.2.1]
      have p1 : decide (0 ≤ fail) = true := decide_eq_true q1
      have p2 : decide (fail ≤ (n : Int)) = false := decide_eq_false q2
      go_enter Try.func31, Try.ntmps31
      go_wp2_with fail
      go_ret
      exact ⟨rfl, 0, rfl⟩
  · rw [show badB fail stop n = false from decide_eq_false fun h => q1 h.1]
    have p1 : decide (0 ≤ fail) = false := decide_eq_false q1
    go_enter Try.func31, Try.ntmps31
    go_wp2_with fail
    go_ret
    exact ⟨rfl, 0, rfl⟩
/-- The cell of a value. -/
def cellV (v : Int) : Int × Int := if v = 0 then (0, 0) else (13, v)
set_option maxRecDepth 100000 in
set_option maxHeartbeats 4000000 in
theorem cell_calls (v : Int) (W : World) (hv : 0 ≤ v ∧ v ≤ 255) :
    Calls Try.prog 19 #[.int .i64 v] W fun e w' => e = .returned (.agg #[.int .u8 (cellV v).1, .int .u8 (cellV v).2]) ∧ Below W.heap.size W w' := by
  have hb := Blk.new W #[.int .u8 0, .int .u8 0] 51
  have hl := hb.lt
  have x0 := hb.cell 0 rfl
  have x1 := hb.cell 1 rfl
  have y0 := hb.frozen 0
  have y1 := hb.frozen 1
  by_cases h0 : v = 0
  · subst h0
    rw [show cellV 0 = (0, 0) from rfl]
    go_enter Try.func19, Try.ntmps19
    go_wp2_with fail
    refine bodyPost_ret (results_cell_row rfl _ _ W.heap.size 51 #[.int .u8 0, .int .u8 0] (0, 0) _ rfl (Blk.new W _ _) Try.underlying51 rfl (by kernel_rfl)) rfl ?_
    exact ⟨rfl, (Below.refl _ _).alloc (Nat.le_refl _) _⟩
  · rw [show cellV v = (13, v) from if_neg h0]
    have h1 : (v == 0) = false := beq_eq_false_iff_ne.2 h0
    go_enter Try.func19, Try.ntmps19
    go_wp2_with fail
    refine bodyPost_ret (results_cell_row rfl _ _ W.heap.size 51 #[.int .u8 13, .int .u8 v] (0, 0) _ rfl (Blk.new W _ _) Try.underlying51 rfl (by kernel_rfl)) rfl ?_
    exact ⟨rfl, (Below.refl _ _).alloc (Nat.le_refl _) _⟩
end Go.Proofs.Ytpdckjbknphelaa
