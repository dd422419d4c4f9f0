/-
  A loop over the places of a box: the law for its caller.
-/
import Derived.Test.YtjodiclmibiboaaEachL
namespace Go.Proofs.Ytjodiclmibiboaa
open Go.RowKit Go.Shelf
set_option linter.unusedSimpArgs false
set_option linter.unusedVariables false

theorem blk_kept {X Y : World} {row : Option Nat} {b : Nat} {cs : List Value} {T : TypeId} (hs : Blk X b cs T) (hg : X.grownBy Y row) (hr : ∀ r, row = some r → ∃ o : Obj, X.heap[r]? = some o ∧ o.isCells = false) : Blk Y b cs T :=
  (hg.block b hs.lt (fun e => by obtain ⟨o, ho, hc⟩ := hr b e.symm; rw [show X.heap[b]? = _ from hs] at ho; cases ho; cases hc)).trans hs

/-- The frame of a round: the loop's variable lies in a new block Bx. -/
def AxP (a : Act) (s v lim : Nat) (x : P3) (a' : Act) (W : World) : Prop := ∃ Bx, lim < Bx ∧ Blk W Bx [.int .i64 x.1, .int .i64 x.2.1, .int .i64 x.2.2] 23 ∧
  a' = { tmps := (a.tmps.setIfInBounds s (.agg #[.int .i64 x.1, .int .i64 x.2.1, .int .i64 x.2.2])).setIfInBounds v (.pointer (some ⟨Bx, 0, none⟩)), defers := [] }

theorem each_range {n : Nat} {g : Operand} {s v lim : Nat} {assign body : Code} {Q : Exit → Act → World → Prop} {a : Act} {w : World} (h1 : 2 ≤ n) {u1 u2 : Nat} {x y z d e f : Int} (S : Nat → Prop)
    (hg : a.eval g = .func (.func 41) #[] #[.pointer (some ⟨u1, 0, none⟩), .pointer (some ⟨u2, 0, none⟩)]) (hS : ∀ k, S k → k < w.heap.size)
    (b1 : Blk w u1 [.int .i64 x, .int .i64 y, .int .i64 z] 23) (b2 : Blk w u2 [.int .i64 d, .int .i64 e, .int .i64 f] 23)
    (I : List P3 → World → Prop) (Ix : Code → List P3 → World → Prop) (hI : OwnFrom w.heap.size I) (hIx : ∀ c, OwnFrom w.heap.size (Ix c)) (h0 : I [] w)
    (hassign : ∀ (l : Nat) (pre : List P3) (x : P3) (W : World) (K : Act → World → Prop), I pre W → (∀ a' W', KeepsFrom w.heap.size W W' → KpS S W W' → I pre W' → AxP a s v lim x a' W' → K a' W') →
      assign.wpIn (Fence.wide.inRound l) (n - 1 - 1) Try.prog (Exit.then K (fun _ _ _ => False)) { tmps := a.tmps.setIfInBounds s (.agg #[.int .i64 x.1, .int .i64 x.2.1, .int .i64 x.2.2]), defers := [] } W)
    (hbody : ∀ (l : Nat) (pre : List P3) (q : P3) (a' : Act) (W : World), w.heap.size ≤ l → (∃ r, W.heap[l]? = some (.loop r)) → I pre W → AxP a s v lim q a' W → pre.length < (boxPts x y z d e f).length → body.wpIn (Fence.wide.inRound l) (n - 1 - 1) Try.prog (ownPostG w.heap.size (KpS S) I Ix (pre ++ [q]) W) a' W)
    (hdone : ∀ (D : Nat) (xs : List P3) (W : World), w.heap.size ≤ D → xs = boxPts x y z d e f → I xs W → W.heap[D]? = some (.deferred (some [])) → Q .normal { a with defers := { target := .collected D, args := #[] } :: a.defers } W)
    (hstop : ∀ (D : Nat) (c : Code) (pre : List P3) (W : World), w.heap.size ≤ D → pre <+: boxPts x y z d e f → Ix c pre W → W.heap[D]? = some (.deferred (some [])) → c.wpIn Fence.wide n Try.prog Q { a with defers := { target := .collected D, args := #[] } :: a.defers } W) :
    (Code.rangeFunc g #[s] assign body).wpIn Fence.wide n Try.prog Q a w :=
  wpIn_rangeFunc_ownH rfl (by omega) hg trivial (enters_of Try.func41 (by kernel_rfl) rfl) (each_stops (n - 1) (by omega) x y z d e f u1 u2 S w hS b1 b2) (fun h k => h.trans k) (fun W l o o' h1 h2 h3 h4 => KpS.turn (w := w) W l o o' h1 h2 h3 h4) (Below.refl _ _) (fun _ => rfl) I Ix hI hIx h0 (AxP a s v lim)
    (fun x a' _ X Y row hs hg hr => by obtain ⟨Bx, k1, k2, k3⟩ := hs; exact ⟨Bx, k1, blk_kept k2 hg (fun r e => (hr r e).2), k3⟩)
    (fun l pre x W K hi hK => by simpa using hassign l pre x W K hi hK) hbody hdone hstop

theorem boxE_ok {x y z a b c : Int} : boxE x y z a b c = 0 ↔ boxOk x y z a b c = true := by
  unfold boxE boxOk
  cases (mayB x y z && mayB a b c)
  · simp
  · cases boxLong x y z a b c <;> simp
end Go.Proofs.Ytjodiclmibiboaa
