/-
  Rows of ticks that a call owns; append onto them.
-/
import Derived.Test.YtpdckjbknphelaaChunkC
import Derived.Deep.AppendLies
import Derived.Test.YtpdckjbknphelaaMg1
import Derived.Deep.OwnRows
import Derived.Maps.OwnSet
import Derived.DeepKeys4
namespace Go.Proofs.Ytpdckjbknphelaa
open Go.RowKit
set_option linter.unusedSimpArgs false
set_option linter.unusedVariables false

def cellsT (ts : List (Int × Int)) : List Value := ts.flatMap tickV
theorem cellsT_len (ts : List (Int × Int)) : (cellsT ts).length = ts.length * 2 := by
  induction ts with
  | nil => rfl
  | cons t r ih => simp only [cellsT, List.flatMap_cons, List.length_append] at *; simp [tickV] at *; omega
theorem cellsT_app (a b : List (Int × Int)) : cellsT (a ++ b) = cellsT a ++ cellsT b := by simp [cellsT]
theorem cellsT_at : ∀ {ts : List (Int × Int)} {j : Nat} {t : Int × Int}, ts[j]? = some t → (cellsT ts)[j * 2]? = some (.int .i64 t.1) ∧ (cellsT ts)[j * 2 + 1]? = some (.int .i64 t.2)
  | [], j, t, h => by simp at h
  | x :: r, 0, t, h => by
    obtain rfl : x = t := by simpa using h
    exact ⟨rfl, rfl⟩
  | x :: r, j + 1, t, h => by
    have := cellsT_at (ts := r) (j := j) (t := t) (by simpa using h)
    have e : cellsT (x :: r) = tickV x ++ cellsT r := rfl
    rw [e, show (j + 1) * 2 = j * 2 + 2 by omega]
    exact ⟨this.1, this.2⟩
theorem cellsT_one : ∀ (ts : List (Int × Int)), ∀ u ∈ cellsT ts, u.oneCell' = true
  | [], u, h => by cases h
  | x :: r, u, h => by
    have e : cellsT (x :: r) = tickV x ++ cellsT r := rfl
    rw [e, List.mem_append] at h
    rcases h with h | h
    · simp [tickV] at h
      rcases h with rfl | rfl <;> rfl
    · exact cellsT_one r u h

/-- The slice v owns the ticks ts, in a block from B on (or is nil, and there are none). -/
def TOwn (w : World) (B : Nat) (v : Value) (ts : List (Int × Int)) : Prop := w.ownsRow B 116 2 v ts.length (cellsT ts)
theorem TOwn.nil (w : World) (B : Nat) : TOwn w B (.slice none 0 0) [] := World.ownsRow_nil w B _ 2
theorem TOwn.row {w : World} {B : Nat} {v : Value} {ts : List (Int × Int)} (h : TOwn w B v ts) : TRow w v ts := by
  have h' := h
  rcases h.2 with ⟨rfl, h0⟩ | ⟨g, cap, cur, rfl, hb, hg, hnc, hcm, hcs, htake⟩
  · obtain rfl : ts = [] := List.eq_nil_of_length_eq_zero h0
    exact TRow.nil w
  · refine ⟨some ⟨g, 0, none⟩, cap, by rw [List.length_map], ⟨by rw [List.length_map]; exact hnc, fun e => by cases e⟩, hcm, fun _ => ⟨g, 0, rfl, fun j x hx i v hv => ?_⟩⟩
    rw [List.getElem?_map] at hx
    cases ht : ts[j]? with
    | none => rw [ht] at hx; cases hx
    | some t =>
      rw [ht] at hx
      obtain rfl := Option.some.inj hx
      obtain ⟨c0, c1⟩ := cellsT_at ht
      have hc := h'.cells (g := g) rfl
      have hadd : ∀ j, (⟨g, 0, none⟩ : Addr).add j = ⟨g, j, none⟩ := fun j => by unfold Addr.add; split <;> simp_all
      rw [Nat.zero_add]
      match i, hv with
      | 0, hv => obtain rfl := Option.some.inj hv; have := hc _ _ c0; rw [hadd] at this; exact this
      | 1, hv => obtain rfl := Option.some.inj hv; have := hc _ _ c1; rw [hadd] at this; exact this
theorem TOwn.keep {w w' : World} {B : Nat} {v : Value} {ts : List (Int × Int)} (h : TOwn w B v ts) (hb : Below w.heap.size w w') : TOwn w' B v ts := by
  refine ⟨h.1, ?_⟩
  rcases h.2 with hn | ⟨g, cap, cur, hv, hbg, hg, rest⟩
  · exact .inl hn
  · exact .inr ⟨g, cap, cur, hv, hbg, (hb.block g (Array.getElem?_eq_some_iff.1 hg).1).trans hg, rest⟩
theorem TOwn.mono {w : World} {B B' : Nat} {v : Value} {ts : List (Int × Int)} (h : TOwn w B v ts) (hB : B' ≤ B) : TOwn w B' v ts := by
  refine ⟨h.1, ?_⟩
  rcases h.2 with hn | ⟨g, cap, cur, hv, hbg, rest⟩
  · exact .inl hn
  · exact .inr ⟨g, cap, cur, hv, by omega, rest⟩
theorem TOwn.alloc {w : World} {B : Nat} {v : Value} {ts : List (Int × Int)} (h : TOwn w B v ts) (o : Obj) : TOwn (w.alloc o) B v ts := h.keep ((Below.refl _ _).alloc (Nat.le_refl _) o)
theorem TOwn.but {w w' : World} {B b : Nat} {v : Value} {ts : List (Int × Int)} (h : TOwn w B v ts) (hb : But b w w') (hlt : b < B) : TOwn w' B v ts := by
  refine ⟨h.1, ?_⟩
  rcases h.2 with hn | ⟨g, cap, cur, hv, hbg, hg, rest⟩
  · exact .inl hn
  · exact .inr ⟨g, cap, cur, hv, hbg, (hb.block g (Array.getElem?_eq_some_iff.1 hg).1 (by omega)).trans hg, rest⟩
theorem TOwn.setBelow {w : World} {B : Nat} {v : Value} {ts : List (Int × Int)} (h : TOwn w B v ts) {a : Addr} (ha : a.block < B) (u : Value) : TOwn (w.setCell a u) B v ts := ownsRow_setCell_below h ha u
theorem TOwn.blk {w : World} {B : Nat} {v : Value} {ts : List (Int × Int)} (h : TOwn w B v ts) : ∀ k, v.ownBlock = some k → B ≤ k ∧ k < w.heap.size := World.ownsRow.lt h
theorem TOwn.apart {w : World} {B b : Nat} {v : Value} {ts : List (Int × Int)} (h : TOwn w B v ts) (hb : b < B) : Apart v b := fun a n c e => by
  have := (h.blk a.block (by rw [e]; rfl)).1
  omega

theorem info_tick : (Try.prog.info? 116).map (fun i => (i.zero, i.size, i.bytes)) = some (some (.agg #[.int .i64 0, .int .i64 0]), 2, 16) := by kernel_rfl
theorem under_ticks : Try.prog.underlying 89 = some (.slice 116) := by kernel_rfl

theorem run_append_ticks {w : World} {B : Nat} {v s : Value} {ts ys : List (Int × Int)} (ty : TypeId) (hown : TOwn w B v ts) (hrow : TRow w s ys) (hlen : ts.length + ys.length ≤ 1000000) (hB : B ≤ w.heap.size) :
    ∃ v' w', (Builtin.append_ #[89, 89] ty #[v, s]).run Try.prog w = .ok v' w' ∧ TOwn w' B v' (ts ++ ys) ∧ w.grownBy w' v.ownBlock ∧ (v' = .slice none 0 0 ↔ v = .slice none 0 0 ∧ ys = []) ∧
      (v'.ownBlock = v.ownBlock ∨ v'.ownBlock = some w.heap.size) := by
  obtain ⟨i0, hi, hz0, hz1, hz2⟩ := info_parts info_tick
  obtain ⟨base, cap, rfl, h1, h2, h3⟩ := hrow
  have hyl : (ys.map tickV).length = ys.length := List.length_map _
  cases base with
  | none =>
    have h0 : ys = [] := by
      by_cases e : ys = []
      · exact e
      · obtain ⟨b, off, hb, _⟩ := h3 (by simpa using e)
        cases hb
    subst h0
    obtain rfl : cap = 0 := h1.2 rfl
    refine ⟨v, w, ?_, ?_, ⟨rfl, rfl, rfl, Nat.le_refl _, fun _ _ _ => rfl⟩, by simp, Or.inl rfl⟩
    · exact run_append_owned_none (w := w) B _ ty _ i0 2 under_ticks hi v _ _ hown
    · rw [List.append_nil]; exact hown
  | some a =>
    have hcell : ∀ j u, (cellsT ys)[j]? = some u → w.cell? (a.add j) = some u := by
      intro j u hj
      have hj' : j < ys.length * 2 := by
        have := (List.getElem?_eq_some_iff.1 hj).1
        rwa [cellsT_len] at this
      have hne : ys ≠ [] := fun e => by subst e; simp at hj'
      obtain ⟨b, off, hb, hc⟩ := h3 (by simpa using hne)
      obtain rfl := Option.some.inj hb
      obtain ⟨t, ht⟩ : ∃ t, ys[j / 2]? = some t := ⟨_, List.getElem?_eq_getElem (by omega)⟩
      have hx : (ys.map tickV)[j / 2]? = some (tickV t) := by rw [List.getElem?_map, ht]; rfl
      obtain ⟨c0, c1⟩ := cellsT_at ht
      rw [Addr.add_mid]
      rcases Nat.mod_two_eq_zero_or_one j with hm | hm
      · have e : j = j / 2 * 2 := by omega
        rw [e] at hj
        rw [c0] at hj
        obtain rfl := Option.some.inj hj
        have := hc _ _ hx 0 _ rfl
        rw [e]; exact this
      · have e : j = j / 2 * 2 + 1 := by omega
        rw [e] at hj
        rw [c1] at hj
        obtain rfl := Option.some.inj hj
        have := hc _ _ hx 1 _ rfl
        rw [e]; exact this
    obtain ⟨v', w', hr, h4, h5, h6, h7⟩ := run_append_own_at (P := Try.prog) w B 89 ty 116 i0 _ 2 16 under_ticks hi hz0 hz1 hz2 rfl (by decide) v ts.length (cellsT ts) hown
      a ys.length cap (cellsT ys) (cellsT_len ys) hcell (cellsT_one ys) (by unfold maxLen; omega) (by omega) hB
    rw [hyl]
    refine ⟨v', w', hr, ?_, h5, ?_, h7⟩
    · unfold TOwn
      rw [List.length_append, cellsT_app]
      exact h4
    · rw [h6, List.length_eq_zero_iff]

theorem wp_append_ticks {w : World} {o : Oper} {a : Act} {K : Act → World → Prop} {Q : Exit → Act → World → Prop} (s x : Operand)
    (ho : o.op = .call { callee := .builtin .append, args := #[s, x], argTypes := #[89, 89] }) {B : Nat} {v s' : Value} {ts ys : List (Int × Int)} (hs : a.eval s = v) (hx : a.eval x = s')
    (hown : TOwn w B v ts) (hrow : TRow w s' ys) (hlen : ts.length + ys.length ≤ 1000000) (hB : B ≤ w.heap.size)
    (h : ∀ v' w', TOwn w' B v' (ts ++ ys) → w.grownBy w' v.ownBlock → (v' = .slice none 0 0 ↔ v = .slice none 0 0 ∧ ys = []) → K (a.put o.dst v') w') : o.wp Try.prog a w K Q := by
  obtain ⟨v', w', hr, h2, h3, h4, h5⟩ := run_append_ticks o.type hown hrow hlen hB
  unfold Oper.wp execOp
  simp only [ho, resolve, invoke, builtin, Sem.run_bind, Sem.run_pure, Result.andThen_ok, List.map_toArray, List.map_cons, List.map_nil, hs, hx, hr]
  exact h v' w' h2 h3 h4
theorem wpList_append_ticks {w : World} {ops : Array Oper} {rest : List Oper} {o : Oper} {a : Act} {Q : Exit → Act → World → Prop} (hgd : o.guard = none) (s x : Operand)
    (ho : o.op = .call { callee := .builtin .append, args := #[s, x], argTypes := #[89, 89] }) {B : Nat} {v s' : Value} {ts ys : List (Int × Int)} (hs : a.eval s = v) (hx : a.eval x = s')
    (hown : TOwn w B v ts) (hrow : TRow w s' ys) (hlen : ts.length + ys.length ≤ 1000000) (hB : B ≤ w.heap.size)
    (h : ∀ v' w', TOwn w' B v' (ts ++ ys) → w.grownBy w' v.ownBlock → (v' = .slice none 0 0 ↔ v = .slice none 0 0 ∧ ys = []) → wpList Try.prog ops Q rest (a.put o.dst v') w') : wpList Try.prog ops Q (o :: rest) a w :=
  wpList_plain hgd fun _ hK => wp_append_ticks s x ho hs hx hown hrow hlen hB fun v' w' h2 h3 h4 => hK _ _ (h v' w' h2 h3 h4)

/-- A tick in a block of its own, as append's argument. -/
theorem trow_one {w : World} {b : Nat} {x y : Int} {T : TypeId} (h : Blk w b [.int .i64 x, .int .i64 y] T) : TRow w (.slice (some ⟨b, 0, none⟩) 1 1) [(x, y)] := by
  refine ⟨some ⟨b, 0, none⟩, 1, rfl, ⟨Nat.le_refl _, fun e => by cases e⟩, by unfold maxLen; omega, fun _ => ⟨b, 0, rfl, fun j c hc i v hv => ?_⟩⟩
  match j, hc with
  | 0, hc =>
    obtain rfl := Option.some.inj hc
    rw [Nat.zero_mul, Nat.zero_add]
    exact h.cell i hv
theorem below_own {B : Nat} {w W W' : World} {v : Value} {ts : List (Int × Int)} (h : Below B w W) (hown : TOwn W B v ts) (hg : W.grownBy W' v.ownBlock) (hB : B ≤ W.heap.size) : Below B w W' :=
  h.grown hg hB fun k hk => (hown.blk k hk).1
end Go.Proofs.Ytpdckjbknphelaa

/-
  Rows of elements of some cells each that a call owns; append of one element onto them.
-/
namespace Go.Proofs.Ytpdckjbknphelaa
open Go.RowKit
set_option linter.unusedSimpArgs false
set_option linter.unusedVariables false

theorem flat_at {z : Nat} : ∀ {xs : List (List Value)} {j i : Nat} {x : List Value}, (∀ x ∈ xs, x.length = z) → xs[j]? = some x → i < z → xs.flatten[j * z + i]? = x[i]?
  | [], j, i, x, _, h, _ => by simp at h
  | y :: r, 0, i, x, hz, h, hi => by
    obtain rfl : y = x := by simpa using h
    rw [List.flatten_cons, Nat.zero_mul, Nat.zero_add, List.getElem?_append_left (by rw [hz y List.mem_cons_self]; exact hi)]
  | y :: r, j + 1, i, x, hz, h, hi => by
    have := flat_at (xs := r) (j := j) (i := i) (x := x) (fun x hx => hz x (List.mem_cons_of_mem _ hx)) (by simpa using h) hi
    rw [List.flatten_cons, List.getElem?_append_right (by rw [hz y List.mem_cons_self, Nat.add_mul]; omega), hz y List.mem_cons_self]
    rw [show (j + 1) * z + i - z = j * z + i by rw [Nat.add_mul]; omega]
    exact this
def ROwn (w : World) (B : Nat) (E : TypeId) (z : Nat) (v : Value) (xs : List (List Value)) : Prop := w.ownsRow B E z v xs.length xs.flatten ∧ ∀ x ∈ xs, x.length = z ∧ ∀ u ∈ x, u.oneCell' = true
section
variable {w w' : World} {B z : Nat} {E : TypeId} {v : Value} {xs : List (List Value)}
theorem ROwn.nil (w : World) (B : Nat) (E : TypeId) (z : Nat) : ROwn w B E z (.slice none 0 0) [] := ⟨World.ownsRow_nil w B _ z, fun x h => by cases h⟩
theorem ROwn.block (h : ROwn w B E z v xs) (hb : ∀ g, v.ownBlock = some g → w'.heap[g]? = w.heap[g]?) : ROwn w' B E z v xs := by
  refine ⟨⟨h.1.1, ?_⟩, h.2⟩
  rcases h.1.2 with hn | ⟨g, cap, cur, hv, hbg, hg, rest⟩
  · exact .inl hn
  · exact .inr ⟨g, cap, cur, hv, hbg, (hb g (by rw [hv]; rfl)).trans hg, rest⟩
theorem ROwn.lt (h : ROwn w B E z v xs) {g : Nat} (hg : v.ownBlock = some g) : B ≤ g ∧ g < w.heap.size := World.ownsRow.lt h.1 g hg
theorem ROwn.keep (h : ROwn w B E z v xs) (hb : Below w.heap.size w w') : ROwn w' B E z v xs := h.block fun g hg => hb.block g (h.lt hg).2
theorem ROwn.but {b : Nat} (h : ROwn w B E z v xs) (hb : But b w w') (hne : v.ownBlock ≠ some b) : ROwn w' B E z v xs := h.block fun g hg => hb.block g (h.lt hg).2 (fun e => hne (by rw [← e]; exact hg))
theorem ROwn.grown {r : Option Nat} (h : ROwn w B E z v xs) (hb : w.grownBy w' r) (hne : ∀ g, v.ownBlock = some g → some g ≠ r) : ROwn w' B E z v xs := h.block fun g hg => hb.block g (h.lt hg).2 (hne g hg)
theorem ROwn.blk (h : ROwn w B E z v xs) {g : Nat} (hg : v.ownBlock = some g) : ∃ cs, Blk w g cs E := by
  rcases h.1.2 with ⟨rfl, _⟩ | ⟨g', cap, cur, rfl, hbg, hgg, rest⟩
  · simp [Value.ownBlock] at hg
  · simp [Value.ownBlock] at hg
    subst hg
    exact ⟨cur.toList, by unfold Blk; simpa using hgg⟩
/-- It lies in no block of another kind. -/
theorem ROwn.ne (h : ROwn w B E z v xs) {b : Nat} {cs : List Value} {T : TypeId} (k : Blk w b cs T) (hT : T ≠ E) : v.ownBlock ≠ some b := fun e => by
  obtain ⟨cs', k'⟩ := h.blk e
  unfold Blk at k k'
  rw [k] at k'
  injection k' with k'
  injection k' with _ k2
  exact hT k2
theorem ROwn.open (h : ROwn w B E z v xs) : ∃ base cap, v = .slice base xs.length cap ∧ xs.length ≤ cap ∧ cap ≤ maxLen ∧
    (xs ≠ [] → ∃ g, base = some ⟨g, 0, none⟩ ∧ B ≤ g ∧ ∀ j x, xs[j]? = some x → ∀ i u, x[i]? = some u → w.cell? ⟨g, j * z + i, none⟩ = some u) := by
  have hc := fun g (hg : v.ownBlock = some g) => h.1.cells hg
  rcases h.1.2 with ⟨rfl, h0⟩ | ⟨g, cap, cur, rfl, hbg, hgg, hnc, hcm, hcs, htake⟩
  · exact ⟨none, 0, by rw [h0], by omega, Nat.zero_le _, fun hne => absurd (List.eq_nil_of_length_eq_zero h0) hne⟩
  · refine ⟨some ⟨g, 0, none⟩, cap, rfl, hnc, hcm, fun _ => ⟨g, rfl, hbg, fun j x hx i u hu => ?_⟩⟩
    have hadd : ∀ j, (⟨g, 0, none⟩ : Addr).add j = ⟨g, j, none⟩ := fun j => by unfold Addr.add; split <;> simp_all
    rw [← hadd]
    refine hc g rfl _ _ ?_
    have hlen := (h.2 x (List.mem_of_getElem? hx)).1
    rw [flat_at (fun x hx => (h.2 x hx).1) hx (by have := (List.getElem?_eq_some_iff.1 hu).1; omega)]
    exact hu
/-- One element, that lies in a block of its own, is appended. -/
theorem ROwn.append {S : TypeId} {zv : Value} {by_ b : Nat} {x : List Value} (h : ROwn w B E z v xs) (ty : TypeId) (hS : Try.prog.underlying S = some (.slice E)) (hinf : (Try.prog.info? E).map (fun i => (i.zero, i.size, i.bytes)) = some (some zv, z, by_)) (hzv : zv.cells.size = z) (hz0 : 0 < z)
    (hb : Blk w b x E) (hx : x.length = z) (hx1 : ∀ u ∈ x, u.oneCell' = true) (hlen : xs.length ≤ 1000000) (hby : by_ ≤ 1000) (hB : B ≤ w.heap.size) :
    ∃ v' w', (Builtin.append_ #[S, S] ty #[v, .slice (some ⟨b, 0, none⟩) 1 1]).run Try.prog w = .ok v' w' ∧ ROwn w' B E z v' (xs ++ [x]) ∧ w.grownBy w' v.ownBlock ∧ (v'.ownBlock = v.ownBlock ∨ v'.ownBlock = some w.heap.size) := by
  obtain ⟨i0, hi, hz0', hz1, hz2⟩ := info_parts hinf
  have hadd : ∀ j, (⟨b, 0, none⟩ : Addr).add j = ⟨b, j, none⟩ := fun j => by unfold Addr.add; split <;> simp_all
  have hb2 : (xs.length + 1) * by_ ≤ 140737488355328 := Nat.le_trans (Nat.mul_le_mul (show xs.length + 1 ≤ 1000001 by omega) hby) (by decide)
  obtain ⟨v', w', hr, h4, h5, h6, h7⟩ := run_append_own_at (P := Try.prog) w B S ty E i0 zv z by_ hS hi hz0' hz1 hz2 hzv hz0 v xs.length xs.flatten h.1
    ⟨b, 0, none⟩ 1 1 x (by rw [Nat.one_mul]; exact hx) (fun j u hj => by rw [hadd]; exact hb.cell j hj) hx1 (by unfold maxLen; omega) hb2 hB
  refine ⟨v', w', hr, ⟨?_, fun y hy => ?_⟩, h5, h7⟩
  · rw [List.length_append, List.flatten_append]
    simpa using h4
  · rcases List.mem_append.1 hy with hy | hy
    · exact h.2 y hy
    · obtain rfl : y = x := by simpa using hy
      exact ⟨hx, hx1⟩
end
end Go.Proofs.Ytpdckjbknphelaa

/-
  A row of n cells in a block of its own: what lies at each of its places.
-/
namespace Go.Proofs.Ytpdckjbknphelaa
open Go.RowKit
set_option linter.unusedSimpArgs false
set_option linter.unusedVariables false

/-- Block b holds n cells; cell i is f i. -/
def Row1 (w : World) (b : Nat) (T : TypeId) (n : Nat) (f : Nat → Value) : Prop := ∃ cs, Blk w b cs T ∧ cs.length = n ∧ ∀ i, i < n → cs[i]? = some (f i)
section
variable {w w' : World} {b n : Nat} {T : TypeId} {f g : Nat → Value}
theorem Row1.lt (h : Row1 w b T n f) : b < w.heap.size := h.elim fun _ h => h.1.lt
theorem Row1.cell (h : Row1 w b T n f) {i : Nat} (hi : i < n) : w.cell? ⟨b, i, none⟩ = some (f i) := h.elim fun _ h => h.1.cell i (h.2.2 i hi)
theorem Row1.frozen (h : Row1 w b T n f) (i : Nat) : w.frozen? ⟨b, i, none⟩ = false := h.elim fun _ h => h.1.frozen i
theorem Row1.below {B : Nat} (h : Row1 w b T n f) (hb : Below B w w') (hlt : b < B) : Row1 w' b T n f := h.elim fun cs h => ⟨cs, h.1.below hb hlt, h.2⟩
theorem Row1.keep (h : Row1 w b T n f) (hb : Below w.heap.size w w') : Row1 w' b T n f := h.below hb h.lt
theorem Row1.but {c : Nat} (h : Row1 w b T n f) (hb : But c w w') (hne : b ≠ c) : Row1 w' b T n f := h.elim fun cs h => ⟨cs, h.1.but hb hne, h.2⟩
theorem Row1.alloc (h : Row1 w b T n f) (o : Obj) : Row1 (w.alloc o) b T n f := h.elim fun cs h => ⟨cs, h.1.alloc o, h.2⟩
theorem Row1.drew (h : Row1 w b T n f) : Row1 w.drew b T n f := h
theorem Row1.drewN (h : Row1 w b T n f) (k : Nat) : Row1 (w.drewN k) b T n f := h
theorem Row1.set_other (h : Row1 w b T n f) {a : Addr} (v : Value) (hne : b ≠ a.block) : Row1 (w.setCell a v) b T n f := h.elim fun cs h => ⟨cs, h.1.set_other v hne, h.2⟩
theorem Row1.congr (h : Row1 w b T n f) (hg : ∀ i, i < n → f i = g i) : Row1 w b T n g := h.elim fun cs h => ⟨cs, h.1, h.2.1, fun i hi => by rw [← hg i hi]; exact h.2.2 i hi⟩
theorem Row1.set (h : Row1 w b T n f) (k : Nat) (v : Value) : Row1 (w.setCell ⟨b, k, none⟩ v) b T n (fun i => if i = k then v else f i) := by
  obtain ⟨cs, h1, h2, h3⟩ := h
  refine ⟨cs.set k v, h1.set k v, by rw [List.length_set]; exact h2, fun i hi => ?_⟩
  show (cs.set k v)[i]? = some (if i = k then v else f i)
  rw [List.getElem?_set]
  by_cases e : k = i
  · subst e; rw [if_pos rfl, if_pos (by omega), if_pos rfl]
  · rw [if_neg e, if_neg (fun h' => e h'.symm)]; exact h3 i hi
end
theorem made_row (z : Value) (n : Nat) (w : World) (T : TypeId) : Row1 (w.alloc (.cells (madeCells #[z] n) T)) w.heap.size T n (fun _ => z) := by
  refine ⟨_, Blk.new w _ T, by simp [madeCells], fun i hi => ?_⟩
  simp [madeCells, hi, Nat.mod_one]
end Go.Proofs.Ytpdckjbknphelaa

/-
  The cache's map: what it tells of a spot.
-/
namespace Go.Proofs.Ytpdckjbknphelaa
open Go.RowKit
set_option linter.unusedSimpArgs false
set_option linter.unusedVariables false

abbrev Sp := Int × Int × Int
def spOk (s : Sp) : Prop := (Lit.int .i64 s.1).wf = true ∧ (Lit.int .i64 s.2.1).wf = true ∧ (Lit.int .i64 s.2.2).wf = true
def spL (s : Sp) : List Value := [.int .i64 s.1, .int .i64 s.2.1, .int .i64 s.2.2]
def spV (s : Sp) : Value := .agg #[.int .i64 s.1, .int .i64 s.2.1, .int .i64 s.2.2]
theorem spV_inj {s t : Sp} (h : spV s = spV t) : s = t := by
  obtain ⟨a, b, c⟩ := s
  obtain ⟨d, e, f⟩ := t
  unfold spV at h
  simpa using h
theorem laidOut : laidOutB Try.prog = true := by kernel_rfl
theorem spotLaw : WideMaps.KeyLaw Try.prog 23 := deep_law_laid laidOut (m := 3) (by omega) (of_decide_eq_true (by kernel_rfl)) (by kernel_rfl) (by rw [Try.underlying23])
theorem spotKeyed : Maps.Keyed Try.prog 23 := Maps.Keyed.of_law spotLaw
theorem keyLits_int (d : Nat) {n : Int} (h : (Lit.int .i64 n).wf = true) : Try.prog.keyLits (d + 1) 3 [.int .i64 n] = some [.int .i64 n] := by
  unfold Program.keyLits
  rw [Try.underlying3]
  simp [h]
theorem spotSize : Try.prog.types.size = Try.prog.types.size - 1 + 1 := by kernel_rfl
theorem spKey {s : Sp} (h : spOk s) : ∃ l, keyOf Try.prog 23 (spV s) = some l := by
  obtain ⟨a, b, c⟩ := s
  obtain ⟨h1, h2, h3⟩ := h
  simp only at h1 h2 h3
  have hk : Try.prog.keyType 23 = true := by kernel_rfl
  have hc : Try.prog.cellsOf 23 = 3 := by kernel_rfl
  have hi : Try.prog.cellsOf 3 = 1 := by kernel_rfl
  have hf : (Value.agg #[.int .i64 a, .int .i64 b, .int .i64 c]).formed Try.prog 23 = true := by simp [Value.formed, Try.underlying23, hc]
  refine ⟨.string (keyBytes [.int .i64 a, .int .i64 b, .int .i64 c]), ?_⟩
  have hl : Try.prog.keyLits (Try.prog.types.size + 1) 23 [.int .i64 a, .int .i64 b, .int .i64 c] = some [.int .i64 a, .int .i64 b, .int .i64 c] := by
    rw [spotSize]
    unfold Program.keyLits
    rw [Try.underlying23]
    simp [List.mapM_cons, hc, hi, keyLits_int, h1, h2, h3]
  show keyOf Try.prog 23 (.agg #[.int .i64 a, .int .i64 b, .int .i64 c]) = _
  unfold keyOf
  rw [Try.underlying23]
  simp only [hk, hf, Bool.and_self, if_true]
  rw [show (Value.agg #[.int .i64 a, .int .i64 b, .int .i64 c]).cells.toList = [.int .i64 a, .int .i64 b, .int .i64 c] from rfl, hl]
  rfl
def Mp (w : World) (b n : Nat) (g : Sp → Option Nat) : Prop := ∃ D : DataW Unit, w.ownsMap Try.prog 23 (plainElem Try.prog 3) b n D ∧ ∀ s l, keyOf Try.prog 23 (spV s) = some l → match g s with
  | some i => Maps.has D l = true ∧ D.atKey l (.lit (.int .i64 0)) = .lit (.int .i64 i)
  | none => Maps.has D l = false
theorem intElem {n : Int} (h : (Lit.int .i64 n).wf = true) : plainElem (H := Unit) Try.prog 3 (.int .i64 n) = some (.lit (.int .i64 n), []) := plainElem_int Try.underlying3 h
theorem zeroInt : ∀ w : World, (zeroValue 3).run Try.prog w = .ok (.int .i64 0) w := fun w => by kernel_rfl
theorem Mp.start (w : World) : Mp (w.alloc (.map #[] 0)) w.heap.size 0 (fun _ => none) := ⟨_, World.ownsMap_made w Try.prog 23 _, fun s l _ => rfl⟩
theorem Mp.lt {w : World} {b n : Nat} {g : Sp → Option Nat} (h : Mp w b n g) : b < w.heap.size := h.elim fun D h => h.1.lt
/-- The block stands. -/
theorem Mp.block {w w' : World} {b n : Nat} {g : Sp → Option Nat} (h : Mp w b n g) (hb : w'.heap[b]? = w.heap[b]?) : Mp w' b n g := by
  obtain ⟨D, ⟨es, clock, h1, h2⟩, h3⟩ := h
  exact ⟨D, ⟨es, clock, by rw [hb]; exact h1, h2⟩, h3⟩
theorem Mp.keep {w w' : World} {b n : Nat} {g : Sp → Option Nat} (h : Mp w b n g) (hb : Below w.heap.size w w') : Mp w' b n g := h.block (hb.block b h.lt)
theorem Mp.but {w w' : World} {a b n : Nat} {g : Sp → Option Nat} (h : Mp w b n g) (hb : But a w w') (hne : b ≠ a) : Mp w' b n g := h.block (hb.block b h.lt hne)
theorem Mp.mono {w : World} {b n m : Nat} {g : Sp → Option Nat} (h : Mp w b n g) (hm : n ≤ m) : Mp w b m g := h.elim fun D h => ⟨D, h.1.mono hm, h.2⟩
def inI (n : Int) : Prop := (Lit.int .i64 n).wf = true
/-- What is looked up. -/
theorem Mp.look {w : World} {b n : Nat} {g : Sp → Option Nat} (h : Mp w b n g) {s : Sp} (hs : spOk s) : ∃ c : Int, (Instr.lookup 61 (.map (some b)) (spV s) true).run Try.prog w = .ok (.tuple #[.int .i64 c, .bool (g s).isSome]) w ∧ ∀ i, g s = some i → c = (i : Int) := by
  obtain ⟨D, hD, hg⟩ := h
  obtain ⟨l, hl⟩ := spKey hs
  obtain ⟨v, ps, hrun, hv⟩ := hD.look_ok spotKeyed Try.underlying61 (zeroInt w) (intElem (by decide)) hl
  obtain ⟨c, rfl, hc, _⟩ := plainElem_int_inv Try.underlying3 hv
  have hgs := hg s l hl
  cases hgg : g s with
  | none =>
    rw [hgg] at hgs
    rw [hgs] at hrun
    exact ⟨c, hrun, fun i e => by cases e⟩
  | some i =>
    rw [hgg] at hgs
    rw [hgs.1] at hrun
    refine ⟨c, hrun, fun j e => ?_⟩
    cases e
    have h1 := congrArg Prod.fst hc
    simp only at h1
    rw [hgs.2] at h1
    simp only [DataW.lit.injEq, Lit.int.injEq, true_and] at h1
    exact h1.symm
theorem Mp.look1 {w : World} {b n : Nat} {g : Sp → Option Nat} (h : Mp w b n g) {s : Sp} (hs : spOk s) {i : Nat} (hi : g s = some i) : (Instr.lookup 61 (.map (some b)) (spV s) false).run Try.prog w = .ok (.int .i64 i) w := by
  obtain ⟨D, hD, hg⟩ := h
  obtain ⟨l, hl⟩ := spKey hs
  obtain ⟨c, hrun, hc, _⟩ := hD.lookup_int spotKeyed Try.underlying61 Try.underlying3 (zeroInt w) hl
  have hgs := hg s l hl
  rw [hi] at hgs
  rw [hgs.2] at hc
  simp only [DataW.lit.injEq, Lit.int.injEq, true_and] at hc
  rw [hc]
  exact hrun
theorem But.turned {w w' : World} {b : Nat} (h : w.mapTurned w' b) : But b w w' := by
  obtain ⟨es, clock, es', clock', hb, rfl⟩ := h
  exact ⟨rfl, rfl, rfl, by simp [ChangeMaps.setBlock], fun k hk hne => by simp [ChangeMaps.setBlock, Array.getElem?_setIfInBounds, Ne.symm hne]⟩
def setM (g : Sp → Option Nat) (s : Sp) (v : Option Nat) : Sp → Option Nat := fun t => if t = s then v else g t
theorem Mp.drop {w : World} {b n : Nat} {g : Sp → Option Nat} (h : Mp w b n g) {s : Sp} (hs : spOk s) (ty : TypeId) : ∃ w', (Builtin.delete_ #[61, 23] ty #[.map (some b), spV s]).run Try.prog w = .ok (.tuple #[]) w' ∧ Mp w' b n (setM g s none) ∧ But b w w' := by
  obtain ⟨D, hD, hg⟩ := h
  obtain ⟨l, hl⟩ := spKey hs
  obtain ⟨w', hrun, hD', ht⟩ := hD.drop spotKeyed Try.underlying61 hl ty
  refine ⟨w', hrun, ⟨_, hD', fun t l' hl' => ?_⟩, But.turned ht⟩
  unfold setM
  by_cases e : t = s
  · subst e
    rw [hl] at hl'
    obtain rfl := Option.some.inj hl'
    rw [if_pos rfl]
    exact Maps.has_del_same
  · rw [if_neg e]
    have hne : l' ≠ l := fun e2 => e (spV_inj (spotKeyed.inj hl' (by rw [e2]; exact hl)))
    rw [Maps.has_del_other hne, Maps.atKey_del_other hne]
    exact hg t l' hl'
theorem Mp.put {w : World} {b n : Nat} {g : Sp → Option Nat} (h : Mp w b n g) (hn : n < maxLen) {s : Sp} (hs : spOk s) {i : Nat} (hi : (Lit.int .i64 (i : Int)).wf = true) : ∃ w', (Instr.mapUpdate 61 (.map (some b)) (spV s) (.int .i64 i)).run Try.prog w = .ok () w' ∧ Mp w' b (n + 1) (setM g s (some i)) ∧ But b w w' := by
  obtain ⟨D, hD, hg⟩ := h
  obtain ⟨l, hl⟩ := spKey hs
  obtain ⟨w', hrun, hD', ht⟩ := hD.store spotKeyed Try.underlying61 hn hl (intElem hi)
  refine ⟨w', hrun, ⟨_, hD', fun t l' hl' => ?_⟩, But.turned ht⟩
  unfold setM
  by_cases e : t = s
  · subst e
    rw [hl] at hl'
    obtain rfl := Option.some.inj hl'
    rw [if_pos rfl]
    exact ⟨Maps.has_put_same hD.isMap (spotKeyed.key hl) _, Maps.atKey_put_same hD.isMap (spotKeyed.key hl) _ _⟩
  · rw [if_neg e]
    have hne : l' ≠ l := fun e2 => e (spV_inj (spotKeyed.inj hl' (by rw [e2]; exact hl)))
    rw [Maps.has_put_other hne, Maps.atKey_put_other hne]
    exact hg t l' hl'
end Go.Proofs.Ytpdckjbknphelaa
