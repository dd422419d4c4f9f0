/-
  Rows of ticks that a call owns; append onto them.
-/
import Derived.Test.YtpdckjbknphelaaChunkC
import Derived.Deep.AppendLies
namespace Go.Proofs.Ytpdckjbknphelaa
open Go.RowKit
set_option linter.unusedSimpArgs false
set_option linter.unusedVariables false

def cellsT (ts : List (Int × Int)) : List Value := ts.flatMap tickV
theorem cellsT_len (ts : List (Int × Int)) : (cellsT ts).length = ts.length * 2 := by
  induction ts with
  | nil => rfl
  | cons t r ih => simp only [cellsT, List.flatMap_cons, List.length_append] at *; simp [tickV] at *; omega
theorem cellsT_app (a b : List (Int × Int)) : cellsT (a ++ b) = cellsT a ++ cellsT b := by simp [cellsT]
theorem cellsT_at : ∀ {ts : List (Int × Int)} {j : Nat} {t : Int × Int}, ts[j]? = some t → (cellsT ts)[j * 2]? = some (.int .i64 t.1) ∧ (cellsT ts)[j * 2 + 1]? = some (.int .i64 t.2)
  | [], j, t, h => by simp at h
  | x :: r, 0, t, h => by
    obtain rfl : x = t := by simpa using h
    exact ⟨rfl, rfl⟩
  | x :: r, j + 1, t, h => by
    have := cellsT_at (ts := r) (j := j) (t := t) (by simpa using h)
    have e : cellsT (x :: r) = tickV x ++ cellsT r := rfl
    rw [e, show (j + 1) * 2 = j * 2 + 2 by omega]
    exact ⟨this.1, this.2⟩
theorem cellsT_one : ∀ (ts : List (Int × Int)), ∀ u ∈ cellsT ts, u.oneCell' = true
  | [], u, h => by cases h
  | x :: r, u, h => by
    have e : cellsT (x :: r) = tickV x ++ cellsT r := rfl
    rw [e, List.mem_append] at h
    rcases h with h | h
    · simp [tickV] at h
      rcases h with rfl | rfl <;> rfl
    · exact cellsT_one r u h

/-- The slice v owns the ticks ts, in a block from B on (or is nil, and there are none). -/
def TOwn (w : World) (B : Nat) (v : Value) (ts : List (Int × Int)) : Prop := w.ownsRow B 116 2 v ts.length (cellsT ts)
theorem TOwn.nil (w : World) (B : Nat) : TOwn w B (.slice none 0 0) [] := World.ownsRow_nil w B _ 2
theorem TOwn.row {w : World} {B : Nat} {v : Value} {ts : List (Int × Int)} (h : TOwn w B v ts) : TRow w v ts := by
  have h' := h
  rcases h.2 with ⟨rfl, h0⟩ | ⟨g, cap, cur, rfl, hb, hg, hnc, hcm, hcs, htake⟩
  · obtain rfl : ts = [] := List.eq_nil_of_length_eq_zero h0
    exact TRow.nil w
  · refine ⟨some ⟨g, 0, none⟩, cap, by rw [List.length_map], ⟨by rw [List.length_map]; exact hnc, fun e => by cases e⟩, hcm, fun _ => ⟨g, 0, rfl, fun j x hx i v hv => ?_⟩⟩
    rw [List.getElem?_map] at hx
    cases ht : ts[j]? with
    | none => rw [ht] at hx; cases hx
    | some t =>
      rw [ht] at hx
      obtain rfl := Option.some.inj hx
      obtain ⟨c0, c1⟩ := cellsT_at ht
      have hc := h'.cells (g := g) rfl
      have hadd : ∀ j, (⟨g, 0, none⟩ : Addr).add j = ⟨g, j, none⟩ := fun j => by unfold Addr.add; split <;> simp_all
      rw [Nat.zero_add]
      match i, hv with
      | 0, hv => obtain rfl := Option.some.inj hv; have := hc _ _ c0; rw [hadd] at this; exact this
      | 1, hv => obtain rfl := Option.some.inj hv; have := hc _ _ c1; rw [hadd] at this; exact this
theorem TOwn.keep {w w' : World} {B : Nat} {v : Value} {ts : List (Int × Int)} (h : TOwn w B v ts) (hb : Below w.heap.size w w') : TOwn w' B v ts := by
  refine ⟨h.1, ?_⟩
  rcases h.2 with hn | ⟨g, cap, cur, hv, hbg, hg, rest⟩
  · exact .inl hn
  · exact .inr ⟨g, cap, cur, hv, hbg, (hb.block g (Array.getElem?_eq_some_iff.1 hg).1).trans hg, rest⟩
theorem TOwn.mono {w : World} {B B' : Nat} {v : Value} {ts : List (Int × Int)} (h : TOwn w B v ts) (hB : B' ≤ B) : TOwn w B' v ts := by
  refine ⟨h.1, ?_⟩
  rcases h.2 with hn | ⟨g, cap, cur, hv, hbg, rest⟩
  · exact .inl hn
  · exact .inr ⟨g, cap, cur, hv, by omega, rest⟩
theorem TOwn.alloc {w : World} {B : Nat} {v : Value} {ts : List (Int × Int)} (h : TOwn w B v ts) (o : Obj) : TOwn (w.alloc o) B v ts := h.keep ((Below.refl _ _).alloc (Nat.le_refl _) o)
theorem TOwn.but {w w' : World} {B b : Nat} {v : Value} {ts : List (Int × Int)} (h : TOwn w B v ts) (hb : But b w w') (hlt : b < B) : TOwn w' B v ts := by
  refine ⟨h.1, ?_⟩
  rcases h.2 with hn | ⟨g, cap, cur, hv, hbg, hg, rest⟩
  · exact .inl hn
  · exact .inr ⟨g, cap, cur, hv, hbg, (hb.block g (Array.getElem?_eq_some_iff.1 hg).1 (by omega)).trans hg, rest⟩
theorem TOwn.setBelow {w : World} {B : Nat} {v : Value} {ts : List (Int × Int)} (h : TOwn w B v ts) {a : Addr} (ha : a.block < B) (u : Value) : TOwn (w.setCell a u) B v ts := ownsRow_setCell_below h ha u
theorem TOwn.blk {w : World} {B : Nat} {v : Value} {ts : List (Int × Int)} (h : TOwn w B v ts) : ∀ k, v.ownBlock = some k → B ≤ k ∧ k < w.heap.size := World.ownsRow.lt h
theorem TOwn.apart {w : World} {B b : Nat} {v : Value} {ts : List (Int × Int)} (h : TOwn w B v ts) (hb : b < B) : Apart v b := fun a n c e => by
  have := (h.blk a.block (by rw [e]; rfl)).1
  omega

theorem info_tick : (Try.prog.info? 116).map (fun i => (i.zero, i.size, i.bytes)) = some (some (.agg #[.int .i64 0, .int .i64 0]), 2, 16) := by kernel_rfl
theorem under_ticks : Try.prog.underlying 89 = some (.slice 116) := by kernel_rfl

theorem run_append_ticks {w : World} {B : Nat} {v s : Value} {ts ys : List (Int × Int)} (ty : TypeId) (hown : TOwn w B v ts) (hrow : TRow w s ys) (hlen : ts.length + ys.length ≤ 1000000) (hB : B ≤ w.heap.size) :
    ∃ v' w', (Builtin.append_ #[89, 89] ty #[v, s]).run Try.prog w = .ok v' w' ∧ TOwn w' B v' (ts ++ ys) ∧ w.grownBy w' v.ownBlock ∧ (v' = .slice none 0 0 ↔ v = .slice none 0 0 ∧ ys = []) ∧
      (v'.ownBlock = v.ownBlock ∨ v'.ownBlock = some w.heap.size) := by
  obtain ⟨i0, hi, hz0, hz1, hz2⟩ := info_parts info_tick
  obtain ⟨base, cap, rfl, h1, h2, h3⟩ := hrow
  have hyl : (ys.map tickV).length = ys.length := List.length_map _
  cases base with
  | none =>
    have h0 : ys = [] := by
      by_cases e : ys = []
      · exact e
      · obtain ⟨b, off, hb, _⟩ := h3 (by simpa using e)
        cases hb
    subst h0
    obtain rfl : cap = 0 := h1.2 rfl
    refine ⟨v, w, ?_, ?_, ⟨rfl, rfl, rfl, Nat.le_refl _, fun _ _ _ => rfl⟩, by simp, Or.inl rfl⟩
    · exact run_append_owned_none (w := w) B _ ty _ i0 2 under_ticks hi v _ _ hown
    · rw [List.append_nil]; exact hown
  | some a =>
    have hcell : ∀ j u, (cellsT ys)[j]? = some u → w.cell? (a.add j) = some u := by
      intro j u hj
      have hj' : j < ys.length * 2 := by
        have := (List.getElem?_eq_some_iff.1 hj).1
        rwa [cellsT_len] at this
      have hne : ys ≠ [] := fun e => by subst e; simp at hj'
      obtain ⟨b, off, hb, hc⟩ := h3 (by simpa using hne)
      obtain rfl := Option.some.inj hb
      obtain ⟨t, ht⟩ : ∃ t, ys[j / 2]? = some t := ⟨_, List.getElem?_eq_getElem (by omega)⟩
      have hx : (ys.map tickV)[j / 2]? = some (tickV t) := by rw [List.getElem?_map, ht]; rfl
      obtain ⟨c0, c1⟩ := cellsT_at ht
      rw [Addr.add_mid]
      rcases Nat.mod_two_eq_zero_or_one j with hm | hm
      · have e : j = j / 2 * 2 := by omega
        rw [e] at hj
        rw [c0] at hj
        obtain rfl := Option.some.inj hj
        have := hc _ _ hx 0 _ rfl
        rw [e]; exact this
      · have e : j = j / 2 * 2 + 1 := by omega
        rw [e] at hj
        rw [c1] at hj
        obtain rfl := Option.some.inj hj
        have := hc _ _ hx 1 _ rfl
        rw [e]; exact this
    obtain ⟨v', w', hr, h4, h5, h6, h7⟩ := run_append_own_at (P := Try.prog) w B 89 ty 116 i0 _ 2 16 under_ticks hi hz0 hz1 hz2 rfl (by decide) v ts.length (cellsT ts) hown
      a ys.length cap (cellsT ys) (cellsT_len ys) hcell (cellsT_one ys) (by unfold maxLen; omega) (by omega) hB
    rw [hyl]
    refine ⟨v', w', hr, ?_, h5, ?_, h7⟩
    · unfold TOwn
      rw [List.length_append, cellsT_app]
      exact h4
    · rw [h6, List.length_eq_zero_iff]

theorem wp_append_ticks {w : World} {o : Oper} {a : Act} {K : Act → World → Prop} {Q : Exit → Act → World → Prop} (s x : Operand)
    (ho : o.op = .call { callee := .builtin .append, args := #[s, x], argTypes := #[89, 89] }) {B : Nat} {v s' : Value} {ts ys : List (Int × Int)} (hs : a.eval s = v) (hx : a.eval x = s')
    (hown : TOwn w B v ts) (hrow : TRow w s' ys) (hlen : ts.length + ys.length ≤ 1000000) (hB : B ≤ w.heap.size)
    (h : ∀ v' w', TOwn w' B v' (ts ++ ys) → w.grownBy w' v.ownBlock → (v' = .slice none 0 0 ↔ v = .slice none 0 0 ∧ ys = []) → K (a.put o.dst v') w') : o.wp Try.prog a w K Q := by
  obtain ⟨v', w', hr, h2, h3, h4, h5⟩ := run_append_ticks o.type hown hrow hlen hB
  unfold Oper.wp execOp
  simp only [ho, resolve, invoke, builtin, Sem.run_bind, Sem.run_pure, Result.andThen_ok, List.map_toArray, List.map_cons, List.map_nil, hs, hx, hr]
  exact h v' w' h2 h3 h4
theorem wpList_append_ticks {w : World} {ops : Array Oper} {rest : List Oper} {o : Oper} {a : Act} {Q : Exit → Act → World → Prop} (hgd : o.guard = none) (s x : Operand)
    (ho : o.op = .call { callee := .builtin .append, args := #[s, x], argTypes := #[89, 89] }) {B : Nat} {v s' : Value} {ts ys : List (Int × Int)} (hs : a.eval s = v) (hx : a.eval x = s')
    (hown : TOwn w B v ts) (hrow : TRow w s' ys) (hlen : ts.length + ys.length ≤ 1000000) (hB : B ≤ w.heap.size)
    (h : ∀ v' w', TOwn w' B v' (ts ++ ys) → w.grownBy w' v.ownBlock → (v' = .slice none 0 0 ↔ v = .slice none 0 0 ∧ ys = []) → wpList Try.prog ops Q rest (a.put o.dst v') w') : wpList Try.prog ops Q (o :: rest) a w :=
  wpList_plain hgd fun _ hK => wp_append_ticks s x ho hs hx hown hrow hlen hB fun v' w' h2 h3 h4 => hK _ _ (h v' w' h2 h3 h4)

/-- A tick in a block of its own, as append's argument. -/
theorem trow_one {w : World} {b : Nat} {x y : Int} {T : TypeId} (h : Blk w b [.int .i64 x, .int .i64 y] T) : TRow w (.slice (some ⟨b, 0, none⟩) 1 1) [(x, y)] := by
  refine ⟨some ⟨b, 0, none⟩, 1, rfl, ⟨Nat.le_refl _, fun e => by cases e⟩, by unfold maxLen; omega, fun _ => ⟨b, 0, rfl, fun j c hc i v hv => ?_⟩⟩
  match j, hc with
  | 0, hc =>
    obtain rfl := Option.some.inj hc
    rw [Nat.zero_mul, Nat.zero_add]
    exact h.cell i hv
theorem below_own {B : Nat} {w W W' : World} {v : Value} {ts : List (Int × Int)} (h : Below B w W) (hown : TOwn W B v ts) (hg : W.grownBy W' v.ownBlock) (hB : B ≤ W.heap.size) : Below B w W' :=
  h.grown hg hB fun k hk => (hown.blk k hk).1
end Go.Proofs.Ytpdckjbknphelaa
