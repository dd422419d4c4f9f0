/-
  Rows of ticks that a call owns; append onto them.
-/
import Derived.Test.YtlaodkolkoefgaaMg9
import Derived.Deep.AppendLies
import Derived.Test.YtlaodkolkoefgaaMg0
namespace Go.Proofs.Ytlaodkolkoefgaa
open Go.RowKit
set_option linter.unusedSimpArgs false
set_option linter.unusedVariables false

def cellsT (ts : List (Int × Int)) : List Value := ts.flatMap tickV
theorem cellsT_len (ts : List (Int × Int)) : (cellsT ts).length = ts.length * 2 := by
  induction ts with
  | nil => rfl
  | cons t r ih => simp only [cellsT, List.flatMap_cons, List.length_append] at *; simp [tickV] at *; omega
theorem cellsT_app (a b : List (Int × Int)) : cellsT (a ++ b) = cellsT a ++ cellsT b := by simp [cellsT]
theorem cellsT_at : ∀ {ts : List (Int × Int)} {j : Nat} {t : Int × Int}, ts[j]? = some t → (cellsT ts)[j * 2]? = some (.int .i64 t.1) ∧ (cellsT ts)[j * 2 + 1]? = some (.int .i64 t.2)
  | [], j, t, h => by simp at h
  | x :: r, 0, t, h => by
    obtain rfl : x = t := by simpa using h
    exact ⟨rfl, rfl⟩
  | x :: r, j + 1, t, h => by
    have := cellsT_at (ts := r) (j := j) (t := t) (by simpa using h)
    have e : cellsT (x :: r) = tickV x ++ cellsT r := rfl
    rw [e, show (j + 1) * 2 = j * 2 + 2 by omega]
    exact ⟨this.1, this.2⟩
theorem cellsT_one : ∀ (ts : List (Int × Int)), ∀ u ∈ cellsT ts, u.oneCell' = true
  | [], u, h => by cases h
  | x :: r, u, h => by
    have e : cellsT (x :: r) = tickV x ++ cellsT r := rfl
    rw [e, List.mem_append] at h
    rcases h with h | h
    · simp [tickV] at h
      rcases h with rfl | rfl <;> rfl
    · exact cellsT_one r u h

/-- The slice v owns the ticks ts, in a block from B on (or is nil, and there are none). -/
def TOwn (w : World) (B : Nat) (v : Value) (ts : List (Int × Int)) : Prop := w.ownsRow B 56 2 v ts.length (cellsT ts)
theorem TOwn.nil (w : World) (B : Nat) : TOwn w B (.slice none 0 0) [] := World.ownsRow_nil w B _ 2
theorem TOwn.row {w : World} {B : Nat} {v : Value} {ts : List (Int × Int)} (h : TOwn w B v ts) : TRow w v ts := by
  have h' := h
  rcases h.2 with ⟨rfl, h0⟩ | ⟨g, cap, cur, rfl, hb, hg, hnc, hcm, hcs, htake⟩
  · obtain rfl : ts = [] := List.eq_nil_of_length_eq_zero h0
    exact TRow.nil w
  · refine ⟨some ⟨g, 0, none⟩, cap, by rw [List.length_map], ⟨by rw [List.length_map]; exact hnc, fun e => by cases e⟩, hcm, fun _ => ⟨g, 0, rfl, fun j x hx i v hv => ?_⟩⟩
    rw [List.getElem?_map] at hx
    cases ht : ts[j]? with
    | none => rw [ht] at hx; cases hx
    | some t =>
      rw [ht] at hx
      obtain rfl := Option.some.inj hx
      obtain ⟨c0, c1⟩ := cellsT_at ht
      have hc := h'.cells (g := g) rfl
      have hadd : ∀ j, (⟨g, 0, none⟩ : Addr).add j = ⟨g, j, none⟩ := fun j => by unfold Addr.add; split <;> simp_all
      rw [Nat.zero_add]
      match i, hv with
      | 0, hv => obtain rfl := Option.some.inj hv; have := hc _ _ c0; rw [hadd] at this; exact this
      | 1, hv => obtain rfl := Option.some.inj hv; have := hc _ _ c1; rw [hadd] at this; exact this
theorem TOwn.keep {w w' : World} {B : Nat} {v : Value} {ts : List (Int × Int)} (h : TOwn w B v ts) (hb : Below w.heap.size w w') : TOwn w' B v ts := by
  refine ⟨h.1, ?_⟩
  rcases h.2 with hn | ⟨g, cap, cur, hv, hbg, hg, rest⟩
  · exact .inl hn
  · exact .inr ⟨g, cap, cur, hv, hbg, (hb.block g (Array.getElem?_eq_some_iff.1 hg).1).trans hg, rest⟩
theorem TOwn.mono {w : World} {B B' : Nat} {v : Value} {ts : List (Int × Int)} (h : TOwn w B v ts) (hB : B' ≤ B) : TOwn w B' v ts := by
  refine ⟨h.1, ?_⟩
  rcases h.2 with hn | ⟨g, cap, cur, hv, hbg, rest⟩
  · exact .inl hn
  · exact .inr ⟨g, cap, cur, hv, by omega, rest⟩
theorem TOwn.alloc {w : World} {B : Nat} {v : Value} {ts : List (Int × Int)} (h : TOwn w B v ts) (o : Obj) : TOwn (w.alloc o) B v ts := h.keep ((Below.refl _ _).alloc (Nat.le_refl _) o)
theorem TOwn.but {w w' : World} {B b : Nat} {v : Value} {ts : List (Int × Int)} (h : TOwn w B v ts) (hb : But b w w') (hlt : b < B) : TOwn w' B v ts := by
  refine ⟨h.1, ?_⟩
  rcases h.2 with hn | ⟨g, cap, cur, hv, hbg, hg, rest⟩
  · exact .inl hn
  · exact .inr ⟨g, cap, cur, hv, hbg, (hb.block g (Array.getElem?_eq_some_iff.1 hg).1 (by omega)).trans hg, rest⟩
theorem TOwn.setBelow {w : World} {B : Nat} {v : Value} {ts : List (Int × Int)} (h : TOwn w B v ts) {a : Addr} (ha : a.block < B) (u : Value) : TOwn (w.setCell a u) B v ts := ownsRow_setCell_below h ha u
theorem TOwn.blk {w : World} {B : Nat} {v : Value} {ts : List (Int × Int)} (h : TOwn w B v ts) : ∀ k, v.ownBlock = some k → B ≤ k ∧ k < w.heap.size := World.ownsRow.lt h
theorem TOwn.apart {w : World} {B b : Nat} {v : Value} {ts : List (Int × Int)} (h : TOwn w B v ts) (hb : b < B) : Apart v b := fun a n c e => by
  have := (h.blk a.block (by rw [e]; rfl)).1
  omega

theorem info_tick : (Try.prog.info? 56).map (fun i => (i.zero, i.size, i.bytes)) = some (some (.agg #[.int .i64 0, .int .i64 0]), 2, 16) := by kernel_rfl
theorem under_ticks : Try.prog.underlying 23 = some (.slice 56) := by kernel_rfl

theorem run_append_ticks {w : World} {B : Nat} {v s : Value} {ts ys : List (Int × Int)} (ty : TypeId) (hown : TOwn w B v ts) (hrow : TRow w s ys) (hlen : ts.length + ys.length ≤ 1000000) (hB : B ≤ w.heap.size) :
    ∃ v' w', (Builtin.append_ #[23, 23] ty #[v, s]).run Try.prog w = .ok v' w' ∧ TOwn w' B v' (ts ++ ys) ∧ w.grownBy w' v.ownBlock ∧ (v' = .slice none 0 0 ↔ v = .slice none 0 0 ∧ ys = []) ∧
      (v'.ownBlock = v.ownBlock ∨ v'.ownBlock = some w.heap.size) := by
  obtain ⟨i0, hi, hz0, hz1, hz2⟩ := info_parts info_tick
  obtain ⟨base, cap, rfl, h1, h2, h3⟩ := hrow
  have hyl : (ys.map tickV).length = ys.length := List.length_map _
  cases base with
  | none =>
    have h0 : ys = [] := by
      by_cases e : ys = []
      · exact e
      · obtain ⟨b, off, hb, _⟩ := h3 (by simpa using e)
        cases hb
    subst h0
    obtain rfl : cap = 0 := h1.2 rfl
    refine ⟨v, w, ?_, ?_, ⟨rfl, rfl, rfl, Nat.le_refl _, fun _ _ _ => rfl⟩, by simp, Or.inl rfl⟩
    · exact run_append_owned_none (w := w) B _ ty _ i0 2 under_ticks hi v _ _ hown
    · rw [List.append_nil]; exact hown
  | some a =>
    have hcell : ∀ j u, (cellsT ys)[j]? = some u → w.cell? (a.add j) = some u := by
      intro j u hj
      have hj' : j < ys.length * 2 := by
        have := (List.getElem?_eq_some_iff.1 hj).1
        rwa [cellsT_len] at this
      have hne : ys ≠ [] := fun e => by subst e; simp at hj'
      obtain ⟨b, off, hb, hc⟩ := h3 (by simpa using hne)
      obtain rfl := Option.some.inj hb
      obtain ⟨t, ht⟩ : ∃ t, ys[j / 2]? = some t := ⟨_, List.getElem?_eq_getElem (by omega)⟩
      have hx : (ys.map tickV)[j / 2]? = some (tickV t) := by rw [List.getElem?_map, ht]; rfl
      obtain ⟨c0, c1⟩ := cellsT_at ht
      rw [Addr.add_mid]
      rcases Nat.mod_two_eq_zero_or_one j with hm | hm
      · have e : j = j / 2 * 2 := by omega
        rw [e] at hj
        rw [c0] at hj
        obtain rfl := Option.some.inj hj
        have := hc _ _ hx 0 _ rfl
        rw [e]; exact this
      · have e : j = j / 2 * 2 + 1 := by omega
        rw [e] at hj
        rw [c1] at hj
        obtain rfl := Option.some.inj hj
        have := hc _ _ hx 1 _ rfl
        rw [e]; exact this
    obtain ⟨v', w', hr, h4, h5, h6, h7⟩ := run_append_own_at (P := Try.prog) w B 23 ty 56 i0 _ 2 16 under_ticks hi hz0 hz1 hz2 rfl (by decide) v ts.length (cellsT ts) hown
      a ys.length cap (cellsT ys) (cellsT_len ys) hcell (cellsT_one ys) (by unfold maxLen; omega) (by omega) hB
    rw [hyl]
    refine ⟨v', w', hr, ?_, h5, ?_, h7⟩
    · unfold TOwn
      rw [List.length_append, cellsT_app]
      exact h4
    · rw [h6, List.length_eq_zero_iff]

theorem wp_append_ticks {w : World} {o : Oper} {a : Act} {K : Act → World → Prop} {Q : Exit → Act → World → Prop} (s x : Operand)
    (ho : o.op = .call { callee := .builtin .append, args := #[s, x], argTypes := #[23, 23] }) {B : Nat} {v s' : Value} {ts ys : List (Int × Int)} (hs : a.eval s = v) (hx : a.eval x = s')
    (hown : TOwn w B v ts) (hrow : TRow w s' ys) (hlen : ts.length + ys.length ≤ 1000000) (hB : B ≤ w.heap.size)
    (h : ∀ v' w', TOwn w' B v' (ts ++ ys) → w.grownBy w' v.ownBlock → (v' = .slice none 0 0 ↔ v = .slice none 0 0 ∧ ys = []) → K (a.put o.dst v') w') : o.wp Try.prog a w K Q := by
  obtain ⟨v', w', hr, h2, h3, h4, h5⟩ := run_append_ticks o.type hown hrow hlen hB
  unfold Oper.wp execOp
  simp only [ho, resolve, invoke, builtin, Sem.run_bind, Sem.run_pure, Result.andThen_ok, List.map_toArray, List.map_cons, List.map_nil, hs, hx, hr]
  exact h v' w' h2 h3 h4
theorem wpList_append_ticks {w : World} {ops : Array Oper} {rest : List Oper} {o : Oper} {a : Act} {Q : Exit → Act → World → Prop} (hgd : o.guard = none) (s x : Operand)
    (ho : o.op = .call { callee := .builtin .append, args := #[s, x], argTypes := #[23, 23] }) {B : Nat} {v s' : Value} {ts ys : List (Int × Int)} (hs : a.eval s = v) (hx : a.eval x = s')
    (hown : TOwn w B v ts) (hrow : TRow w s' ys) (hlen : ts.length + ys.length ≤ 1000000) (hB : B ≤ w.heap.size)
    (h : ∀ v' w', TOwn w' B v' (ts ++ ys) → w.grownBy w' v.ownBlock → (v' = .slice none 0 0 ↔ v = .slice none 0 0 ∧ ys = []) → wpList Try.prog ops Q rest (a.put o.dst v') w') : wpList Try.prog ops Q (o :: rest) a w :=
  wpList_plain hgd fun _ hK => wp_append_ticks s x ho hs hx hown hrow hlen hB fun v' w' h2 h3 h4 => hK _ _ (h v' w' h2 h3 h4)

/-- A tick in a block of its own, as append's argument. -/
theorem trow_one {w : World} {b : Nat} {x y : Int} {T : TypeId} (h : Blk w b [.int .i64 x, .int .i64 y] T) : TRow w (.slice (some ⟨b, 0, none⟩) 1 1) [(x, y)] := by
  refine ⟨some ⟨b, 0, none⟩, 1, rfl, ⟨Nat.le_refl _, fun e => by cases e⟩, by unfold maxLen; omega, fun _ => ⟨b, 0, rfl, fun j c hc i v hv => ?_⟩⟩
  match j, hc with
  | 0, hc =>
    obtain rfl := Option.some.inj hc
    rw [Nat.zero_mul, Nat.zero_add]
    exact h.cell i hv
theorem below_own {B : Nat} {w W W' : World} {v : Value} {ts : List (Int × Int)} (h : Below B w W) (hown : TOwn W B v ts) (hg : W.grownBy W' v.ownBlock) (hB : B ≤ W.heap.size) : Below B w W' :=
  h.grown hg hB fun k hk => (hown.blk k hk).1
end Go.Proofs.Ytlaodkolkoefgaa

/-
  Lists of ticks, in plain Lean: where an index's tick stands; what Wake, Drop, Due and Least make of a list.
-/
namespace Go.Proofs.Ytlaodkolkoefgaa
set_option linter.unusedSimpArgs false
set_option linter.unusedVariables false

abbrev Tk := Int × Int

def placeL (ts : List Tk) (x : Int) : Option Nat := if 0 ≤ x ∧ x < 4096 then ts.findIdx? (fun t => t.1 == x) else none
def optI : Option Nat → Int
  | some k => k
  | none => -1

theorem findIdx?_first {ts : List Tk} {p : Tk → Bool} {k : Nat} {t : Tk} (ht : ts[k]? = some t) (hp : p t = true) (hb : ∀ (j : Nat) (t' : Tk), j < k → ts[j]? = some t' → p t' = false) : ts.findIdx? p = some k := by
  rw [List.findIdx?_eq_some_iff_getElem]
  obtain ⟨hk, e⟩ := List.getElem?_eq_some_iff.1 ht
  refine ⟨hk, by rw [e]; exact hp, fun j hj => ?_⟩
  have := hb j ts[j] hj (List.getElem?_eq_getElem (by omega))
  rw [this]; simp
theorem findIdx?_no {ts : List Tk} {p : Tk → Bool} (hb : ∀ (j : Nat) (t' : Tk), ts[j]? = some t' → p t' = false) : ts.findIdx? p = none := by
  rw [List.findIdx?_eq_none_iff]
  intro t ht
  obtain ⟨j, hj, e⟩ := List.getElem_of_mem ht
  exact hb j t (by rw [List.getElem?_eq_getElem hj, e])

theorem placeL_some {ts : List Tk} {x : Int} {k : Nat} {t : Tk} (h0 : 0 ≤ x) (h1 : x < 4096) (ht : ts[k]? = some t) (hx : t.1 = x) (hb : ∀ (j : Nat) (t' : Tk), j < k → ts[j]? = some t' → t'.1 ≠ x) : placeL ts x = some k := by
  unfold placeL
  rw [if_pos ⟨h0, h1⟩]
  exact findIdx?_first ht (by simp [hx]) (fun j t' hj h => by simpa using hb j t' hj h)
theorem placeL_none {ts : List Tk} {x : Int} (hb : ∀ (j : Nat) (t' : Tk), ts[j]? = some t' → t'.1 ≠ x) : placeL ts x = none := by
  unfold placeL
  split
  · exact findIdx?_no (fun j t' h => by simpa using hb j t' h)
  · rfl
theorem placeL_out {ts : List Tk} {x : Int} (h : ¬ (0 ≤ x ∧ x < 4096)) : placeL ts x = none := by unfold placeL; rw [if_neg h]
theorem placeL_inv {ts : List Tk} {x : Int} {k : Nat} (h : placeL ts x = some k) : 0 ≤ x ∧ x < 4096 ∧ k < ts.length ∧ ∃ t, ts[k]? = some t ∧ t.1 = x ∧ ∀ (j : Nat) (t' : Tk), j < k → ts[j]? = some t' → t'.1 ≠ x := by
  unfold placeL at h
  split at h
  · rename_i hx
    rw [List.findIdx?_eq_some_iff_getElem] at h
    obtain ⟨hk, hp, hb⟩ := h
    refine ⟨hx.1, hx.2, hk, ts[k], List.getElem?_eq_getElem hk, by simpa using hp, fun j t' hj h' => ?_⟩
    have := hb j hj
    obtain ⟨hj', e⟩ := List.getElem?_eq_some_iff.1 h'
    rw [e] at this
    simpa using this
  · cases h
theorem placeL_none_inv {ts : List Tk} {x : Int} (h0 : 0 ≤ x) (h1 : x < 4096) (h : placeL ts x = none) : ∀ (j : Nat) (t' : Tk), ts[j]? = some t' → t'.1 ≠ x := by
  unfold placeL at h
  rw [if_pos ⟨h0, h1⟩, List.findIdx?_eq_none_iff] at h
  intro j t' ht
  have := h t' (List.mem_of_getElem? ht)
  simpa using this
theorem optI_lt {ts : List Tk} {x : Int} : -1 ≤ optI (placeL ts x) ∧ optI (placeL ts x) < ts.length := by
  cases h : placeL ts x with
  | none => simp [optI]; omega
  | some k => have := (placeL_inv h).2.2.1; simp [optI]; omega

def dueL (ts : List Tk) (x : Int) : Int := match placeL ts x with
  | some k => (ts.getD k (0, 0)).2
  | none => 0
theorem dueL_some {ts : List Tk} {x : Int} {k : Nat} {t : Tk} (h : placeL ts x = some k) (ht : ts[k]? = some t) : dueL ts x = t.2 := by
  unfold dueL; rw [h]; simp [List.getD, ht]
theorem dueL_none {ts : List Tk} {x : Int} (h : placeL ts x = none) : dueL ts x = 0 := by unfold dueL; rw [h]

/-- Where a tick of index x would be put. -/
def upL (ts : List Tk) (x : Int) : Nat := (ts.findIdx? (fun t => decide (x < t.1))).getD ts.length
theorem upL_le (ts : List Tk) (x : Int) : upL ts x ≤ ts.length := by
  unfold upL
  cases h : ts.findIdx? (fun t => decide (x < t.1)) with
  | none => simp
  | some k =>
    rw [List.findIdx?_eq_some_iff_getElem] at h
    obtain ⟨hk, _⟩ := h
    simp; omega
theorem upL_before {ts : List Tk} {x : Int} {j : Nat} {t : Tk} (hj : j < upL ts x) (ht : ts[j]? = some t) : t.1 ≤ x := by
  unfold upL at hj
  cases h : ts.findIdx? (fun t => decide (x < t.1)) with
  | none =>
    rw [List.findIdx?_eq_none_iff] at h
    have := h t (List.mem_of_getElem? ht)
    simpa using this
  | some k =>
    rw [h] at hj
    rw [List.findIdx?_eq_some_iff_getElem] at h
    obtain ⟨hk, _, hb⟩ := h
    have := hb j (by simpa using hj)
    obtain ⟨hj', e⟩ := List.getElem?_eq_some_iff.1 ht
    rw [e] at this
    simpa using this
theorem upL_at {ts : List Tk} {x : Int} {t : Tk} (ht : ts[upL ts x]? = some t) : x < t.1 := by
  unfold upL at ht
  cases h : ts.findIdx? (fun t => decide (x < t.1)) with
  | none =>
    rw [h] at ht
    simp at ht
  | some k =>
    rw [h] at ht
    rw [List.findIdx?_eq_some_iff_getElem] at h
    obtain ⟨hk, hp, _⟩ := h
    simp only [Option.getD_some] at ht
    obtain ⟨hj', e⟩ := List.getElem?_eq_some_iff.1 ht
    rw [e] at hp
    simpa using hp
theorem upL_eq {ts : List Tk} {x : Int} {k : Nat} (hk : k ≤ ts.length) (hb : ∀ (j : Nat) (t' : Tk), j < k → ts[j]? = some t' → t'.1 ≤ x) (ha : ∀ (t : Tk), ts[k]? = some t → x < t.1) : upL ts x = k := by
  rcases Nat.lt_trichotomy (upL ts x) k with h | h | h
  · exfalso
    have hlt : upL ts x < ts.length := by omega
    have h1 := upL_at (List.getElem?_eq_getElem hlt)
    have h2 := hb _ _ h (List.getElem?_eq_getElem hlt)
    omega
  · exact h
  · exfalso
    have hlt : k < ts.length := by have := upL_le ts x; omega
    have h1 := upL_before h (List.getElem?_eq_getElem hlt)
    have h2 := ha _ (List.getElem?_eq_getElem hlt)
    omega

def insL (ts : List Tk) (k : Nat) (t : Tk) : List Tk := ts.take k ++ t :: ts.drop k
def minI (a b : Int) : Int := if b < a then b else a

def wakeOk (x d : Int) : Bool := decide (0 ≤ x ∧ x < 4096 ∧ 1 ≤ d)
def wakeL (ts : List Tk) (x d : Int) : List Tk :=
  if wakeOk x d then (match placeL ts x with
    | some k => ts.set k (x, minI (ts.getD k (0, 0)).2 d)
    | none => insL ts (upL ts x) (x, d)) else ts
theorem wakeL_no {ts : List Tk} {x d : Int} (h : ¬ (0 ≤ x ∧ x < 4096 ∧ 1 ≤ d)) : wakeL ts x d = ts := by unfold wakeL; rw [if_neg]; simpa [wakeOk] using h
theorem wakeL_set {ts : List Tk} {x d : Int} {k : Nat} {t : Tk} (hd : 1 ≤ d) (h : placeL ts x = some k) (ht : ts[k]? = some t) : wakeL ts x d = ts.set k (x, minI t.2 d) := by
  obtain ⟨h0, h1, _⟩ := placeL_inv h
  unfold wakeL
  rw [if_pos (by simp [wakeOk]; omega), h]
  simp [List.getD, ht]
theorem wakeL_ins {ts : List Tk} {x d : Int} (h0 : 0 ≤ x) (h1 : x < 4096) (hd : 1 ≤ d) (h : placeL ts x = none) : wakeL ts x d = insL ts (upL ts x) (x, d) := by
  unfold wakeL
  rw [if_pos (by simp [wakeOk]; omega), h]
theorem wakeL_len (ts : List Tk) (x d : Int) : (wakeL ts x d).length ≤ ts.length + 1 := by
  unfold wakeL
  split
  · split
    · simp
    · have := upL_le ts x
      simp [insL, List.length_take, List.length_drop]; omega
  · omega

def dropL (ts : List Tk) (x : Int) : List Tk := match placeL ts x with
  | some k => ts.eraseIdx k
  | none => ts
theorem dropL_len (ts : List Tk) (x : Int) : (dropL ts x).length ≤ ts.length := by
  unfold dropL
  split
  · rw [List.length_eraseIdx]; split <;> omega
  · omega

def leastL : List Tk → Int
  | [] => 0
  | t :: r => r.foldl (fun m u => if u.2 < m then u.2 else m) t.2
theorem leastL_step {ts : List Tk} {k : Nat} {t : Tk} (ht : ts[k]? = some t) : leastL (ts.take (k + 1)) = if k = 0 then t.2 else if t.2 < leastL (ts.take k) then t.2 else leastL (ts.take k) := by
  obtain ⟨hk, e⟩ := List.getElem?_eq_some_iff.1 ht
  rw [List.take_succ_eq_append_getElem hk, e]
  cases ts with
  | nil => simp at hk
  | cons u r =>
    cases k with
    | zero => simp [leastL] at *
    | succ k =>
      simp only [List.take_succ_cons, List.cons_append, leastL, List.foldl_append, List.foldl_cons, List.foldl_nil]
      rw [if_neg (show ¬ (k + 1 = 0) by omega)]
      rfl
end Go.Proofs.Ytlaodkolkoefgaa
