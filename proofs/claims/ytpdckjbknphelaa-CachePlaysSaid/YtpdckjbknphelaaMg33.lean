/-
  How rows of spots read.
-/
import Derived.Test.YtpdckjbknphelaaMg32
import Derived.Deep.Slices
namespace Go.Proofs.Ytpdckjbknphelaa
set_option linter.unusedSimpArgs false
set_option linter.unusedVariables false
set_option linter.unusedSectionVars false
set_option linter.constructorNameAsVariable false
open Go.ChangeShapes Go.WideShapes Go.ChangeAt Go.RowKit

section
variable {H : Type} {enc : TypeId × Value → H} {P : Program} {w : World} {base : Nat} {spare : Nat → Bool} {held : Bool}

theorem addr_plain {w : World} {a : Addr} {v : Value} (h : w.cell? a = some v) : ∃ b off, a = ⟨b, off, none⟩ := by
  obtain ⟨b, off, x⟩ := a
  cases x with
  | none => exact ⟨b, off, rfl⟩
  | some x =>
    exfalso
    simp [World.cell?] at h
    split at h <;> cases h

theorem open_rows {r : Reach} {b0 f : Nat} {t e : TypeId} {ks : List Prim} {v : Value} {d : DataW H} {p : List MemPlace} (ht : P.underlying t = some (.slice e)) (hf : flat P f e = some ks) (hz : P.cellsOf e = ks.length) (hz0 : 0 < ks.length)
    (hv : Value.okWide P w r b0 t v) (h : DataW.Trod enc P w base (fun _ => true) held t v d p) :
    ∃ xs : List (List Value), SRow w ks.length v xs ∧ ∀ x ∈ xs, conf enc P w base (fun _ => true) held ks x := by
  obtain ⟨a0, len0, cap0, rfl⟩ := okWide_slice ht hv
  obtain ⟨fuel, hfu⟩ := h
  rcases Go.Deep.open_slice ht hfu with ⟨hcs, _⟩ | ⟨a, len, cap, m, n, D, Pl, hcs, hb, hl, hm, hmm, _, hx⟩
  · simp [Value.cells] at hcs
    obtain ⟨rfl, rfl, rfl⟩ := hcs
    exact ⟨[], ⟨none, 0, rfl, ⟨Nat.le_refl _, fun _ => rfl⟩, Nat.zero_le _, fun h => absurd rfl h⟩, fun x hx => by cases hx⟩
  · simp [Value.cells] at hcs
    obtain ⟨rfl, rfl, rfl⟩ := hcs
    rw [hz] at hx
    have hx' : ∀ i, i < len0 → ∃ cs', (∀ j u, cs'[j]? = some u → w.cell? ((a.add (i * ks.length)).add j) = some u) ∧ cs'.length = ks.length ∧ conf enc P w base (fun _ => true) held ks cs' := fun i hi => by
      obtain ⟨cs', h1, h2⟩ := hx i (by rw [hmm]; simp; omega)
      obtain ⟨_, hlen, hc⟩ := World.cells?_some h1
      exact ⟨cs', fun j u hu => (hc j (by have := (List.getElem?_eq_some_iff.1 hu).1; omega)).trans hu, hlen, flat_trod f n e _ _ ks h2 hf⟩
    obtain ⟨F, hF⟩ := Go.Deep.choose_lt hx'
    refine ⟨(List.range len0).map F, ⟨some a, cap0, by simp, ⟨by simpa using hl, fun e => by cases e⟩, hm, fun hne => ?_⟩, fun x hx => ?_⟩
    · have h0 : 0 < len0 := by
        rcases Nat.eq_zero_or_pos len0 with h | h
        · subst h; simp at hne
        · exact h
      obtain ⟨h1, h2, _⟩ := hF 0 h0
      have h3 := h1 0 _ (List.getElem?_eq_getElem (by omega))
      rw [Nat.zero_mul] at h3
      have ha : (a.add 0).add 0 = a := by simp [Addr.add]
      rw [ha] at h3
      obtain ⟨b, off, rfl⟩ := addr_plain h3
      refine ⟨b, off, rfl, fun j x hx i v hv => ?_⟩
      rw [List.getElem?_map] at hx
      have hj : j < len0 := by
        rcases Nat.lt_or_ge j len0 with h | h
        · exact h
        · rw [List.getElem?_eq_none (by simpa using h)] at hx; cases hx
      rw [List.getElem?_range hj] at hx
      obtain rfl := Option.some.inj hx
      have := (hF j hj).1 i v hv
      rw [Addr.add_mid, Addr.add_mid] at this
      exact this
    · obtain ⟨i, hi, rfl⟩ := List.mem_map.1 hx
      exact (hF i (List.mem_range.1 hi)).2.2

theorem list_of {α : Type} {q : List Value → Prop} {g : α → List Value} {ok : α → Prop} (hq : ∀ x, q x → ∃ a, x = g a ∧ ok a) : ∀ (xs : List (List Value)), (∀ x ∈ xs, q x) → ∃ zs : List α, xs = zs.map g ∧ ∀ a ∈ zs, ok a
  | [], _ => ⟨[], rfl, fun a h => by cases h⟩
  | x :: xs, h => by
    obtain ⟨a, rfl, ha⟩ := hq x (h x List.mem_cons_self)
    obtain ⟨zs, rfl, has⟩ := list_of hq xs (fun y hy => h y (List.mem_cons_of_mem _ hy))
    refine ⟨a :: zs, rfl, fun b hb => ?_⟩
    rcases List.mem_cons.1 hb with rfl | hb
    · exact ha
    · exact has b hb
end

section
variable {H : Type} {enc : TypeId × Value → H} {w : World} {base : Nat} {held : Bool} {r : Reach} {b0 : Nat} {v : Value} {d : DataW H} {p : List MemPlace}
theorem u8_of_wf {n : Int} (h : (Lit.int .u8 n).wf = true) : 0 ≤ n ∧ n ≤ 255 := by
  have := bounds_u8 h
  omega
theorem i64_of_wf {n : Int} (h : (Lit.int .i64 n).wf = true) : -9223372036854775808 ≤ n ∧ n ≤ 9223372036854775807 := by
  have := bounds_i64 h
  omega
set_option maxRecDepth 100000 in
theorem open_spots (hv : Value.okWide Try.prog w r b0 24 v) (h : DataW.Trod enc Try.prog w base (fun _ => true) held 24 v d p) : ∃ l : List Sp, SRow w 3 v (l.map spL) ∧ ∀ s ∈ l, spOk s := by
  obtain ⟨xs, hx, hc⟩ := open_rows (f := 8) (ks := [.i .i64, .i .i64, .i .i64]) Try.underlying24 (by kernel_rfl) (by kernel_rfl) (by decide) hv h
  obtain ⟨zs, rfl, hok⟩ := list_of (g := spL) (ok := spOk) (fun x hx => by
    obtain ⟨_, _, rfl, ⟨a, rfl, wa⟩, hx_0⟩ := conf_cons hx
    obtain ⟨_, _, rfl, ⟨k, rfl, wk⟩, hx_1⟩ := conf_cons hx_0
    obtain ⟨_, _, rfl, ⟨m, rfl, wm⟩, hx_2⟩ := conf_cons hx_1
    obtain rfl := conf_nil hx_2
    exact ⟨(a, k, m), rfl, wa, wk, wm⟩) xs hc
  exact ⟨zs, hx, hok⟩
end
end Go.Proofs.Ytpdckjbknphelaa

/-
  A spot's value, whatever goes and comes: in plain Lean. A frame's cell is set.
-/
namespace Go.Proofs.Ytpdckjbknphelaa
open Go.RowKit
set_option linter.unusedSimpArgs false
set_option linter.unusedVariables false
set_option linter.unusedSectionVars false

theorem valK_snoc (kept : List (Sp × Int)) (p : Sp × Int) (s : Sp) : valK (kept ++ [p]) s = if p.1 = s then p.2 else valK kept s := by
  unfold valK
  rw [List.foldl_append]
  rfl
/-- A spot's value: in its frame, or as it was kept last. -/
def valC (c : Cs) (s : Sp) : Int := match c.wh s with
  | some i => vOf c i
  | none => valK c.kept s
/-- Nothing is pinned; what is not dirty is as it was kept. -/
structure Vl (n : Nat) (c : Cs) : Prop where
  free : ∀ j, (c.sl j).pins = 0
  clean : ∀ j, j < n → (c.sl j).full = true → (c.sl j).dirty = false → vOf c j = valK c.kept (c.sl j).sp
theorem pinnedN_zero {g : Nat → Sl} (h : ∀ j, (g j).pins = 0) : ∀ k, pinnedN g k = 0
  | 0 => rfl
  | k + 1 => by
    unfold pinnedN
    rw [pinnedN_zero h k, h k]
    rfl
theorem find_free {n : Nat} {c : Cs} (hw : Wl n c) (hv : Vl n c) : ∃ r, findS n c.sl c.hand = some r := by
  unfold findS
  cases he : emptyAt n c.sl with
  | some j => exact ⟨_, rfl⟩
  | none =>
    have h2 : pinnedN c.sl n ≠ n := by rw [pinnedN_zero hv.free]; have := hw.n1; omega
    simp only
    rw [if_neg h2]
    exact Option.ne_none_iff_exists'.1 (findIt_go (by have := hw.n1; omega) hw.hand h2)
theorem vOf_put {i j : Nat} {g : Nat → Int × Int} {v : Int} {c : Cs} (h : c.ce = putP i (updP zeroP 5 (cellV v)) g) : vOf c j = if j = i then v else (g (j * 4096 + 5)).2 := by
  unfold vOf
  rw [h]
  unfold putP
  by_cases e : j = i
  · subst e
    rw [if_pos (by omega), if_pos rfl, show j * 4096 + 5 - j * 4096 = 5 by omega, updP_same, cellV_snd]
  · rw [if_neg (by omega), if_neg e]
/-- Get brings a spot in, and changes no value. -/
theorem get_val {stop : Int} {n : Nat} {c : Cs} {t : Sp} (hw : Wl n c) (hv : Vl n c) (hm : mayS t.1 t.2.1 t.2.2 = true) :
    ∃ (i : Nat) (c' : Cs), getS (-1) stop n c t = ((i : Int), (0 : Int), c') ∧ i < n ∧ c'.wh t = some i ∧ Vl n c' ∧ (∀ u, valC c' u = valC c u) ∧ c'.calls.length ≤ c.calls.length + 2 ∧ c'.kept.length ≤ c.kept.length + 1 := by
  cases h : c.wh t with
  | some i =>
    have hi := ((hw.wh t i).1 h).1
    have hsame : ∀ j, (updS c.sl i { c.sl i with mark := true } j).pins = (c.sl j).pins ∧ (updS c.sl i { c.sl i with mark := true } j).full = (c.sl j).full ∧ (updS c.sl i { c.sl i with mark := true } j).dirty = (c.sl j).dirty ∧ (updS c.sl i { c.sl i with mark := true } j).sp = (c.sl j).sp := fun j => by
      unfold updS
      split
      · rename_i e; rw [e]; exact ⟨rfl, rfl, rfl, rfl⟩
      · exact ⟨rfl, rfl, rfl, rfl⟩
    refine ⟨i, _, getS_hit hm h, hi, h, ⟨fun j => (hsame j).1.trans (hv.free j), fun j hj hf hd => ?_⟩, fun u => rfl, Nat.le_add_right _ _, Nat.le_add_right _ _⟩
    show vOf c j = valK c.kept (updS c.sl i { c.sl i with mark := true } j).sp
    rw [(hsame j).2.2.2]
    exact hv.clean j hj ((hsame j).2.1.symm.trans hf) ((hsame j).2.2.1.symm.trans hd)
  | none =>
    obtain ⟨⟨i, g, k⟩, hf⟩ := find_free hw hv
    obtain ⟨c', he, h1, h2, h3, h4, h5, h6⟩ := getS_miss (stop := stop) hm h hf
    obtain ⟨q1, q2, q3, q4⟩ := findS_res hw.n1 hw.hand hf
    have hsp : (g i).full = true → (g i).sp ≠ t := fun hf e => by
      have := (hw.wh t i).2 ⟨q1, (q3 i).2.1.symm.trans hf, (q3 i).1.symm.trans e⟩
      rw [h] at this; cases this
    -- what is kept, spot by spot
    have hkept : ∀ u, valK c'.kept u = if (g i).full = true ∧ (g i).dirty = true ∧ (g i).sp = u then vOf c i else valK c.kept u := fun u => by
      rw [h5]
      by_cases hd : (g i).full = true ∧ (g i).dirty = true
      · rw [if_pos hd, valK_snoc]
        by_cases e : (g i).sp = u
        · rw [if_pos e, if_pos ⟨hd.1, hd.2, e⟩]
        · rw [if_neg e, if_neg (fun h => e h.2.2)]
      · rw [if_neg hd, if_neg (fun h => hd ⟨h.1, h.2.1⟩)]
    have hvo : ∀ j, vOf c' j = if j = i then valK c'.kept t else vOf c j := fun j => vOf_put h6
    have hkt : valK c'.kept t = valK c.kept t := by
      rw [hkept, if_neg (fun h => hsp h.1 h.2.2)]
    have hpins : ∀ j, (c'.sl j).pins = 0 := fun j => by
      by_cases e : j = i
      · rw [e, h2]
      · rw [h1 j e, (q3 j).2.2.2]; exact hv.free j
    refine ⟨i, c', he, q1, by rw [h3, if_pos rfl], ⟨hpins, fun j hj hfj hdj => ?_⟩, fun u => ?_, h4, ?_⟩
    · by_cases e : j = i
      · rw [hvo, if_pos e, e, h2]
      · rw [h1 j e] at hfj hdj ⊢
        rw [hvo, if_neg e, hkept, if_neg]
        · rw [(q3 j).1]
          exact hv.clean j hj ((q3 j).2.1.symm.trans hfj) ((q3 j).2.2.1.symm.trans hdj)
        · rintro ⟨k1, _, k3⟩
          have w1 := (hw.wh (g i).sp i).2 ⟨q1, (q3 i).2.1.symm.trans k1, (q3 i).1.symm⟩
          have w2 := (hw.wh (g j).sp j).2 ⟨hj, (q3 j).2.1.symm.trans hfj, (q3 j).1.symm⟩
          rw [← k3, w1] at w2
          exact e (Option.some.inj w2).symm
    · unfold valC
      rw [h3 u]
      by_cases e : u = t
      · rw [if_pos e, e, h]
        simp only
        rw [hvo, if_pos rfl, hkt]
      · rw [if_neg e]
        by_cases e2 : (g i).full = true ∧ u = (g i).sp
        · rw [if_pos e2]
          simp only
          have w1 := (hw.wh u i).2 ⟨q1, (q3 i).2.1.symm.trans e2.1, by rw [e2.2]; exact (q3 i).1.symm⟩
          rw [w1]
          simp only
          rw [hkept]
          by_cases hd : (g i).dirty = true
          · rw [if_pos ⟨e2.1, hd, e2.2.symm⟩]
          · rw [if_neg (fun h => hd h.2.1), e2.2, (q3 i).1]
            exact (hv.clean i q1 ((q3 i).2.1.symm.trans e2.1) (by rw [← (q3 i).2.2.1]; simpa using hd)).symm
        · rw [if_neg e2]
          cases hu : c.wh u with
          | some j =>
            simp only
            have hji : j ≠ i := fun ej => by
              obtain ⟨_, k2, k3⟩ := (hw.wh u j).1 hu
              rw [ej] at k2 k3
              exact e2 ⟨(q3 i).2.1.trans k2, by rw [(q3 i).1]; exact k3.symm⟩
            rw [hvo, if_neg hji]
          | none =>
            simp only
            rw [hkept, if_neg (fun h => e2 ⟨h.1, h.2.2.symm⟩)]
    · rw [h5]
      split
      · simp
      · omega
/-- A frame's value is set, and is dirty. -/
def setV (c : Cs) (i : Nat) (v : Int) : Cs := { c with ce := updP c.ce (i * 4096 + 5) (cellV v) }
theorem put_val {n i : Nat} {c : Cs} {t : Sp} {v : Int} (hw : Wl n c) (hv : Vl n c) (hi : c.wh t = some i) :
    (dirtyS (setV c i v) t).1 = 0 ∧ Vl n (dirtyS (setV c i v) t).2 ∧ (∀ u, valC (dirtyS (setV c i v) t).2 u = if u = t then v else valC c u) ∧ (dirtyS (setV c i v) t).2.calls = c.calls ∧ (dirtyS (setV c i v) t).2.kept = c.kept := by
  unfold dirtyS
  rw [show (setV c i v).wh t = some i from hi]
  have hvo : ∀ j, vOf (setV c i v) j = if j = i then v else vOf c j := fun j => by
    unfold vOf setV
    simp only
    by_cases e : j = i
    · rw [e, if_pos rfl, updP_same, cellV_snd]
    · rw [if_neg e, updP_other (by omega)]
  refine ⟨rfl, ⟨fun j => ?_, fun j hj hf hd => ?_⟩, fun u => ?_, rfl, rfl⟩
  · show (updS c.sl i { c.sl i with dirty := true } j).pins = 0
    unfold updS
    split
    · exact hv.free i
    · exact hv.free j
  · have hd' : (updS c.sl i { c.sl i with dirty := true } j).dirty = false := hd
    have hf' : (updS c.sl i { c.sl i with dirty := true } j).full = true := hf
    show vOf (setV c i v) j = valK c.kept (updS c.sl i { c.sl i with dirty := true } j).sp
    unfold updS at hd' hf' ⊢
    by_cases e : j = i
    · rw [if_pos e] at hd'; cases hd'
    · rw [if_neg e] at hd' hf' ⊢
      rw [hvo, if_neg e]
      exact hv.clean j hj hf' hd'
  · show (match c.wh u with | some j => vOf (setV c i v) j | none => valK c.kept u) = _
    by_cases e : u = t
    · rw [if_pos e, e, hi]
      simp only
      rw [hvo, if_pos rfl]
    · rw [if_neg e]
      unfold valC
      cases hu : c.wh u with
      | none => rfl
      | some j =>
        simp only
        rw [hvo, if_neg]
        intro ej
        obtain ⟨_, _, k3⟩ := (hw.wh u j).1 hu
        obtain ⟨_, _, k4⟩ := (hw.wh t i).1 hi
        rw [ej] at k3
        exact e (k3.symm.trans k4)
theorem Vl.start (n : Nat) : Vl n cs0 := ⟨fun _ => rfl, fun j _ h => by cases h⟩
section
variable [Xs] {w W W' : World} {b : Bc} {c : Cs} {fail stop : Int}
/-- The pool's cell of a frame is set. -/
theorem Cv.setVal (h : Cv w W b c fail stop) {i : Nat} {v : Int} (hi : i < b.n) (hv : 0 ≤ v ∧ v ≤ 7) :
    Calls Try.prog 18 #[.pointer (some ⟨b.pb, 0, none⟩), .int .i64 i, .int .i64 5, .agg #[.int .u8 (cellV v).1, .int .u8 (cellV v).2]] W fun e w' => e = .returned (.bool true) ∧ Cv w w' b (setV c i v) fail stop ∧ Chg w.heap.size chA W w' := by
  obtain ⟨li, du, tk, hp⟩ := h.pool
  obtain ⟨K0, hK0, hm⟩ := h.map
  obtain ⟨cs, ks⟩ := h.slots.lt'
  obtain ⟨c1, k1⟩ := hp.1.slab.lt'
  have hx : (0 ≤ (cellV v).1 ∧ (cellV v).1 ≤ 255) ∧ 0 ≤ (cellV v).2 ∧ (cellV v).2 ≤ 255 := by unfold cellV; split <;> simp <;> omega
  have hmk : mayK (cellV v).1 (cellV v).2 = true := by unfold cellV mayK kMost'; split <;> simp <;> omega
  have hin : inR b.n (i : Int) 5 := by unfold inR; omega
  have hse : setP b.n (mayK (cellV v).1 (cellV v).2) c.ce i 5 ((cellV v).1, (cellV v).2) = updP c.ce (i * 4096 + 5) (cellV v) := by
    unfold setP
    rw [if_pos ⟨hin, hmk⟩]
    simp
  refine (hp.set i 5 hx.1 hx.2).mono fun e w' ⟨he, hF, hb⟩ => ⟨by rw [he, decide_eq_true hin, hmk]; rfl, ?_, (Chg.refl _ _ _).but hb hp.2.2.1 fun o ho => h.chgA _ o ho (.inr (.inr (.inr rfl)))⟩
  rw [hse] at hF
  refine { h with cache := h.cache.but hb (h.cache.neT k1 (by decide)), slots := h.slots.but hb (ks.neT k1 (by decide)), map := ⟨K0, hK0, hm.but hb (hm.neB k1)⟩, pool := ⟨_, _, _, hF⟩, world := h.world.other hb k1 ⟨by decide, by decide, by decide⟩, vals := fun j hj => ?_ }
  show ∃ u, 0 ≤ u ∧ u ≤ 7 ∧ updP c.ce (i * 4096 + 5) (cellV v) (j * 4096 + 5) = cellV u
  by_cases e : j = i
  · rw [e, updP_same]; exact ⟨v, hv.1, hv.2, rfl⟩
  · rw [updP_other (by omega)]; exact h.vals j hj
/-- What a frame's cell tells. -/
theorem Cv.cellAt (h : Cv w W b c fail stop) {i : Nat} (hi : i < b.n) :
    Calls Try.prog 21 #[.pointer (some ⟨b.pb, 0, none⟩), .int .i64 i, .int .i64 5] W fun e w' => e = .returned (.agg #[.int .u8 (cellV (Go.Proofs.Ytpdckjbknphelaa.vOf c i)).1, .int .u8 (cellV (Go.Proofs.Ytpdckjbknphelaa.vOf c i)).2]) ∧ Below W.heap.size W w' := by
  obtain ⟨li, du, tk, hp⟩ := h.pool
  refine (hp.cell i 5).mono fun e w' ⟨he, _, hb⟩ => ⟨?_, hb⟩
  have : atP b.n c.ce (i : Int) 5 = cellV (Go.Proofs.Ytpdckjbknphelaa.vOf c i) := by
    have := atP_in (ce := c.ce) hi (show 5 < 4096 by omega)
    rw [show ((5 : Nat) : Int) = 5 from rfl] at this
    rw [this, (h.vOf hi).1]
  rw [he, this]
end
end Go.Proofs.Ytpdckjbknphelaa
