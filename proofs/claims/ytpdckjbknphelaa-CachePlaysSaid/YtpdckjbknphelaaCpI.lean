/-
  The cache: what Get does to its view.
-/
import Derived.Test.YtpdckjbknphelaaCpH
namespace Go.Proofs.Ytpdckjbknphelaa
open Go.RowKit
set_option linter.unusedSimpArgs false
set_option linter.unusedVariables false
set_option linter.unusedSectionVars false

def wI : Option Nat → Int
  | some i => i
  | none => 0
theorem Mp.look2 {w : World} {b n : Nat} {g : Sp → Option Nat} (h : Mp w b n g) {s : Sp} (hs : spOk s) : (Instr.lookup 61 (.map (some b)) (spV s) true).run Try.prog w = .ok (.tuple #[.int .i64 (wI (g s)), .bool (g s).isSome]) w := by
  obtain ⟨D, hD, hg⟩ := h
  obtain ⟨l, hl⟩ := spKey hs
  obtain ⟨v, ps, hrun, hv⟩ := hD.look_ok spotKeyed Try.underlying61 (zeroInt w) (intElem (by decide)) hl
  obtain ⟨c, rfl, hc, _⟩ := plainElem_int_inv Try.underlying3 hv
  have hgs := hg s l hl
  have h1 := congrArg Prod.fst hc
  simp only at h1
  cases hgg : g s with
  | none =>
    rw [hgg] at hgs
    rw [hgs] at hrun
    rw [Maps.atKey_of_not_has hgs] at h1
    simp only [DataW.lit.injEq, Lit.int.injEq, true_and] at h1
    rw [← h1] at hrun
    exact hrun
  | some i =>
    rw [hgg] at hgs
    rw [hgs.1] at hrun
    rw [hgs.2] at h1
    simp only [DataW.lit.injEq, Lit.int.injEq, true_and] at h1
    rw [← h1] at hrun
    exact hrun
/-- A whole slot is stored. -/
def set7 (W : World) (b o : Nat) (x : Sl) : World := ((((((W.setCell ⟨b, o, none⟩ (.int .i64 x.sp.1)).setCell ⟨b, o + 1, none⟩ (.int .i64 x.sp.2.1)).setCell ⟨b, o + 2, none⟩ (.int .i64 x.sp.2.2)).setCell ⟨b, o + 3, none⟩ (.bool x.full)).setCell ⟨b, o + 4, none⟩ (.bool x.dirty)).setCell ⟨b, o + 5, none⟩ (.bool x.mark)).setCell ⟨b, o + 6, none⟩ (.int .i64 x.pins)
theorem set7_but (W : World) (b o : Nat) (x : Sl) : But b W (set7 W b o x) := ((((((((But.refl _ _).setCell _ _).setCell _ _).setCell _ _).setCell _ _).setCell _ _).setCell _ _).setCell _ _)
theorem Row1.set7 {W : World} {b n : Nat} {g : Nat → Sl} (h : Row1 W b 94 (n * 7) (slF g)) (i : Nat) (x : Sl) : Row1 (Go.Proofs.Ytpdckjbknphelaa.set7 W b (i * 7) x) b 94 (n * 7) (slF (updS g i x)) := by
  refine (((((((h.set (i * 7) _).set (i * 7 + 1) _).set (i * 7 + 2) _).set (i * 7 + 3) _).set (i * 7 + 4) _).set (i * 7 + 5) _).set (i * 7 + 6) _).congr fun j hj => ?_
  by_cases e : j / 7 = i
  · have hm : j % 7 = 0 ∨ j % 7 = 1 ∨ j % 7 = 2 ∨ j % 7 = 3 ∨ j % 7 = 4 ∨ j % 7 = 5 ∨ j % 7 = 6 := by omega
    have hR : slF (updS g i x) j = (slL x).getD (j % 7) undef := by
      unfold slF updS
      rw [if_pos e]
    rw [hR]
    rcases hm with hm | hm | hm | hm | hm | hm | hm
    all_goals rw [hm]
    · rw [if_neg (by omega), if_neg (by omega), if_neg (by omega), if_neg (by omega), if_neg (by omega), if_neg (by omega), if_pos (by omega)]; rfl
    · rw [if_neg (by omega), if_neg (by omega), if_neg (by omega), if_neg (by omega), if_neg (by omega), if_pos (by omega)]; rfl
    · rw [if_neg (by omega), if_neg (by omega), if_neg (by omega), if_neg (by omega), if_pos (by omega)]; rfl
    · rw [if_neg (by omega), if_neg (by omega), if_neg (by omega), if_pos (by omega)]; rfl
    · rw [if_neg (by omega), if_neg (by omega), if_pos (by omega)]; rfl
    · rw [if_neg (by omega), if_pos (by omega)]; rfl
    · rw [if_pos (by omega)]; rfl
  · rw [if_neg (by omega), if_neg (by omega), if_neg (by omega), if_neg (by omega), if_neg (by omega), if_neg (by omega), if_neg (by omega)]
    unfold slF updS
    rw [if_neg e]
def vOf (c : Cs) (i : Nat) : Int := (c.ce (i * 4096 + 5)).2
def evictS (c : Cs) (i : Nat) : Cs := { c with sl := updS c.sl i slZ, wh := setM c.wh (c.sl i).sp none }
def enterS (c : Cs) (i : Nat) (s : Sp) : Cs := { c with sl := updS c.sl i ⟨s, true, false, true, 0⟩, wh := setM c.wh s (some i) }
def loadS (c : Cs) (i : Nat) (s : Sp) : Cs := { c with ce := putP i (updP zeroP 5 (cellV (valK c.kept s))) c.ce }
section
variable [Xs] {w W W' : World} {b : Bc} {c : Cs} {fail stop : Int}
theorem Cv.vOf (h : Cv w W b c fail stop) {i : Nat} (hi : i < b.n) : c.ce (i * 4096 + 5) = cellV (Go.Proofs.Ytpdckjbknphelaa.vOf c i) ∧ 0 ≤ Go.Proofs.Ytpdckjbknphelaa.vOf c i ∧ Go.Proofs.Ytpdckjbknphelaa.vOf c i ≤ 7 := by
  obtain ⟨v, h1, h2, h3⟩ := h.vals i hi
  have e : Go.Proofs.Ytpdckjbknphelaa.vOf c i = v := by unfold Go.Proofs.Ytpdckjbknphelaa.vOf; rw [h3, cellV_snd]
  rw [e]
  exact ⟨h3, h1, h2⟩
/-- Map and slots change together. -/
theorem Cv.both (h : Cv w W b c fail stop) {V : World} {i K : Nat} {x : Sl} {wh : Sp → Option Nat} (h1 : But b.mb W V) (hK : K ≤ c.calls.length) (hm' : Mp V b.mb K wh) (hw : ∀ s j, wh s = some j ↔ j < b.n ∧ (updS c.sl i x j).full = true ∧ (updS c.sl i x j).sp = s) (ho : ∀ j, (updS c.sl i x j).full = true → Go.Proofs.Ytpdckjbknphelaa.spOk (updS c.sl i x j).sp) :
    Cv w (set7 V b.sb (i * 7) x) b { c with sl := updS c.sl i x, wh := wh } fail stop := by
  obtain ⟨cs, ks⟩ := h.slots.lt'
  obtain ⟨K0, hK0, hm⟩ := h.map
  obtain ⟨li, du, tk, hp⟩ := h.pool
  obtain ⟨c1, k1⟩ := hp.1.slab.lt'
  obtain ⟨c2, k2⟩ := hp.1.take.lt'
  have s1 := h.slots.but h1 (hm.neB ks).symm
  obtain ⟨cs', ks'⟩ := s1.lt'
  have hb := set7_but V b.sb (i * 7) x
  have p1 := hp.other h1 h.lm (hm.neB hp.1.pool).symm (hm.neB k1).symm (hm.neB k2).symm
  have ca := h.cache.but h1 (hm.neB h.cache).symm
  exact { h with cache := ca.but hb (h.cache.neT ks (by decide)), slots := s1.set7 i x, map := ⟨K, hK, hm'.but hb (hm.neB ks)⟩, whOk := hw, spOk := ho, pool := ⟨li, du, tk, p1.other hb h.ls (hp.1.pool.neT ks (by decide)) (k1.neT ks (by decide)) (k2.neT ks (by decide))⟩, world := (h.world.otherM h1 hm).other hb ks' ⟨by decide, by decide, by decide⟩ }
/-- .. the slots first. -/
theorem Cv.both' (h : Cv w W b c fail stop) {V : World} {i K : Nat} {x : Sl} {wh : Sp → Option Nat} (h1 : But b.mb (set7 W b.sb (i * 7) x) V) (hK : K ≤ c.calls.length) (hm' : Mp V b.mb K wh) (hw : ∀ s j, wh s = some j ↔ j < b.n ∧ (updS c.sl i x j).full = true ∧ (updS c.sl i x j).sp = s) (ho : ∀ j, (updS c.sl i x j).full = true → Go.Proofs.Ytpdckjbknphelaa.spOk (updS c.sl i x j).sp) :
    Cv w V b { c with sl := updS c.sl i x, wh := wh } fail stop := by
  obtain ⟨cs, ks⟩ := h.slots.lt'
  obtain ⟨K0, hK0, hm⟩ := h.map
  obtain ⟨li, du, tk, hp⟩ := h.pool
  obtain ⟨c1, k1⟩ := hp.1.slab.lt'
  obtain ⟨c2, k2⟩ := hp.1.take.lt'
  have hb := set7_but W b.sb (i * 7) x
  have hm1 := hm.but hb (hm.neB ks)
  have s1 := h.slots.set7 i x
  obtain ⟨cs', ks'⟩ := s1.lt'
  have p1 := hp.other hb h.ls (hp.1.pool.neT ks (by decide)) (k1.neT ks (by decide)) (k2.neT ks (by decide))
  have ca := h.cache.but hb (h.cache.neT ks (by decide))
  exact { h with cache := ca.but h1 (hm.neB h.cache).symm, slots := s1.but h1 (hm.neB ks).symm, map := ⟨K, hK, hm'⟩, whOk := hw, spOk := ho, pool := ⟨li, du, tk, p1.other h1 h.lm (hm.neB hp.1.pool).symm (hm.neB k1).symm (hm.neB k2).symm⟩, world := (h.world.other hb ks ⟨by decide, by decide, by decide⟩).otherM h1 hm1 }
theorem Cv.evict (h : Cv w W b c fail stop) {V : World} {i K : Nat} (hi : i < b.n) (hf : (c.sl i).full = true) (h1 : But b.mb W V) (hK : K ≤ c.calls.length) (hm' : Mp V b.mb K (setM c.wh (c.sl i).sp none)) : Cv w (set7 V b.sb (i * 7) slZ) b (evictS c i) fail stop := by
  refine h.both h1 hK hm' (fun s j => ?_) (fun j hj => ?_)
  · have hwi := (h.whOk (c.sl i).sp i).2 ⟨hi, hf, rfl⟩
    unfold setM updS
    by_cases e : s = (c.sl i).sp
    · rw [if_pos e]
      constructor
      · intro k; cases k
      · rintro ⟨k1, k2, k3⟩
        exfalso
        by_cases ej : j = i
        · rw [if_pos ej] at k2; cases k2
        · rw [if_neg ej] at k2 k3
          have := (h.whOk s j).2 ⟨k1, k2, k3⟩
          rw [e, hwi] at this
          exact ej (Option.some.inj this).symm
    · rw [if_neg e]
      by_cases ej : j = i
      · subst ej
        rw [if_pos rfl]
        constructor
        · intro k
          exact absurd ((h.whOk s j).1 k).2.2.symm e
        · rintro ⟨_, k2, _⟩; cases k2
      · rw [if_neg ej]; exact h.whOk s j
  · unfold updS at hj ⊢
    by_cases ej : j = i
    · rw [if_pos ej] at hj; cases hj
    · rw [if_neg ej] at hj ⊢; exact h.spOk j hj
theorem Cv.enter (h : Cv w W b c fail stop) {V : World} {i K : Nat} {s : Sp} (hi : i < b.n) (hf : (c.sl i).full = false) (hn : c.wh s = none) (hs : Go.Proofs.Ytpdckjbknphelaa.spOk s) (h1 : But b.mb (set7 W b.sb (i * 7) ⟨s, true, false, true, 0⟩) V) (hK : K ≤ c.calls.length) (hm' : Mp V b.mb K (setM c.wh s (some i))) : Cv w V b (enterS c i s) fail stop := by
  refine h.both' h1 hK hm' (fun t j => ?_) (fun j hj => ?_)
  · unfold setM updS
    by_cases e : t = s
    · subst e
      rw [if_pos rfl]
      by_cases ej : j = i
      · subst ej
        rw [if_pos rfl]
        exact ⟨fun _ => ⟨hi, rfl, rfl⟩, fun _ => rfl⟩
      · rw [if_neg ej]
        constructor
        · intro k; exact absurd (Option.some.inj k).symm ej
        · rintro ⟨k1, k2, k3⟩
          have := (h.whOk t j).2 ⟨k1, k2, k3⟩
          rw [hn] at this; cases this
    · rw [if_neg e]
      by_cases ej : j = i
      · subst ej
        rw [if_pos rfl]
        constructor
        · intro k
          have := ((h.whOk t j).1 k).2.1
          rw [hf] at this; cases this
        · rintro ⟨_, _, k3⟩; exact absurd k3.symm e
      · rw [if_neg ej]; exact h.whOk t j
  · unfold updS at hj ⊢
    by_cases ej : j = i
    · rw [if_pos ej]; exact hs
    · rw [if_neg ej] at hj ⊢; exact h.spOk j hj
theorem valK_ok {kept : List (Sp × Int)} (h : ∀ p ∈ kept, 0 ≤ p.2 ∧ p.2 ≤ 7) (s : Sp) : 0 ≤ valK kept s ∧ valK kept s ≤ 7 := by
  have key : ∀ (l : List (Sp × Int)) (a : Int), (∀ p ∈ l, 0 ≤ p.2 ∧ p.2 ≤ 7) → 0 ≤ a ∧ a ≤ 7 → 0 ≤ l.foldl (fun a p => if p.1 = s then p.2 else a) a ∧ l.foldl (fun a p => if p.1 = s then p.2 else a) a ≤ 7 := by
    intro l
    induction l with
    | nil => intro a _ ha; exact ha
    | cons p l ih =>
      intro a hl ha
      rw [List.foldl_cons]
      refine ih _ (fun q hq => hl q (List.mem_cons_of_mem _ hq)) ?_
      split
      · exact hl p List.mem_cons_self
      · exact ha
  exact key kept 0 h ⟨Int.le_refl _, by omega⟩
theorem U8_cell {v : Int} (h : 0 ≤ v ∧ v ≤ 7) : U8 (updP zeroP 5 (cellV v)) := by
  by_cases e : v = 0
  · rw [show cellV v = (0, 0) from if_pos e]
    exact U8.zero.upd 5 (by omega) (by omega)
  · rw [show cellV v = (13, v) from if_neg e]
    exact U8.zero.upd 5 (by omega) (by omega)
theorem check_cell {v : Int} (h : 0 ≤ v ∧ v ≤ 7) : checkE (updP zeroP 5 (cellV v)) zeroP [] = 0 := by
  refine checkE_0 (fun i _ => ?_) (fun i _ => by simp [litC, zeroP]) (by simp [tOk])
  unfold mayC
  by_cases e : i = 5
  · subst e
    rw [updP_same]
    unfold cellV mayK kMost'
    split <;> simp
    omega
  · rw [updP_other e]
    rfl
/-- The pool loads a chunk of one value. -/
theorem Cv.load (h : Cv w W b c fail stop) {i xb : Nat} (hi : i < b.n) {s : Sp} (hx : Ck W xb (updP zeroP 5 (cellV (valK c.kept s))) zeroP (.slice none 0 0)) :
    Calls Try.prog 36 #[.pointer (some ⟨b.pb, 0, none⟩), .int .i64 i, .pointer (some ⟨xb, 0, none⟩)] W fun e w' => e = .returned (.int .i64 0) ∧ Cv w w' b (loadS c i s) fail stop ∧ But b.slab W w' := by
  obtain ⟨li, du, tk, hp⟩ := h.pool
  obtain ⟨K0, hK0, hm⟩ := h.map
  obtain ⟨cs, ks⟩ := h.slots.lt'
  obtain ⟨c1, k1⟩ := hp.1.slab.lt'
  have hv := valK_ok h.keptv s
  refine (hp.load hi hx (TRow.nil _) (U8_cell hv) U8.zero (check_cell hv)).mono fun e w' ⟨he, hF, hb⟩ => ⟨he, ?_, hb⟩
  refine { h with cache := h.cache.but hb (h.cache.neT k1 (by decide)), slots := h.slots.but hb (ks.neT k1 (by decide)), map := ⟨K0, hK0, hm.but hb (hm.neB k1)⟩, pool := ⟨_, _, _, hF⟩, world := h.world.other hb k1 ⟨by decide, by decide, by decide⟩, vals := fun j hj => ?_ }
  show ∃ v, 0 ≤ v ∧ v ≤ 7 ∧ putP i (updP zeroP 5 (cellV (valK c.kept s))) c.ce (j * 4096 + 5) = cellV v
  unfold putP
  by_cases e : j = i
  · subst e
    rw [if_pos (by omega), show j * 4096 + 5 - j * 4096 = 5 by omega, updP_same]
    exact ⟨_, hv.1, hv.2, rfl⟩
  · rw [if_neg (by omega)]
    exact h.vals j hj
end
end Go.Proofs.Ytpdckjbknphelaa
