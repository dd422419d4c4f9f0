/-
  The library's sort of spots, by the shelf's contract.
-/
import Derived.Test.YtpdckjbknphelaaMg1
import Derived.Test.YtpdckjbknphelaaCpK
import Derived.Shelf.SlSortCmp.NoneTotal
namespace Go.Proofs.Ytpdckjbknphelaa
open Go.Shelf Go.RowKit Go.Lib Go.Sort
set_option linter.unusedSimpArgs false
set_option linter.unusedVariables false
set_option linter.unusedSectionVars false

def Try.sortSp_ren : Go.Shelf.Ren := ⟨fun | 6 => 54 | 15 => 65 | 14 => 64 | 28 => 78 | 29 => 79 | 20 => 70 | 21 => 71 | 22 => 72 | 23 => 73 | 24 => 74 | 25 => 75 | 26 => 76 | 27 => 77 | 46 => 82 | 47 => 83 | 48 => 84 | 49 => 85 | 50 => 86 | 57 => 88 | n => n, fun | 22 => 24 | 24 => 23 | 25 => 108 | 3 => 3 | 39 => 125 | 0 => 0 | 53 => 140 | 55 => 142 | 4 => 4 | 46 => 134 | 45 => 133 | 50 => 92 | 5 => 5 | 9 => 9 | 66 => 144 | 70 => 148 | 76 => 152 | 77 => 153 | n => n, fun | n => n⟩
theorem Try.sortSp : Go.Proofs.SlLaysF0.n6 Try.prog Try.sortSp_ren := {
  mixed := by kernel_rfl
  f6 := ⟨Try.f54.name, by decide, Try.func54.trans (congrArg some (by kernel_rfl))⟩
  f14 := ⟨Try.f64.name, by decide, Try.func64.trans (congrArg some (by kernel_rfl))⟩
  f15 := Try.func65.trans (congrArg some (by kernel_rfl))
  f20 := ⟨Try.f70.name, by decide, Try.func70.trans (congrArg some (by kernel_rfl))⟩
  f21 := ⟨Try.f71.name, by decide, Try.func71.trans (congrArg some (by kernel_rfl))⟩
  f22 := ⟨Try.f72.name, by decide, Try.func72.trans (congrArg some (by kernel_rfl))⟩
  f23 := ⟨Try.f73.name, by decide, Try.func73.trans (congrArg some (by kernel_rfl))⟩
  f24 := ⟨Try.f74.name, by decide, Try.func74.trans (congrArg some (by kernel_rfl))⟩
  f25 := ⟨Try.f75.name, by decide, Try.func75.trans (congrArg some (by kernel_rfl))⟩
  f26 := ⟨Try.f76.name, by decide, Try.func76.trans (congrArg some (by kernel_rfl))⟩
  f27 := ⟨Try.f77.name, by decide, Try.func77.trans (congrArg some (by kernel_rfl))⟩
  f28 := Try.func78.trans (congrArg some (by kernel_rfl))
  f29 := Try.func79.trans (congrArg some (by kernel_rfl))
  f46 := ⟨Try.f82.name, by decide, Try.func82.trans (congrArg some (by kernel_rfl))⟩
  f47 := Try.func83.trans (congrArg some (by kernel_rfl))
  f48 := Try.func84.trans (congrArg some (by kernel_rfl))
  f49 := ⟨Try.f85.name, by decide, Try.func85.trans (congrArg some (by kernel_rfl))⟩
  f50 := ⟨Try.f86.name, by decide, Try.func86.trans (congrArg some (by kernel_rfl))⟩
  f57 := ⟨Try.f88.name, by decide, Try.func88.trans (congrArg some (by kernel_rfl))⟩
  t0 := Try.underlying0
  a0 := Try.isAgg0
  z0 := Try.sizeOf0
  v0 := Try.zeroValue0
  t3 := Try.underlying3
  a3 := Try.isAgg3
  z3 := Try.sizeOf3
  v3 := Try.zeroValue3
  t4 := Try.underlying4
  a4 := Try.isAgg4
  z4 := Try.sizeOf4
  v4 := Try.zeroValue4
  t5 := Try.underlying5
  a5 := Try.isAgg5
  z5 := Try.sizeOf5
  v5 := Try.zeroValue5
  t9 := Try.underlying9
  a9 := Try.isAgg9
  z9 := Try.sizeOf9
  v9 := Try.zeroValue9
  t22 := Try.underlying24
  a22 := Try.isAgg24
  z22 := Try.sizeOf24
  v22 := Try.zeroValue24
  t25 := Try.underlying108
  a25 := Try.isAgg108
  z25 := Try.sizeOf108
  v25 := Try.zeroValue108
  t39 := Try.underlying125
  a39 := Try.isAgg125
  z39 := Try.sizeOf125
  v39 := Try.zeroValue125
  t45 := Try.underlying133
  a45 := Try.isAgg133
  z45 := Try.sizeOf133
  v45 := Try.zeroValue133
  t46 := Try.underlying134
  a46 := Try.isAgg134
  z46 := Try.sizeOf134
  v46 := Try.zeroValue134
  t50 := Try.underlying92
  a50 := Try.isAgg92
  z50 := Try.sizeOf92
  v50 := Try.zeroValue92
  t53 := Try.underlying140
  a53 := Try.isAgg140
  z53 := Try.sizeOf140
  v53 := Try.zeroValue140
  t55 := Try.underlying142
  a55 := Try.isAgg142
  z55 := Try.sizeOf142
  v55 := Try.zeroValue142
  t66 := Try.underlying144
  a66 := Try.isAgg144
  z66 := Try.sizeOf144
  v66 := Try.zeroValue144
  t70 := Try.underlying148
  a70 := Try.isAgg148
  z70 := Try.sizeOf148
  v70 := Try.zeroValue148
  t76 := Try.underlying152
  a76 := Try.isAgg152
  z76 := Try.sizeOf152
  v76 := Try.zeroValue152
  t77 := Try.underlying153
  a77 := Try.isAgg153
  z77 := Try.sizeOf153
  v77 := Try.zeroValue153 }

/-- The order of spots: by X, by Z, by Y. -/
def cfS (s t : Sp) : Int := cmpP s.1 s.2.1 s.2.2 t.1 t.2.1 t.2.2
def ltSp (s t : Sp) : Prop := s.1 < t.1 ∨ (s.1 = t.1 ∧ (s.2.2 < t.2.2 ∨ (s.2.2 = t.2.2 ∧ s.2.1 < t.2.1)))
theorem cmpI_cases (a b : Int) : (a < b ∧ cmpI a b = -1) ∨ (a = b ∧ cmpI a b = 0) ∨ (b < a ∧ cmpI a b = 1) := by
  unfold cmpI
  by_cases h1 : a < b
  · exact .inl ⟨h1, if_pos h1⟩
  · by_cases h2 : b < a
    · exact .inr (.inr ⟨h2, by rw [if_neg h1, if_pos h2]⟩)
    · exact .inr (.inl ⟨by omega, by rw [if_neg h1, if_neg h2]⟩)
theorem ltOf_cfS (s t : Sp) : ltOf cfS s t = true ↔ ltSp s t := by
  unfold ltOf cfS cmpP ltSp orI
  rw [decide_eq_true_iff]
  rcases cmpI_cases s.1 t.1 with ⟨h, e⟩ | ⟨h, e⟩ | ⟨h, e⟩ <;> rcases cmpI_cases s.2.2 t.2.2 with ⟨h', e'⟩ | ⟨h', e'⟩ | ⟨h', e'⟩ <;> rcases cmpI_cases s.2.1 t.2.1 with ⟨h2, e2⟩ | ⟨h2, e2⟩ | ⟨h2, e2⟩ <;> rw [e, e', e2] <;> simp <;> omega
theorem ltOf_cfS_f (s t : Sp) : ltOf cfS s t = false ↔ ¬ ltSp s t := by
  rw [← ltOf_cfS]
  simp
theorem swoSp : SWO (ltOf cfS) where
  irrefl x := by rw [ltOf_cfS_f]; unfold ltSp; omega
  trans x y z h1 h2 := by rw [ltOf_cfS] at *; unfold ltSp at *; omega
  ntrans x y z h1 h2 := by rw [ltOf_cfS_f] at *; unfold ltSp at *; omega
theorem totSp (x y : Sp) (h1 : ltOf cfS x y = false) (h2 : ltOf cfS y x = false) : x = y := by
  rw [ltOf_cfS_f] at *
  obtain ⟨a, b, c⟩ := x
  obtain ⟨d, e, f⟩ := y
  unfold ltSp at *
  simp only at h1 h2
  have h3 : a = d := by omega
  have h4 : c = f := by omega
  have h5 : b = e := by omega
  rw [h3, h4, h5]
theorem spL_one (x : Sp) : ∀ v ∈ spL x, v.oneCell' = true := fun v hv => by
  simp [spL] at hv
  rcases hv with rfl | rfl | rfl <;> rfl
theorem cmpLays (blk off size : Nat) (w : World) : CmpLays Try.prog 55 #[] spL 3 cfS blk off size w := fun _ _ _ _ x y => cmpspot_calls x.1 x.2.1 x.2.2 y.1 y.2.1 y.2.2 _
theorem ROwn.holds {W : World} {B g cap : Nat} {l : List Sp} (h : ROwn W B 23 3 (.slice (some ⟨g, 0, none⟩) l.length cap) (l.map spL)) : HoldsK spL 3 W g 0 l.toArray := by
  obtain ⟨cs, hb⟩ := h.blk (g := g) rfl
  obtain ⟨base, cap', e, _, _, hc⟩ := h.open
  intro j hj
  rw [size_flatK, List.size_toArray] at hj
  have hjl : j / 3 < l.length := by omega
  obtain ⟨g', e2, _, hcell⟩ := hc (fun e => by have := congrArg List.length e; simp at this; rw [this] at hjl; simp at hjl)
  injection e with e _ _
  rw [← e] at e2
  injection e2 with e2
  injection e2 with e2
  subst e2
  refine ⟨?_, hb.frozen _⟩
  rw [get_flatK _ _ _ _ (by rw [List.size_toArray]; exact hj)]
  have hx : (l.map spL)[j / 3]? = some (spL l[j / 3]) := by rw [List.getElem?_map, List.getElem?_eq_getElem hjl]; rfl
  have hd : l.toArray[j / 3]! = l[j / 3] := by simp [hjl]
  have hm : (spL l[j / 3])[j % 3]? = some (spL l[j / 3])[j % 3]! := by
    have : j % 3 < (spL l[j / 3]).length := by show j % 3 < 3; omega
    rw [List.getElem?_eq_getElem this, List.getElem!_eq_getElem?_getD, List.getElem?_eq_getElem this]
    rfl
  have := hcell _ _ hx _ _ hm
  rw [Nat.zero_add, show j / 3 * 3 + j % 3 = j by omega] at *
  rw [hd]
  exact this
theorem SRow.ofHolds {W : World} {g cap : Nat} {l : List Sp} (h : HoldsK spL 3 W g 0 l.toArray) (hn : l.length ≤ cap) (hc : cap ≤ maxLen) : SRow W 3 (.slice (some ⟨g, 0, none⟩) l.length cap) (l.map spL) := by
  refine ⟨some ⟨g, 0, none⟩, cap, by rw [List.length_map], ⟨by rw [List.length_map]; exact hn, fun e => by cases e⟩, hc, fun _ => ⟨g, 0, rfl, fun j x hx i v hv => ?_⟩⟩
  rw [List.getElem?_map] at hx
  cases hl : l[j]? with
  | none => rw [hl] at hx; cases hx
  | some s =>
    rw [hl] at hx
    obtain rfl := Option.some.inj hx
    have hj := (List.getElem?_eq_some_iff.1 hl).1
    have hi : i < 3 := (List.getElem?_eq_some_iff.1 hv).1
    have := (HoldsK.cell h (i := j) (c := i) (by rw [List.size_toArray]; exact hj) hi).1
    rw [this]
    have hd : l.toArray[j]! = s := by
      have := (List.getElem?_eq_some_iff.1 hl).2
      simp [hj, this]
    rw [hd, List.getElem!_eq_getElem?_getD, hv]
    rfl
/-- The spots, in order. -/
def sortSp (l : List Sp) : List Sp := l.mergeSort fun x y => !(ltOf cfS) y x
theorem sortSp_perm (l : List Sp) : (sortSp l).Perm l := List.mergeSort_perm _ _
theorem isAggSpot : ∀ w, (isAgg 23).run Try.prog w = .ok true w := fun w => by kernel_rfl
theorem sizeSpot : ∀ w, (Go.sizeOf 23).run Try.prog w = .ok 3 w := fun w => by kernel_rfl
/-- The slice's block holds spots. -/
def TyB (w : World) (v : Value) : Prop := ∀ (a : Addr) (n cp : Nat), v = .slice (some a) n cp → ∃ cs, Blk w a.block cs 23
theorem sort_calls (W : World) (B : Nat) (v : Value) (l : List Sp) (h : ROwn W B 23 3 v (l.map spL)) (hl : l.length ≤ 1000) :
    Calls Try.prog 54 #[v, .func (.func 55) #[] #[]] W fun e w' => e = .returned (.tuple #[]) ∧ SRow w' 3 v ((sortSp l).map spL) ∧ TyB w' v ∧ Below B W w' := by
  by_cases h0 : l = []
  · subst h0
    obtain ⟨base, cap, rfl, _⟩ := h.open
    have := AnyF.slices_SortFunc_none Try.sortSp base cap (.func (.func 55) #[] #[]) W
    refine this.mono ?_
    rintro e w' ⟨rfl, rfl⟩
    refine ⟨rfl, ?_, fun a n cp e => h.blk (g := a.block) (by rw [e]; rfl), Below.refl _ _⟩
    obtain ⟨base2, cap2, e2, h2, h3, _⟩ := h.open
    injection e2 with e2 _ e3
    subst e2 e3
    rw [show (sortSp []).map spL = [] by simp [sortSp]]
    refine ⟨base, cap, rfl, ⟨Nat.zero_le _, fun e => ?_⟩, h3, fun hne => absurd rfl hne⟩
    subst e
    rcases h.1.2 with ⟨e4, _⟩ | ⟨g, cap', cur, e4, _⟩
    · injection e4
    · cases e4
  · obtain ⟨base, cap, rfl, hn, hcm, hcell⟩ := h.open
    obtain ⟨g, rfl, hB, _⟩ := hcell (fun e => h0 (List.map_eq_nil_iff.1 e))
    rw [List.length_map] at h hn ⊢
    have hg := (h.lt (g := g) rfl).2
    have eg : ∀ args w, (callFunc 55 args).run Try.prog w = .ok (.enter 55 args) w := enters_of Try.func55 (by kernel_rfl) rfl
    have hcon := AnyQ.slices_SortFunc_total Try.sortSp 3 isAggSpot sizeSpot spL (fun _ => rfl) spL_one cfS swoSp 55 #[] g 0 cap l.toArray W eg (cmpLays g 0 _ W) h.holds hg (by rw [List.size_toArray]; omega) totSp
    rw [List.size_toArray] at hcon
    refine hcon.mono ?_
    rintro e w' ⟨rfl, n, os, rfl⟩
    have hlen : (sortSp l).length = l.length := (sortSp_perm l).length_eq
    refine ⟨rfl, ?_, fun a nn cp e => ?_, ?_⟩
    rotate_left
    · injection e with e
      injection e with e
      subst e
      obtain ⟨cs, kb⟩ := h.blk (g := g) rfl
      unfold Blk at kb ⊢
      refine ⟨(putCells id 0 (flatK spL 3 (sortSp l).toArray) cs.toArray).toList, ?_⟩
      unfold sortWorldK
      simp only [Go.Sort.grow, putRowK, putRow, mapBlock, Go.Sort.ahead]
      rw [Array.getElem?_append_left (by simp; exact hg), Array.getElem?_modify, if_pos rfl, kb]
      rfl
    rotate_left
    · have := SRow.ofHolds (W := sortWorldK spL 3 W g 0 n (sortSp l).toArray os) (cap := cap) (l := sortSp l) (holdsK_sortWorldK spL 3 W g 0 n l.toArray _ os hg h.holds (by rw [List.size_toArray, List.size_toArray, hlen])) (by omega) hcm
      rw [hlen] at this
      exact this
    · refine ⟨rfl, rfl, rfl, ?_, fun k hk => ?_⟩
      · unfold sortWorldK
        rw [size_grow, size_putRowK]
        show W.heap.size ≤ W.heap.size + _
        omega
      · have hkg : k ≠ g := by omega
        have hkw : k < W.heap.size := by omega
        unfold sortWorldK
        simp [Go.Sort.grow, putRowK, putRow, mapBlock, Go.Sort.ahead, hkg, hkw]
        rw [Array.getElem?_append_left (by simp; exact hkw), Array.getElem?_modify, if_neg (Ne.symm hkg)]
        simp [hkw]
end Go.Proofs.Ytpdckjbknphelaa
