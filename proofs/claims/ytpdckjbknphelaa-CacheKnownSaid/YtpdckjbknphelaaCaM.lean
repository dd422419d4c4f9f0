/-
  The cache: Spots, Unsaved, Used; works.
-/
import Derived.Test.YtpdckjbknphelaaCaL
namespace Go.Proofs.Ytpdckjbknphelaa
open Go.RowKit
set_option linter.unusedSimpArgs false
set_option linter.unusedVariables false

def spots (n : Nat) (c : Cs) : List Sp := sortSp (selN c.sl (fun _ => true) n)
def dirts (n : Nat) (c : Cs) : List Sp := sortSp (selN c.sl (fun x => x.dirty) n)
section
variable {w W W' : World} {b : Bc} {c : Cs} {fail stop : Int}
set_option maxRecDepth 100000 in
set_option maxHeartbeats 4000000 in
theorem spots_calls (W : World) (h : Cv w W b c fail stop) : Calls Try.prog 15 #[.pointer (some ⟨b.cb, 0, none⟩)] W fun e w' => ∃ v, e = .returned v ∧ SRow w' 3 v ((spots b.n c).map spL) ∧ TyB w' v ∧ Below W.heap.size W w' := by
  have hl := listAll_calls W h
  replace hl := Lib.hid hl
  clear h
  go_enter Try.func15, Try.ntmps15
  go_wp2_with fail
  refine hl.out.mono ?_
  rintro e V ⟨v, rfl, hr, hty, hb⟩
  have hE := Lib.hid (show SRow V 3 v ((spots b.n c).map spL) ∧ TyB V v ∧ Below W.heap.size W V from ⟨hr, hty, hb⟩)
  clear hr hty hb hl
  go_wp2_with fail
  go_ret
  exact ⟨v, rfl, hE.out.1, hE.out.2.1, hE.out.2.2⟩
set_option maxRecDepth 100000 in
set_option maxHeartbeats 4000000 in
theorem unsaved_calls (W : World) (h : Cv w W b c fail stop) : Calls Try.prog 23 #[.pointer (some ⟨b.cb, 0, none⟩)] W fun e w' => ∃ v, e = .returned v ∧ SRow w' 3 v ((dirts b.n c).map spL) ∧ TyB w' v ∧ Below W.heap.size W w' := by
  have hl := listDirt_calls W h
  replace hl := Lib.hid hl
  clear h
  go_enter Try.func23, Try.ntmps23
  go_wp2_with fail
  refine hl.out.mono ?_
  rintro e V ⟨v, rfl, hr, hty, hb⟩
  have hE := Lib.hid (show SRow V 3 v ((dirts b.n c).map spL) ∧ TyB V v ∧ Below W.heap.size W V from ⟨hr, hty, hb⟩)
  clear hr hty hb hl
  go_wp2_with fail
  go_ret
  exact ⟨v, rfl, hE.out.1, hE.out.2.1, hE.out.2.2⟩
set_option maxRecDepth 100000 in
set_option maxHeartbeats 4000000 in
theorem used_calls (W : World) (h : Cv w W b c fail stop) : Calls Try.prog 16 #[.pointer (some ⟨b.cb, 0, none⟩)] W fun e w' => e = .returned (.int .i64 (spots b.n c).length) ∧ Below W.heap.size W w' := by
  have hl := spots_calls W h
  obtain ⟨ln, hln⟩ : ∃ ln, (spots b.n c).length = ln := ⟨_, rfl⟩
  rw [hln]
  replace hln := Lib.hid hln
  replace hl := Lib.hid hl
  clear h
  go_enter Try.func16, Try.ntmps16
  go_wp2_with fail
  refine hl.out.mono ?_
  rintro e V ⟨v, rfl, hr, _, hb⟩
  obtain ⟨base, cap, rfl, _, hcm, _⟩ := hr
  rw [List.length_map, hln.out]
  unfold maxLen at hcm
  replace hb := Lib.hid hb
  clear hl hln
  go_wp2_with fail
  go_ret
  exact ⟨rfl, hb.out⟩
end
/-- A world's first Get. -/
theorem getS_first : getS (-1) 0 2 cs0 (1, 0, 0) = (0, 0, enterS (loadS { cs0 with calls := [(false, (1, 0, 0), 0)] } 0 (1, 0, 0)) 0 (1, 0, 0)) := by
  unfold getS
  rw [if_neg (by decide)]
  have h1 : findS 2 cs0.sl cs0.hand = some (0, cs0.sl, cs0.hand) := by
    unfold findS
    rw [emptyAt_some (k := 0) (fun j hj => absurd hj (Nat.not_lt_zero _)) (by omega) rfl]
  rw [show cs0.wh (1, 0, 0) = none from rfl]
  simp only
  rw [h1]
  simp only
  unfold cleanS
  rw [if_neg (by simp [cs0, slZ])]
  unfold getT
  rw [if_pos rfl, if_neg (by simp [cs0, slZ])]
  unfold getL
  rw [if_neg (by simp [badB, cs0])]
  rfl
theorem spots_first (c : Cs) (s : Sp) : (spots 2 (enterS { c with sl := fun _ => slZ } 0 s)).length = 1 := by
  unfold spots
  rw [(sortSp_perm _).length_eq]
  simp [selN, enterS, updS, slZ]
set_option maxRecDepth 100000 in
set_option maxHeartbeats 8000000 in
theorem works_calls (W : World) : Calls Try.prog 12 #[] W fun e w' => e = .returned (.bool true) ∧ Below W.heap.size W w' := by
  have hA : Below W.heap.size W (W.alloc (.cells #[.slice none 0 0, .slice none 0 0, .int .i64 (-1), .int .i64 0] 29)) := (Below.refl _ _).alloc (Nat.le_refl _) _
  have hw1 : Wv (W.alloc (.cells #[.slice none 0 0, .slice none 0 0, .int .i64 (-1), .int .i64 0] 29)) W.heap.size W.heap.size [] [] (-1) 0 := ⟨Nat.le_refl _, _, _, Blk.new W _ _, ROwn.nil _ _ _ _, ROwn.nil _ _ _ _⟩
  obtain ⟨W1, hW1⟩ : ∃ W1, W.alloc (.cells #[.slice none 0 0, .slice none 0 0, .int .i64 (-1), .int .i64 0] 29) = W1 := ⟨_, rfl⟩
  rw [hW1] at hA hw1
  have hn := cnew_calls (w := W) 2 W.heap.size W1 (by omega) (by omega) hw1 hA
  rw [show ((2 : Nat) : Int) = 2 from rfl] at hn
  unfold loadF saveF at hn
  replace hn := Lib.hid hn
  replace hA := Lib.hid hA
  clear hw1
  go_enter Try.func12, Try.ntmps12
  go_wp2_with fail
  refine hn.out.mono ?_
  rintro e V ⟨b, rfl, hbn, hbw, hld, hC, hb⟩
  replace hld := Lib.hid hld
  clear hn hW1
  have hg := get_calls (1, 0, 0) V hC (by refine ⟨?_, ?_, ?_⟩ <;> decide) (Nat.zero_le _) (Nat.zero_le _) hld.out
  rw [hbn, getS_first] at hg
  unfold spV at hg
  simp only at hg
  replace hg := Lib.hid hg
  replace hbn := Lib.hid hbn
  replace hbw := Lib.hid hbw
  clear hC hb
  go_wp2_with fail
  refine hg.out.mono ?_
  rintro e V2 ⟨rfl, hC2, hch⟩
  have hw2 := hC2.world
  rw [hbw.out] at hw2
  obtain ⟨_, kv, cv, hbk, _, hcv⟩ := hw2
  obtain ⟨base, cap, rfl, _, hcm, _⟩ := hcv.open
  have x1 := hbk.cell 1 rfl
  unfold maxLen at hcm
  have hus := used_calls V2 hC2
  rw [hbn.out] at hus
  have hlc : (enterS (loadS { cs0 with calls := [(false, (1, 0, 0), 0)] } 0 (1, 0, 0)) 0 (1, 0, 0)).calls.length = 1 := rfl
  rw [List.length_map, hlc] at x1
  rw [show (spots 2 (enterS (loadS { cs0 with calls := [(false, (1, 0, 0), 0)] } 0 (1, 0, 0)) 0 (1, 0, 0))).length = 1 from spots_first (loadS { cs0 with calls := [(false, (1, 0, 0), 0)] } 0 (1, 0, 0)) _] at hus
  have hbE := hC2.below
  replace hus := Lib.hid hus
  replace hbE := Lib.hid hbE
  clear hC2 hch hbk hcv hg hlc
  go_wp2_with fail
  refine hus.out.mono ?_
  rintro e V3 ⟨rfl, hb3⟩
  have hF := Lib.hid (hbE.out.trans (hb3.mono hbE.out.size))
  clear hus hb3 x1 hbE
  go_wp2_with fail
  go_ret
  exact ⟨rfl, hF.out⟩
end Go.Proofs.Ytpdckjbknphelaa
