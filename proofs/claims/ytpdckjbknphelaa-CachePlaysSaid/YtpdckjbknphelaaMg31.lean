/-
  The cache: Spots, Unsaved, Used; works.
-/
import Derived.Test.YtpdckjbknphelaaCpL
namespace Go.Proofs.Ytpdckjbknphelaa
open Go.RowKit
set_option linter.unusedSimpArgs false
set_option linter.unusedVariables false
set_option linter.unusedSectionVars false

def spots (n : Nat) (c : Cs) : List Sp := sortSp (selN c.sl (fun _ => true) n)
def dirts (n : Nat) (c : Cs) : List Sp := sortSp (selN c.sl (fun x => x.dirty) n)
section
variable [Xs] {w W W' : World} {b : Bc} {c : Cs} {fail stop : Int}
set_option maxRecDepth 100000 in
set_option maxHeartbeats 4000000 in
theorem spots_calls (W : World) (h : Cv w W b c fail stop) : Calls Try.prog 15 #[.pointer (some ⟨b.cb, 0, none⟩)] W fun e w' => ∃ v, e = .returned v ∧ SRow w' 3 v ((spots b.n c).map spL) ∧ TyB w' v ∧ Below W.heap.size W w' := by
  have hl := listAll_calls W h
  replace hl := Lib.hid hl
  clear h
  go_enter Try.func15, Try.ntmps15
  go_wp2_with fail
  refine hl.out.mono ?_
  rintro e V ⟨v, rfl, hr, hty, hb⟩
  have hE := Lib.hid (show SRow V 3 v ((spots b.n c).map spL) ∧ TyB V v ∧ Below W.heap.size W V from ⟨hr, hty, hb⟩)
  clear hr hty hb hl
  go_wp2_with fail
  go_ret
  exact ⟨v, rfl, hE.out.1, hE.out.2.1, hE.out.2.2⟩
set_option maxRecDepth 100000 in
set_option maxHeartbeats 4000000 in
theorem unsaved_calls (W : World) (h : Cv w W b c fail stop) : Calls Try.prog 23 #[.pointer (some ⟨b.cb, 0, none⟩)] W fun e w' => ∃ v, e = .returned v ∧ SRow w' 3 v ((dirts b.n c).map spL) ∧ TyB w' v ∧ Below W.heap.size W w' := by
  have hl := listDirt_calls W h
  replace hl := Lib.hid hl
  clear h
  go_enter Try.func23, Try.ntmps23
  go_wp2_with fail
  refine hl.out.mono ?_
  rintro e V ⟨v, rfl, hr, hty, hb⟩
  have hE := Lib.hid (show SRow V 3 v ((dirts b.n c).map spL) ∧ TyB V v ∧ Below W.heap.size W V from ⟨hr, hty, hb⟩)
  clear hr hty hb hl
  go_wp2_with fail
  go_ret
  exact ⟨v, rfl, hE.out.1, hE.out.2.1, hE.out.2.2⟩
set_option maxRecDepth 100000 in
set_option maxHeartbeats 4000000 in
theorem used_calls (W : World) (h : Cv w W b c fail stop) : Calls Try.prog 16 #[.pointer (some ⟨b.cb, 0, none⟩)] W fun e w' => e = .returned (.int .i64 (spots b.n c).length) ∧ Below W.heap.size W w' := by
  have hl := spots_calls W h
  obtain ⟨ln, hln⟩ : ∃ ln, (spots b.n c).length = ln := ⟨_, rfl⟩
  rw [hln]
  replace hln := Lib.hid hln
  replace hl := Lib.hid hl
  clear h
  go_enter Try.func16, Try.ntmps16
  go_wp2_with fail
  refine hl.out.mono ?_
  rintro e V ⟨v, rfl, hr, _, hb⟩
  obtain ⟨base, cap, rfl, _, hcm, _⟩ := hr
  rw [List.length_map, hln.out]
  unfold maxLen at hcm
  replace hb := Lib.hid hb
  clear hl hln
  go_wp2_with fail
  go_ret
  exact ⟨rfl, hb.out⟩
end
/-- A world's first Get. -/
theorem getS_first : getS (-1) 0 2 cs0 (1, 0, 0) = (0, 0, enterS (loadS { cs0 with calls := [(false, (1, 0, 0), 0)] } 0 (1, 0, 0)) 0 (1, 0, 0)) := by
  unfold getS
  rw [if_neg (by decide)]
  have h1 : findS 2 cs0.sl cs0.hand = some (0, cs0.sl, cs0.hand) := by
    unfold findS
    rw [emptyAt_some (k := 0) (fun j hj => absurd hj (Nat.not_lt_zero _)) (by omega) rfl]
  rw [show cs0.wh (1, 0, 0) = none from rfl]
  simp only
  rw [h1]
  simp only
  unfold cleanS
  rw [if_neg (by simp [cs0, slZ])]
  unfold getT
  rw [if_pos rfl, if_neg (by simp [cs0, slZ])]
  unfold getL
  rw [if_neg (by simp [badB, cs0])]
  rfl
theorem spots_first (c : Cs) (s : Sp) : (spots 2 (enterS { c with sl := fun _ => slZ } 0 s)).length = 1 := by
  unfold spots
  rw [(sortSp_perm _).length_eq]
  simp [selN, enterS, updS, slZ]
set_option maxRecDepth 100000 in
set_option maxHeartbeats 8000000 in
theorem works_calls (W : World) : Calls Try.prog 12 #[] W fun e w' => e = .returned (.bool true) ∧ Below W.heap.size W w' := by
  letI : Xs := ⟨fun _ => False⟩
  have hA : Below W.heap.size W (W.alloc (.cells #[.slice none 0 0, .slice none 0 0, .int .i64 (-1), .int .i64 0] 29)) := (Below.refl _ _).alloc (Nat.le_refl _) _
  have hw1 : Wv (W.alloc (.cells #[.slice none 0 0, .slice none 0 0, .int .i64 (-1), .int .i64 0] 29)) W.heap.size W.heap.size [] [] (-1) 0 := ⟨⟨Nat.le_refl _, fun k => k, fun c k => False.elim k⟩, _, _, Blk.new W _ _, ROwx.nil _ _ _ _, ROwx.nil _ _ _ _⟩
  obtain ⟨W1, hW1⟩ : ∃ W1, W.alloc (.cells #[.slice none 0 0, .slice none 0 0, .int .i64 (-1), .int .i64 0] 29) = W1 := ⟨_, rfl⟩
  rw [hW1] at hA hw1
  have hn := cnew_calls (w := W) 2 W.heap.size W1 (by omega) (by omega) hw1 hA
  rw [show ((2 : Nat) : Int) = 2 from rfl] at hn
  unfold loadF saveF at hn
  replace hn := Lib.hid hn
  replace hA := Lib.hid hA
  clear hw1
  go_enter Try.func12, Try.ntmps12
  go_wp2_with fail
  refine hn.out.mono ?_
  rintro e V ⟨b, rfl, hbn, hbw, hld, hC, hb⟩
  replace hld := Lib.hid hld
  clear hn hW1
  have hg := get_calls (1, 0, 0) V hC (by refine ⟨?_, ?_, ?_⟩ <;> decide) (Nat.zero_le _) (Nat.zero_le _) hld.out
  rw [hbn, getS_first] at hg
  unfold spV at hg
  simp only at hg
  replace hg := Lib.hid hg
  replace hbn := Lib.hid hbn
  replace hbw := Lib.hid hbw
  clear hC hb
  go_wp2_with fail
  refine hg.out.mono ?_
  rintro e V2 ⟨rfl, hC2, hch⟩
  have hw2 := hC2.world
  rw [hbw.out] at hw2
  obtain ⟨_, kv, cv, hbk, _, hcv⟩ := hw2
  obtain ⟨base, cap, rfl, _, hcm, _⟩ := hcv.open
  have x1 := hbk.cell 1 rfl
  unfold maxLen at hcm
  have hus := used_calls V2 hC2
  rw [hbn.out] at hus
  have hlc : (enterS (loadS { cs0 with calls := [(false, (1, 0, 0), 0)] } 0 (1, 0, 0)) 0 (1, 0, 0)).calls.length = 1 := rfl
  rw [List.length_map, hlc] at x1
  rw [show (spots 2 (enterS (loadS { cs0 with calls := [(false, (1, 0, 0), 0)] } 0 (1, 0, 0)) 0 (1, 0, 0))).length = 1 from spots_first (loadS { cs0 with calls := [(false, (1, 0, 0), 0)] } 0 (1, 0, 0)) _] at hus
  have hbE := hC2.below
  replace hus := Lib.hid hus
  replace hbE := Lib.hid hbE
  clear hC2 hch hbk hcv hg hlc
  go_wp2_with fail
  refine hus.out.mono ?_
  rintro e V3 ⟨rfl, hb3⟩
  have hF := Lib.hid (hbE.out.trans (hb3.mono hbE.out.size))
  clear hus hb3 x1 hbE
  go_wp2_with fail
  go_ret
  exact ⟨rfl, hF.out⟩
end Go.Proofs.Ytpdckjbknphelaa

/-
  What Get does, where nothing fails: in plain Lean. What is pinned stays.
-/
namespace Go.Proofs.Ytpdckjbknphelaa
open Go.RowKit
set_option linter.unusedSimpArgs false
set_option linter.unusedVariables false
set_option linter.unusedSectionVars false

structure Wl (n : Nat) (c : Cs) : Prop where
  wh : ∀ s i, c.wh s = some i ↔ i < n ∧ (c.sl i).full = true ∧ (c.sl i).sp = s
  hand : c.hand < n
  n1 : 1 ≤ n
theorem Cv.wl [Xs] {w W : World} {b : Bc} {c : Cs} {fail stop : Int} (h : Cv w W b c fail stop) : Wl b.n c := ⟨h.whOk, h.hand, h.n1⟩
theorem badB_no (stop : Int) (k : Nat) : badB (-1) stop k = false := decide_eq_false fun h => by omega
theorem getS_hit {stop : Int} {n i : Nat} {c : Cs} {t : Sp} (hm : mayS t.1 t.2.1 t.2.2 = true) (h : c.wh t = some i) : getS (-1) stop n c t = ((i : Int), (0 : Int), { c with sl := updS c.sl i { c.sl i with mark := true } }) := by
  unfold getS
  rw [if_neg (by rw [hm]; simp), h]
theorem getS_none {stop : Int} {n : Nat} {c : Cs} {t : Sp} (hm : mayS t.1 t.2.1 t.2.2 = true) (h : c.wh t = none) (hf : findS n c.sl c.hand = none) : getS (-1) stop n c t = (0, 20, c) := by
  unfold getS
  rw [if_neg (by rw [hm]; simp), h]
  simp only
  rw [hf]
theorem getS_not {stop : Int} {n : Nat} {c : Cs} {t : Sp} (hm : mayS t.1 t.2.1 t.2.2 = false) : getS (-1) stop n c t = (0, 10, c) := by
  unfold getS
  rw [if_pos hm]
/-- A spot comes in. -/
theorem getS_miss {stop : Int} {n i k : Nat} {c : Cs} {t : Sp} {g : Nat → Sl} (hm : mayS t.1 t.2.1 t.2.2 = true) (h : c.wh t = none) (hf : findS n c.sl c.hand = some (i, g, k)) :
    ∃ c', getS (-1) stop n c t = ((i : Int), (0 : Int), c') ∧ (∀ j, j ≠ i → c'.sl j = g j) ∧ c'.sl i = ⟨t, true, false, true, 0⟩ ∧ (∀ u, c'.wh u = if u = t then some i else if (g i).full = true ∧ u = (g i).sp then none else c.wh u) ∧
      c'.calls.length ≤ c.calls.length + 2 ∧ c'.kept = (if (g i).full = true ∧ (g i).dirty = true then c.kept ++ [((g i).sp, vOf c i)] else c.kept) ∧ c'.ce = putP i (updP zeroP 5 (cellV (valK c'.kept t))) c.ce := by
  unfold getS
  rw [if_neg (by rw [hm]; simp), h]
  simp only
  rw [hf]
  simp only
  unfold cleanS
  by_cases hd : (g i).full = true ∧ (g i).dirty = true
  · rw [if_pos hd, if_pos hd]
    simp only [badB_no, Bool.false_eq_true, if_false]
    unfold getT
    rw [if_pos (by unfold errB; simp)]
    simp only
    rw [if_pos (by rw [updS_same]; exact hd.1)]
    unfold getL
    rw [badB_no, if_neg (by simp)]
    refine ⟨_, rfl, fun j hj => ?_, ?_, fun u => ?_, ?_, rfl, rfl⟩
    · simp [enterS, loadS, evictS, updS, hj]
    · simp [enterS, updS]
    · simp only [enterS, loadS, evictS, setM, updS_same]
      by_cases e : u = t
      · rw [if_pos e, if_pos e]
      · rw [if_neg e, if_neg e]
        by_cases e2 : u = (g i).sp
        · rw [if_pos e2, if_pos ⟨hd.1, e2⟩]
        · rw [if_neg e2, if_neg (fun h => e2 h.2)]
    · simp [enterS, loadS, evictS]
  · rw [if_neg hd, if_neg hd]
    unfold getT
    rw [if_pos rfl]
    simp only
    by_cases hf2 : (g i).full = true
    · rw [if_pos hf2]
      unfold getL
      rw [badB_no, if_neg (by simp)]
      refine ⟨_, rfl, fun j hj => ?_, ?_, fun u => ?_, ?_, rfl, rfl⟩
      · simp [enterS, loadS, evictS, updS, hj]
      · simp [enterS, updS]
      · simp only [enterS, loadS, evictS, setM]
        by_cases e : u = t
        · rw [if_pos e, if_pos e]
        · rw [if_neg e, if_neg e]
          by_cases e2 : u = (g i).sp
          · rw [if_pos e2, if_pos ⟨hf2, e2⟩]
          · rw [if_neg e2, if_neg (fun h => e2 h.2)]
      · simp [enterS, loadS, evictS]
    · rw [if_neg hf2]
      unfold getL
      rw [badB_no, if_neg (by simp)]
      refine ⟨_, rfl, fun j hj => ?_, ?_, fun u => ?_, ?_, rfl, rfl⟩
      · simp [enterS, loadS, updS, hj]
      · simp [enterS, updS]
      · simp only [enterS, loadS, setM]
        by_cases e : u = t
        · rw [if_pos e, if_pos e]
        · rw [if_neg e, if_neg e, if_neg (fun h => hf2 h.1)]
      · simp [enterS, loadS]
/-- One spot is pinned, in its frame; nothing else. -/
structure Pn (n : Nat) (c : Cs) (s : Sp) (a : Nat) : Prop where
  at' : c.wh s = some a
  one : (c.sl a).pins = 1
  rest : ∀ j, j ≠ a → (c.sl j).pins = 0
theorem pinnedN_one {g : Nat → Sl} {a : Nat} (h : ∀ j, j ≠ a → (g j).pins ≤ 0) : ∀ k, pinnedN g k ≤ if a < k then 1 else 0
  | 0 => by simp [pinnedN]
  | k + 1 => by
    have := pinnedN_one h k
    unfold pinnedN
    by_cases e : k = a
    · subst e
      rw [if_neg (Nat.lt_irrefl _)] at this
      rw [if_pos (Nat.lt_succ_self _)]
      split <;> omega
    · have h0 := h k e
      rw [if_neg (by omega)]
      split at this <;> rename_i ha
      · rw [if_pos (by omega)]; omega
      · rw [if_neg (by omega)]; omega
theorem find_pin {n : Nat} {c : Cs} {s : Sp} {a : Nat} (hw : Wl n c) (hp : Pn n c s a) (hn : 2 ≤ n) : ∃ r, findS n c.sl c.hand = some r := by
  unfold findS
  cases he : emptyAt n c.sl with
  | some j => exact ⟨_, rfl⟩
  | none =>
    have h1 := pinnedN_one (g := c.sl) (a := a) (fun j hj => by rw [hp.rest j hj]; omega) n
    have h2 : pinnedN c.sl n ≠ n := by
      split at h1 <;> omega
    simp only
    rw [if_neg h2]
    exact Option.ne_none_iff_exists'.1 (findIt_go (by omega) hw.hand h2)
theorem get_pin {stop : Int} {n : Nat} {c : Cs} {s t : Sp} {a : Nat} (hw : Wl n c) (hp : Pn n c s a) (hn : 2 ≤ n) (hm : mayS t.1 t.2.1 t.2.2 = true) :
    ∃ i c', getS (-1) stop n c t = ((i : Int), (0 : Int), c') ∧ Pn n c' s a ∧ c'.calls.length ≤ c.calls.length + 2 ∧ c'.kept.length ≤ c.kept.length + 1 ∧ (t = s → i = (a : Int)) := by
  cases h : c.wh t with
  | some i =>
    refine ⟨i, _, getS_hit hm h, ⟨hp.at', ?_, fun j hj => ?_⟩, Nat.le_add_right _ _, Nat.le_add_right _ _, fun e => ?_⟩
    · show (updS c.sl i { c.sl i with mark := true } a).pins = 1
      unfold updS
      split
      · rename_i e; rw [← e]; exact hp.one
      · exact hp.one
    · show (updS c.sl i { c.sl i with mark := true } j).pins = 0
      unfold updS
      split
      · rename_i e; rw [← e]; exact hp.rest j hj
      · exact hp.rest j hj
    · rw [e, hp.at'] at h
      rw [Option.some.inj h]
  | none =>
    obtain ⟨⟨i, g, k⟩, hf⟩ := find_pin hw hp hn
    obtain ⟨c', he, h1, h2, h3, h4, h5, _⟩ := getS_miss (stop := stop) hm h hf
    obtain ⟨q1, q2, q3, q4⟩ := findS_res (by omega) hw.hand hf
    obtain ⟨w1, w2, w3⟩ := (hw.wh s a).1 hp.at'
    have hia : i ≠ a := fun e => by
      subst e
      rcases q4 with q4 | ⟨_, q4⟩
      · rw [(q3 i).2.1, w2] at q4; cases q4
      · rw [(q3 i).2.2.2, hp.one] at q4; omega
    have hts : s ≠ t := fun e => by rw [← e, hp.at'] at h; cases h
    refine ⟨i, c', he, ⟨?_, ?_, fun j hj => ?_⟩, h4, ?_, fun e => absurd e.symm hts⟩
    · rw [h3 s, if_neg hts, if_neg]
      · exact hp.at'
      · rintro ⟨k1, k2⟩
        rw [(q3 i).2.1] at k1
        rw [(q3 i).1] at k2
        have := (hw.wh s i).2 ⟨q1, k1, k2.symm⟩
        rw [hp.at'] at this
        exact hia (Option.some.inj this).symm
    · rw [h1 a (Ne.symm hia), (q3 a).2.2.2]; exact hp.one
    · by_cases e : j = i
      · rw [e, h2]
      · rw [h1 j e, (q3 j).2.2.2]; exact hp.rest j hj
    · rw [h5]
      split
      · simp
      · omega
theorem mem_selN {g : Nat → Sl} {p : Sl → Bool} {s : Sp} : ∀ {k : Nat}, s ∈ selN g p k → ∃ i, i < k ∧ (g i).full = true ∧ p (g i) = true ∧ (g i).sp = s
  | 0, h => by cases h
  | k + 1, h => by
    unfold selN at h
    rcases List.mem_append.1 h with h | h
    · obtain ⟨i, h1, h2⟩ := mem_selN h
      exact ⟨i, by omega, h2⟩
    · split at h
      · rename_i hc
        obtain rfl : s = (g k).sp := by simpa using h
        exact ⟨k, by omega, hc.1, hc.2, rfl⟩
      · cases h
theorem selN_mem {g : Nat → Sl} {p : Sl → Bool} {i : Nat} (hf : (g i).full = true) (hp : p (g i) = true) : ∀ {k : Nat}, i < k → (g i).sp ∈ selN g p k
  | 0, h => absurd h (Nat.not_lt_zero _)
  | k + 1, h => by
    unfold selN
    by_cases e : i = k
    · subst e
      rw [if_pos ⟨hf, hp⟩]
      simp
    · exact List.mem_append_left _ (selN_mem hf hp (by omega))
theorem selN_all {g : Nat → Sl} : ∀ {k : Nat}, (selN g (fun _ => true) k).length = k → ∀ j, j < k → (g j).full = true
  | 0, _, j, hj => absurd hj (Nat.not_lt_zero _)
  | k + 1, h, j, hj => by
    have hl := selN_len g (fun _ => true) k
    unfold selN at h
    rw [List.length_append] at h
    split at h
    · rename_i hc
      by_cases e : j = k
      · rw [e]; exact hc.1
      · exact selN_all (k := k) (by simp at h; omega) j (by omega)
    · simp at h; omega
theorem selN_full {g : Nat → Sl} : ∀ {k : Nat}, (∀ j, j < k → (g j).full = true) → (selN g (fun _ => true) k).length = k
  | 0, _ => rfl
  | k + 1, h => by
    unfold selN
    rw [if_pos ⟨h k (by omega), rfl⟩, List.length_append, selN_full fun j hj => h j (by omega)]
    rfl
theorem spots_len (n : Nat) (c : Cs) : (spots n c).length = (selN c.sl (fun _ => true) n).length := (sortSp_perm _).length_eq
theorem mem_spots {n : Nat} {c : Cs} {s : Sp} (hw : Wl n c) (h : s ∈ spots n c) : ∃ i, c.wh s = some i := by
  obtain ⟨i, h1, h2, _, h3⟩ := mem_selN ((sortSp_perm _).mem_iff.1 h)
  exact ⟨i, (hw.wh s i).2 ⟨h1, h2, h3⟩⟩
/-- So many of the spots were pinned. -/
structure Pk (c0 c : Cs) (k : Nat) (all : List Sp) : Prop where
  wh : c.wh = c0.wh
  same : ∀ i, (c.sl i).full = (c0.sl i).full ∧ (c.sl i).sp = (c0.sl i).sp
  lo : ∀ i, 0 ≤ (c.sl i).pins ∧ (c.sl i).pins ≤ 1 + k
  got : ∀ j, j < k → ∀ u, all[j]? = some u → ∀ i, c0.wh u = some i → 1 ≤ (c.sl i).pins
  calls : c.calls = c0.calls
  kept : c.kept = c0.kept
theorem Pk.step {c0 c : Cs} {k i : Nat} {all : List Sp} {u : Sp} (h : Pk c0 c k all) (hu : all[k]? = some u) (hi : c0.wh u = some i) : (pinS c u).1 = 0 ∧ Pk c0 (pinS c u).2 (k + 1) all := by
  have hi' : c.wh u = some i := by rw [h.wh]; exact hi
  unfold pinS
  rw [hi']
  refine ⟨rfl, ⟨h.wh, fun j => ?_, fun j => ?_, fun j hj v hv x hx => ?_, h.calls, h.kept⟩⟩
  · show (updS c.sl i { c.sl i with pins := (c.sl i).pins + 1 } j).full = _ ∧ (updS c.sl i { c.sl i with pins := (c.sl i).pins + 1 } j).sp = _
    unfold updS
    split
    · rename_i e; rw [e]; exact h.same i
    · exact h.same j
  · show 0 ≤ (updS c.sl i { c.sl i with pins := (c.sl i).pins + 1 } j).pins ∧ (updS c.sl i { c.sl i with pins := (c.sl i).pins + 1 } j).pins ≤ 1 + ((k + 1 : Nat) : Int)
    have h1 := h.lo i
    have h2 := h.lo j
    unfold updS
    split
    · simp only; omega
    · omega
  · show 1 ≤ (updS c.sl i { c.sl i with pins := (c.sl i).pins + 1 } x).pins
    unfold updS
    have h1 := h.lo i
    by_cases e : x = i
    · rw [if_pos e]; simp only; omega
    · rw [if_neg e]
      by_cases ej : j = k
      · subst ej
        rw [hu] at hv
        rw [← Option.some.inj hv, hi] at hx
        exact absurd (Option.some.inj hx).symm e
      · exact h.got j (by omega) v hv x hx
theorem pinnedN_all {g : Nat → Sl} : ∀ {k : Nat}, (∀ j, j < k → 0 < (g j).pins) → pinnedN g k = k
  | 0, _ => rfl
  | k + 1, h => by
    unfold pinnedN
    rw [pinnedN_all fun j hj => h j (by omega), if_pos (h k (by omega))]
/-- All spots are pinned: another one comes in if a frame is free; else none. -/
theorem get_last {stop : Int} {n : Nat} {c0 c : Cs} {t : Sp} (hw : Wl n c0) (hw' : Wl n c) (h : Pk c0 c (spots n c0).length (spots n c0)) (hm : mayS t.1 t.2.1 t.2.2 = true) :
    (∃ i c', getS (-1) stop n c t = ((i : Int), (0 : Int), c')) ∨ ((spots n c0).length = n ∧ ∃ c', getS (-1) stop n c t = ((0 : Int), (20 : Int), c')) := by
  cases ht : c.wh t with
  | some i => exact .inl ⟨i, _, getS_hit hm ht⟩
  | none =>
    cases hf : findS n c.sl c.hand with
    | some r =>
      obtain ⟨i, g, k⟩ := r
      obtain ⟨c', he, _⟩ := getS_miss (stop := stop) hm ht hf
      exact .inl ⟨i, c', he⟩
    | none =>
      refine .inr ⟨?_, c, getS_none hm ht hf⟩
      rw [spots_len]
      refine selN_full fun j hj => ?_
      unfold findS at hf
      cases he : emptyAt n c.sl with
      | some x => rw [he] at hf; cases hf
      | none =>
        unfold emptyAt at he
        have := List.find?_eq_none.1 he j (List.mem_range.2 hj)
        rw [← (h.same j).1]
        simpa using this
end Go.Proofs.Ytpdckjbknphelaa
