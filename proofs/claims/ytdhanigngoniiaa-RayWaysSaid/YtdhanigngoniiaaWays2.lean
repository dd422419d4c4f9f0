/-
  The contract of the document's answer of the way.
-/
import Derived.Test.YtdhanigngoniiaaWaysL
import Derived.Deep.DeepCutAuto
namespace Go.Proofs.Ytdhanigngoniiaa
open Go.RowKit
set_option linter.unusedSimpArgs false
set_option linter.unusedVariables false

set_option maxRecDepth 100000 in
set_option maxHeartbeats 16000000 in
theorem rway_calls (x y z d0 d1 d2 n : Int) (w : World) :
    Calls Try.prog 8 #[.agg #[.int .i64 x, .int .i64 y, .int .i64 z], .agg #[.int .i64 d0, .int .i64 d1, .int .i64 d2], .int .i64 n] w fun e w' =>
      ∃ v, e = .returned (.tuple #[v, .int .i64 (wayE x y z d0 d1 d2 n)]) ∧ w'.ownsRow w.heap.size 23 3 v (wayP x y z d0 d1 d2 n).length (cellsP (wayP x y z d0 d1 d2 n)) ∧ Below w.heap.size w w' := by
  go_enter Try.func8, Try.ntmps8
  go_wp2_with fail
  refine (rmay_calls _ _ _ _).mono ?_
  rintro e w1 ⟨rfl, hb⟩
  have HB := Lib.hid (below_step (((Below.refl w.heap.size w).alloc (by first | exact Nat.le_refl _ | (simp; done) | (simp; omega) | omega) _).alloc (by first | exact Nat.le_refl _ | (simp; done) | (simp; omega) | omega) _) (by first | exact Nat.le_refl _ | (simp; done) | (simp; omega) | omega) hb)
  have b3 := ((Blk.new_at (w := w) (n := w.heap.size) #[.int .i64 x, .int .i64 y, .int .i64 z] 23 (by simp)).alloc (.cells #[.int .i64 d0, .int .i64 d1, .int .i64 d2] 24)).below hb (by first | exact Nat.le_refl _ | (simp; done) | (simp; omega) | omega)
  have b4 := (Blk.new_at (w := (w.alloc (.cells #[.int .i64 x, .int .i64 y, .int .i64 z] 23))) (n := w.heap.size + 1) #[.int .i64 d0, .int .i64 d1, .int .i64 d2] 24 (by simp)).below hb (by first | exact Nat.le_refl _ | (simp; done) | (simp; omega) | omega)
  clear hb
  have b4_l := b4.lt
  have b4_0 := b4.cell 0 rfl
  have b4_1 := b4.cell 1 rfl
  have b4_2 := b4.cell 2 rfl
  cases hm : mayB x y z
  · have hE : wayE x y z d0 d1 d2 n = 10 := by unfold wayE; rw [hm]; rfl
    have hP : wayP x y z d0 d1 d2 n = [] := by unfold wayP; rw [hE]; rfl
    replace hE := Lib.hid hE
    replace hP := Lib.hid hP
    go_wp2_with fail
    try rw [Exit.noGoto_ret]
    go_ret2
    exact ⟨.slice none 0 0, by rw [hE.out]; rfl, by rw [hP.out]; exact World.ownsRow_nil _ _ _ _, HB.out⟩
  have hm' := Lib.hid hm
  clear hm
  go_wp2_with fail
  replace b3 := Lib.hid b3
  replace b4 := Lib.hid b4
  go_loopw [8, 9] (fun u i W => ∃ k : Nat, k ≤ 3 ∧ i = .int .i64 k ∧ u = .bool (someB d0 d1 d2 k) ∧ (0 < k → ax d0) ∧ (1 < k → ax d1) ∧ (2 < k → ax d2) ∧ W = w1) (fun _ i _ => 3 - (intOf i).toNat)
  case atStart => exact ⟨0, by omega, rfl, by simp [someB], by omega, by omega, by omega, rfl⟩
  case round =>
    obtain ⟨k, hk, rfl, rfl, x0, x1, x2, rfl⟩ := hrel
    obtain ⟨u, hu⟩ : ∃ u, someB d0 d1 d2 k = u := ⟨_, rfl⟩
    rw [hu]
    obtain rfl | rfl | rfl | rfl : k = 0 ∨ k = 1 ∨ k = 2 ∨ k = 3 := by omega
    · by_cases hax : ax d0
      · obtain ⟨y1, y2⟩ := hax
        have y1' := Lib.hid y1
        have y2' := Lib.hid y2
        replace x0 := Lib.hid x0
        replace x1 := Lib.hid x1
        replace x2 := Lib.hid x2
        replace hu := Lib.hid hu
        cases u
        all_goals go_wp2_with fail
        all_goals
          refine ⟨⟨0 + 1, by omega, rfl, ?_, ?_, ?_, ?_, by first | rfl | trivial⟩, by simp [intOf]⟩
          · rw [someB0, hu.out]; first | rfl | (congr 1; rw [Bool.eq_iff_iff]; simp; done)
          · intro _; first | exact ⟨y1'.out, y2'.out⟩ | exact x0.out (by omega)
          · intro _; first | omega | exact ⟨y1'.out, y2'.out⟩ | exact x1.out (by omega)
          · intro _; first | omega | exact ⟨y1'.out, y2'.out⟩ | exact x2.out (by omega)
      · have hax' : d0 < -1000 ∨ 1000 < d0 := by unfold ax at hax; omega
        clear hax x0 x1 x2
        have hE : wayE x y z d0 d1 d2 n = 2 := by unfold wayE; rw [hm'.out, if_pos rfl, if_pos (by omega)]
        have hP : wayP x y z d0 d1 d2 n = [] := by unfold wayP; rw [hE]; rfl
        replace hE := Lib.hid hE
        replace hP := Lib.hid hP
        rcases hax' with hax' | hax'
        all_goals
          go_wp2_with fail
          try rw [Exit.noGoto_ret]
          go_ret2
          exact ⟨.slice none 0 0, by rw [hE.out]; rfl, by rw [hP.out]; exact World.ownsRow_nil _ _ _ _, HB.out⟩
    · by_cases hax : ax d1
      · obtain ⟨y1, y2⟩ := hax
        have y1' := Lib.hid y1
        have y2' := Lib.hid y2
        replace x0 := Lib.hid x0
        replace x1 := Lib.hid x1
        replace x2 := Lib.hid x2
        replace hu := Lib.hid hu
        cases u
        all_goals go_wp2_with fail
        all_goals
          refine ⟨⟨1 + 1, by omega, rfl, ?_, ?_, ?_, ?_, by first | rfl | trivial⟩, by simp [intOf]⟩
          · rw [someB1, hu.out]; first | rfl | (congr 1; rw [Bool.eq_iff_iff]; simp; done)
          · intro _; first | exact ⟨y1'.out, y2'.out⟩ | exact x0.out (by omega)
          · intro _; first | omega | exact ⟨y1'.out, y2'.out⟩ | exact x1.out (by omega)
          · intro _; first | omega | exact ⟨y1'.out, y2'.out⟩ | exact x2.out (by omega)
      · have hax' : d1 < -1000 ∨ 1000 < d1 := by unfold ax at hax; omega
        clear hax x0 x1 x2
        have hE : wayE x y z d0 d1 d2 n = 2 := by unfold wayE; rw [hm'.out, if_pos rfl, if_pos (by omega)]
        have hP : wayP x y z d0 d1 d2 n = [] := by unfold wayP; rw [hE]; rfl
        replace hE := Lib.hid hE
        replace hP := Lib.hid hP
        rcases hax' with hax' | hax'
        all_goals
          go_wp2_with fail
          try rw [Exit.noGoto_ret]
          go_ret2
          exact ⟨.slice none 0 0, by rw [hE.out]; rfl, by rw [hP.out]; exact World.ownsRow_nil _ _ _ _, HB.out⟩
    · by_cases hax : ax d2
      · obtain ⟨y1, y2⟩ := hax
        have y1' := Lib.hid y1
        have y2' := Lib.hid y2
        replace x0 := Lib.hid x0
        replace x1 := Lib.hid x1
        replace x2 := Lib.hid x2
        replace hu := Lib.hid hu
        cases u
        all_goals go_wp2_with fail
        all_goals
          refine ⟨⟨2 + 1, by omega, rfl, ?_, ?_, ?_, ?_, by first | rfl | trivial⟩, by simp [intOf]⟩
          · rw [someB2, hu.out]; first | rfl | (congr 1; rw [Bool.eq_iff_iff]; simp; done)
          · intro _; first | exact ⟨y1'.out, y2'.out⟩ | exact x0.out (by omega)
          · intro _; first | omega | exact ⟨y1'.out, y2'.out⟩ | exact x1.out (by omega)
          · intro _; first | omega | exact ⟨y1'.out, y2'.out⟩ | exact x2.out (by omega)
      · have hax' : d2 < -1000 ∨ 1000 < d2 := by unfold ax at hax; omega
        clear hax x0 x1 x2
        have hE : wayE x y z d0 d1 d2 n = 2 := by unfold wayE; rw [hm'.out, if_pos rfl, if_pos (by omega)]
        have hP : wayP x y z d0 d1 d2 n = [] := by unfold wayP; rw [hE]; rfl
        replace hE := Lib.hid hE
        replace hP := Lib.hid hP
        rcases hax' with hax' | hax'
        all_goals
          go_wp2_with fail
          try rw [Exit.noGoto_ret]
          go_ret2
          exact ⟨.slice none 0 0, by rw [hE.out]; rfl, by rw [hP.out]; exact World.ownsRow_nil _ _ _ _, HB.out⟩
    rw [show ((3 : Nat) : Int) = 3 from rfl]
    obtain ⟨y1, y2⟩ := x0 (by omega)
    obtain ⟨y3, y4⟩ := x1 (by omega)
    obtain ⟨y5, y6⟩ := x2 (by omega)
    clear x0 x1 x2 hk
    have hs3 := someB3 d0 d1 d2
    rw [hu] at hs3
    clear hu
    by_cases hgood : u = true ∧ 0 ≤ n ∧ n ≤ 256
    rotate_left
    · have hE : wayE x y z d0 d1 d2 n = 2 := by
        unfold wayE
        rw [hm'.out, if_pos rfl, if_pos]
        cases u
        · simp only [Bool.false_eq_true, false_iff, Classical.not_not] at hs3
          exact .inr (.inr (.inl hs3))
        · simp only [true_and] at hgood
          omega
      have hP : wayP x y z d0 d1 d2 n = [] := by unfold wayP; rw [hE]; rfl
      replace hE := Lib.hid hE
      replace hP := Lib.hid hP
      have hbad : u = false ∨ (u = true ∧ n < 0) ∨ (u = true ∧ 0 ≤ n ∧ 256 < n) := by
        cases u
        · exact .inl rfl
        · simp only [true_and] at hgood ⊢; right; omega
      clear hgood
      rcases hbad with rfl | ⟨rfl, hbad⟩ | ⟨rfl, hbad1, hbad⟩
      all_goals
        go_wp2_with fail
        try rw [Exit.noGoto_ret]
        go_ret2
        exact ⟨.slice none 0 0, by rw [hE.out]; rfl, by rw [hP.out]; exact World.ownsRow_nil _ _ _ _, HB.out⟩
    obtain ⟨rfl, hn0, hn1⟩ := hgood
    have hdz : ¬ (d0 = 0 ∧ d1 = 0 ∧ d2 = 0) := hs3.1 rfl
    clear hs3
    have hE : wayE x y z d0 d1 d2 n = 0 := by unfold wayE; rw [hm'.out, if_pos rfl, if_neg (by omega)]
    have hP := wayP_zero hE
    obtain ⟨N, rfl⟩ : ∃ N : Nat, n = N := ⟨n.toNat, by omega⟩
    rw [Int.toNat_natCast] at hP
    replace hE := Lib.hid hE
    replace hP := Lib.hid hP
    have hN : N ≤ 256 := by omega
    have tpos : 0 < sizeI d0 ∨ 0 < sizeI d1 ∨ 0 < sizeI d2 := by
      have s0 := sizeI_abs d0
      have s1 := sizeI_abs d1
      have s2 := sizeI_abs d2
      omega
    have ta : (0 ≤ sizeI d0 ∧ sizeI d0 ≤ 1000) ∧ (0 ≤ sizeI d1 ∧ sizeI d1 ≤ 1000) ∧ (0 ≤ sizeI d2 ∧ sizeI d2 ≤ 1000) := by
      have s0 := sizeI_abs d0
      have s1 := sizeI_abs d1
      have s2 := sizeI_abs d2
      omega
    clear hdz
    replace tpos := Lib.hid tpos
    replace ta := Lib.hid ta
    replace y1 := Lib.hid y1
    replace y2 := Lib.hid y2
    replace y3 := Lib.hid y3
    replace y4 := Lib.hid y4
    replace y5 := Lib.hid y5
    replace y6 := Lib.hid y6
    clear b4_l b4_0 b4_1 b4_2
    have hdn0 : decide ((N : Int) < 0) = false := decide_eq_false (by omega)
    have hdn1 : decide ((256 : Int) < N) = false := decide_eq_false (by omega)
    go_upto_region 12 with (fail)
    refine wp_world (fun W => Below w.heap.size w W ∧ w.heap.size + 1 < W.heap.size ∧ Blk W w.heap.size (V3 x y z) 23 ∧ Blk W (w.heap.size + 1) (V3 d0 d1 d2) 24) ⟨HB.out, b4.out.lt, b3.out, b4.out⟩ ?_
    clear HB b3 b4
    rintro W0 ⟨HB, hz, b3, b4⟩
    generalize hp4 : w.heap.size + 1 = p4 at *
    generalize hp3 : w.heap.size = p3 at *
    have o3 : p3 < p4 := by omega
    clear hp4
    replace y1 := y1.out
    replace y2 := y2.out
    replace y3 := y3.out
    replace y4 := y4.out
    replace y5 := y5.out
    replace y6 := y6.out
    refine wp_region_frame (by kernel_rfl) (by kernel_rfl) (by kernel_rfl) [50, 51, 52, 53, 54, 55, 56, 57, 58, 59, 60, 61, 62, 10] (by kernel_rfl)
      (fun L f W => Below p3 w W ∧
      p4 < W.heap.size ∧
      Blk W p3 (V3 x y z) 23 ∧
      Blk W p4 (V3 d0 d1 d2) 24 ∧
      f 4 = .pointer (some ⟨p4, 0, none⟩) ∧
      f 2 = .int .i64 N ∧
      (L 0 = true → f 50 = .pointer (some ⟨p4, 0, none⟩)) ∧
      (L 1 = true → f 51 = .int .i64 d0) ∧
      (L 2 = true → f 52 = .int .i64 N) ∧
      (L 3 = true → ((∃ a c, f 53 = .slice a (if d0 = 0 then 0 else N) c) ∧ W.ownsRow (p4 + 1) 48 4 (f 53) (if d0 = 0 then 0 else N) (cells4 (alongL 0 d0 (if d0 = 0 then 0 else N))))) ∧
      (L 4 = true → f 54 = .pointer (some ⟨p4, 2, none⟩)) ∧
      (L 5 = true → f 55 = .int .i64 d2) ∧
      (L 6 = true → f 56 = .int .i64 N) ∧
      (L 7 = true → ((∃ a c, f 57 = .slice a (if d2 = 0 then 0 else N) c) ∧ W.ownsRow (p4 + 1) 48 4 (f 57) (if d2 = 0 then 0 else N) (cells4 (alongL 1 d2 (if d2 = 0 then 0 else N))))) ∧
      (L 8 = true → f 58 = .pointer (some ⟨p4, 1, none⟩)) ∧
      (L 9 = true → f 59 = .int .i64 d1) ∧
      (L 10 = true → f 60 = .int .i64 N) ∧
      (L 11 = true → ((∃ a c, f 61 = .slice a (if d1 = 0 then 0 else N) c) ∧ W.ownsRow (p4 + 1) 48 4 (f 61) (if d1 = 0 then 0 else N) (cells4 (alongL 2 d1 (if d1 = 0 then 0 else N))))) ∧
      (L 12 = true → L 3 = true ∧ L 7 = true ∧ L 11 = true ∧ ∃ pr, f 62 = .slice (some ⟨pr, 0, none⟩) 3 3 ∧ p4 < pr ∧ Blk W pr [f 53, f 57, f 61] 43 ∧ (∀ k, (f 53).ownBlock = some k → k < pr) ∧ (∀ k, (f 57).ownBlock = some k → k < pr) ∧ (∀ k, (f 61).ownBlock = some k → k < pr)) ∧
      (L 13 = true → L 12 = true ∧ f 10 = f 62)) ?_ ?_ ?_
    · exact ⟨HB.drew, hz, b3, b4, rfl, rfl, by simp, by simp, by simp, by simp, by simp, by simp, by simp, by simp, by simp, by simp, by simp, by simp, by simp, by simp⟩
    · clear b3 b4 HB hz
      rintro L f W ⟨HB, hz, b3, b4, e4, e2, l0, l1, l2, l3, l4, l5, l6, l7, l8, l9, l10, l11, l12, l13⟩ i o hoo hL hdep
      have hi : i < 14 := by
        have := (List.getElem?_eq_some_iff.1 hoo).1
        simpa using this
      have q4 : ev f (.tmp 4) = .pointer (some ⟨p4, 0, none⟩) := e4
      have q2 : ev f (.tmp 2) = .int .i64 N := e2
      obtain rfl | rfl | rfl | rfl | rfl | rfl | rfl | rfl | rfl | rfl | rfl | rfl | rfl | rfl : i = 0 ∨ i = 1 ∨ i = 2 ∨ i = 3 ∨ i = 4 ∨ i = 5 ∨ i = 6 ∨ i = 7 ∨ i = 8 ∨ i = 9 ∨ i = 10 ∨ i = 11 ∨ i = 12 ∨ i = 13 := by omega
      all_goals obtain rfl := Option.some.inj hoo
      all_goals
        clear hoo hi
        simp [Region.binds] at hdep
      · refine fwp_value (v := .pointer (some ⟨p4, 0, none⟩)) (w' := W) ?_ ?_
        · simp only [execOp, ev_const, q4]
          go_simp
        · simp only [updF, upd, Nat.reduceEqDiff, if_true, if_false, true_implies, reduceIte]
          repeat' first | assumption | exact trivial | exact rfl | exact fun _ => rfl | exact fun _ => by assumption | apply And.intro
      · have q50 : ev f (.tmp 50) = .pointer (some ⟨p4, 0, none⟩) := l0 (by simp only [hdep])
        have c0 := b4.cell 0 rfl
        refine fwp_value (v := .int .i64 d0) (w' := W) ?_ ?_
        · simp only [execOp, q50]
          go_simp
        · simp only [updF, upd, Nat.reduceEqDiff, if_true, if_false, true_implies, reduceIte]
          repeat' first | assumption | exact trivial | exact rfl | exact fun _ => rfl | exact fun _ => by assumption | apply And.intro
      · refine fwp_value (v := .int .i64 N) (w' := W) ?_ ?_
        · simp only [execOp, q2]
          go_simp
        · simp only [updF, upd, Nat.reduceEqDiff, if_true, if_false, true_implies, reduceIte]
          repeat' first | assumption | exact trivial | exact rfl | exact fun _ => rfl | exact fun _ => by assumption | apply And.intro
      · have q51 : ev f (.tmp 51) = .int .i64 d0 := l1 (by simp only [hdep])
        have q52 : ev f (.tmp 52) = .int .i64 N := l2 (by simp only [hdep])
        have hL12 : ¬ L 12 = true := fun h => by have := (l12 h).1; rw [hL] at this; cases this
        have hL13 : ¬ L 13 = true := fun h => hL12 (l13 h).1
        refine fwp_call (g := 19) (args := #[.int .i64 0, .int .i64 d0, .int .i64 N]) (w' := W) ?_ ?_
        · simp only [execOp, q51, q52]
          go_simp
          simp only [ev_func, ev_const]
          try go_simp
        · refine (along_calls 0 d0 N W hN (by omega) (by omega)).mono ?_
          rintro e W' ⟨v, rfl, ho, hb⟩
          refine ⟨_, rfl, ?_⟩
          have ho2 := owns_mono ho (show p4 + 1 ≤ W.heap.size from hz)
          have hv : ∃ a c, v = .slice a (if d0 = 0 then 0 else N) c := owns_form ho
          replace HB := below_step HB (by omega) hb
          replace hz := Nat.lt_of_lt_of_le hz hb.size
          replace b3 := b3.below hb b3.lt
          replace b4 := b4.below hb b4.lt
          replace l7 : L 7 = true → ((∃ a c, f 57 = .slice a (if d2 = 0 then 0 else N) c) ∧ W'.ownsRow (p4 + 1) 48 4 (f 57) (if d2 = 0 then 0 else N) (cells4 (alongL 1 d2 (if d2 = 0 then 0 else N)))) := fun h => ⟨(l7 h).1, owns_below (l7 h).2 hb⟩
          replace l11 : L 11 = true → ((∃ a c, f 61 = .slice a (if d1 = 0 then 0 else N) c) ∧ W'.ownsRow (p4 + 1) 48 4 (f 61) (if d1 = 0 then 0 else N) (cells4 (alongL 2 d1 (if d1 = 0 then 0 else N)))) := fun h => ⟨(l11 h).1, owns_below (l11 h).2 hb⟩
          simp only [updF, upd, Nat.reduceEqDiff, if_true, if_false, true_implies, reduceIte]
          refine ⟨HB, hz, b3, b4, e4, e2, l0, l1, l2, ⟨hv, ho2⟩, l4, l5, l6, l7, l8, l9, l10, l11, fun h => absurd h hL12, fun h => absurd h hL13⟩
      · refine fwp_value (v := .pointer (some ⟨p4, 2, none⟩)) (w' := W) ?_ ?_
        · simp only [execOp, ev_const, q4]
          go_simp
        · simp only [updF, upd, Nat.reduceEqDiff, if_true, if_false, true_implies, reduceIte]
          repeat' first | assumption | exact trivial | exact rfl | exact fun _ => rfl | exact fun _ => by assumption | apply And.intro
      · have q54 : ev f (.tmp 54) = .pointer (some ⟨p4, 2, none⟩) := l4 (by simp only [hdep])
        have c0 := b4.cell 2 rfl
        refine fwp_value (v := .int .i64 d2) (w' := W) ?_ ?_
        · simp only [execOp, q54]
          go_simp
        · simp only [updF, upd, Nat.reduceEqDiff, if_true, if_false, true_implies, reduceIte]
          repeat' first | assumption | exact trivial | exact rfl | exact fun _ => rfl | exact fun _ => by assumption | apply And.intro
      · refine fwp_value (v := .int .i64 N) (w' := W) ?_ ?_
        · simp only [execOp, q2]
          go_simp
        · simp only [updF, upd, Nat.reduceEqDiff, if_true, if_false, true_implies, reduceIte]
          repeat' first | assumption | exact trivial | exact rfl | exact fun _ => rfl | exact fun _ => by assumption | apply And.intro
      · have q55 : ev f (.tmp 55) = .int .i64 d2 := l5 (by simp only [hdep])
        have q56 : ev f (.tmp 56) = .int .i64 N := l6 (by simp only [hdep])
        have hL12 : ¬ L 12 = true := fun h => by have := (l12 h).2.1; rw [hL] at this; cases this
        have hL13 : ¬ L 13 = true := fun h => hL12 (l13 h).1
        refine fwp_call (g := 19) (args := #[.int .i64 1, .int .i64 d2, .int .i64 N]) (w' := W) ?_ ?_
        · simp only [execOp, q55, q56]
          go_simp
          simp only [ev_func, ev_const]
          try go_simp
        · refine (along_calls 1 d2 N W hN (by omega) (by omega)).mono ?_
          rintro e W' ⟨v, rfl, ho, hb⟩
          refine ⟨_, rfl, ?_⟩
          have ho2 := owns_mono ho (show p4 + 1 ≤ W.heap.size from hz)
          have hv : ∃ a c, v = .slice a (if d2 = 0 then 0 else N) c := owns_form ho
          replace HB := below_step HB (by omega) hb
          replace hz := Nat.lt_of_lt_of_le hz hb.size
          replace b3 := b3.below hb b3.lt
          replace b4 := b4.below hb b4.lt
          replace l3 : L 3 = true → ((∃ a c, f 53 = .slice a (if d0 = 0 then 0 else N) c) ∧ W'.ownsRow (p4 + 1) 48 4 (f 53) (if d0 = 0 then 0 else N) (cells4 (alongL 0 d0 (if d0 = 0 then 0 else N)))) := fun h => ⟨(l3 h).1, owns_below (l3 h).2 hb⟩
          replace l11 : L 11 = true → ((∃ a c, f 61 = .slice a (if d1 = 0 then 0 else N) c) ∧ W'.ownsRow (p4 + 1) 48 4 (f 61) (if d1 = 0 then 0 else N) (cells4 (alongL 2 d1 (if d1 = 0 then 0 else N)))) := fun h => ⟨(l11 h).1, owns_below (l11 h).2 hb⟩
          simp only [updF, upd, Nat.reduceEqDiff, if_true, if_false, true_implies, reduceIte]
          refine ⟨HB, hz, b3, b4, e4, e2, l0, l1, l2, l3, l4, l5, l6, ⟨hv, ho2⟩, l8, l9, l10, l11, fun h => absurd h hL12, fun h => absurd h hL13⟩
      · refine fwp_value (v := .pointer (some ⟨p4, 1, none⟩)) (w' := W) ?_ ?_
        · simp only [execOp, ev_const, q4]
          go_simp
        · simp only [updF, upd, Nat.reduceEqDiff, if_true, if_false, true_implies, reduceIte]
          repeat' first | assumption | exact trivial | exact rfl | exact fun _ => rfl | exact fun _ => by assumption | apply And.intro
      · have q58 : ev f (.tmp 58) = .pointer (some ⟨p4, 1, none⟩) := l8 (by simp only [hdep])
        have c0 := b4.cell 1 rfl
        refine fwp_value (v := .int .i64 d1) (w' := W) ?_ ?_
        · simp only [execOp, q58]
          go_simp
        · simp only [updF, upd, Nat.reduceEqDiff, if_true, if_false, true_implies, reduceIte]
          repeat' first | assumption | exact trivial | exact rfl | exact fun _ => rfl | exact fun _ => by assumption | apply And.intro
      · refine fwp_value (v := .int .i64 N) (w' := W) ?_ ?_
        · simp only [execOp, q2]
          go_simp
        · simp only [updF, upd, Nat.reduceEqDiff, if_true, if_false, true_implies, reduceIte]
          repeat' first | assumption | exact trivial | exact rfl | exact fun _ => rfl | exact fun _ => by assumption | apply And.intro
      · have q59 : ev f (.tmp 59) = .int .i64 d1 := l9 (by simp only [hdep])
        have q60 : ev f (.tmp 60) = .int .i64 N := l10 (by simp only [hdep])
        have hL12 : ¬ L 12 = true := fun h => by have := (l12 h).2.2.1; rw [hL] at this; cases this
        have hL13 : ¬ L 13 = true := fun h => hL12 (l13 h).1
        refine fwp_call (g := 19) (args := #[.int .i64 2, .int .i64 d1, .int .i64 N]) (w' := W) ?_ ?_
        · simp only [execOp, q59, q60]
          go_simp
          simp only [ev_func, ev_const]
          try go_simp
        · refine (along_calls 2 d1 N W hN (by omega) (by omega)).mono ?_
          rintro e W' ⟨v, rfl, ho, hb⟩
          refine ⟨_, rfl, ?_⟩
          have ho2 := owns_mono ho (show p4 + 1 ≤ W.heap.size from hz)
          have hv : ∃ a c, v = .slice a (if d1 = 0 then 0 else N) c := owns_form ho
          replace HB := below_step HB (by omega) hb
          replace hz := Nat.lt_of_lt_of_le hz hb.size
          replace b3 := b3.below hb b3.lt
          replace b4 := b4.below hb b4.lt
          replace l3 : L 3 = true → ((∃ a c, f 53 = .slice a (if d0 = 0 then 0 else N) c) ∧ W'.ownsRow (p4 + 1) 48 4 (f 53) (if d0 = 0 then 0 else N) (cells4 (alongL 0 d0 (if d0 = 0 then 0 else N)))) := fun h => ⟨(l3 h).1, owns_below (l3 h).2 hb⟩
          replace l7 : L 7 = true → ((∃ a c, f 57 = .slice a (if d2 = 0 then 0 else N) c) ∧ W'.ownsRow (p4 + 1) 48 4 (f 57) (if d2 = 0 then 0 else N) (cells4 (alongL 1 d2 (if d2 = 0 then 0 else N)))) := fun h => ⟨(l7 h).1, owns_below (l7 h).2 hb⟩
          simp only [updF, upd, Nat.reduceEqDiff, if_true, if_false, true_implies, reduceIte]
          refine ⟨HB, hz, b3, b4, e4, e2, l0, l1, l2, l3, l4, l5, l6, l7, l8, l9, l10, ⟨hv, ho2⟩, fun h => absurd h hL12, fun h => absurd h hL13⟩
      · have hd1 : L 3 = true := by simp only [hdep]
        have hd2 : L 7 = true := by simp only [hdep]
        have hd3 : L 11 = true := by simp only [hdep]
        obtain ⟨⟨a0, c0, f53⟩, o53⟩ := l3 hd1
        obtain ⟨⟨a1, c1, f57⟩, o57⟩ := l7 hd2
        obtain ⟨⟨a2, c2, f61⟩, o61⟩ := l11 hd3
        have q53 : ev f (.tmp 53) = .slice a0 (if d0 = 0 then 0 else N) c0 := f53
        have q57 : ev f (.tmp 57) = .slice a1 (if d2 = 0 then 0 else N) c1 := f57
        have q61 : ev f (.tmp 61) = .slice a2 (if d1 = 0 then 0 else N) c2 := f61
        have hL13 : ¬ L 13 = true := fun h => by have := (l13 h).1; rw [hL] at this; cases this
        refine fwp_value (v := .slice (some ⟨W.heap.size, 0, none⟩) 3 3) (w' := W.alloc (.cells #[f 53, f 57, f 61] 43)) ?_ ?_
        · rw [f53, f57, f61]
          simp only [execOp, q53, q57, q61]
          go_simp
        · have al := (Below.refl W.heap.size W).alloc (Nat.le_refl _) (.cells #[f 53, f 57, f 61] 43)
          have hnb : Blk (W.alloc (.cells #[f 53, f 57, f 61] 43)) W.heap.size [f 53, f 57, f 61] 43 := Blk.new W _ _
          simp only [updF, upd, Nat.reduceEqDiff, if_true, if_false, true_implies, reduceIte]
          refine ⟨HB.alloc (by omega) _, by simp; omega, b3.alloc _, b4.alloc _, e4, e2, l0, l1, l2, fun h => ⟨(l3 h).1, owns_below (l3 h).2 al⟩, l4, l5, l6, fun h => ⟨(l7 h).1, owns_below (l7 h).2 al⟩, l8, l9, l10, fun h => ⟨(l11 h).1, owns_below (l11 h).2 al⟩, ⟨hd1, hd2, hd3, _, rfl, hz, hnb, fun k hk => (o53.lt k hk).2, fun k hk => (o57.lt k hk).2, fun k hk => (o61.lt k hk).2⟩, fun h => absurd h hL13⟩
      · have hd12 : L 12 = true := by simp only [hdep]
        have h12 := l12 hd12
        obtain ⟨_, _, _, pr, g1, _⟩ := h12
        have q62 : ev f (.tmp 62) = .slice (some ⟨pr, 0, none⟩) 3 3 := g1
        refine fwp_value (v := .slice (some ⟨pr, 0, none⟩) 3 3) (w' := W) ?_ ?_
        · simp only [execOp, q62]
          go_simp
        · simp only [updF, upd, Nat.reduceEqDiff, if_true, if_false, true_implies, reduceIte]
          exact ⟨HB, hz, b3, b4, e4, e2, l0, l1, l2, l3, l4, l5, l6, l7, l8, l9, l10, l11, l12, hd12, g1.symm⟩
    clear b3 b4 HB hz
    rintro L f W ⟨HB, hz, b3, b4, e4, e2, l0, l1, l2, l3, l4, l5, l6, l7, l8, l9, l10, l11, l12, l13⟩ hall
    obtain ⟨⟨a0, c0, f53⟩, o53⟩ := l3 (hall 3 (by show 3 < 14; omega))
    obtain ⟨⟨a1, c1, f57⟩, o57⟩ := l7 (hall 7 (by show 7 < 14; omega))
    obtain ⟨⟨a2, c2, f61⟩, o61⟩ := l11 (hall 11 (by show 11 < 14; omega))
    obtain ⟨_, _, _, pr, g62, hpr, bpr, k0, k1, k2⟩ := l12 (hall 12 (by show 12 < 14; omega))
    obtain ⟨_, f10⟩ := l13 (hall 13 (by show 13 < 14; omega))
    have H0 := Hd.start o53 k0
    have H1 := Hd.start o57 k1
    have H2 := Hd.start o61 k2
    simp only [putAll, f10, g62]
    clear f53 f57 f61 a0 a1 a2 c0 c1 c2 o53 o57 o61 k0 k1 k2
    replace H0 := Lib.hid H0
    replace H1 := Lib.hid H1
    replace H2 := Lib.hid H2
    replace bpr := Lib.hid bpr
    go_simp
    clear hall l0 l1 l2 l3 l4 l5 l6 l7 l8 l9 l10 l11 l12 l13 e4 e2 f10 g62 y1 y2 y3 y4 y5 y6 b4
    generalize f 53 = V0 at *
    generalize f 57 = V1 at *
    generalize f 61 = V2 at *
    have x0 := b3.cell 0 rfl
    have x1 := b3.cell 1 rfl
    have x2 := b3.cell 2 rfl
    replace HB := Lib.hid HB
    go_wp2_with fail
    refine wp_world (fun W' => RI w W' p3 pr W.heap.size N d0 d1 d2 (start x y z) V0 V1 V2 (.slice none 0 0) []) ⟨bpr.out.alloc _, H0.out.down (fun g cs hg h => h.alloc _), H1.out.down (fun g cs hg h => h.alloc _), H2.out.down (fun g cs hg h => h.alloc _), Blk.new W _ _, World.ownsRow_nil _ _ _ _, HB.out.alloc (by omega) _, by simp⟩ ?_
    have o2 : pr < W.heap.size := bpr.out.lt
    clear x0 x1 x2 b3 bpr H0 H1 H2 HB hz
    generalize W.heap.size = p12 at *
    rintro W2 hRI
    replace hRI := Lib.hid hRI
    have o1 : p3 < pr := by omega
    go_loopw [11] (fun v Wr => ∃ (pre : List (Int × Int × Int)) (m : Nat) (s : RS) (V0 V1 V2 : Value), wayL d0 d1 d2 N (start x y z) = pre ++ wayL d0 d1 d2 m s ∧ pre.length + m = N ∧ mayB s.x s.y s.z = true ∧
        (1 ≤ s.a ∧ s.a ≤ 2 * pre.length + 1 ∧ 1 ≤ s.b ∧ s.b ≤ 2 * pre.length + 1 ∧ 1 ≤ s.c ∧ s.c ≤ 2 * pre.length + 1) ∧ RI w Wr p3 pr p12 N d0 d1 d2 s V0 V1 V2 v pre) (fun v _ => N - lenS v)
    case atStart => exact ⟨[], N, start x y z, V0, V1, V2, rfl, by simp, hm'.out, by simp [start], hRI.out⟩
    case round =>
      clear hRI hm'
      obtain ⟨pre, m, s, V0, V1, V2, hw, hl, hms, hbd, hRI⟩ := hrel
      obtain ⟨va, vc, rfl⟩ := owns_form hRI.own
      replace hRI := Lib.hid hRI
      replace hw := Lib.hid hw
      replace hms := Lib.hid hms
      replace hbd := Lib.hid hbd
      cases m with
      | zero =>
        have hl' : N ≤ pre.length := by omega
        clear hl
        go_wp2_with fail
        try rw [Exit.noGoto_ret]
        go_ret2
        have hw' := hw.out
        simp only [wayL, List.append_nil] at hw'
        refine ⟨_, by rw [hE.out]; rfl, ?_, hp3 ▸ hRI.out.below⟩
        rw [hP.out, hw', hp3]
        exact owns_mono hRI.out.own (by omega)
      | succ m =>
        have hl' : pre.length < N := by omega
        have hl2 := Lib.hid hl
        clear hl
        obtain ⟨t0, ht0⟩ : ∃ t, sizeI d0 = t := ⟨_, rfl⟩
        obtain ⟨t1, ht1⟩ : ∃ t, sizeI d1 = t := ⟨_, rfl⟩
        obtain ⟨t2, ht2⟩ : ∃ t, sizeI d2 = t := ⟨_, rfl⟩
        obtain ⟨⟨t0a, t0b⟩, ⟨t1a, t1b⟩, ⟨t2a, t2b⟩⟩ := ta.out
        have tp := tpos.out
        rw [ht0] at t0a t0b tp
        rw [ht1] at t1a t1b tp
        rw [ht2] at t2a t2b tp
        replace ht0 := Lib.hid ht0
        replace ht1 := Lib.hid ht1
        replace ht2 := Lib.hid ht2
        replace tp := Lib.hid tp
        replace t0a := Lib.hid t0a
        replace t0b := Lib.hid t0b
        replace t1a := Lib.hid t1a
        replace t1b := Lib.hid t1b
        replace t2a := Lib.hid t2a
        replace t2b := Lib.hid t2b
        have hNp : 0 < N := by omega
        go_wp2_with fail
        go_loopw [13, 14] (fun u i W' => ∃ k : Nat, k ≤ 3 ∧ i = .int .i64 k ∧ u = .int .i64 (rmap (bst t0 t1 t2 s.a s.b s.c k)) ∧ RI w W' p3 pr p12 N d0 d1 d2 s V0 V1 V2 (.slice va pre.length vc) pre) (fun _ i _ => 3 - (intOf i).toNat)
        case atStart => exact ⟨0, by omega, rfl, rfl, hRI.out⟩
        case round =>
          clear hRI
          obtain ⟨k, hk, rfl, rfl, hRI⟩ := hrel
          obtain ⟨Wc, rfl⟩ : ∃ Wc : World, Wc = wr := ⟨_, rfl⟩
          have hbo := hbd.out
          have hh0 : 0 < t0 → _ := fun ht => hRI.h0.head (ht0.out ▸ ht) hNp (by omega)
          have hh1 : 0 < t2 → _ := fun ht => hRI.h1.head (ht2.out ▸ ht) hNp (by omega)
          have hh2 : 0 < t1 → _ := fun ht => hRI.h2.head (ht1.out ▸ ht) hNp (by omega)
          have he0 : ¬ 0 < t0 → _ := fun ht => hRI.h0.empty (ht0.out ▸ ht)
          have he1 : ¬ 0 < t2 → _ := fun ht => hRI.h1.empty (ht2.out ▸ ht)
          have he2 : ¬ 0 < t1 → _ := fun ht => hRI.h2.empty (ht1.out ▸ ht)
          have hcall : ∀ (ax u t ax' u' t' by1 by2 : Int), ax' < ax → 1 ≤ u → u ≤ 1000 → 1 ≤ u' → u' ≤ 1000 → 0 ≤ t → t ≤ 1000 → 0 ≤ t' → t' ≤ 1000 → ∀ wv, Calls Try.prog 20 #[.agg #[.int .i64 ax, .int .i64 by1, .int .i64 u, .int .i64 (2 * t)], .agg #[.int .i64 ax', .int .i64 by2, .int .i64 u', .int .i64 (2 * t')]] wv fun e w' =>
              e = .returned (.bool (decide (u * t' < u' * t))) ∧ Below wv.heap.size wv w' := fun ax u t ax' u' t' by1 by2 h1 h2 h3 h4 h5 h6 h7 h8 h9 wv => by
            have h := ahead_calls ax by1 u (2 * t) ax' by2 u' (2 * t') wv (by omega) (by omega) (by omega) (by omega)
            rw [ahead_lt h1] at h
            exact h
          obtain rfl | rfl | rfl | rfl : k = 0 ∨ k = 1 ∨ k = 2 ∨ k = 3 := by omega
          · clear hcall
            have hb0 : bst t0 t1 t2 s.a s.b s.c 0 = -1 := rfl
            rw [hb0, show rmap (-1) = -1 from rfl]
            by_cases ht0e : 0 < t0
            · have ht0' := ht0e
              have hb1 : bst t0 t1 t2 s.a s.b s.c 1 = 0 := by simp [bst, ht0e]
              replace hb1 := Lib.hid hb1
              have htt0 := ht0
              go_upto_region 20 with (fail)
              obtain ⟨g0, q0, l0, c0, cs0, rfl, hlc0, hg0, bg0, k00, k10, k20, k30, _, _⟩ := hh0 ht0e
              rw [ht0.out] at k30
              have z00 := bg0.cell _ k00
              have z10 := bg0.cell _ k10
              have z20 := bg0.cell _ k20
              have z30 := bg0.cell _ k30
              have hlp0 : 0 < l0 + 1 := by omega
              obtain ⟨A1, L1, D1, rfl⟩ := hRI.h1.form
              obtain ⟨A2, L2, D2, rfl⟩ := hRI.h2.form
              have hsub : p3 < p12 := by omega
              have r0 := hRI.br.cell 0 rfl
              have r1 := hRI.br.cell 1 rfl
              have r2 := hRI.br.cell 2 rfl
              replace hRI := Lib.hid hRI
              clear hh0 hh1 hh2 he0 he1 he2
              replace hbo := Lib.hid hbo
              go_quiet (fail)
              have hRI2 := Lib.hid (hRI.out.down (below_drewN (Below.refl Wc.heap.size Wc) nq) hsub)
              generalize Wc.drewN nq = W5 at *
              clear r0 r1 r2
              try clear z00 z10 z20 z30
              try clear z01 z11 z21 z31
              try clear z02 z12 z22 z32
              go_wp2_with fail
              exact ⟨⟨1, by omega, rfl, by rw [hb1.out] <;> rfl, hRI2.out⟩, by simp [intOf]⟩
            · have hb1 : bst t0 t1 t2 s.a s.b s.c 1 = -1 := by simp [bst, ht0e]
              replace hb1 := Lib.hid hb1
              go_upto_region 20 with (fail)
              obtain ⟨A0, D0, rfl⟩ := he0 ht0e
              obtain ⟨A1, L1, D1, rfl⟩ := hRI.h1.form
              obtain ⟨A2, L2, D2, rfl⟩ := hRI.h2.form
              have hsub : p3 < p12 := by omega
              have r0 := hRI.br.cell 0 rfl
              have r1 := hRI.br.cell 1 rfl
              have r2 := hRI.br.cell 2 rfl
              replace hRI := Lib.hid hRI
              clear hh0 hh1 hh2 he0 he1 he2
              replace hbo := Lib.hid hbo
              go_quiet (fail)
              have hRI2 := Lib.hid (hRI.out.down (below_drewN (Below.refl Wc.heap.size Wc) nq) hsub)
              generalize Wc.drewN nq = W5 at *
              clear r0 r1 r2
              try clear z00 z10 z20 z30
              try clear z01 z11 z21 z31
              try clear z02 z12 z22 z32
              go_wp2_with fail
              exact ⟨⟨1, by omega, rfl, by rw [hb1.out] <;> rfl, hRI2.out⟩, by simp [intOf]⟩
          · by_cases ht2e : 0 < t2
            · rcases bst1 t0 t1 t2 s.a s.b s.c with ⟨hb1, ht0e⟩ | ⟨hb1, ht0e⟩
              · rw [hb1, show rmap 0 = 0 from rfl]
                have hca := hcall 1 s.c t2 0 s.a t0 (byI d2) (byI d0) (by omega) (by omega) (by omega) (by omega) (by omega) t2a.out t2b.out t0a.out t0b.out
                have hb2 := bst2_0 (s1 := t1) (a := s.a) (b := s.b) (c := s.c) ht2e ht0e
                clear hcall
                by_cases hc : s.c * t0 < s.a * t2
                · rw [if_pos hc] at hb2
                  simp only [decide_eq_true hc] at hca
                  replace hb2 := Lib.hid hb2
                  replace hca := Lib.hid hca
                  replace hb1 := Lib.hid hb1
                  clear hc
                  go_upto_region 20 with (fail)
                  obtain ⟨g1, q1, l1, c1, cs1, rfl, hlc1, hg1, bg1, k01, k11, k21, k31, _, _⟩ := hh1 ht2e
                  rw [ht2.out] at k31
                  have z01 := bg1.cells_ext _ k01
                  have z11 := bg1.cells_ext _ k11
                  have z21 := bg1.cells_ext _ k21
                  have z31 := bg1.cells_ext _ k31
                  have hlp1 : 0 < l1 + 1 := by omega
                  obtain ⟨g0, q0, l0, c0, cs0, rfl, hlc0, hg0, bg0, k00, k10, k20, k30, _, _⟩ := hh0 ht0e
                  rw [ht0.out] at k30
                  have z00 := bg0.cells_ext _ k00
                  have z10 := bg0.cells_ext _ k10
                  have z20 := bg0.cells_ext _ k20
                  have z30 := bg0.cells_ext _ k30
                  have hlp0 : 0 < l0 + 1 := by omega
                  obtain ⟨A2, L2, D2, rfl⟩ := hRI.h2.form
                  have hsub : p3 < p12 := by omega
                  have r0 := hRI.br.cells_ext 0 rfl
                  have r1 := hRI.br.cells_ext 1 rfl
                  have r2 := hRI.br.cells_ext 2 rfl
                  replace hRI := Lib.hid hRI
                  clear hh0 hh1 hh2 he0 he1 he2
                  replace hbo := Lib.hid hbo
                  refine wp_region_ext (by kernel_rfl) (by kernel_rfl) ?_
                  repeat (quiet_step (first | (go_at_call 20; exact calls_ext_of (hca.out _))))
                  refine wpQuiet_nil ?_
                  intro _ hw'
                  obtain ⟨pq, hw''⟩ := hw'
                  subst hw''
                  have hRI2 := Lib.hid (hRI.out.down (below_ext Wc pq) hsub)
                  generalize ext Wc pq = W5 at *
                  clear r0 r1 r2
                  try clear z00 z10 z20 z30
                  try clear z01 z11 z21 z31
                  try clear z02 z12 z22 z32
                  go_wp2_with fail
                  exact ⟨⟨2, by omega, rfl, by rw [hb2.out] <;> rfl, hRI2.out⟩, by simp [intOf]⟩
                · rw [if_neg hc] at hb2
                  simp only [decide_eq_false hc] at hca
                  replace hb2 := Lib.hid hb2
                  replace hca := Lib.hid hca
                  replace hb1 := Lib.hid hb1
                  clear hc
                  go_upto_region 20 with (fail)
                  obtain ⟨g1, q1, l1, c1, cs1, rfl, hlc1, hg1, bg1, k01, k11, k21, k31, _, _⟩ := hh1 ht2e
                  rw [ht2.out] at k31
                  have z01 := bg1.cells_ext _ k01
                  have z11 := bg1.cells_ext _ k11
                  have z21 := bg1.cells_ext _ k21
                  have z31 := bg1.cells_ext _ k31
                  have hlp1 : 0 < l1 + 1 := by omega
                  obtain ⟨g0, q0, l0, c0, cs0, rfl, hlc0, hg0, bg0, k00, k10, k20, k30, _, _⟩ := hh0 ht0e
                  rw [ht0.out] at k30
                  have z00 := bg0.cells_ext _ k00
                  have z10 := bg0.cells_ext _ k10
                  have z20 := bg0.cells_ext _ k20
                  have z30 := bg0.cells_ext _ k30
                  have hlp0 : 0 < l0 + 1 := by omega
                  obtain ⟨A2, L2, D2, rfl⟩ := hRI.h2.form
                  have hsub : p3 < p12 := by omega
                  have r0 := hRI.br.cells_ext 0 rfl
                  have r1 := hRI.br.cells_ext 1 rfl
                  have r2 := hRI.br.cells_ext 2 rfl
                  replace hRI := Lib.hid hRI
                  clear hh0 hh1 hh2 he0 he1 he2
                  replace hbo := Lib.hid hbo
                  refine wp_region_ext (by kernel_rfl) (by kernel_rfl) ?_
                  repeat (quiet_step (first | (go_at_call 20; exact calls_ext_of (hca.out _))))
                  refine wpQuiet_nil ?_
                  intro _ hw'
                  obtain ⟨pq, hw''⟩ := hw'
                  subst hw''
                  have hRI2 := Lib.hid (hRI.out.down (below_ext Wc pq) hsub)
                  generalize ext Wc pq = W5 at *
                  clear r0 r1 r2
                  try clear z00 z10 z20 z30
                  try clear z01 z11 z21 z31
                  try clear z02 z12 z22 z32
                  go_wp2_with fail
                  exact ⟨⟨2, by omega, rfl, by rw [hb2.out] <;> rfl, hRI2.out⟩, by simp [intOf]⟩
              · rw [hb1, show rmap (-1) = -1 from rfl]
                have hb2 := bst2_m (s1 := t1) (a := s.a) (b := s.b) (c := s.c) ht2e ht0e
                clear hcall
                replace hb2 := Lib.hid hb2
                replace hb1 := Lib.hid hb1
                go_upto_region 20 with (fail)
                obtain ⟨g1, q1, l1, c1, cs1, rfl, hlc1, hg1, bg1, k01, k11, k21, k31, _, _⟩ := hh1 ht2e
                rw [ht2.out] at k31
                have z01 := bg1.cell _ k01
                have z11 := bg1.cell _ k11
                have z21 := bg1.cell _ k21
                have z31 := bg1.cell _ k31
                have hlp1 : 0 < l1 + 1 := by omega
                obtain ⟨A0, D0, rfl⟩ := he0 ht0e
                obtain ⟨A2, L2, D2, rfl⟩ := hRI.h2.form
                have hsub : p3 < p12 := by omega
                have r0 := hRI.br.cell 0 rfl
                have r1 := hRI.br.cell 1 rfl
                have r2 := hRI.br.cell 2 rfl
                replace hRI := Lib.hid hRI
                clear hh0 hh1 hh2 he0 he1 he2
                replace hbo := Lib.hid hbo
                go_quiet (fail)
                have hRI2 := Lib.hid (hRI.out.down (below_drewN (Below.refl Wc.heap.size Wc) nq) hsub)
                generalize Wc.drewN nq = W5 at *
                clear r0 r1 r2
                try clear z00 z10 z20 z30
                try clear z01 z11 z21 z31
                try clear z02 z12 z22 z32
                go_wp2_with fail
                exact ⟨⟨2, by omega, rfl, by rw [hb2.out] <;> rfl, hRI2.out⟩, by simp [intOf]⟩
            · have hb2 := bst2_no (s0 := t0) (s1 := t1) (a := s.a) (b := s.b) (c := s.c) ht2e
              obtain ⟨u, hu⟩ : ∃ u, rmap (bst t0 t1 t2 s.a s.b s.c 1) = u := ⟨_, rfl⟩
              rw [hu]
              rw [← hb2] at hu
              clear hcall
              replace hb2 := Lib.hid hb2
              replace hu := Lib.hid hu
              go_upto_region 20 with (fail)
              obtain ⟨A1, D1, rfl⟩ := he1 ht2e
              obtain ⟨A0, L0, D0, rfl⟩ := hRI.h0.form
              obtain ⟨A2, L2, D2, rfl⟩ := hRI.h2.form
              have hsub : p3 < p12 := by omega
              have r0 := hRI.br.cell 0 rfl
              have r1 := hRI.br.cell 1 rfl
              have r2 := hRI.br.cell 2 rfl
              replace hRI := Lib.hid hRI
              clear hh0 hh1 hh2 he0 he1 he2
              replace hbo := Lib.hid hbo
              go_quiet (fail)
              have hRI2 := Lib.hid (hRI.out.down (below_drewN (Below.refl Wc.heap.size Wc) nq) hsub)
              generalize Wc.drewN nq = W5 at *
              clear r0 r1 r2
              try clear z00 z10 z20 z30
              try clear z01 z11 z21 z31
              try clear z02 z12 z22 z32
              go_wp2_with fail
              exact ⟨⟨2, by omega, rfl, by rw [hu.out] <;> rfl, hRI2.out⟩, by simp [intOf]⟩
          · by_cases ht1e : 0 < t1
            · rcases bst2 t0 t1 t2 s.a s.b s.c with ⟨hb1, ht0e⟩ | ⟨hb1, ht2e⟩ | hb1
              · rw [hb1, show rmap 0 = 0 from rfl]
                have hca := hcall 2 s.b t1 0 s.a t0 (byI d1) (byI d0) (by omega) (by omega) (by omega) (by omega) (by omega) t1a.out t1b.out t0a.out t0b.out
                have hb2 := bst3_0 ht1e hb1
                clear hcall
                by_cases hc : s.b * t0 < s.a * t1
                · rw [if_pos hc] at hb2
                  simp only [decide_eq_true hc] at hca
                  replace hb2 := Lib.hid hb2
                  replace hca := Lib.hid hca
                  replace hb1 := Lib.hid hb1
                  clear hc
                  go_upto_region 20 with (fail)
                  obtain ⟨g2, q2, l2, c2, cs2, rfl, hlc2, hg2, bg2, k02, k12, k22, k32, _, _⟩ := hh2 ht1e
                  rw [ht1.out] at k32
                  have z02 := bg2.cells_ext _ k02
                  have z12 := bg2.cells_ext _ k12
                  have z22 := bg2.cells_ext _ k22
                  have z32 := bg2.cells_ext _ k32
                  have hlp2 : 0 < l2 + 1 := by omega
                  obtain ⟨g0, q0, l0, c0, cs0, rfl, hlc0, hg0, bg0, k00, k10, k20, k30, _, _⟩ := hh0 ht0e
                  rw [ht0.out] at k30
                  have z00 := bg0.cells_ext _ k00
                  have z10 := bg0.cells_ext _ k10
                  have z20 := bg0.cells_ext _ k20
                  have z30 := bg0.cells_ext _ k30
                  have hlp0 : 0 < l0 + 1 := by omega
                  obtain ⟨A1, L1, D1, rfl⟩ := hRI.h1.form
                  have hsub : p3 < p12 := by omega
                  have r0 := hRI.br.cells_ext 0 rfl
                  have r1 := hRI.br.cells_ext 1 rfl
                  have r2 := hRI.br.cells_ext 2 rfl
                  replace hRI := Lib.hid hRI
                  clear hh0 hh1 hh2 he0 he1 he2
                  replace hbo := Lib.hid hbo
                  refine wp_region_ext (by kernel_rfl) (by kernel_rfl) ?_
                  repeat (quiet_step (first | (go_at_call 20; exact calls_ext_of (hca.out _))))
                  refine wpQuiet_nil ?_
                  intro _ hw'
                  obtain ⟨pq, hw''⟩ := hw'
                  subst hw''
                  have hRI2 := Lib.hid (hRI.out.down (below_ext Wc pq) hsub)
                  generalize ext Wc pq = W5 at *
                  clear r0 r1 r2
                  try clear z00 z10 z20 z30
                  try clear z01 z11 z21 z31
                  try clear z02 z12 z22 z32
                  go_wp2_with fail
                  exact ⟨⟨3, by omega, rfl, by rw [hb2.out] <;> rfl, hRI2.out⟩, by simp [intOf]⟩
                · rw [if_neg hc] at hb2
                  simp only [decide_eq_false hc] at hca
                  replace hb2 := Lib.hid hb2
                  replace hca := Lib.hid hca
                  replace hb1 := Lib.hid hb1
                  clear hc
                  go_upto_region 20 with (fail)
                  obtain ⟨g2, q2, l2, c2, cs2, rfl, hlc2, hg2, bg2, k02, k12, k22, k32, _, _⟩ := hh2 ht1e
                  rw [ht1.out] at k32
                  have z02 := bg2.cells_ext _ k02
                  have z12 := bg2.cells_ext _ k12
                  have z22 := bg2.cells_ext _ k22
                  have z32 := bg2.cells_ext _ k32
                  have hlp2 : 0 < l2 + 1 := by omega
                  obtain ⟨g0, q0, l0, c0, cs0, rfl, hlc0, hg0, bg0, k00, k10, k20, k30, _, _⟩ := hh0 ht0e
                  rw [ht0.out] at k30
                  have z00 := bg0.cells_ext _ k00
                  have z10 := bg0.cells_ext _ k10
                  have z20 := bg0.cells_ext _ k20
                  have z30 := bg0.cells_ext _ k30
                  have hlp0 : 0 < l0 + 1 := by omega
                  obtain ⟨A1, L1, D1, rfl⟩ := hRI.h1.form
                  have hsub : p3 < p12 := by omega
                  have r0 := hRI.br.cells_ext 0 rfl
                  have r1 := hRI.br.cells_ext 1 rfl
                  have r2 := hRI.br.cells_ext 2 rfl
                  replace hRI := Lib.hid hRI
                  clear hh0 hh1 hh2 he0 he1 he2
                  replace hbo := Lib.hid hbo
                  refine wp_region_ext (by kernel_rfl) (by kernel_rfl) ?_
                  repeat (quiet_step (first | (go_at_call 20; exact calls_ext_of (hca.out _))))
                  refine wpQuiet_nil ?_
                  intro _ hw'
                  obtain ⟨pq, hw''⟩ := hw'
                  subst hw''
                  have hRI2 := Lib.hid (hRI.out.down (below_ext Wc pq) hsub)
                  generalize ext Wc pq = W5 at *
                  clear r0 r1 r2
                  try clear z00 z10 z20 z30
                  try clear z01 z11 z21 z31
                  try clear z02 z12 z22 z32
                  go_wp2_with fail
                  exact ⟨⟨3, by omega, rfl, by rw [hb2.out] <;> rfl, hRI2.out⟩, by simp [intOf]⟩
              · rw [hb1, show rmap 2 = 1 from rfl]
                have hca := hcall 2 s.b t1 1 s.c t2 (byI d1) (byI d2) (by omega) (by omega) (by omega) (by omega) (by omega) t1a.out t1b.out t2a.out t2b.out
                have hb2 := bst3_2 ht1e hb1
                clear hcall
                by_cases hc : s.b * t2 < s.c * t1
                · rw [if_pos hc] at hb2
                  simp only [decide_eq_true hc] at hca
                  replace hb2 := Lib.hid hb2
                  replace hca := Lib.hid hca
                  replace hb1 := Lib.hid hb1
                  clear hc
                  go_upto_region 20 with (fail)
                  obtain ⟨g2, q2, l2, c2, cs2, rfl, hlc2, hg2, bg2, k02, k12, k22, k32, _, _⟩ := hh2 ht1e
                  rw [ht1.out] at k32
                  have z02 := bg2.cells_ext _ k02
                  have z12 := bg2.cells_ext _ k12
                  have z22 := bg2.cells_ext _ k22
                  have z32 := bg2.cells_ext _ k32
                  have hlp2 : 0 < l2 + 1 := by omega
                  obtain ⟨g1, q1, l1, c1, cs1, rfl, hlc1, hg1, bg1, k01, k11, k21, k31, _, _⟩ := hh1 ht2e
                  rw [ht2.out] at k31
                  have z01 := bg1.cells_ext _ k01
                  have z11 := bg1.cells_ext _ k11
                  have z21 := bg1.cells_ext _ k21
                  have z31 := bg1.cells_ext _ k31
                  have hlp1 : 0 < l1 + 1 := by omega
                  obtain ⟨A0, L0, D0, rfl⟩ := hRI.h0.form
                  have hsub : p3 < p12 := by omega
                  have r0 := hRI.br.cells_ext 0 rfl
                  have r1 := hRI.br.cells_ext 1 rfl
                  have r2 := hRI.br.cells_ext 2 rfl
                  replace hRI := Lib.hid hRI
                  clear hh0 hh1 hh2 he0 he1 he2
                  replace hbo := Lib.hid hbo
                  refine wp_region_ext (by kernel_rfl) (by kernel_rfl) ?_
                  repeat (quiet_step (first | (go_at_call 20; exact calls_ext_of (hca.out _))))
                  refine wpQuiet_nil ?_
                  intro _ hw'
                  obtain ⟨pq, hw''⟩ := hw'
                  subst hw''
                  have hRI2 := Lib.hid (hRI.out.down (below_ext Wc pq) hsub)
                  generalize ext Wc pq = W5 at *
                  clear r0 r1 r2
                  try clear z00 z10 z20 z30
                  try clear z01 z11 z21 z31
                  try clear z02 z12 z22 z32
                  go_wp2_with fail
                  exact ⟨⟨3, by omega, rfl, by rw [hb2.out] <;> rfl, hRI2.out⟩, by simp [intOf]⟩
                · rw [if_neg hc] at hb2
                  simp only [decide_eq_false hc] at hca
                  replace hb2 := Lib.hid hb2
                  replace hca := Lib.hid hca
                  replace hb1 := Lib.hid hb1
                  clear hc
                  go_upto_region 20 with (fail)
                  obtain ⟨g2, q2, l2, c2, cs2, rfl, hlc2, hg2, bg2, k02, k12, k22, k32, _, _⟩ := hh2 ht1e
                  rw [ht1.out] at k32
                  have z02 := bg2.cells_ext _ k02
                  have z12 := bg2.cells_ext _ k12
                  have z22 := bg2.cells_ext _ k22
                  have z32 := bg2.cells_ext _ k32
                  have hlp2 : 0 < l2 + 1 := by omega
                  obtain ⟨g1, q1, l1, c1, cs1, rfl, hlc1, hg1, bg1, k01, k11, k21, k31, _, _⟩ := hh1 ht2e
                  rw [ht2.out] at k31
                  have z01 := bg1.cells_ext _ k01
                  have z11 := bg1.cells_ext _ k11
                  have z21 := bg1.cells_ext _ k21
                  have z31 := bg1.cells_ext _ k31
                  have hlp1 : 0 < l1 + 1 := by omega
                  obtain ⟨A0, L0, D0, rfl⟩ := hRI.h0.form
                  have hsub : p3 < p12 := by omega
                  have r0 := hRI.br.cells_ext 0 rfl
                  have r1 := hRI.br.cells_ext 1 rfl
                  have r2 := hRI.br.cells_ext 2 rfl
                  replace hRI := Lib.hid hRI
                  clear hh0 hh1 hh2 he0 he1 he2
                  replace hbo := Lib.hid hbo
                  refine wp_region_ext (by kernel_rfl) (by kernel_rfl) ?_
                  repeat (quiet_step (first | (go_at_call 20; exact calls_ext_of (hca.out _))))
                  refine wpQuiet_nil ?_
                  intro _ hw'
                  obtain ⟨pq, hw''⟩ := hw'
                  subst hw''
                  have hRI2 := Lib.hid (hRI.out.down (below_ext Wc pq) hsub)
                  generalize ext Wc pq = W5 at *
                  clear r0 r1 r2
                  try clear z00 z10 z20 z30
                  try clear z01 z11 z21 z31
                  try clear z02 z12 z22 z32
                  go_wp2_with fail
                  exact ⟨⟨3, by omega, rfl, by rw [hb2.out] <;> rfl, hRI2.out⟩, by simp [intOf]⟩
              · rw [hb1, show rmap (-1) = -1 from rfl]
                have hb2 := bst3_m ht1e hb1
                clear hcall
                replace hb2 := Lib.hid hb2
                replace hb1 := Lib.hid hb1
                go_upto_region 20 with (fail)
                obtain ⟨g2, q2, l2, c2, cs2, rfl, hlc2, hg2, bg2, k02, k12, k22, k32, _, _⟩ := hh2 ht1e
                rw [ht1.out] at k32
                have z02 := bg2.cell _ k02
                have z12 := bg2.cell _ k12
                have z22 := bg2.cell _ k22
                have z32 := bg2.cell _ k32
                have hlp2 : 0 < l2 + 1 := by omega
                obtain ⟨A0, L0, D0, rfl⟩ := hRI.h0.form
                obtain ⟨A1, L1, D1, rfl⟩ := hRI.h1.form
                have hsub : p3 < p12 := by omega
                have r0 := hRI.br.cell 0 rfl
                have r1 := hRI.br.cell 1 rfl
                have r2 := hRI.br.cell 2 rfl
                replace hRI := Lib.hid hRI
                clear hh0 hh1 hh2 he0 he1 he2
                replace hbo := Lib.hid hbo
                go_quiet (fail)
                have hRI2 := Lib.hid (hRI.out.down (below_drewN (Below.refl Wc.heap.size Wc) nq) hsub)
                generalize Wc.drewN nq = W5 at *
                clear r0 r1 r2
                try clear z00 z10 z20 z30
                try clear z01 z11 z21 z31
                try clear z02 z12 z22 z32
                go_wp2_with fail
                exact ⟨⟨3, by omega, rfl, by rw [hb2.out] <;> rfl, hRI2.out⟩, by simp [intOf]⟩
            · have hb2 := bst3_no (s0 := t0) (s2 := t2) (a := s.a) (b := s.b) (c := s.c) ht1e
              obtain ⟨u, hu⟩ : ∃ u, rmap (bst t0 t1 t2 s.a s.b s.c 2) = u := ⟨_, rfl⟩
              rw [hu]
              rw [← hb2] at hu
              clear hcall
              replace hb2 := Lib.hid hb2
              replace hu := Lib.hid hu
              go_upto_region 20 with (fail)
              obtain ⟨A2, D2, rfl⟩ := he2 ht1e
              obtain ⟨A0, L0, D0, rfl⟩ := hRI.h0.form
              obtain ⟨A1, L1, D1, rfl⟩ := hRI.h1.form
              have hsub : p3 < p12 := by omega
              have r0 := hRI.br.cell 0 rfl
              have r1 := hRI.br.cell 1 rfl
              have r2 := hRI.br.cell 2 rfl
              replace hRI := Lib.hid hRI
              clear hh0 hh1 hh2 he0 he1 he2
              replace hbo := Lib.hid hbo
              go_quiet (fail)
              have hRI2 := Lib.hid (hRI.out.down (below_drewN (Below.refl Wc.heap.size Wc) nq) hsub)
              generalize Wc.drewN nq = W5 at *
              clear r0 r1 r2
              try clear z00 z10 z20 z30
              try clear z01 z11 z21 z31
              try clear z02 z12 z22 z32
              go_wp2_with fail
              exact ⟨⟨3, by omega, rfl, by rw [hu.out] <;> rfl, hRI2.out⟩, by simp [intOf]⟩
          rw [show ((3 : Nat) : Int) = 3 from rfl]
          clear hcall he0 he1 he2 hk
          rcases bst_range t0 t1 t2 s.a s.b s.c tp.out with ⟨hbest, hp⟩ | ⟨hbest, hp⟩ | ⟨hbest, hp⟩
          · rw [hbest, show rmap 0 = 0 from rfl]
            obtain ⟨g, q, l, c, cs, rfl, hlc, hg, bg, k0, k1, k2, k3, hnext, hnext0⟩ := hh0 hp
            clear hh0 hh1 hh2
            rcases Nat.eq_zero_or_pos c with hcz | hcz
            · obtain rfl : l = 0 := by omega
              subst hcz
              obtain ⟨A1, L1, D1, rfl⟩ := hRI.h1.form
              obtain ⟨A2, L2, D2, rfl⟩ := hRI.h2.form
              have hsb : s.best d0 d1 d2 = 0 := by unfold RS.best; rw [ht0.out, ht1.out, ht2.out]; exact hbest
              obtain ⟨nx, ny, nz, na, nb, nc⟩ := next_x hsb
              have hok := ok_may (d0 := d0) (d1 := d1) (d2 := d2) hms.out
              have hmi := mayB_iff.1 hms.out
              have hby : byI d0 = -1 ∨ byI d0 = 1 := by unfold byI; split <;> simp
              have v0 : IntKind.i64.wrap (s.x + byI d0) = (s.next d0 d1 d2).x := by rw [nx]; exact IntWalk.i64_in _ (by omega)
              obtain ⟨nv, hnv⟩ : ∃ nv, (s.next d0 d1 d2).x = nv := ⟨_, rfl⟩
              rw [hnv] at v0
              rw [hnv, ny, nz] at hok
              have hst := hRI.step (s' := s.next d0 d1 d2) (Nat.le_of_lt o1) o2 (.cells #[.int .i64 0, .int .i64 (byI d0), .int .i64 s.a, .int .i64 (2 * sizeI d0)] 48) 0 0 (.slice (some ⟨g, q, none⟩) 0 0) (.int .i64 nv) rfl (by rw [hnv, ny, nz]; rfl) (fun W' kk => by rw [na]; exact hnext0 rfl W' _ _) (fun W' kk => by rw [nc]; exact hRI.h1.down kk) (fun W' kk => by rw [nb]; exact hRI.h2.down kk)
              rw [ht0.out] at k3 hst
              have r0 := hRI.br.cell 0 rfl
              have r1 := hRI.br.cell 1 rfl
              have r2 := hRI.br.cell 2 rfl
              have rf := hRI.br.frozen 0
              have z0 := bg.cell _ k0
              have z1 := bg.cell _ k1
              have z2 := bg.cell _ k2
              have z3 := bg.cell _ k3
              have p0 := hRI.b12.cell 0 rfl
              have p1 := hRI.b12.cell 1 rfl
              have p2 := hRI.b12.cell 2 rfl
              have pf := hRI.b12.frozen 0
              have hne1 : ¬ pr = p12 := by omega
              have hne2 : ¬ p12 = pr := by omega
              have hlt := hRI.lt
              have r_l := hRI.br.lt
              have bg_l := bg.lt
              have hne3 : ¬ p12 = Wc.heap.size := by omega
              have hne4 : ¬ pr = Wc.heap.size := by omega
              have hne5 : ¬ Wc.heap.size = pr := by omega
              have hne6 : ¬ Wc.heap.size = p12 := by omega
              replace hst := Lib.hid hst
              replace hRI := Lib.hid hRI
              replace hok := Lib.hid hok
              replace nx := Lib.hid nx
              replace ny := Lib.hid ny
              replace nz := Lib.hid nz
              replace na := Lib.hid na
              replace nb := Lib.hid nb
              replace nc := Lib.hid nc
              replace hnv := Lib.hid hnv
              replace hbo := Lib.hid hbo
              replace hsb := Lib.hid hsb
              replace hbest := Lib.hid hbest
              clear hmi hby hnext hnext0 hg bg k0 k1 k2 k3
              go_wp2_with fail
              refine (rmay_calls _ _ _ _).mono ?_
              rintro e W3 ⟨rfl, hb⟩
              have hsub : p3 < p12 := by omega
              have hst3 := Lib.hid (hst.out.down hb hsub)
              clear hb hst hRI
              try clear r0 r1 r2
              try clear z0 z1 z2 z3
              try clear p0 p1 p2
              try clear rf pf r_l bg_l hlt hne3 hne4 hne5 hne6
              obtain ⟨ok, hokv⟩ : ∃ b, mayB nv s.y s.z = b := ⟨_, rfl⟩
              rw [hokv]
              have hsok := Lib.hid (hok.out.trans hokv)
              replace hokv := Lib.hid hokv
              cases ok with
              | false =>
                go_wp2_with fail
                try rw [Exit.noGoto_ret]
                go_ret2
                have hw' := hw.out
                rw [wayL, if_neg (by rw [hsok.out]; exact Bool.false_ne_true), List.append_nil] at hw'
                refine ⟨_, by rw [hE.out]; rfl, ?_, hp3 ▸ hst3.out.below⟩
                rw [hP.out, hw', hp3]
                exact owns_mono hst3.out.own (by omega)
              | true =>
                have b12' : Blk W3 p12 (V3 nv s.y s.z) 23 := by have h := hst3.out.b12; rw [hnv.out, ny.out, nz.out] at h; exact h
                have p0 := b12'.cell 0 rfl
                have p1 := b12'.cell 1 rfl
                have p2 := b12'.cell 2 rfl
                obtain ⟨i0, hi, hz0, hz1, hz2⟩ := info_parts info_place
                have q1 : Try.prog.underlying 25 = some (.slice 23) := by kernel_rfl
                have q2 : 0 < 3 := by decide
                have hst4 := Lib.hid (hst3.out.down ((Below.refl _ _).alloc (Nat.le_refl _) (.cells #[.int .i64 nv, .int .i64 s.y, .int .i64 s.z] 23)) hsub)
                have hl3 : p12 < W3.heap.size := hst3.out.lt
                replace b12' := Lib.hid b12'
                go_wp2_with (at_builtin; refine wpList_append_own _ rfl _ _ 25 rfl (p12 + 1) 23 i0 (.agg #[.int .i64 0, .int .i64 0, .int .i64 0]) 3 24 q1 hi hz0 hz1 hz2 rfl q2 _ _ _ rfl hst4.out.own ⟨W3.heap.size, 0, none⟩ 1 1 (V3 nv s.y s.z) rfl rfl ?c1_0_0 ?c2_0_0 ?c3_0_0 ?c4_0_0 ?c5_0_0 ?c6_0_0)
                case c1_0_0 => exact blk_news (Blk.new W3 _ _)
                case c2_0_0 => intro u hu; simp only [V3, List.mem_cons, List.not_mem_nil, or_false] at hu; rcases hu with rfl | rfl | rfl <;> rfl
                case c3_0_0 => unfold maxLen; omega
                case c4_0_0 => omega
                case c5_0_0 => simp; omega
                case c6_0_0 =>
                  intro v' W4 hown' hgrow hnil
                  have hst5 := Lib.hid (hst4.out.grow (pre' := pre ++ [((s.next d0 d1 d2).x, (s.next d0 d1 d2).y, (s.next d0 d1 d2).z)]) hgrow (by rw [cellsP_snoc, hnv.out, ny.out, nz.out, List.length_append]; exact hown') (Nat.le_of_lt o1) o2)
                  obtain ⟨va', vc', rfl⟩ := owns_form hown'
                  clear hgrow hnil hown' p0 p1 p2 hst4 hst3
                  go_wp2_with fail
                  have hw' := hw.out
                  rw [wayL, if_pos hsok.out] at hw'
                  have hbo' := hbo.out
                  have na' := na.out
                  have nb' := nb.out
                  have nc' := nc.out
                  refine ⟨⟨pre ++ [((s.next d0 d1 d2).x, (s.next d0 d1 d2).y, (s.next d0 d1 d2).z)], m, s.next d0 d1 d2, _, _, _, by rw [hw']; simp, by have := hl2.out; simp; omega, ?_, ?_, hst5.out⟩, ?_⟩
                  · rw [hnv.out, ny.out, nz.out]; exact hokv.out
                  · rw [List.length_append]; simp only [List.length_cons, List.length_nil]; omega
                  · show N - (pre.length + 1) < N - pre.length; omega
            · obtain ⟨c, rfl⟩ : ∃ c', c = c' + 1 := ⟨c - 1, by omega⟩
              clear hcz
              obtain ⟨A1, L1, D1, rfl⟩ := hRI.h1.form
              obtain ⟨A2, L2, D2, rfl⟩ := hRI.h2.form
              have hsb : s.best d0 d1 d2 = 0 := by unfold RS.best; rw [ht0.out, ht1.out, ht2.out]; exact hbest
              obtain ⟨nx, ny, nz, na, nb, nc⟩ := next_x hsb
              have hok := ok_may (d0 := d0) (d1 := d1) (d2 := d2) hms.out
              have hmi := mayB_iff.1 hms.out
              have hby : byI d0 = -1 ∨ byI d0 = 1 := by unfold byI; split <;> simp
              have v0 : IntKind.i64.wrap (s.x + byI d0) = (s.next d0 d1 d2).x := by rw [nx]; exact IntWalk.i64_in _ (by omega)
              obtain ⟨nv, hnv⟩ : ∃ nv, (s.next d0 d1 d2).x = nv := ⟨_, rfl⟩
              rw [hnv] at v0
              rw [hnv, ny, nz] at hok
              have hst := hRI.step (s' := s.next d0 d1 d2) (Nat.le_of_lt o1) o2 (.cells #[.int .i64 0, .int .i64 (byI d0), .int .i64 s.a, .int .i64 (2 * sizeI d0)] 48) 0 0 (.slice (some ⟨g, q + 4, none⟩) l (c + 1)) (.int .i64 nv) rfl (by rw [hnv, ny, nz]; rfl) (fun W' kk => by rw [na]; exact hnext W' (kk _ _ hg bg)) (fun W' kk => by rw [nc]; exact hRI.h1.down kk) (fun W' kk => by rw [nb]; exact hRI.h2.down kk)
              rw [ht0.out] at k3 hst
              have r0 := hRI.br.cell 0 rfl
              have r1 := hRI.br.cell 1 rfl
              have r2 := hRI.br.cell 2 rfl
              have rf := hRI.br.frozen 0
              have z0 := bg.cell _ k0
              have z1 := bg.cell _ k1
              have z2 := bg.cell _ k2
              have z3 := bg.cell _ k3
              have p0 := hRI.b12.cell 0 rfl
              have p1 := hRI.b12.cell 1 rfl
              have p2 := hRI.b12.cell 2 rfl
              have pf := hRI.b12.frozen 0
              have hlp : 0 < l + 1 := by omega
              have hne1 : ¬ pr = p12 := by omega
              have hne2 : ¬ p12 = pr := by omega
              have hlt := hRI.lt
              have r_l := hRI.br.lt
              have bg_l := bg.lt
              have hne3 : ¬ p12 = Wc.heap.size := by omega
              have hne4 : ¬ pr = Wc.heap.size := by omega
              have hne5 : ¬ Wc.heap.size = pr := by omega
              have hne6 : ¬ Wc.heap.size = p12 := by omega
              replace hst := Lib.hid hst
              replace hRI := Lib.hid hRI
              replace hok := Lib.hid hok
              replace nx := Lib.hid nx
              replace ny := Lib.hid ny
              replace nz := Lib.hid nz
              replace na := Lib.hid na
              replace nb := Lib.hid nb
              replace nc := Lib.hid nc
              replace hnv := Lib.hid hnv
              replace hbo := Lib.hid hbo
              replace hsb := Lib.hid hsb
              replace hbest := Lib.hid hbest
              clear hmi hby hnext hnext0 hg bg k0 k1 k2 k3
              go_wp2_with fail
              refine (rmay_calls _ _ _ _).mono ?_
              rintro e W3 ⟨rfl, hb⟩
              have hsub : p3 < p12 := by omega
              have hst3 := Lib.hid (hst.out.down hb hsub)
              clear hb hst hRI
              try clear r0 r1 r2
              try clear z0 z1 z2 z3
              try clear p0 p1 p2
              try clear rf pf r_l bg_l hlt hne3 hne4 hne5 hne6
              obtain ⟨ok, hokv⟩ : ∃ b, mayB nv s.y s.z = b := ⟨_, rfl⟩
              rw [hokv]
              have hsok := Lib.hid (hok.out.trans hokv)
              replace hokv := Lib.hid hokv
              cases ok with
              | false =>
                go_wp2_with fail
                try rw [Exit.noGoto_ret]
                go_ret2
                have hw' := hw.out
                rw [wayL, if_neg (by rw [hsok.out]; exact Bool.false_ne_true), List.append_nil] at hw'
                refine ⟨_, by rw [hE.out]; rfl, ?_, hp3 ▸ hst3.out.below⟩
                rw [hP.out, hw', hp3]
                exact owns_mono hst3.out.own (by omega)
              | true =>
                have b12' : Blk W3 p12 (V3 nv s.y s.z) 23 := by have h := hst3.out.b12; rw [hnv.out, ny.out, nz.out] at h; exact h
                have p0 := b12'.cell 0 rfl
                have p1 := b12'.cell 1 rfl
                have p2 := b12'.cell 2 rfl
                obtain ⟨i0, hi, hz0, hz1, hz2⟩ := info_parts info_place
                have q1 : Try.prog.underlying 25 = some (.slice 23) := by kernel_rfl
                have q2 : 0 < 3 := by decide
                have hst4 := Lib.hid (hst3.out.down ((Below.refl _ _).alloc (Nat.le_refl _) (.cells #[.int .i64 nv, .int .i64 s.y, .int .i64 s.z] 23)) hsub)
                have hl3 : p12 < W3.heap.size := hst3.out.lt
                replace b12' := Lib.hid b12'
                go_wp2_with (at_builtin; refine wpList_append_own _ rfl _ _ 25 rfl (p12 + 1) 23 i0 (.agg #[.int .i64 0, .int .i64 0, .int .i64 0]) 3 24 q1 hi hz0 hz1 hz2 rfl q2 _ _ _ rfl hst4.out.own ⟨W3.heap.size, 0, none⟩ 1 1 (V3 nv s.y s.z) rfl rfl ?c1_0_1 ?c2_0_1 ?c3_0_1 ?c4_0_1 ?c5_0_1 ?c6_0_1)
                case c1_0_1 => exact blk_news (Blk.new W3 _ _)
                case c2_0_1 => intro u hu; simp only [V3, List.mem_cons, List.not_mem_nil, or_false] at hu; rcases hu with rfl | rfl | rfl <;> rfl
                case c3_0_1 => unfold maxLen; omega
                case c4_0_1 => omega
                case c5_0_1 => simp; omega
                case c6_0_1 =>
                  intro v' W4 hown' hgrow hnil
                  have hst5 := Lib.hid (hst4.out.grow (pre' := pre ++ [((s.next d0 d1 d2).x, (s.next d0 d1 d2).y, (s.next d0 d1 d2).z)]) hgrow (by rw [cellsP_snoc, hnv.out, ny.out, nz.out, List.length_append]; exact hown') (Nat.le_of_lt o1) o2)
                  obtain ⟨va', vc', rfl⟩ := owns_form hown'
                  clear hgrow hnil hown' p0 p1 p2 hst4 hst3
                  go_wp2_with fail
                  have hw' := hw.out
                  rw [wayL, if_pos hsok.out] at hw'
                  have hbo' := hbo.out
                  have na' := na.out
                  have nb' := nb.out
                  have nc' := nc.out
                  refine ⟨⟨pre ++ [((s.next d0 d1 d2).x, (s.next d0 d1 d2).y, (s.next d0 d1 d2).z)], m, s.next d0 d1 d2, _, _, _, by rw [hw']; simp, by have := hl2.out; simp; omega, ?_, ?_, hst5.out⟩, ?_⟩
                  · rw [hnv.out, ny.out, nz.out]; exact hokv.out
                  · rw [List.length_append]; simp only [List.length_cons, List.length_nil]; omega
                  · show N - (pre.length + 1) < N - pre.length; omega
          · rw [hbest, show rmap 1 = 2 from rfl]
            obtain ⟨g, q, l, c, cs, rfl, hlc, hg, bg, k0, k1, k2, k3, hnext, hnext0⟩ := hh2 hp
            clear hh0 hh1 hh2
            rcases Nat.eq_zero_or_pos c with hcz | hcz
            · obtain rfl : l = 0 := by omega
              subst hcz
              obtain ⟨A0, L0, D0, rfl⟩ := hRI.h0.form
              obtain ⟨A1, L1, D1, rfl⟩ := hRI.h1.form
              have hsb : s.best d0 d1 d2 = 1 := by unfold RS.best; rw [ht0.out, ht1.out, ht2.out]; exact hbest
              obtain ⟨nx, ny, nz, na, nb, nc⟩ := next_y hsb
              have hok := ok_may (d0 := d0) (d1 := d1) (d2 := d2) hms.out
              have hmi := mayB_iff.1 hms.out
              have hby : byI d1 = -1 ∨ byI d1 = 1 := by unfold byI; split <;> simp
              have v0 : IntKind.i64.wrap (s.y + byI d1) = (s.next d0 d1 d2).y := by rw [ny]; exact IntWalk.i64_in _ (by omega)
              obtain ⟨nv, hnv⟩ : ∃ nv, (s.next d0 d1 d2).y = nv := ⟨_, rfl⟩
              rw [hnv] at v0
              rw [nx, hnv, nz] at hok
              have hst := hRI.step (s' := s.next d0 d1 d2) (Nat.le_of_lt o1) o2 (.cells #[.int .i64 2, .int .i64 (byI d1), .int .i64 s.b, .int .i64 (2 * sizeI d1)] 48) 2 1 (.slice (some ⟨g, q, none⟩) 0 0) (.int .i64 nv) rfl (by rw [nx, hnv, nz]; rfl) (fun W' kk => by rw [na]; exact hRI.h0.down kk) (fun W' kk => by rw [nc]; exact hRI.h1.down kk) (fun W' kk => by rw [nb]; exact hnext0 rfl W' _ _)
              rw [ht1.out] at k3 hst
              have r0 := hRI.br.cell 0 rfl
              have r1 := hRI.br.cell 1 rfl
              have r2 := hRI.br.cell 2 rfl
              have rf := hRI.br.frozen 2
              have z0 := bg.cell _ k0
              have z1 := bg.cell _ k1
              have z2 := bg.cell _ k2
              have z3 := bg.cell _ k3
              have p0 := hRI.b12.cell 0 rfl
              have p1 := hRI.b12.cell 1 rfl
              have p2 := hRI.b12.cell 2 rfl
              have pf := hRI.b12.frozen 1
              have hne1 : ¬ pr = p12 := by omega
              have hne2 : ¬ p12 = pr := by omega
              have hlt := hRI.lt
              have r_l := hRI.br.lt
              have bg_l := bg.lt
              have hne3 : ¬ p12 = Wc.heap.size := by omega
              have hne4 : ¬ pr = Wc.heap.size := by omega
              have hne5 : ¬ Wc.heap.size = pr := by omega
              have hne6 : ¬ Wc.heap.size = p12 := by omega
              replace hst := Lib.hid hst
              replace hRI := Lib.hid hRI
              replace hok := Lib.hid hok
              replace nx := Lib.hid nx
              replace ny := Lib.hid ny
              replace nz := Lib.hid nz
              replace na := Lib.hid na
              replace nb := Lib.hid nb
              replace nc := Lib.hid nc
              replace hnv := Lib.hid hnv
              replace hbo := Lib.hid hbo
              replace hsb := Lib.hid hsb
              replace hbest := Lib.hid hbest
              clear hmi hby hnext hnext0 hg bg k0 k1 k2 k3
              go_wp2_with fail
              refine (rmay_calls _ _ _ _).mono ?_
              rintro e W3 ⟨rfl, hb⟩
              have hsub : p3 < p12 := by omega
              have hst3 := Lib.hid (hst.out.down hb hsub)
              clear hb hst hRI
              try clear r0 r1 r2
              try clear z0 z1 z2 z3
              try clear p0 p1 p2
              try clear rf pf r_l bg_l hlt hne3 hne4 hne5 hne6
              obtain ⟨ok, hokv⟩ : ∃ b, mayB s.x nv s.z = b := ⟨_, rfl⟩
              rw [hokv]
              have hsok := Lib.hid (hok.out.trans hokv)
              replace hokv := Lib.hid hokv
              cases ok with
              | false =>
                go_wp2_with fail
                try rw [Exit.noGoto_ret]
                go_ret2
                have hw' := hw.out
                rw [wayL, if_neg (by rw [hsok.out]; exact Bool.false_ne_true), List.append_nil] at hw'
                refine ⟨_, by rw [hE.out]; rfl, ?_, hp3 ▸ hst3.out.below⟩
                rw [hP.out, hw', hp3]
                exact owns_mono hst3.out.own (by omega)
              | true =>
                have b12' : Blk W3 p12 (V3 s.x nv s.z) 23 := by have h := hst3.out.b12; rw [nx.out, hnv.out, nz.out] at h; exact h
                have p0 := b12'.cell 0 rfl
                have p1 := b12'.cell 1 rfl
                have p2 := b12'.cell 2 rfl
                obtain ⟨i0, hi, hz0, hz1, hz2⟩ := info_parts info_place
                have q1 : Try.prog.underlying 25 = some (.slice 23) := by kernel_rfl
                have q2 : 0 < 3 := by decide
                have hst4 := Lib.hid (hst3.out.down ((Below.refl _ _).alloc (Nat.le_refl _) (.cells #[.int .i64 s.x, .int .i64 nv, .int .i64 s.z] 23)) hsub)
                have hl3 : p12 < W3.heap.size := hst3.out.lt
                replace b12' := Lib.hid b12'
                go_wp2_with (at_builtin; refine wpList_append_own _ rfl _ _ 25 rfl (p12 + 1) 23 i0 (.agg #[.int .i64 0, .int .i64 0, .int .i64 0]) 3 24 q1 hi hz0 hz1 hz2 rfl q2 _ _ _ rfl hst4.out.own ⟨W3.heap.size, 0, none⟩ 1 1 (V3 s.x nv s.z) rfl rfl ?c1_1_0 ?c2_1_0 ?c3_1_0 ?c4_1_0 ?c5_1_0 ?c6_1_0)
                case c1_1_0 => exact blk_news (Blk.new W3 _ _)
                case c2_1_0 => intro u hu; simp only [V3, List.mem_cons, List.not_mem_nil, or_false] at hu; rcases hu with rfl | rfl | rfl <;> rfl
                case c3_1_0 => unfold maxLen; omega
                case c4_1_0 => omega
                case c5_1_0 => simp; omega
                case c6_1_0 =>
                  intro v' W4 hown' hgrow hnil
                  have hst5 := Lib.hid (hst4.out.grow (pre' := pre ++ [((s.next d0 d1 d2).x, (s.next d0 d1 d2).y, (s.next d0 d1 d2).z)]) hgrow (by rw [cellsP_snoc, nx.out, hnv.out, nz.out, List.length_append]; exact hown') (Nat.le_of_lt o1) o2)
                  obtain ⟨va', vc', rfl⟩ := owns_form hown'
                  clear hgrow hnil hown' p0 p1 p2 hst4 hst3
                  go_wp2_with fail
                  have hw' := hw.out
                  rw [wayL, if_pos hsok.out] at hw'
                  have hbo' := hbo.out
                  have na' := na.out
                  have nb' := nb.out
                  have nc' := nc.out
                  refine ⟨⟨pre ++ [((s.next d0 d1 d2).x, (s.next d0 d1 d2).y, (s.next d0 d1 d2).z)], m, s.next d0 d1 d2, _, _, _, by rw [hw']; simp, by have := hl2.out; simp; omega, ?_, ?_, hst5.out⟩, ?_⟩
                  · rw [nx.out, hnv.out, nz.out]; exact hokv.out
                  · rw [List.length_append]; simp only [List.length_cons, List.length_nil]; omega
                  · show N - (pre.length + 1) < N - pre.length; omega
            · obtain ⟨c, rfl⟩ : ∃ c', c = c' + 1 := ⟨c - 1, by omega⟩
              clear hcz
              obtain ⟨A0, L0, D0, rfl⟩ := hRI.h0.form
              obtain ⟨A1, L1, D1, rfl⟩ := hRI.h1.form
              have hsb : s.best d0 d1 d2 = 1 := by unfold RS.best; rw [ht0.out, ht1.out, ht2.out]; exact hbest
              obtain ⟨nx, ny, nz, na, nb, nc⟩ := next_y hsb
              have hok := ok_may (d0 := d0) (d1 := d1) (d2 := d2) hms.out
              have hmi := mayB_iff.1 hms.out
              have hby : byI d1 = -1 ∨ byI d1 = 1 := by unfold byI; split <;> simp
              have v0 : IntKind.i64.wrap (s.y + byI d1) = (s.next d0 d1 d2).y := by rw [ny]; exact IntWalk.i64_in _ (by omega)
              obtain ⟨nv, hnv⟩ : ∃ nv, (s.next d0 d1 d2).y = nv := ⟨_, rfl⟩
              rw [hnv] at v0
              rw [nx, hnv, nz] at hok
              have hst := hRI.step (s' := s.next d0 d1 d2) (Nat.le_of_lt o1) o2 (.cells #[.int .i64 2, .int .i64 (byI d1), .int .i64 s.b, .int .i64 (2 * sizeI d1)] 48) 2 1 (.slice (some ⟨g, q + 4, none⟩) l (c + 1)) (.int .i64 nv) rfl (by rw [nx, hnv, nz]; rfl) (fun W' kk => by rw [na]; exact hRI.h0.down kk) (fun W' kk => by rw [nc]; exact hRI.h1.down kk) (fun W' kk => by rw [nb]; exact hnext W' (kk _ _ hg bg))
              rw [ht1.out] at k3 hst
              have r0 := hRI.br.cell 0 rfl
              have r1 := hRI.br.cell 1 rfl
              have r2 := hRI.br.cell 2 rfl
              have rf := hRI.br.frozen 2
              have z0 := bg.cell _ k0
              have z1 := bg.cell _ k1
              have z2 := bg.cell _ k2
              have z3 := bg.cell _ k3
              have p0 := hRI.b12.cell 0 rfl
              have p1 := hRI.b12.cell 1 rfl
              have p2 := hRI.b12.cell 2 rfl
              have pf := hRI.b12.frozen 1
              have hlp : 0 < l + 1 := by omega
              have hne1 : ¬ pr = p12 := by omega
              have hne2 : ¬ p12 = pr := by omega
              have hlt := hRI.lt
              have r_l := hRI.br.lt
              have bg_l := bg.lt
              have hne3 : ¬ p12 = Wc.heap.size := by omega
              have hne4 : ¬ pr = Wc.heap.size := by omega
              have hne5 : ¬ Wc.heap.size = pr := by omega
              have hne6 : ¬ Wc.heap.size = p12 := by omega
              replace hst := Lib.hid hst
              replace hRI := Lib.hid hRI
              replace hok := Lib.hid hok
              replace nx := Lib.hid nx
              replace ny := Lib.hid ny
              replace nz := Lib.hid nz
              replace na := Lib.hid na
              replace nb := Lib.hid nb
              replace nc := Lib.hid nc
              replace hnv := Lib.hid hnv
              replace hbo := Lib.hid hbo
              replace hsb := Lib.hid hsb
              replace hbest := Lib.hid hbest
              clear hmi hby hnext hnext0 hg bg k0 k1 k2 k3
              go_wp2_with fail
              refine (rmay_calls _ _ _ _).mono ?_
              rintro e W3 ⟨rfl, hb⟩
              have hsub : p3 < p12 := by omega
              have hst3 := Lib.hid (hst.out.down hb hsub)
              clear hb hst hRI
              try clear r0 r1 r2
              try clear z0 z1 z2 z3
              try clear p0 p1 p2
              try clear rf pf r_l bg_l hlt hne3 hne4 hne5 hne6
              obtain ⟨ok, hokv⟩ : ∃ b, mayB s.x nv s.z = b := ⟨_, rfl⟩
              rw [hokv]
              have hsok := Lib.hid (hok.out.trans hokv)
              replace hokv := Lib.hid hokv
              cases ok with
              | false =>
                go_wp2_with fail
                try rw [Exit.noGoto_ret]
                go_ret2
                have hw' := hw.out
                rw [wayL, if_neg (by rw [hsok.out]; exact Bool.false_ne_true), List.append_nil] at hw'
                refine ⟨_, by rw [hE.out]; rfl, ?_, hp3 ▸ hst3.out.below⟩
                rw [hP.out, hw', hp3]
                exact owns_mono hst3.out.own (by omega)
              | true =>
                have b12' : Blk W3 p12 (V3 s.x nv s.z) 23 := by have h := hst3.out.b12; rw [nx.out, hnv.out, nz.out] at h; exact h
                have p0 := b12'.cell 0 rfl
                have p1 := b12'.cell 1 rfl
                have p2 := b12'.cell 2 rfl
                obtain ⟨i0, hi, hz0, hz1, hz2⟩ := info_parts info_place
                have q1 : Try.prog.underlying 25 = some (.slice 23) := by kernel_rfl
                have q2 : 0 < 3 := by decide
                have hst4 := Lib.hid (hst3.out.down ((Below.refl _ _).alloc (Nat.le_refl _) (.cells #[.int .i64 s.x, .int .i64 nv, .int .i64 s.z] 23)) hsub)
                have hl3 : p12 < W3.heap.size := hst3.out.lt
                replace b12' := Lib.hid b12'
                go_wp2_with (at_builtin; refine wpList_append_own _ rfl _ _ 25 rfl (p12 + 1) 23 i0 (.agg #[.int .i64 0, .int .i64 0, .int .i64 0]) 3 24 q1 hi hz0 hz1 hz2 rfl q2 _ _ _ rfl hst4.out.own ⟨W3.heap.size, 0, none⟩ 1 1 (V3 s.x nv s.z) rfl rfl ?c1_1_1 ?c2_1_1 ?c3_1_1 ?c4_1_1 ?c5_1_1 ?c6_1_1)
                case c1_1_1 => exact blk_news (Blk.new W3 _ _)
                case c2_1_1 => intro u hu; simp only [V3, List.mem_cons, List.not_mem_nil, or_false] at hu; rcases hu with rfl | rfl | rfl <;> rfl
                case c3_1_1 => unfold maxLen; omega
                case c4_1_1 => omega
                case c5_1_1 => simp; omega
                case c6_1_1 =>
                  intro v' W4 hown' hgrow hnil
                  have hst5 := Lib.hid (hst4.out.grow (pre' := pre ++ [((s.next d0 d1 d2).x, (s.next d0 d1 d2).y, (s.next d0 d1 d2).z)]) hgrow (by rw [cellsP_snoc, nx.out, hnv.out, nz.out, List.length_append]; exact hown') (Nat.le_of_lt o1) o2)
                  obtain ⟨va', vc', rfl⟩ := owns_form hown'
                  clear hgrow hnil hown' p0 p1 p2 hst4 hst3
                  go_wp2_with fail
                  have hw' := hw.out
                  rw [wayL, if_pos hsok.out] at hw'
                  have hbo' := hbo.out
                  have na' := na.out
                  have nb' := nb.out
                  have nc' := nc.out
                  refine ⟨⟨pre ++ [((s.next d0 d1 d2).x, (s.next d0 d1 d2).y, (s.next d0 d1 d2).z)], m, s.next d0 d1 d2, _, _, _, by rw [hw']; simp, by have := hl2.out; simp; omega, ?_, ?_, hst5.out⟩, ?_⟩
                  · rw [nx.out, hnv.out, nz.out]; exact hokv.out
                  · rw [List.length_append]; simp only [List.length_cons, List.length_nil]; omega
                  · show N - (pre.length + 1) < N - pre.length; omega
          · rw [hbest, show rmap 2 = 1 from rfl]
            obtain ⟨g, q, l, c, cs, rfl, hlc, hg, bg, k0, k1, k2, k3, hnext, hnext0⟩ := hh1 hp
            clear hh0 hh1 hh2
            rcases Nat.eq_zero_or_pos c with hcz | hcz
            · obtain rfl : l = 0 := by omega
              subst hcz
              obtain ⟨A0, L0, D0, rfl⟩ := hRI.h0.form
              obtain ⟨A2, L2, D2, rfl⟩ := hRI.h2.form
              have hsb : s.best d0 d1 d2 = 2 := by unfold RS.best; rw [ht0.out, ht1.out, ht2.out]; exact hbest
              obtain ⟨nx, ny, nz, na, nb, nc⟩ := next_z hsb
              have hok := ok_may (d0 := d0) (d1 := d1) (d2 := d2) hms.out
              have hmi := mayB_iff.1 hms.out
              have hby : byI d2 = -1 ∨ byI d2 = 1 := by unfold byI; split <;> simp
              have v0 : IntKind.i64.wrap (s.z + byI d2) = (s.next d0 d1 d2).z := by rw [nz]; exact IntWalk.i64_in _ (by omega)
              obtain ⟨nv, hnv⟩ : ∃ nv, (s.next d0 d1 d2).z = nv := ⟨_, rfl⟩
              rw [hnv] at v0
              rw [nx, ny, hnv] at hok
              have hst := hRI.step (s' := s.next d0 d1 d2) (Nat.le_of_lt o1) o2 (.cells #[.int .i64 1, .int .i64 (byI d2), .int .i64 s.c, .int .i64 (2 * sizeI d2)] 48) 1 2 (.slice (some ⟨g, q, none⟩) 0 0) (.int .i64 nv) rfl (by rw [nx, ny, hnv]; rfl) (fun W' kk => by rw [na]; exact hRI.h0.down kk) (fun W' kk => by rw [nc]; exact hnext0 rfl W' _ _) (fun W' kk => by rw [nb]; exact hRI.h2.down kk)
              rw [ht2.out] at k3 hst
              have r0 := hRI.br.cell 0 rfl
              have r1 := hRI.br.cell 1 rfl
              have r2 := hRI.br.cell 2 rfl
              have rf := hRI.br.frozen 1
              have z0 := bg.cell _ k0
              have z1 := bg.cell _ k1
              have z2 := bg.cell _ k2
              have z3 := bg.cell _ k3
              have p0 := hRI.b12.cell 0 rfl
              have p1 := hRI.b12.cell 1 rfl
              have p2 := hRI.b12.cell 2 rfl
              have pf := hRI.b12.frozen 2
              have hne1 : ¬ pr = p12 := by omega
              have hne2 : ¬ p12 = pr := by omega
              have hlt := hRI.lt
              have r_l := hRI.br.lt
              have bg_l := bg.lt
              have hne3 : ¬ p12 = Wc.heap.size := by omega
              have hne4 : ¬ pr = Wc.heap.size := by omega
              have hne5 : ¬ Wc.heap.size = pr := by omega
              have hne6 : ¬ Wc.heap.size = p12 := by omega
              replace hst := Lib.hid hst
              replace hRI := Lib.hid hRI
              replace hok := Lib.hid hok
              replace nx := Lib.hid nx
              replace ny := Lib.hid ny
              replace nz := Lib.hid nz
              replace na := Lib.hid na
              replace nb := Lib.hid nb
              replace nc := Lib.hid nc
              replace hnv := Lib.hid hnv
              replace hbo := Lib.hid hbo
              replace hsb := Lib.hid hsb
              replace hbest := Lib.hid hbest
              clear hmi hby hnext hnext0 hg bg k0 k1 k2 k3
              go_wp2_with fail
              refine (rmay_calls _ _ _ _).mono ?_
              rintro e W3 ⟨rfl, hb⟩
              have hsub : p3 < p12 := by omega
              have hst3 := Lib.hid (hst.out.down hb hsub)
              clear hb hst hRI
              try clear r0 r1 r2
              try clear z0 z1 z2 z3
              try clear p0 p1 p2
              try clear rf pf r_l bg_l hlt hne3 hne4 hne5 hne6
              obtain ⟨ok, hokv⟩ : ∃ b, mayB s.x s.y nv = b := ⟨_, rfl⟩
              rw [hokv]
              have hsok := Lib.hid (hok.out.trans hokv)
              replace hokv := Lib.hid hokv
              cases ok with
              | false =>
                go_wp2_with fail
                try rw [Exit.noGoto_ret]
                go_ret2
                have hw' := hw.out
                rw [wayL, if_neg (by rw [hsok.out]; exact Bool.false_ne_true), List.append_nil] at hw'
                refine ⟨_, by rw [hE.out]; rfl, ?_, hp3 ▸ hst3.out.below⟩
                rw [hP.out, hw', hp3]
                exact owns_mono hst3.out.own (by omega)
              | true =>
                have b12' : Blk W3 p12 (V3 s.x s.y nv) 23 := by have h := hst3.out.b12; rw [nx.out, ny.out, hnv.out] at h; exact h
                have p0 := b12'.cell 0 rfl
                have p1 := b12'.cell 1 rfl
                have p2 := b12'.cell 2 rfl
                obtain ⟨i0, hi, hz0, hz1, hz2⟩ := info_parts info_place
                have q1 : Try.prog.underlying 25 = some (.slice 23) := by kernel_rfl
                have q2 : 0 < 3 := by decide
                have hst4 := Lib.hid (hst3.out.down ((Below.refl _ _).alloc (Nat.le_refl _) (.cells #[.int .i64 s.x, .int .i64 s.y, .int .i64 nv] 23)) hsub)
                have hl3 : p12 < W3.heap.size := hst3.out.lt
                replace b12' := Lib.hid b12'
                go_wp2_with (at_builtin; refine wpList_append_own _ rfl _ _ 25 rfl (p12 + 1) 23 i0 (.agg #[.int .i64 0, .int .i64 0, .int .i64 0]) 3 24 q1 hi hz0 hz1 hz2 rfl q2 _ _ _ rfl hst4.out.own ⟨W3.heap.size, 0, none⟩ 1 1 (V3 s.x s.y nv) rfl rfl ?c1_2_0 ?c2_2_0 ?c3_2_0 ?c4_2_0 ?c5_2_0 ?c6_2_0)
                case c1_2_0 => exact blk_news (Blk.new W3 _ _)
                case c2_2_0 => intro u hu; simp only [V3, List.mem_cons, List.not_mem_nil, or_false] at hu; rcases hu with rfl | rfl | rfl <;> rfl
                case c3_2_0 => unfold maxLen; omega
                case c4_2_0 => omega
                case c5_2_0 => simp; omega
                case c6_2_0 =>
                  intro v' W4 hown' hgrow hnil
                  have hst5 := Lib.hid (hst4.out.grow (pre' := pre ++ [((s.next d0 d1 d2).x, (s.next d0 d1 d2).y, (s.next d0 d1 d2).z)]) hgrow (by rw [cellsP_snoc, nx.out, ny.out, hnv.out, List.length_append]; exact hown') (Nat.le_of_lt o1) o2)
                  obtain ⟨va', vc', rfl⟩ := owns_form hown'
                  clear hgrow hnil hown' p0 p1 p2 hst4 hst3
                  go_wp2_with fail
                  have hw' := hw.out
                  rw [wayL, if_pos hsok.out] at hw'
                  have hbo' := hbo.out
                  have na' := na.out
                  have nb' := nb.out
                  have nc' := nc.out
                  refine ⟨⟨pre ++ [((s.next d0 d1 d2).x, (s.next d0 d1 d2).y, (s.next d0 d1 d2).z)], m, s.next d0 d1 d2, _, _, _, by rw [hw']; simp, by have := hl2.out; simp; omega, ?_, ?_, hst5.out⟩, ?_⟩
                  · rw [nx.out, ny.out, hnv.out]; exact hokv.out
                  · rw [List.length_append]; simp only [List.length_cons, List.length_nil]; omega
                  · show N - (pre.length + 1) < N - pre.length; omega
            · obtain ⟨c, rfl⟩ : ∃ c', c = c' + 1 := ⟨c - 1, by omega⟩
              clear hcz
              obtain ⟨A0, L0, D0, rfl⟩ := hRI.h0.form
              obtain ⟨A2, L2, D2, rfl⟩ := hRI.h2.form
              have hsb : s.best d0 d1 d2 = 2 := by unfold RS.best; rw [ht0.out, ht1.out, ht2.out]; exact hbest
              obtain ⟨nx, ny, nz, na, nb, nc⟩ := next_z hsb
              have hok := ok_may (d0 := d0) (d1 := d1) (d2 := d2) hms.out
              have hmi := mayB_iff.1 hms.out
              have hby : byI d2 = -1 ∨ byI d2 = 1 := by unfold byI; split <;> simp
              have v0 : IntKind.i64.wrap (s.z + byI d2) = (s.next d0 d1 d2).z := by rw [nz]; exact IntWalk.i64_in _ (by omega)
              obtain ⟨nv, hnv⟩ : ∃ nv, (s.next d0 d1 d2).z = nv := ⟨_, rfl⟩
              rw [hnv] at v0
              rw [nx, ny, hnv] at hok
              have hst := hRI.step (s' := s.next d0 d1 d2) (Nat.le_of_lt o1) o2 (.cells #[.int .i64 1, .int .i64 (byI d2), .int .i64 s.c, .int .i64 (2 * sizeI d2)] 48) 1 2 (.slice (some ⟨g, q + 4, none⟩) l (c + 1)) (.int .i64 nv) rfl (by rw [nx, ny, hnv]; rfl) (fun W' kk => by rw [na]; exact hRI.h0.down kk) (fun W' kk => by rw [nc]; exact hnext W' (kk _ _ hg bg)) (fun W' kk => by rw [nb]; exact hRI.h2.down kk)
              rw [ht2.out] at k3 hst
              have r0 := hRI.br.cell 0 rfl
              have r1 := hRI.br.cell 1 rfl
              have r2 := hRI.br.cell 2 rfl
              have rf := hRI.br.frozen 1
              have z0 := bg.cell _ k0
              have z1 := bg.cell _ k1
              have z2 := bg.cell _ k2
              have z3 := bg.cell _ k3
              have p0 := hRI.b12.cell 0 rfl
              have p1 := hRI.b12.cell 1 rfl
              have p2 := hRI.b12.cell 2 rfl
              have pf := hRI.b12.frozen 2
              have hlp : 0 < l + 1 := by omega
              have hne1 : ¬ pr = p12 := by omega
              have hne2 : ¬ p12 = pr := by omega
              have hlt := hRI.lt
              have r_l := hRI.br.lt
              have bg_l := bg.lt
              have hne3 : ¬ p12 = Wc.heap.size := by omega
              have hne4 : ¬ pr = Wc.heap.size := by omega
              have hne5 : ¬ Wc.heap.size = pr := by omega
              have hne6 : ¬ Wc.heap.size = p12 := by omega
              replace hst := Lib.hid hst
              replace hRI := Lib.hid hRI
              replace hok := Lib.hid hok
              replace nx := Lib.hid nx
              replace ny := Lib.hid ny
              replace nz := Lib.hid nz
              replace na := Lib.hid na
              replace nb := Lib.hid nb
              replace nc := Lib.hid nc
              replace hnv := Lib.hid hnv
              replace hbo := Lib.hid hbo
              replace hsb := Lib.hid hsb
              replace hbest := Lib.hid hbest
              clear hmi hby hnext hnext0 hg bg k0 k1 k2 k3
              go_wp2_with fail
              refine (rmay_calls _ _ _ _).mono ?_
              rintro e W3 ⟨rfl, hb⟩
              have hsub : p3 < p12 := by omega
              have hst3 := Lib.hid (hst.out.down hb hsub)
              clear hb hst hRI
              try clear r0 r1 r2
              try clear z0 z1 z2 z3
              try clear p0 p1 p2
              try clear rf pf r_l bg_l hlt hne3 hne4 hne5 hne6
              obtain ⟨ok, hokv⟩ : ∃ b, mayB s.x s.y nv = b := ⟨_, rfl⟩
              rw [hokv]
              have hsok := Lib.hid (hok.out.trans hokv)
              replace hokv := Lib.hid hokv
              cases ok with
              | false =>
                go_wp2_with fail
                try rw [Exit.noGoto_ret]
                go_ret2
                have hw' := hw.out
                rw [wayL, if_neg (by rw [hsok.out]; exact Bool.false_ne_true), List.append_nil] at hw'
                refine ⟨_, by rw [hE.out]; rfl, ?_, hp3 ▸ hst3.out.below⟩
                rw [hP.out, hw', hp3]
                exact owns_mono hst3.out.own (by omega)
              | true =>
                have b12' : Blk W3 p12 (V3 s.x s.y nv) 23 := by have h := hst3.out.b12; rw [nx.out, ny.out, hnv.out] at h; exact h
                have p0 := b12'.cell 0 rfl
                have p1 := b12'.cell 1 rfl
                have p2 := b12'.cell 2 rfl
                obtain ⟨i0, hi, hz0, hz1, hz2⟩ := info_parts info_place
                have q1 : Try.prog.underlying 25 = some (.slice 23) := by kernel_rfl
                have q2 : 0 < 3 := by decide
                have hst4 := Lib.hid (hst3.out.down ((Below.refl _ _).alloc (Nat.le_refl _) (.cells #[.int .i64 s.x, .int .i64 s.y, .int .i64 nv] 23)) hsub)
                have hl3 : p12 < W3.heap.size := hst3.out.lt
                replace b12' := Lib.hid b12'
                go_wp2_with (at_builtin; refine wpList_append_own _ rfl _ _ 25 rfl (p12 + 1) 23 i0 (.agg #[.int .i64 0, .int .i64 0, .int .i64 0]) 3 24 q1 hi hz0 hz1 hz2 rfl q2 _ _ _ rfl hst4.out.own ⟨W3.heap.size, 0, none⟩ 1 1 (V3 s.x s.y nv) rfl rfl ?c1_2_1 ?c2_2_1 ?c3_2_1 ?c4_2_1 ?c5_2_1 ?c6_2_1)
                case c1_2_1 => exact blk_news (Blk.new W3 _ _)
                case c2_2_1 => intro u hu; simp only [V3, List.mem_cons, List.not_mem_nil, or_false] at hu; rcases hu with rfl | rfl | rfl <;> rfl
                case c3_2_1 => unfold maxLen; omega
                case c4_2_1 => omega
                case c5_2_1 => simp; omega
                case c6_2_1 =>
                  intro v' W4 hown' hgrow hnil
                  have hst5 := Lib.hid (hst4.out.grow (pre' := pre ++ [((s.next d0 d1 d2).x, (s.next d0 d1 d2).y, (s.next d0 d1 d2).z)]) hgrow (by rw [cellsP_snoc, nx.out, ny.out, hnv.out, List.length_append]; exact hown') (Nat.le_of_lt o1) o2)
                  obtain ⟨va', vc', rfl⟩ := owns_form hown'
                  clear hgrow hnil hown' p0 p1 p2 hst4 hst3
                  go_wp2_with fail
                  have hw' := hw.out
                  rw [wayL, if_pos hsok.out] at hw'
                  have hbo' := hbo.out
                  have na' := na.out
                  have nb' := nb.out
                  have nc' := nc.out
                  refine ⟨⟨pre ++ [((s.next d0 d1 d2).x, (s.next d0 d1 d2).y, (s.next d0 d1 d2).z)], m, s.next d0 d1 d2, _, _, _, by rw [hw']; simp, by have := hl2.out; simp; omega, ?_, ?_, hst5.out⟩, ?_⟩
                  · rw [nx.out, ny.out, hnv.out]; exact hokv.out
                  · rw [List.length_append]; simp only [List.length_cons, List.length_nil]; omega
                  · show N - (pre.length + 1) < N - pre.length; omega
end Go.Proofs.Ytdhanigngoniiaa
