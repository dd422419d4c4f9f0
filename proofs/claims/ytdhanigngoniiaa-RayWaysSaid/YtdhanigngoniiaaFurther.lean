/-
  A longer way begins with a shorter one; a direction three times as long has the same: RayFurther gives true.
-/
import Derived.Test.YtdhanigngoniiaaGoes
namespace Go.Proofs.Ytdhanigngoniiaa
open Go.RowKit
set_option linter.unusedSimpArgs false
set_option linter.unusedVariables false

theorem row_at {W : World} {base n c k : Nat} {a : Option Addr} {L : List (Int × Int × Int)} {p : Int × Int × Int} (h : W.ownsRow base 23 3 (.slice a n c) L.length (cellsP L)) (hk : L[k]? = some p) :
    ∃ g, a = some ⟨g, 0, none⟩ ∧ W.cell? ⟨g, k * 3, none⟩ = some (.int .i64 p.1) ∧ W.cell? ⟨g, k * 3 + 1, none⟩ = some (.int .i64 p.2.1) ∧ W.cell? ⟨g, k * 3 + 2, none⟩ = some (.int .i64 p.2.2) := by
  have hlt : k < L.length := (List.getElem?_eq_some_iff.1 hk).1
  obtain ⟨_, h⟩ | ⟨g, cap, cs, hv, hg, hb, hc⟩ := own_cases h
  · subst h; cases hk
  · obtain ⟨c0, c1, c2⟩ := cellsP_at hk
    refine ⟨g, by injection hv, hb.cell _ ((hc _ (by omega)).trans c0), hb.cell _ ((hc _ (by omega)).trans c1), hb.cell _ ((hc _ (by omega)).trans c2)⟩

theorem owns_len {W : World} {base n m c : Nat} {a : Option Addr} {xs : List Value} (h : W.ownsRow base 23 3 (.slice a n c) m xs) : n = m := by
  rcases h.2 with ⟨h1, h2⟩ | ⟨g, cap, cur, hv, _⟩
  · injection h1; omega
  · injection hv

theorem wayE_zero {x y z d0 d1 d2 n : Int} (h : wayE x y z d0 d1 d2 n = 0) : 0 ≤ n ∧ n ≤ 256 ∧ (-1000 ≤ d0 ∧ d0 ≤ 1000) ∧ (-1000 ≤ d1 ∧ d1 ≤ 1000) ∧ (-1000 ≤ d2 ∧ d2 ≤ 1000) ∧ ¬ (d0 = 0 ∧ d1 = 0 ∧ d2 = 0) ∧ mayB x y z = true := by
  unfold wayE at h
  split at h
  · split at h
    · omega
    · rename_i hm _
      exact ⟨by omega, by omega, by omega, by omega, by omega, by omega, hm⟩
  · omega

theorem wayP_zero {x y z d0 d1 d2 n : Int} (h : wayE x y z d0 d1 d2 n = 0) : wayP x y z d0 d1 d2 n = wayL d0 d1 d2 n.toNat (start x y z) := by unfold wayP; rw [if_pos h]

set_option maxRecDepth 100000 in
set_option maxHeartbeats 8000000 in
theorem further_walk (x y z d0 d1 d2 n m : Int) (w : World) :
    Calls Try.prog 6 #[.agg #[.int .i64 x, .int .i64 y, .int .i64 z], .agg #[.int .i64 d0, .int .i64 d1, .int .i64 d2], .int .i64 n, .int .i64 m] w fun e w' => e = .returned (.bool true) ∧ Below w.heap.size w w' := by
  go_enter Try.func6, Try.ntmps6
  go_wp2_with fail
  refine (way_calls x y z d0 d1 d2 n _).mono ?_
  rintro e w1 ⟨v1, rfl, ho1, hb⟩
  have HB := Lib.hid (below_step (((Below.refl w.heap.size w).alloc (by first | exact Nat.le_refl _ | (simp; done) | (simp; omega) | omega) _).alloc (by first | exact Nat.le_refl _ | (simp; done) | (simp; omega) | omega) _) (by first | exact Nat.le_refl _ | (simp; done) | (simp; omega) | omega) hb)
  have b0 := ((Blk.new_at (w := w) (n := w.heap.size) #[.int .i64 x, .int .i64 y, .int .i64 z] 23 (by simp)).alloc (.cells #[.int .i64 d0, .int .i64 d1, .int .i64 d2] 24)).below hb (by first | exact Nat.le_refl _ | (simp; done) | (simp; omega) | omega)
  have b1 := (Blk.new_at (w := (w.alloc (.cells #[.int .i64 x, .int .i64 y, .int .i64 z] 23))) (n := w.heap.size + 1) #[.int .i64 d0, .int .i64 d1, .int .i64 d2] 24 (by simp)).below hb (by first | exact Nat.le_refl _ | (simp; done) | (simp; omega) | omega)
  clear hb
  have b0_l := b0.lt
  have b0_0 := b0.cell 0 rfl
  have b0_1 := b0.cell 1 rfl
  have b0_2 := b0.cell 2 rfl
  have b1_l := b1.lt
  have b1_0 := b1.cell 0 rfl
  have b1_1 := b1.cell 1 rfl
  have b1_2 := b1.cell 2 rfl
  obtain ⟨a1, c1, rfl⟩ := owns_form ho1
  go_wp2_with fail
  clear b0_l b0_0 b0_1 b0_2
  clear b1_l b1_0 b1_1 b1_2
  refine (way_calls x y z d0 d1 d2 m _).mono ?_
  rintro e w2 ⟨v2, rfl, ho2, hb⟩
  obtain ⟨a2, c2, rfl⟩ := owns_form ho2
  replace ho1 := owns_below ho1 hb
  replace b0 := b0.below hb b0.lt
  replace b1 := b1.below hb b1.lt
  replace HB := Lib.hid (below_step HB.out HB.out.size hb)
  clear hb
  have z0 := b0.lt
  generalize w.heap.size + 1 = p1 at *
  obtain ⟨l1, hl1⟩ : ∃ l, (wayP x y z d0 d1 d2 n).length = l := ⟨_, rfl⟩
  obtain ⟨l2, hl2⟩ : ∃ l, (wayP x y z d0 d1 d2 m).length = l := ⟨_, rfl⟩
  obtain ⟨r1, hr1⟩ : ∃ r, wayE x y z d0 d1 d2 n = r := ⟨_, rfl⟩
  obtain ⟨r2, hr2⟩ : ∃ r, wayE x y z d0 d1 d2 m = r := ⟨_, rfl⟩
  by_cases hE : r1 = 0 ∧ r2 = 0
  · obtain ⟨rfl, rfl⟩ := hE
    have hq := wayE_zero hr1
    have hq2 := wayE_zero hr2
    obtain ⟨k1, k2, k3, k4, k5, k6, k7⟩ := hq
    obtain ⟨k8, k9, _⟩ := hq2
    rw [wayP_zero hr1] at hl1 ho1
    rw [wayP_zero hr2] at hl2 ho2
    rw [wayP_zero hr1, wayP_zero hr2, hr1, hr2, hl1, hl2]
    obtain ⟨N, rfl⟩ : ∃ N : Nat, n = N := ⟨n.toNat, by omega⟩
    obtain ⟨M, rfl⟩ : ∃ M : Nat, m = M := ⟨m.toNat, by omega⟩
    simp only [Int.toNat_natCast] at hl1 ho1 hl2 ho2
    have hsame : ∀ (k : Nat), k ≤ 256 → IntKind.i64.wrap (3 * d0) = 3 * d0 ∧ IntKind.i64.wrap (3 * d1) = 3 * d1 ∧ IntKind.i64.wrap (3 * d2) = 3 * d2 := fun k _ => ⟨IntWalk.i64_in _ (by omega), IntWalk.i64_in _ (by omega), IntWalk.i64_in _ (by omega)⟩
    obtain ⟨e0, e1, e2⟩ := hsame 0 (by omega)
    clear hsame
    replace e0 := Lib.hid e0
    replace e1 := Lib.hid e1
    replace e2 := Lib.hid e2
    replace hr1 := Lib.hid hr1
    replace hr2 := Lib.hid hr2
    replace ho1 := Lib.hid ho1
    replace ho2 := Lib.hid ho2
    replace hl1 := Lib.hid hl1
    replace hl2 := Lib.hid hl2
    rcases Nat.lt_or_ge M N with hMN | hMN
    · have hmn : M ≤ N := by omega
      have g1 : l2 ≤ l1 := by
        rw [← hl2.out, ← hl1.out, wayL_take d0 d1 d2 M N _ hmn, List.length_take]; omega
      have g2 : l2 < M → l1 = l2 := fun h => by
        rw [← hl1.out, wayL_short d0 d1 d2 M N _ hmn (by rw [hl2.out]; exact h), hl2.out]
      have g3 : l2 ≤ M := by rw [← hl2.out]; exact wayL_le _ _ _ _ _
      have g4 : l1 ≤ N := by rw [← hl1.out]; exact wayL_le _ _ _ _ _
      have hAB : ∀ k p, (wayL d0 d1 d2 M (start x y z))[k]? = some p → (wayL d0 d1 d2 N (start x y z))[k]? = some p := fun k p h => by
        rw [wayL_take d0 d1 d2 M N _ hmn, List.getElem?_take] at h
        split at h
        · exact h
        · cases h
      rcases (by omega : l2 < M ∧ l1 = l2 ∨ l2 = M) with ⟨g5, g6⟩ | g5
      all_goals
        go_wp2_with fail
        go_loopw [13] (fun i W => ∃ k : Nat, k ≤ l2 ∧ i = .int .i64 k ∧ ∃ q, W = w2.drewN q) (fun i _ => l2 - (intOf i).toNat)
        case atStart => exact ⟨0, by omega, rfl, 0, rfl⟩
        case round =>
          obtain ⟨k, hk, rfl, q, rfl⟩ := hrel
          by_cases hkn : k = l2
          · rw [hkn]
            clear hkn hk
            have hB0 := b0.drewN q
            have hB1 := b1.drewN q
            have hHB := below_drewN HB.out q
            have hob := owns_drewN ho1.out q
            generalize w2.drewN q = W at *
            replace hHB := Lib.hid hHB
            replace hob := Lib.hid hob
            have hB0_l := hB0.lt
            have hB0_0 := hB0.cell 0 rfl
            have hB0_1 := hB0.cell 1 rfl
            have hB0_2 := hB0.cell 2 rfl
            have hB1_l := hB1.lt
            have hB1_0 := hB1.cell 0 rfl
            have hB1_1 := hB1.cell 1 rfl
            have hB1_2 := hB1.cell 2 rfl
            have e0 := e0.out
            have e1 := e1.out
            have e2 := e2.out
            have hWs := hHB.out.size
            go_wp2_with fail
            refine (way_calls x y z (3 * d0) (3 * d1) (3 * d2) _ _).mono ?_
            rintro e w3 ⟨v3, rfl, ho3, hb⟩
            obtain ⟨a3, c3, rfl⟩ := owns_form ho3
            clear hB0_l hB0_0 hB0_1 hB0_2
            clear hB1_l hB1_0 hB1_1 hB1_2
            clear e0 e1 e2
            have hHB3 := Lib.hid (below_step hHB.out hWs hb)
            by_cases h3 : wayE x y z (3 * d0) (3 * d1) (3 * d2) (N : Int) = 0
            · rw [wayP_zero h3, wayL_three, Int.toNat_natCast] at ho3
              rw [wayP_zero h3, wayL_three, Int.toNat_natCast, h3, hl1.out]
              have hob3 := Lib.hid (owns_below hob.out hb)
              replace ho3 := Lib.hid ho3
              clear hb h3 hob
              go_wp2_with fail
              go_loopw [16] (fun i W' => ∃ k : Nat, k ≤ l1 ∧ i = .int .i64 k ∧ ∃ q, W' = w3.drewN q) (fun i _ => l1 - (intOf i).toNat)
              case atStart => exact ⟨0, by omega, rfl, 0, rfl⟩
              case round =>
                obtain ⟨k, hk, rfl, q, rfl⟩ := hrel
                by_cases hkn : k = l1
                · rw [hkn]
                  clear hkn hk
                  go_wp2_with fail
                  refine (awake_calls _).mono ?_
                  rintro e w4 ⟨rfl, hb⟩
                  have hHB4 := below_step (below_drewN hHB3.out q) (below_drewN hHB3.out q).size hb
                  go_wp2_with fail
                  try rw [Exit.noGoto_ret]
                  go_ret
                  exact ⟨rfl, hHB4⟩
                · have hk' : k < l1 := by omega
                  clear hkn
                  obtain ⟨⟨px, py, pz⟩, hp⟩ : ∃ p, (wayL d0 d1 d2 N (start x y z))[k]? = some p := ⟨_, List.getElem?_eq_getElem (by rw [hl1.out]; exact hk')⟩
                  have ho3' := ho3.out
                  have hob3' := hob3.out
                  obtain ⟨ga, rfl, y0, y1, y2⟩ := row_at ho3' hp
                  obtain ⟨gb, rfl, x0, x1, x2⟩ := row_at hob3' hp
                  clear ho3' hob3'
                  replace hp := Lib.hid hp
                  simp only at y0 y1 y2 x0 x1 x2
                  go_wp2_with fail
                  go_quiet (fail)
                  go_wp2_with fail
                  exact ⟨⟨k + 1, by omega, rfl, q + nq, rfl⟩, by simp [intOf]; omega⟩
            · obtain ⟨r3, hr3⟩ : ∃ r, wayE x y z (3 * d0) (3 * d1) (3 * d2) (N : Int) = r := ⟨_, rfl⟩
              obtain ⟨l3, hl3⟩ : ∃ r, (wayP x y z (3 * d0) (3 * d1) (3 * d2) (N : Int)).length = r := ⟨_, rfl⟩
              rw [hr3, hl3]
              rw [hr3] at h3
              replace hr3 := Lib.hid hr3
              clear hl3 hb ho3
              go_wp2_with fail
              refine (awake_calls _).mono ?_
              rintro e w4 ⟨rfl, hb⟩
              have hHB4 := below_step hHB3.out hHB3.out.size hb
              go_wp2_with fail
              try rw [Exit.noGoto_ret]
              go_ret
              exact ⟨rfl, hHB4⟩
          · have hk' : k < l2 := by omega
            clear hkn
            obtain ⟨⟨px, py, pz⟩, hp⟩ : ∃ p, (wayL d0 d1 d2 M (start x y z))[k]? = some p := ⟨_, List.getElem?_eq_getElem (by rw [hl2.out]; exact hk')⟩
            have hpb := hAB _ _ hp
            have hoa := ho2.out
            have hob := ho1.out
            obtain ⟨ga, rfl, y0, y1, y2⟩ := row_at hoa hp
            obtain ⟨gb, rfl, x0, x1, x2⟩ := row_at hob hpb
            clear hoa hob
            replace hp := Lib.hid hp
            replace hpb := Lib.hid hpb
            have hkb : k < l1 := by omega
            simp only at y0 y1 y2 x0 x1 x2
            go_wp2_with fail
            go_quiet (fail)
            go_wp2_with fail
            exact ⟨⟨k + 1, by omega, rfl, q + nq, rfl⟩, by simp [intOf]; omega⟩
    · have hmn : N ≤ M := by omega
      have g1 : l1 ≤ l2 := by
        rw [← hl1.out, ← hl2.out, wayL_take d0 d1 d2 N M _ hmn, List.length_take]; omega
      have g2 : l1 < N → l2 = l1 := fun h => by
        rw [← hl2.out, wayL_short d0 d1 d2 N M _ hmn (by rw [hl1.out]; exact h), hl1.out]
      have g3 : l1 ≤ N := by rw [← hl1.out]; exact wayL_le _ _ _ _ _
      have g4 : l2 ≤ M := by rw [← hl2.out]; exact wayL_le _ _ _ _ _
      have hAB : ∀ k p, (wayL d0 d1 d2 N (start x y z))[k]? = some p → (wayL d0 d1 d2 M (start x y z))[k]? = some p := fun k p h => by
        rw [wayL_take d0 d1 d2 N M _ hmn, List.getElem?_take] at h
        split at h
        · exact h
        · cases h
      rcases (by omega : l1 < N ∧ l2 = l1 ∨ l1 = N) with ⟨g5, g6⟩ | g5
      all_goals
        go_wp2_with fail
        go_loopw [13] (fun i W => ∃ k : Nat, k ≤ l1 ∧ i = .int .i64 k ∧ ∃ q, W = w2.drewN q) (fun i _ => l1 - (intOf i).toNat)
        case atStart => exact ⟨0, by omega, rfl, 0, rfl⟩
        case round =>
          obtain ⟨k, hk, rfl, q, rfl⟩ := hrel
          by_cases hkn : k = l1
          · rw [hkn]
            clear hkn hk
            have hB0 := b0.drewN q
            have hB1 := b1.drewN q
            have hHB := below_drewN HB.out q
            have hob := owns_drewN ho2.out q
            generalize w2.drewN q = W at *
            replace hHB := Lib.hid hHB
            replace hob := Lib.hid hob
            have hB0_l := hB0.lt
            have hB0_0 := hB0.cell 0 rfl
            have hB0_1 := hB0.cell 1 rfl
            have hB0_2 := hB0.cell 2 rfl
            have hB1_l := hB1.lt
            have hB1_0 := hB1.cell 0 rfl
            have hB1_1 := hB1.cell 1 rfl
            have hB1_2 := hB1.cell 2 rfl
            have e0 := e0.out
            have e1 := e1.out
            have e2 := e2.out
            have hWs := hHB.out.size
            go_wp2_with fail
            refine (way_calls x y z (3 * d0) (3 * d1) (3 * d2) _ _).mono ?_
            rintro e w3 ⟨v3, rfl, ho3, hb⟩
            obtain ⟨a3, c3, rfl⟩ := owns_form ho3
            clear hB0_l hB0_0 hB0_1 hB0_2
            clear hB1_l hB1_0 hB1_1 hB1_2
            clear e0 e1 e2
            have hHB3 := Lib.hid (below_step hHB.out hWs hb)
            by_cases h3 : wayE x y z (3 * d0) (3 * d1) (3 * d2) (M : Int) = 0
            · rw [wayP_zero h3, wayL_three, Int.toNat_natCast] at ho3
              rw [wayP_zero h3, wayL_three, Int.toNat_natCast, h3, hl2.out]
              have hob3 := Lib.hid (owns_below hob.out hb)
              replace ho3 := Lib.hid ho3
              clear hb h3 hob
              go_wp2_with fail
              go_loopw [16] (fun i W' => ∃ k : Nat, k ≤ l2 ∧ i = .int .i64 k ∧ ∃ q, W' = w3.drewN q) (fun i _ => l2 - (intOf i).toNat)
              case atStart => exact ⟨0, by omega, rfl, 0, rfl⟩
              case round =>
                obtain ⟨k, hk, rfl, q, rfl⟩ := hrel
                by_cases hkn : k = l2
                · rw [hkn]
                  clear hkn hk
                  go_wp2_with fail
                  refine (awake_calls _).mono ?_
                  rintro e w4 ⟨rfl, hb⟩
                  have hHB4 := below_step (below_drewN hHB3.out q) (below_drewN hHB3.out q).size hb
                  go_wp2_with fail
                  try rw [Exit.noGoto_ret]
                  go_ret
                  exact ⟨rfl, hHB4⟩
                · have hk' : k < l2 := by omega
                  clear hkn
                  obtain ⟨⟨px, py, pz⟩, hp⟩ : ∃ p, (wayL d0 d1 d2 M (start x y z))[k]? = some p := ⟨_, List.getElem?_eq_getElem (by rw [hl2.out]; exact hk')⟩
                  have ho3' := ho3.out
                  have hob3' := hob3.out
                  obtain ⟨ga, rfl, y0, y1, y2⟩ := row_at ho3' hp
                  obtain ⟨gb, rfl, x0, x1, x2⟩ := row_at hob3' hp
                  clear ho3' hob3'
                  replace hp := Lib.hid hp
                  simp only at y0 y1 y2 x0 x1 x2
                  go_wp2_with fail
                  go_quiet (fail)
                  go_wp2_with fail
                  exact ⟨⟨k + 1, by omega, rfl, q + nq, rfl⟩, by simp [intOf]; omega⟩
            · obtain ⟨r3, hr3⟩ : ∃ r, wayE x y z (3 * d0) (3 * d1) (3 * d2) (M : Int) = r := ⟨_, rfl⟩
              obtain ⟨l3, hl3⟩ : ∃ r, (wayP x y z (3 * d0) (3 * d1) (3 * d2) (M : Int)).length = r := ⟨_, rfl⟩
              rw [hr3, hl3]
              rw [hr3] at h3
              replace hr3 := Lib.hid hr3
              clear hl3 hb ho3
              go_wp2_with fail
              refine (awake_calls _).mono ?_
              rintro e w4 ⟨rfl, hb⟩
              have hHB4 := below_step hHB3.out hHB3.out.size hb
              go_wp2_with fail
              try rw [Exit.noGoto_ret]
              go_ret
              exact ⟨rfl, hHB4⟩
          · have hk' : k < l1 := by omega
            clear hkn
            obtain ⟨⟨px, py, pz⟩, hp⟩ : ∃ p, (wayL d0 d1 d2 N (start x y z))[k]? = some p := ⟨_, List.getElem?_eq_getElem (by rw [hl1.out]; exact hk')⟩
            have hpb := hAB _ _ hp
            have hoa := ho1.out
            have hob := ho2.out
            obtain ⟨ga, rfl, y0, y1, y2⟩ := row_at hoa hp
            obtain ⟨gb, rfl, x0, x1, x2⟩ := row_at hob hpb
            clear hoa hob
            replace hp := Lib.hid hp
            replace hpb := Lib.hid hpb
            have hkb : k < l2 := by omega
            simp only at y0 y1 y2 x0 x1 x2
            go_wp2_with fail
            go_quiet (fail)
            go_wp2_with fail
            exact ⟨⟨k + 1, by omega, rfl, q + nq, rfl⟩, by simp [intOf]; omega⟩
  · rw [hr1, hr2]
    have hE' : r1 ≠ 0 ∨ (r1 = 0 ∧ r2 ≠ 0) := by omega
    clear hE
    replace hr1 := Lib.hid hr1
    replace hr2 := Lib.hid hr2
    replace ho1 := Lib.hid ho1
    replace ho2 := Lib.hid ho2
    rcases hE' with hE' | ⟨rfl, hE'⟩
    all_goals
      go_wp2_with fail
      refine (awake_calls _).mono ?_
      rintro e w3 ⟨rfl, hb⟩
      replace HB := Lib.hid (below_step HB.out HB.out.size hb)
      go_wp2_with fail
      go_ret
      exact ⟨rfl, HB.out⟩
end Go.Proofs.Ytdhanigngoniiaa
