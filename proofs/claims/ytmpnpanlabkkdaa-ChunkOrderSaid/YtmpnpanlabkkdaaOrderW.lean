/-
  The walk of ChunkOrder.
-/
import Derived.Test.YtmpnpanlabkkdaaOrderV
namespace Go.Proofs.Ytmpnpanlabkkdaa
open Go.RowKit
set_option linter.unusedSimpArgs false
set_option linter.unusedVariables false

set_option maxRecDepth 100000 in
set_option maxHeartbeats 4000000 in
theorem order_walk (s : Value) (xs : List Ac) (w : World) (hx : ARow w s xs) :
    Calls Try.prog 6 #[s] w fun e w' => e = .returned (.bool true) ∧ Below w.heap.size w w' := by
  have haw := fun W => awake_calls W
  replace haw := Lib.hid haw
  obtain ⟨bs, cs, hs, hnc, hcm, hrow⟩ := hx.open
  clear hx
  subst hs
  obtain ⟨n, hnn⟩ : ∃ n, xs.length = n := ⟨_, rfl⟩
  rw [hnn] at hnc ⊢
  replace hnn := Lib.hid hnn
  replace hrow := Lib.hid hrow
  unfold maxLen at hcm
  by_cases hn : 300 < n
  · go_enter Try.func6, Try.ntmps6
    go_wp2_with fail
    refine (haw.out _).mono ?_
    rintro e w1 ⟨rfl, hb⟩
    replace hb := Lib.hid hb
    go_wp2_with fail
    go_ret
    exact ⟨rfl, hb.out⟩
  have hn' : decide (300 < (n : Int)) = false := by simp; omega
  have hnew := new_calls w
  have hst := KA.start w
  have hz1 : (w.alloc (.cells chunkZ 44)).heap.size = w.heap.size + 1 := by simp
  have hmk := make_due
  generalize madeCells #[.int .i64 0] 4096 = Z at *
  obtain ⟨W1, hW1⟩ : ∃ W1, w.alloc (.cells chunkZ 44) = W1 := ⟨_, rfl⟩
  rw [hW1] at hst hnew hz1
  clear hW1
  have hmk1 := hmk W1
  rw [hz1] at hmk1
  obtain ⟨W2, hW2⟩ : ∃ W2, W1.alloc (.cells Z 2) = W2 := ⟨_, rfl⟩
  rw [hW2] at hst hmk1
  clear hW2 hmk hz1
  replace hnew := Lib.hid hnew
  replace hst := Lib.hid hst
  have hfin : ∀ W, Below w.heap.size w W → W = W := fun _ _ => rfl
  clear hfin
  go_enter Try.func6, Try.ntmps6
  go_wp2_with fail
  refine hnew.out.mono ?_
  rintro e W3 ⟨rfl, rfl⟩
  clear hnew
  go_wp2_with fail
  clear hmk1
  go_loopw [5] (fun v W => ∃ (k : Nat) (ts : List Tk) (D : Nat → Int), k ≤ n ∧ v = .int .i64 k ∧ KA w W ts D ∧ Rise ts D) (fun v _ => n - (intOf v).toNat)
  case atStart => exact ⟨0, [], fun _ => 0, by omega, rfl, hst.out, Rise.nil⟩
  case round =>
    obtain ⟨k, ts, D, hk, rfl, K, R⟩ := hrel
    clear hst
    have hlen : ts.length ≤ 800000 := by have := R.len; omega
    by_cases hlt : k < n
    · -- DEV A
      have hne : xs ≠ [] := fun e => by have := hnn.out; rw [e] at this; simp at this; omega
      obtain ⟨tb, off, rfl, hcell⟩ := hrow.out hne
      obtain ⟨a, hka⟩ : ∃ a, xs[k]? = some a := ⟨_, List.getElem?_eq_getElem (by rw [hnn.out]; exact hlt)⟩
      obtain ⟨d0, d1, d2⟩ := hcell k a hka
      obtain ⟨dr, ix, du⟩ := a
      simp only at d0 d1 d2
      replace d0 := (K.below.cell (World.block_lt_of_cell? _ _ d0)).trans d0
      replace d1 := (K.below.cell (World.block_lt_of_cell? _ _ d1)).trans d1
      replace d2 := (K.below.cell (World.block_lt_of_cell? _ _ d2)).trans d2
      have hkz : (k : Int) < (n : Int) := by omega
      have K1 := K.alloc (.cells #[.bool dr, .int .i64 ix, .int .i64 du] 51)
      have hab := Blk.new wr #[.bool dr, .int .i64 ix, .int .i64 du] 51
      have hlt0 := K.lt
      clear hcell hka hne K
      obtain ⟨W1, hW1⟩ : ∃ W1, wr.alloc (.cells #[.bool dr, .int .i64 ix, .int .i64 du] 51) = W1 := ⟨_, rfl⟩
      rw [hW1] at K1 hab
      have hab0 := hab.cell 0 rfl
      have hab1 := hab.cell 1 rfl
      have hnb : wr.heap.size ≠ w.heap.size := by omega
      cases dr with
      | true =>
        have hc := K1.drop ix hlen
        replace hc := Lib.hid hc
        replace R := Lib.hid R
        replace K1 := Lib.hid K1
        replace hab := Lib.hid hab
        go_wp2_with fail
        refine hc.out.mono ?_
        rintro e W2 ⟨rfl, K2, B2⟩
        have hab2 := hab.out.but B2 hnb
        have g0 := hab2.cell 0 rfl
        have g1 := hab2.cell 1 rfl
        have g2 := hab2.cell 2 rfl
        clear hc K1 B2 hab hab2 hab0 hab1 d0 d1 d2
        by_cases q1 : ix < 0
        · replace K2 := Lib.hid K2
          go_wp2_with fail
          go_roundw
          case rel => exact ⟨k + 1, dropL ts ix, D, by omega, by go_num, K2.out, by rw [dropL_none (placeL_out (by omega))]; exact R.out⟩
          case measure => simp [intOf]; omega
        · have q1' : decide (ix < 0) = false := by simp; omega
          by_cases q2 : 4096 ≤ ix
          · replace K2 := Lib.hid K2
            go_wp2_with fail
            go_roundw
            case rel => exact ⟨k + 1, dropL ts ix, D, by omega, by go_num, K2.out, by rw [dropL_none (placeL_out (by omega))]; exact R.out⟩
            case measure => simp [intOf]; omega
          · obtain ⟨m, rfl⟩ : ∃ m : Nat, ix = (m : Int) := ⟨ix.toNat, by omega⟩
            have hm : m < 4096 := by omega
            have hmz : (m : Int) < 4096 := by omega
            have q2' : decide (4096 ≤ (m : Int)) = false := by simp; omega
            have cm := K2.cell hm
            have fm := K2.frozen m
            have lm := K2.lt
            replace K2 := Lib.hid K2
            go_wp2_with fail
            go_roundw
            case rel => exact ⟨k + 1, dropL ts (m : Int), _, by omega, by go_num, K2.out.set m 0, R.out.drop hm⟩
            case measure => simp [intOf]; omega
      | false =>
        have hc := K1.wake ix du hlen
        replace hc := Lib.hid hc
        replace R := Lib.hid R
        replace K1 := Lib.hid K1
        have hab2 := hab.cell 2 rfl
        replace hab := Lib.hid hab
        go_wp2_with fail
        refine hc.out.mono ?_
        rintro e W2 ⟨rfl, K2, B2⟩
        clear hab2
        have hab2 := hab.out.but B2 hnb
        have g0 := hab2.cell 0 rfl
        have g1 := hab2.cell 1 rfl
        have g2 := hab2.cell 2 rfl
        clear hc K1 B2 hab hab2 hab0 hab1 d0 d1 d2
        by_cases q1 : ix < 0
        · replace K2 := Lib.hid K2
          go_wp2_with fail
          go_roundw
          case rel => exact ⟨k + 1, wakeL ts ix du, D, by omega, by go_num, K2.out, by rw [wakeL_no (by omega)]; exact R.out⟩
          case measure => simp [intOf]; omega
        · have q1' : decide (ix < 0) = false := by simp; omega
          by_cases q2 : 4096 ≤ ix
          · replace K2 := Lib.hid K2
            go_wp2_with fail
            go_roundw
            case rel => exact ⟨k + 1, wakeL ts ix du, D, by omega, by go_num, K2.out, by rw [wakeL_no (by omega)]; exact R.out⟩
            case measure => simp [intOf]; omega
          · obtain ⟨m, rfl⟩ : ∃ m : Nat, ix = (m : Int) := ⟨ix.toNat, by omega⟩
            have hm : m < 4096 := by omega
            have hmz : (m : Int) < 4096 := by omega
            have q2' : decide (4096 ≤ (m : Int)) = false := by simp; omega
            have cm := K2.cell hm
            have fm := K2.frozen m
            have lm := K2.lt
            obtain ⟨z, hz⟩ : ∃ z, D m = z := ⟨_, rfl⟩
            rw [hz] at cm
            replace K2 := Lib.hid K2
            replace hz := Lib.hid hz
            by_cases p1 : 0 < du
            · by_cases p2 : z = 0
              · have p2' : (z == 0) = true := beq_iff_eq.2 p2
                replace p2 := Lib.hid p2
                go_wp2_with fail
                go_quiet (fail)
                go_wp2_with fail
                go_roundw
                case rel => exact ⟨k + 1, wakeL ts (m : Int) du, _, by omega, by go_num, (K2.out.drewN _).set m du, R.out.wakeY hm p1 (Or.inl (hz.out.trans p2.out))⟩
                case measure => simp [intOf]; omega
              · have p2' : (z == 0) = false := beq_eq_false_iff_ne.2 p2
                replace p2 := Lib.hid p2
                by_cases p3 : du < z
                · go_wp2_with fail
                  go_quiet (fail)
                  go_wp2_with fail
                  go_roundw
                  case rel => exact ⟨k + 1, wakeL ts (m : Int) du, _, by omega, by go_num, (K2.out.drewN _).set m du, R.out.wakeY hm p1 (Or.inr (by rw [hz.out]; exact p3))⟩
                  case measure => simp [intOf]; omega
                · have p3' : decide (du < z) = false := by simp; omega
                  go_wp2_with fail
                  go_quiet (fail)
                  go_wp2_with fail
                  go_roundw
                  case rel => exact ⟨k + 1, wakeL ts (m : Int) du, D, by omega, by go_num, K2.out.drewN _, R.out.wakeN hm (fun h => by rw [hz.out] at h; have := p2.out; omega)⟩
                  case measure => simp [intOf]; omega
            · have p1' : decide (0 < du) = false := by simp; omega
              go_wp2_with fail
              go_quiet (fail)
              go_wp2_with fail
              go_roundw
              case rel => exact ⟨k + 1, wakeL ts (m : Int) du, D, by omega, by go_num, K2.out.drewN _, R.out.wakeN hm (fun h => by have := h.1; omega)⟩
              case measure => simp [intOf]; omega
    · obtain rfl : k = n := by omega
      clear hlt hn
      go_wp2_with fail
      go_loopw [7, 8] (fun v i W => ∃ k : Nat, k ≤ 4096 ∧ i = .int .i64 k ∧ v = .int .i64 (upL ts ((k : Int) - 1) : Nat) ∧ KA w W ts D) (fun _ i _ => 4096 - (intOf i).toNat)
      case atStart => exact ⟨0, by omega, rfl, by rw [show ((0 : Nat) : Int) - 1 = -1 from rfl, R.zero]; rfl, K⟩
      case round =>
        obtain ⟨j, hj, rfl, rfl, K2⟩ := hrel
        clear K
        by_cases hlt : j < 4096
        · -- DEV B
          have hdue := R.due hlt
          obtain ⟨nx0, nx1⟩ := R.next hlt
          obtain ⟨N, hN⟩ : ∃ N, upL ts ((j : Int) - 1) = N := ⟨_, rfl⟩
          rw [hN] at nx0 nx1 ⊢
          have hNl : N ≤ ts.length := by rw [← hN]; exact upL_le _ _
          have hcast : ((j + 1 : Nat) : Int) - 1 = (j : Int) := by omega
          obtain ⟨z, hz⟩ : ∃ z, D j = z := ⟨_, rfl⟩
          have hcal : ∀ p : Ext, Calls Try.prog 27 #[.pointer (some ⟨w.heap.size, 0, none⟩), .int .i64 j] (ext wr p) fun e w' => e = .returned (.int .i64 z) ∧ Below (ext wr p).heap.size (ext wr p) w' := fun p => by
            have := (K2.ext p).due (j : Int)
            rw [hdue, hz] at this
            exact this.mono fun _ _ ⟨he, _, hb⟩ => ⟨he, hb⟩
          have e0 : ∀ p : Ext, (ext wr p).cell? ⟨w.heap.size + 1, j, none⟩ = some (.int .i64 z) := fun p => by rw [← hz]; exact (K2.ext p).cell hlt
          have hjz : (j : Int) < 4096 := by omega
          have hzz : (z == z) = true := by simp
          rw [hz] at nx0 nx1
          replace nx0 := Lib.hid nx0
          replace nx1 := Lib.hid nx1
          replace hcal := Lib.hid hcal
          replace K2 := Lib.hid K2
          replace hz := Lib.hid hz
          replace R := Lib.hid R
          replace hcast := Lib.hid hcast
          clear hN hdue
          go_wp2_with fail
          refine wp_region_ext (by kernel_rfl) (by kernel_rfl) ?_
          repeat (quiet_step ((go_at_call 27; exact calls_ext_of (hcal.out _))))
          refine wpQuiet_nil ?_
          rintro _ ⟨pq, rfl⟩
          have K3 := K2.out.ext pq
          have c1 := e0 pq
          clear e0 hcal K2 hzz
          generalize ext wr pq = W at *
          by_cases q : z = 0
          · have q' : (z == 0) = true := beq_iff_eq.2 q
            replace q := Lib.hid q
            replace K3 := Lib.hid K3
            go_wp2_with fail
            go_roundw
            case rel => exact ⟨j + 1, by omega, by go_num, by rw [hcast.out, nx0.out q.out], K3.out⟩
            case measure => simp [intOf]; omega
          · have q' : (z == 0) = false := beq_eq_false_iff_ne.2 q
            obtain ⟨ht, hu⟩ := nx1.out q
            obtain ⟨sl, ct, tr⟩ := K3.tk
            obtain ⟨tb, tc, rfl, hnc2, hcm2, hcell⟩ := tr.open
            obtain ⟨b2, off, rfl, hcell2⟩ := hcell (fun e => by rw [e] at ht; cases ht)
            obtain ⟨d0, d1⟩ := hcell2 _ _ ht
            simp only at d0
            have hNlt : N < ts.length := (List.getElem?_eq_some_iff.1 ht).1
            have hNz : (N : Int) < (ts.length : Int) := by omega
            have hNd : decide ((ts.length : Int) ≤ (N : Int)) = false := by simp; omega
            have hjj : ((j : Int) == (j : Int)) = true := by simp
            have ltk := K3.lt
            unfold maxLen at hcm2
            replace q := Lib.hid q
            replace K3 := Lib.hid K3
            replace hu := Lib.hid hu
            clear ht tr hcell hcell2 nx1 nx0
            go_wp2_with fail
            go_roundw
            case rel => exact ⟨j + 1, by omega, by go_num, by rw [hcast.out, hu.out]; go_num, K3.out⟩
            case measure => simp [intOf]; omega
        · obtain rfl : j = 4096 := by omega
          have hup : upL ts (((4096 : Nat) : Int) - 1) = ts.length := R.last
          rw [hup]
          clear hup hj hlt
          have hc := K2.ready 4611686018427387904 (by omega)
          obtain ⟨T, hT⟩ : ∃ T, ts.length = T := ⟨_, rfl⟩
          rw [hT] at hlen ⊢
          replace hc := Lib.hid hc
          replace R := Lib.hid R
          replace hT := Lib.hid hT
          clear K2
          go_wp2_with fail
          refine hc.out.mono ?_
          rintro e W ⟨v, rs, rfl, hr, hp, hs, K3⟩
          clear hc
          obtain ⟨rb, rc, rfl, hnc3, hcm3, hcell⟩ := hr.open
          have hrl := ready_nil_iff hp
          rw [hT.out] at hrl
          obtain ⟨m, hmm⟩ : ∃ m, rs.length = m := ⟨_, rfl⟩
          rw [hmm] at hnc3 hrl hr ⊢
          unfold maxLen at hcm3
          replace hmm := Lib.hid hmm
          replace hcell := Lib.hid hcell
          replace hr := Lib.hid hr
          replace hp := Lib.hid hp
          replace hs := Lib.hid hs
          replace K3 := Lib.hid K3
          go_wp2_with fail
          go_loopw [10] (fun v W' => ∃ k : Nat, (k = 0 ∨ k < m) ∧ v = .int .i64 ((k : Int) + 1) ∧ ∃ q, W' = W.drewN q) (fun v _ => m + 1 - (intOf v).toNat)
          case atStart => exact ⟨0, Or.inl rfl, rfl, 0, rfl⟩
          case round =>
            obtain ⟨k, hk, rfl, q, rfl⟩ := hrel
            by_cases hlt : k + 1 < m
            · have hne : rs ≠ [] := fun e => by have := hmm.out; rw [e] at this; simp at this; omega
              obtain ⟨tb, off, rfl, hcell6⟩ := hcell.out hne
              obtain ⟨a, ha⟩ : ∃ a, rs[k]? = some a := ⟨_, List.getElem?_eq_getElem (by rw [hmm.out]; omega)⟩
              obtain ⟨b, hb⟩ : ∃ b, rs[k + 1]? = some b := ⟨_, List.getElem?_eq_getElem (by rw [hmm.out]; omega)⟩
              obtain ⟨d0, d1⟩ := hcell6 k a ha
              obtain ⟨d2, d3⟩ := hcell6 (k + 1) b hb
              obtain ⟨r1, r2⟩ := R.out.ready hp.out hs.out ha hb
              obtain ⟨x, y⟩ := a
              obtain ⟨u, v⟩ := b
              simp only at d0 d1 d2 d3 r1 r2
              have hk1 : (k : Int) + 1 < (m : Int) := by omega
              have hk2 : ((k : Int) + 1).toNat = k + 1 := by omega
              have hq1 : decide (v < y) = false := by simp; omega
              replace ha := Lib.hid ha
              replace hb := Lib.hid hb
              replace hcell6 := Lib.hid hcell6
              by_cases hq2 : y = v
              · have hq2' : (y == v) = true := beq_iff_eq.2 hq2
                have hq3 : decide (u ≤ x) = false := by simp; omega
                replace hq2 := Lib.hid hq2
                replace r2 := Lib.hid r2
                go_wp2_with fail
                go_quiet (fail)
                go_wp2_with fail
                go_roundw
                case rel => exact ⟨k + 1, Or.inr hlt, by go_num, _, rfl⟩
                case measure => simp [intOf]; omega
              · have hq2' : (y == v) = false := beq_eq_false_iff_ne.2 hq2
                replace hq2 := Lib.hid hq2
                replace r2 := Lib.hid r2
                go_wp2_with fail
                go_quiet (fail)
                go_wp2_with fail
                go_roundw
                case rel => exact ⟨k + 1, Or.inr hlt, by go_num, _, rfl⟩
                case measure => simp [intOf]; omega
            · have hd : decide ((k : Int) + 1 < (m : Int)) = false := by simp; omega
              have K4 := K3.out.drewN q
              have hr4 := TRow.keep hr.out (below_drewN (Below.refl _ _) q)
              generalize W.drewN q = W4 at *
              have hTT : ((T : Int) == (T : Int)) = true := by simp
              have ltk := K4.lt
              have hlst : ∀ p : Ext, Calls Try.prog 19 #[.pointer (some ⟨w.heap.size, 0, none⟩)] (ext W4 p) fun e w' => e = .returned (.int .i64 (leastL ts)) ∧ Below (ext W4 p).heap.size (ext W4 p) w' := fun p => (K4.ext p).least
              obtain ⟨sl, ct, tr⟩ := K4.tk
              obtain ⟨ub, uc, rfl, hnc5, hcm5, _⟩ := tr.open
              rw [hT.out] at ct
              have e0 : ∀ p : Ext, (ext W4 p).cell? ⟨w.heap.size, 16384, none⟩ = some (.slice ub T uc) := fun p => ((below_ext W4 p).cell (p := ⟨w.heap.size, 16384, none⟩) (World.block_lt_of_cell? _ _ ct)).trans ct
              have hB := K4.below
              clear tr K4 K3
              by_cases hm : m = 0
              · have hm' : ((m : Int) == 0) = true := beq_iff_eq.2 (by omega)
                replace hm := Lib.hid hm
                replace hlst := Lib.hid hlst
                replace hB := Lib.hid hB
                clear hcell hr hr4
                go_wp2_with fail
                refine wp_region_ext (by kernel_rfl) (by kernel_rfl) ?_
                repeat (go_big_quiet_step ((go_at_call 9; exact calls_ext_of (haw.out _))))
                refine wpQuiet_nil ?_
                rintro _ ⟨pq, rfl⟩
                go_wp2_with fail
                go_ret
                exact ⟨rfl, hB.out.trans ((below_ext W4 pq).mono hB.out.size)⟩
              · have hm' : ((m : Int) == 0) = false := beq_eq_false_iff_ne.2 (by omega)
                have hmz : (0 : Int) < (m : Int) := by omega
                obtain ⟨a, ha⟩ : ∃ a, rs[0]? = some a := ⟨_, List.getElem?_eq_getElem (by rw [hmm.out]; omega)⟩
                have hl := ready_least hp.out hs.out ha
                obtain ⟨_, _, ev, _, _, hcell4⟩ := hr4.open
                obtain ⟨tb, off, rfl, hcell5⟩ := hcell4 (fun e => by rw [e] at ha; cases ha)
                cases ev
                obtain ⟨d0, d1⟩ := hcell5 0 a ha
                rw [hl] at d1
                obtain ⟨L, hL⟩ : ∃ L, leastL ts = L := ⟨_, rfl⟩
                rw [hL] at d1 hlst
                have hLL : (L == L) = true := by simp
                have e1 : ∀ p : Ext, (ext W4 p).cell? ⟨tb, off + 0 * 2 + 1, none⟩ = some (.int .i64 L) := fun p => ((below_ext W4 p).cell (p := ⟨tb, off + 0 * 2 + 1, none⟩) (World.block_lt_of_cell? _ _ d1)).trans d1
                replace hm := Lib.hid hm
                replace hlst := Lib.hid hlst
                replace hB := Lib.hid hB
                clear hcell4
                replace hcell5 := Lib.hid hcell5
                replace ha := Lib.hid ha
                replace hl := Lib.hid hl
                replace hL := Lib.hid hL
                clear hcell hr hr4
                go_wp2_with fail
                refine wp_region_ext (by kernel_rfl) (by kernel_rfl) ?_
                repeat (go_big_quiet_step ((go_at_call 19; exact calls_ext_of (hlst.out _))))
                repeat (go_big_quiet_step ((go_at_call 9; exact calls_ext_of (haw.out _))))
                refine wpQuiet_nil ?_
                rintro _ ⟨pq, rfl⟩
                go_wp2_with fail
                go_ret
                exact ⟨rfl, hB.out.trans ((below_ext W4 pq).mono hB.out.size)⟩
end Go.Proofs.Ytmpnpanlabkkdaa
