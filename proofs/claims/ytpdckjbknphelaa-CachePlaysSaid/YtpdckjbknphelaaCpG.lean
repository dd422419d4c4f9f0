/-
  The walk of the cache's search.
-/
import Derived.Test.YtpdckjbknphelaaMg22
namespace Go.Proofs.Ytpdckjbknphelaa
open Go.RowKit
set_option linter.unusedSimpArgs false
set_option linter.unusedVariables false
set_option linter.unusedSectionVars false

section
variable [Xs] {w W W' : World} {b : Bc} {c : Cs} {fail stop : Int}
theorem Cv.cells (h : Cv w W b c fail stop) {i : Nat} (hi : i < b.n) : W.cell? ⟨b.sb, i * 7, none⟩ = some (.int .i64 (c.sl i).sp.1) ∧ W.cell? ⟨b.sb, i * 7 + 1, none⟩ = some (.int .i64 (c.sl i).sp.2.1) ∧ W.cell? ⟨b.sb, i * 7 + 2, none⟩ = some (.int .i64 (c.sl i).sp.2.2) ∧ W.cell? ⟨b.sb, i * 7 + 3, none⟩ = some (.bool (c.sl i).full) ∧
    W.cell? ⟨b.sb, i * 7 + 4, none⟩ = some (.bool (c.sl i).dirty) ∧ W.cell? ⟨b.sb, i * 7 + 5, none⟩ = some (.bool (c.sl i).mark) ∧ W.cell? ⟨b.sb, i * 7 + 6, none⟩ = some (.int .i64 (c.sl i).pins) :=
  ⟨h.slotAt hi (k := 0) (by omega), h.slotAt hi (k := 1) (by omega), h.slotAt hi (k := 2) (by omega), h.slotAt hi (k := 3) (by omega), h.slotAt hi (k := 4) (by omega), h.slotAt hi (k := 5) (by omega), h.slotAt hi (k := 6) (by omega)⟩
omit [Xs] in
theorem wrap_i64 {n : Int} (h1 : -9223372036854775808 ≤ n) (h2 : n ≤ 9223372036854775807) : IntKind.i64.wrap n = n := by
  unfold IntKind.wrap
  simp [IntKind.bits, IntKind.signed]
  omega
omit [Xs] in
theorem findIt_succ (n F : Nat) (g : Nat → Sl) (h : Nat) : findIt n (F + 1) g h = if 0 < (g h).pins then findIt n F g ((h + 1) % n) else if (g h).mark = true then findIt n F (stepM g h) ((h + 1) % n) else some (h, g, (h + 1) % n) := rfl
def findP (w : World) (b : Bc) (c : Cs) (fail stop : Int) (W : World) (e : Ending) (w' : World) : Prop := (match findS b.n c.sl c.hand with
  | none => e = .returned (.int .i64 (-1)) ∧ Cv w w' b c fail stop
  | some (i, g, k) => e = .returned (.int .i64 i) ∧ Cv w w' b { c with sl := g, hand := k } fail stop) ∧ Chg w.heap.size chA W w'
set_option maxRecDepth 100000 in
set_option maxHeartbeats 8000000 in
theorem find_calls (W : World) (h : Cv w W b c fail stop) : Calls Try.prog 34 #[.pointer (some ⟨b.cb, 0, none⟩)] W (findP w b c fail stop W) := by
  have c1 := h.cache.cell 1 rfl
  have hn64 := h.n64
  have hn1 := h.n1
  have hcl := h.cache.lt
  have hcs := fun W' (hb : Below W.heap.size W W') (k : Nat) (hk : k < b.n) => (h.keep hb).cells hk
  replace hcs := Lib.hid hcs
  have h0 := Lib.hid h
  clear h
  go_enter Try.func34, Try.ntmps34
  go_wp2_with fail
  go_loopw [3, 13] (fun p i V => ∃ k : Nat, k ≤ b.n ∧ i = .int .i64 k ∧ p = .int .i64 (pinnedN c.sl k : Nat) ∧ (∀ j, j < k → (c.sl j).full = true) ∧ Below W.heap.size W V) (fun _ i _ => b.n + 1 - (intOf i).toNat)
  case atStart => exact ⟨0, by omega, rfl, rfl, fun j hj => absurd hj (Nat.not_lt_zero _), Below.refl _ _⟩
  case round =>
    obtain ⟨k, hk, rfl, rfl, hall, hb⟩ := hrel
    have hpl := pinnedN_le c.sl k
    by_cases hlt : k < b.n
    · obtain ⟨z0, z1, z2, z3, z4, z5, z6⟩ := hcs.out wr hb k hlt
      have hkz : (k : Int) < (b.n : Int) := by omega
      have hstep : pinnedN c.sl (k + 1) = pinnedN c.sl k + if 0 < (c.sl k).pins then 1 else 0 := rfl
      cases hfu : (c.sl k).full with
      | false =>
        rw [hfu] at z3
        have he := emptyAt_some hall hlt hfu
        replace he := Lib.hid he
        replace hall := Lib.hid hall
        replace hb := Lib.hid hb
        replace hstep := Lib.hid hstep
        replace hfu := Lib.hid hfu
        go_wp2_with fail
        go_ret
        have hbE := hb.out.alloc hb.out.size (.cells #[.int .i64 (c.sl k).sp.1, .int .i64 (c.sl k).sp.2.1, .int .i64 (c.sl k).sp.2.2, .bool false, .bool (c.sl k).dirty, .bool (c.sl k).mark, .int .i64 (c.sl k).pins] 94)
        unfold findP findS
        rw [he.out]
        exact ⟨⟨rfl, h0.out.keep hbE⟩, Chg.of_below hbE⟩
      | true =>
        rw [hfu] at z3
        have hall' : ∀ j, j < k + 1 → (c.sl j).full = true := fun j hj => by
          by_cases e : j = k
          · rw [e]; exact hfu
          · exact hall j (by omega)
        replace hall' := Lib.hid hall'
        replace hb := Lib.hid hb
        replace hfu := Lib.hid hfu
        clear hall
        have hbE := hb.out.alloc hb.out.size (.cells #[.int .i64 (c.sl k).sp.1, .int .i64 (c.sl k).sp.2.1, .int .i64 (c.sl k).sp.2.2, .bool true, .bool (c.sl k).dirty, .bool (c.sl k).mark, .int .i64 (c.sl k).pins] 94)
        replace hbE := Lib.hid hbE
        by_cases hp : 0 < (c.sl k).pins
        · rw [if_pos hp] at hstep
          replace hstep := Lib.hid hstep
          go_wp2_with fail
          go_round
          case rel => exact ⟨k + 1, by omega, by go_num, by rw [hstep.out]; go_num, hall'.out, hbE.out⟩
          case measure => simp [intOf]; omega
        · rw [if_neg hp, Nat.add_zero] at hstep
          have hpf : decide (0 < (c.sl k).pins) = false := decide_eq_false hp
          replace hstep := Lib.hid hstep
          go_wp2_with fail
          go_round
          case rel => exact ⟨k + 1, by omega, by go_num, by rw [hstep.out]; try simp, hall'.out, hbE.out⟩
          case measure => simp [intOf]; omega
    · obtain rfl : k = b.n := by omega
      have he := emptyAt_none hall
      have c1' := (hb.cell (p := ⟨b.cb, 1, none⟩) hcl).trans c1
      replace he := Lib.hid he
      replace hb := Lib.hid hb
      clear hall
      by_cases hp : pinnedN c.sl b.n = b.n
      · have hpe : ((pinnedN c.sl b.n : Nat) : Int) == (b.n : Int) := by rw [hp]; simp
        have hpp := Lib.hid hp
        clear hp
        go_wp2_with fail
        go_ret
        unfold findP findS
        rw [he.out]
        simp only
        rw [if_pos hpp.out]
        exact ⟨⟨rfl, h0.out.keep hb.out⟩, Chg.of_below hb.out⟩
      · have hpe : (((pinnedN c.sl b.n : Nat) : Int) == (b.n : Int)) = false := beq_eq_false_iff_ne.2 (by omega)
        have hgo := findIt_go hn1 h0.out.hand hp
        have hpp := Lib.hid hp
        replace hgo := Lib.hid hgo
        clear hp c1 hcs
        go_wp2_with fail
        go_loopg [6, 7] (2 * b.n + 1) (fun F i x V => ∃ (g : Nat → Sl) (k : Nat), findIt b.n F g k = findIt b.n (2 * b.n + 1) c.sl c.hand ∧ Cv w V b { c with sl := g, hand := k } fail stop ∧ Chg w.heap.size chA W V)
        case atStart => exact ⟨c.sl, c.hand, rfl, h0.out.keep hb.out, Chg.of_below hb.out⟩
        case round =>
          obtain ⟨g, k, hf, hcv, hch⟩ := hrel
          clear c1'
          cases gk with
          | zero => exact absurd hf.symm hgo.out
          | succ F =>
            have hk := hcv.hand
            simp only at hk
            have c1 := hcv.cache.cell 1 rfl
            have c3 := hcv.cache.cell 3 rfl
            have f3 := hcv.cache.frozen 3
            have hlt := hcv.cache.lt
            have hz1 : ¬ (b.n : Int) = 0 := by omega
            have hz2 : ¬ b.n = 0 := by omega
            have hz3 : ((b.n : Int) == 0) = false := beq_eq_false_iff_ne.2 hz1
            have hwr : IntKind.i64.wrap ((k : Int) + 1) = (k : Int) + 1 := wrap_i64 (by omega) (by omega)
            have hem := Lib.hid (show ((k : Int) + 1) % (b.n : Int) = (((k + 1) % b.n : Nat) : Int) from by rw [Int.natCast_emod]; rfl)
            have hrem : Int.tmod ((k : Int) + 1) (b.n : Int) = (((k + 1) % b.n : Nat) : Int) := by
              rw [Int.tmod_eq_emod_of_nonneg (by omega), Int.natCast_emod]
              rfl
            replace hcv := Lib.hid hcv
            replace hch := Lib.hid hch
            replace hf := Lib.hid hf
            go_wp2_with fail
            have hE := hcv.out.keep ((Below.refl _ _).drew)
            have hS := hE.setHand (k := (k + 1) % b.n) (Nat.mod_lt _ (by omega))
            have hchS := (hch.out.below (Below.refl _ _).drew).but (b := b.cb) ((But.refl _ _).setCell (w := wr.drew) 3 (.int .i64 (((k + 1) % b.n : Nat) : Int))) h0.out.lc fun o ho => by
              have hbk := h0.out.cache
              unfold Blk at hbk
              rw [hbk] at ho
              obtain rfl := Option.some.inj ho
              simp [chA, h0.out.nx.1]
            replace hE := Lib.hid hE
            replace hS := Lib.hid hS
            replace hchS := Lib.hid hchS
            obtain ⟨W2, hW2⟩ : ∃ W2, wr.drew.setCell ⟨b.cb, 3, none⟩ (.int .i64 (((k + 1) % b.n : Nat) : Int)) = W2 := ⟨_, rfl⟩
            obtain ⟨CC, hCC⟩ : ∃ C, C = oneE wr.drew W2 := ⟨_, rfl⟩
            have y1 : ∀ u (p : {w // AnyStage (CC u) 0 w}), p.val.cell? ⟨b.cb, 1, none⟩ = some (Value.slice (some ⟨b.sb, 0, none⟩) b.n b.n) := by rw [hCC]; exact fun u => oneE_lo (I := fun W => W.cell? ⟨b.cb, 1, none⟩ = some (Value.slice (some ⟨b.sb, 0, none⟩) b.n b.n)) (w0 := wr.drew) c1
            have y3 : ∀ u (p : {w // AnyStage (CC u) 0 w}), p.val.cell? ⟨b.cb, 3, none⟩ = some (Value.int .i64 k) := by rw [hCC]; exact fun u => oneE_lo (I := fun W => W.cell? ⟨b.cb, 3, none⟩ = some (Value.int .i64 k)) (w0 := wr.drew) c3
            replace hCC := Lib.hid hCC
            refine wp_region_stageN [0, 0, 0, 0, 0, 0, 0, 0, 0, 0, 0, 0, 1, 1, 1] (C := CC) (V := fun _ _ => True) (N := 1) (by kernel_rfl) (by kernel_rfl) (by kernel_rfl) (by kernel_rfl) (by kernel_rfl) (fun _ => ⟨undef, trivial⟩) (fun u u' s w h1 h2 => by rw [hCC.out] at *; exact h2) (fun _ => by rw [hCC.out]; rfl) ?_
            intro u hu
            have n0 : Nonempty {w // AnyStage (CC u) 0 w} := ⟨⟨wr.drew, 0, by omega, by rw [hCC.out]; rfl⟩⟩
            have n1 : Nonempty {w // AnyStage (CC u) 1 w} := ⟨⟨wr.drew, 0, by omega, by rw [hCC.out]; rfl⟩⟩
            have y1' := y1 u
            have y3' := y3 u
            clear y1 y3
            repeat (refine wpStageN_step rfl rfl (fun K hK => ?_); go_simp; refine hK _ ?_; clear hK K)
            refine wpStageN_call rfl rfl (fun Wx hx => ?_) ?_
            · rw [hCC.out] at hx
              obtain rfl : Wx = wr.drew := hx
              unfold callAtU
              go_simp
              rw [hCC.out]
              rw [hem.out]
              exact hW2
            refine wpStageN_nil ?_
            intro Wx hx
            rw [hCC.out] at hx
            obtain rfl : Wx = W2 := hx
            rw [hW2] at hS hchS
            clear hW2 y1' y3' n0 n1 hCC c1 c3 f3 hrem hwr hz1 hz2 hz3
            obtain ⟨z0, z1, z2, z3, z4, z5, z6⟩ := hS.out.cells hk
            have c1 := hS.out.cache.cell 1 rfl
            have hfr := hS.out.slots.frozen (k * 7 + 5)
            have hkz : (k : Int) < (b.n : Int) := by omega
            simp only at z5 z6
            clear z0 z1 z2 z3 z4
            have hf1 := (findIt_succ b.n F g k).symm.trans hf.out
            by_cases hp : 0 < (g k).pins
            · rw [if_pos hp] at hf1
              replace hf1 := Lib.hid hf1
              go_wp2_with fail
              go_roundg F
              case measure => omega
              case rel => exact ⟨g, (k + 1) % b.n, hf1.out, hS.out, hchS.out⟩
            · rw [if_neg hp] at hf1
              have hpf : decide (0 < (g k).pins) = false := decide_eq_false hp
              cases hm : (g k).mark with
              | true =>
                rw [hm] at z5
                rw [if_pos hm] at hf1
                have hM := hS.out.setOne (i := k) (k := 5) (x := { g k with mark := false }) (v := .bool false) hk (by omega) rfl rfl rfl
                have hchM := hchS.out.but (b := b.sb) ((But.refl _ _).setCell (w := Wx) (k * 7 + 5) (.bool false)) h0.out.ls fun o ho => by
                  obtain ⟨cs, hbk⟩ := h0.out.slots.lt'
                  unfold Blk at hbk
                  rw [hbk] at ho
                  obtain rfl := Option.some.inj ho
                  simp [chA, h0.out.nx.2.1]
                replace hf1 := Lib.hid hf1
                replace hM := Lib.hid hM
                replace hchM := Lib.hid hchM
                replace hm := Lib.hid hm
                go_wp2_with fail
                go_roundg F
                case measure => omega
                case rel => exact ⟨stepM g k, (k + 1) % b.n, hf1.out, hM.out, hchM.out⟩
              | false =>
                rw [hm] at z5
                rw [if_neg (by rw [hm]; simp)] at hf1
                replace hf1 := Lib.hid hf1
                replace hm := Lib.hid hm
                go_wp2_with fail
                go_ret
                unfold findP findS
                rw [he.out]
                simp only
                rw [if_neg hpp.out, ← hf1.out]
                exact ⟨⟨rfl, hS.out⟩, hchS.out⟩
end
end Go.Proofs.Ytpdckjbknphelaa
