/-
  The walk of FramesKnown.
-/
import Derived.Test.YtlaodkolkoefgaaFrS
namespace Go.Proofs.Ytlaodkolkoefgaa
open Go.RowKit
set_option linter.unusedSimpArgs false
set_option linter.unusedVariables false

theorem clr_zeroP (f : Nat) : clrP f zeroP = zeroP := by funext i; unfold clrP zeroP; split <;> rfl
theorem clrD_zero (f : Nat) : clrD f (fun _ => 0) = fun _ => 0 := by funext i; unfold clrD; split <;> rfl
def tk3 : Nat → Bool := tkSet tk2 0 false
def tk4 : Nat → Bool := takenT tk3 (some 0)
theorem fst_3 : Fst 2 tk3 (some 0) := ⟨fun k e => by cases e; exact ⟨by omega, rfl, fun j hj => absurd hj (Nat.not_lt_zero _)⟩, fun h => by cases h⟩
def ceK : Nat → Int × Int := updP zeroP 4105 (4, 0)
theorem set_1 : setP 2 (mayK 4 0) zeroP 1 9 (4, 0) = ceK := if_pos (by decide)
theorem set_2 : setP 2 (mayK 4 0) ceK 1 4096 (4, 0) = ceK := if_neg (by decide)
theorem set_3 : setP 2 (mayK 11 0) ceK 1 9 (11, 0) = ceK := if_neg (by decide)
theorem set_4 : setP 2 (okL 16 0) zeroP 1 9 (16, 0) = zeroP := if_neg (by decide)
theorem set_5 : setP 2 (okL 0 16) zeroP 1 9 (0, 16) = zeroP := if_neg (by decide)
theorem is_1 : (decide (inR 2 1 9) && mayK 4 0) = true := by decide
theorem is_2 : (decide (inR 2 1 4096) && mayK 4 0) = false := by decide
theorem is_3 : (decide (inR 2 1 9) && mayK 11 0) = false := by decide
theorem is_4 : (decide (inR 2 1 9) && okL 16 0) = false := by decide
theorem is_5 : (decide (inR 2 1 9) && okL 0 16) = false := by decide
def du1 : Nat → Int := updD (fun _ => 0) 4105 5
def du2 : Nat → Int := updD du1 4099 7
def du3 : Nat → Int := updD du2 4105 0
theorem wk_1 : wakeD 2 (fun _ => 0) 1 9 5 = du1 := if_pos (by decide)
theorem wk_2 : wakeD 2 du1 1 3 7 = du2 := if_pos (by decide)
theorem dr_1 : dropD 2 du2 1 9 = du3 := if_pos (by decide)
theorem tick_of {g : Nat → Int} {ts : List Tk} (hg : ∀ i, 0 ≤ g i) (h : tOk (-1) ts = true) (e : ∀ i, i < 4096 → g i = duF ts i) : tickD g 4096 = ts := (tickD_rise hg).uniq (tOk_rise h) e
theorem du2_at (i : Nat) : du2 (4096 + i) = duF [(3, 7), (9, 5)] i := by
  show updD (updD (fun _ => 0) 4105 5) 4099 7 (4096 + i) = updD (updD (fun _ => 0) 3 7) 9 5 i
  unfold updD
  by_cases h1 : i = 3
  · subst h1; rfl
  · by_cases h2 : i = 9
    · subst h2; rfl
    · rw [if_neg (by omega), if_neg (by omega), if_neg h2, if_neg h1]
theorem du3_at (i : Nat) : du3 (4096 + i) = duF [(3, 7)] i := by
  show updD (updD (updD (fun _ => 0) 4105 5) 4099 7) 4105 0 (4096 + i) = updD (fun _ => 0) 3 7 i
  unfold updD
  by_cases h1 : i = 3
  · subst h1; rfl
  · by_cases h2 : i = 9
    · subst h2; rfl
    · rw [if_neg (by omega), if_neg (by omega), if_neg (by omega), if_neg h1]
theorem ticks_2 : tickD (shD 1 du2) 4096 = [(3, 7), (9, 5)] := tick_of (fun i => by rw [show shD 1 du2 i = du2 (4096 + i) from rfl, du2_at]; exact (duF_ok (by decide) i).1) (by decide) (fun i _ => du2_at i)
theorem ticks_3 : tickD (shD 1 du3) 4096 = [(3, 7)] := tick_of (fun i => by rw [show shD 1 du3 i = du3 (4096 + i) from rfl, du3_at]; exact (duF_ok (by decide) i).1) (by decide) (fun i _ => du3_at i)
theorem tickF_2 : tickF 2 du2 1 = [(3, 7), (9, 5)] := by
  unfold tickF
  rw [if_pos (by omega)]
  exact ticks_2
theorem ceK_ok : checkE (partP 4096 (shP 1 ceK)) (partP 4096 (shP 1 zeroP)) [(3, 7)] = 0 := by
  rw [checkE_part]
  refine checkE_0 (fun i hi => ?_) (fun i _ => rfl) (by decide)
  show mayK (ceK (4096 + i)).1 (ceK (4096 + i)).2 = true
  unfold ceK updP
  split
  · decide
  · show mayK 0 0 = true
    decide
theorem U8_ceK : U8 ceK := U8.zero.upd _ (by omega) (by omega)
theorem U8_sh {g : Nat → Int × Int} (h : U8 g) (f : Nat) : U8 (shP f g) := fun i => h _
def ceL : Nat → Int × Int := putP 0 (partP 4096 (shP 1 ceK)) ceK
def liL : Nat → Int × Int := putP 0 (partP 4096 (shP 1 zeroP)) zeroP
def duL' : Nat → Int := putD 0 (duF [(3, 7)]) du3
theorem at_1 : atD 2 du2 1 9 = 5 := by decide
theorem at_2 : atD 2 du3 1 9 = 0 := by decide
theorem at_3 : atP 2 ceL 0 9 = (4, 0) := by decide
theorem at_4 : atD 2 duL' 0 3 = 7 := by decide

set_option maxRecDepth 100000 in
set_option maxHeartbeats 8000000 in
theorem fknown_walk (w : World) : Calls Try.prog 4 #[] w fun e w' => e = .returned (.bool true) ∧ Below w.heap.size w w' := by
  have haw := fun W => fawake_calls W
  replace haw := Lib.hid haw
  have hn := fnew_calls 2 w (by omega) (by omega)
  rw [show ((2 : Nat) : Int) = 2 from rfl] at hn
  replace hn := Lib.hid hn
  have hno := fun n W => fnew_no n W
  replace hno := Lib.hid hno
  have hnw := fun W => new_calls W
  replace hnw := Lib.hid hnw
  go_enter Try.func4, Try.ntmps4
  go_wp2_with fail
  refine hn.out.mono ?_
  rintro e W1 ⟨pb, sb, tb, rfl, hp, hf⟩
  clear hn
  have F := Fp.start hp hf
  clear hp hf
  replace F := Lib.hid F
  go_wp2_with fail
  refine (hno.out 0 _ (by omega)).mono ?_
  rintro e W2 ⟨rfl, rfl⟩
  go_wp2_with fail
  refine (hno.out 65 _ (by omega)).mono ?_
  rintro e W2 ⟨rfl, rfl⟩
  clear hno
  go_wp2_with fail
  refine (haw.out _).mono ?_
  rintro e W2 ⟨rfl, hb⟩
  replace F := F.out.keep hb
  clear hb
  have hc := F.take fst_0
  replace hc := Lib.hid hc
  clear F
  go_wp2_with fail
  refine hc.out.mono ?_
  rintro e W2 ⟨rfl, F, _⟩
  clear hc
  have hc := F.take fst_1
  replace hc := Lib.hid hc
  clear F
  go_wp2_with fail
  refine hc.out.mono ?_
  rintro e W2 ⟨rfl, F, _⟩
  clear hc
  change Fp w W2 pb sb tb 2 zeroP zeroP (fun _ => 0) tk2 at F
  have hc := F.give (f := 0) (by omega) rfl
  rw [clr_zeroP, clrD_zero, show ((0 : Nat) : Int) = 0 from rfl] at hc
  replace hc := Lib.hid hc
  clear F
  go_wp2_with fail
  refine hc.out.mono ?_
  rintro e W2 ⟨rfl, F, _⟩
  clear hc
  change Fp w W2 pb sb tb 2 zeroP zeroP (fun _ => 0) tk3 at F
  have hc := F.giveFree (f := 0) (by omega) rfl
  rw [show ((0 : Nat) : Int) = 0 from rfl] at hc
  replace hc := Lib.hid hc
  clear F
  go_wp2_with fail
  refine hc.out.mono ?_
  rintro e W2 ⟨rfl, F, _⟩
  clear hc
  have hc := F.giveOut (f := 2) (by omega)
  replace hc := Lib.hid hc
  clear F
  go_wp2_with fail
  refine hc.out.mono ?_
  rintro e W2 ⟨rfl, F, _⟩
  clear hc
  have hc := F.take fst_3
  replace hc := Lib.hid hc
  clear F
  go_wp2_with fail
  refine hc.out.mono ?_
  rintro e W2 ⟨rfl, F, _⟩
  clear hc
  change Fp w W2 pb sb tb 2 zeroP zeroP (fun _ => 0) tk4 at F
  have hc := F.set 1 9 (x := 4) (y := 0) (by omega) (by omega)
  rw [is_1, set_1] at hc
  replace hc := Lib.hid hc
  clear F
  go_wp2_with fail
  refine hc.out.mono ?_
  rintro e W2 ⟨rfl, F, _⟩
  clear hc
  have hc := F.set 1 4096 (x := 4) (y := 0) (by omega) (by omega)
  rw [is_2, set_2] at hc
  replace hc := Lib.hid hc
  clear F
  go_wp2_with fail
  refine hc.out.mono ?_
  rintro e W2 ⟨rfl, F, _⟩
  clear hc
  have hc := F.set 1 9 (x := 11) (y := 0) (by omega) (by omega)
  rw [is_3, set_3] at hc
  replace hc := Lib.hid hc
  clear F
  go_wp2_with fail
  refine hc.out.mono ?_
  rintro e W2 ⟨rfl, F, _⟩
  clear hc
  have hc := F.setL 1 9 (x := 16) (y := 0) (by omega) (by omega)
  rw [is_4, set_4] at hc
  replace hc := Lib.hid hc
  clear F
  go_wp2_with fail
  refine hc.out.mono ?_
  rintro e W2 ⟨rfl, F, _⟩
  clear hc
  have hc := F.setL 1 9 (x := 0) (y := 16) (by omega) (by omega)
  rw [is_5, set_5] at hc
  replace hc := Lib.hid hc
  clear F
  go_wp2_with fail
  refine hc.out.mono ?_
  rintro e W2 ⟨rfl, F, _⟩
  clear hc
  have hc := F.wake 1 9 5
  rw [wk_1] at hc
  replace hc := Lib.hid hc
  clear F
  go_wp2_with fail
  refine hc.out.mono ?_
  rintro e W2 ⟨rfl, F, _⟩
  clear hc
  have hc := F.wake 1 3 7
  rw [wk_2] at hc
  replace hc := Lib.hid hc
  clear F
  go_wp2_with fail
  refine hc.out.mono ?_
  rintro e W2 ⟨rfl, F, _⟩
  clear hc
  have hc := F.ready 1 6 tickF_2
  replace hc := Lib.hid hc
  clear F
  go_wp2_with fail
  refine hc.out.mono ?_
  rintro e W2 ⟨v, rs, rfl, hr, hp, hs, F, _⟩
  clear hc
  obtain rfl : rs = [(9, 5)] := by
    rw [show ([(3, 7), (9, 5)] : List Tk).filter (dueF 6) = [(9, 5)] from by decide] at hp
    exact List.perm_singleton.1 hp
  obtain ⟨rb, rc, rfl, _, _, hcell⟩ := hr.open
  obtain ⟨rb, ro, rfl, hcell2⟩ := hcell (by simp)
  obtain ⟨d0, d1⟩ := hcell2 0 (9, 5) rfl
  rw [Nat.zero_mul, Nat.add_zero] at d0 d1
  clear hp hs hr hcell hcell2
  have hc := F.due 1 9
  rw [at_1] at hc
  replace hc := Lib.hid hc
  clear F
  go_wp2_with fail
  refine hc.out.mono ?_
  rintro e W3 ⟨rfl, F, hb⟩
  clear hc
  replace d0 := (hb.cell (World.block_lt_of_cell? _ _ d0)).trans d0
  replace d1 := (hb.cell (World.block_lt_of_cell? _ _ d1)).trans d1
  clear hb
  have hc := F.least 1 tickF_2
  rw [show leastL [(3, 7), (9, 5)] = 5 from by decide] at hc
  replace hc := Lib.hid hc
  clear F
  go_wp2_with fail
  refine hc.out.mono ?_
  rintro e W2 ⟨rfl, F, hb⟩
  clear hc
  replace d0 := (hb.cell (World.block_lt_of_cell? _ _ d0)).trans d0
  replace d1 := (hb.cell (World.block_lt_of_cell? _ _ d1)).trans d1
  clear hb
  have hc := F.drop 1 9
  rw [dr_1] at hc
  replace hc := Lib.hid hc
  clear F
  go_wp2_with fail
  refine hc.out.mono ?_
  rintro e W3 ⟨rfl, F, _⟩
  clear hc d0 d1
  have hc := F.due 1 9
  rw [at_2] at hc
  replace hc := Lib.hid hc
  clear F
  go_wp2_with fail
  refine hc.out.mono ?_
  rintro e W3 ⟨rfl, F, _⟩
  clear hc
  have hc := F.loadNil (f := 0) (by omega)
  rw [show ((0 : Nat) : Int) = 0 from rfl] at hc
  replace hc := Lib.hid hc
  clear F
  go_wp2_with fail
  refine hc.out.mono ?_
  rintro e W3 ⟨rfl, F, _⟩
  clear hc
  replace F := F.alloc (.cells chunkZ 46)
  have hc := hnw.out W3
  obtain ⟨W4, hW4⟩ : ∃ W4, W3.alloc (.cells chunkZ 46) = W4 := ⟨_, rfl⟩
  rw [hW4] at F hc
  clear hW4
  replace hc := Lib.hid hc
  replace F := Lib.hid F
  go_wp2_with fail
  refine hc.out.mono ?_
  rintro e W5 ⟨rfl, rfl⟩
  clear hc
  have hc := F.out.loadOut (f := 2) (some ⟨W3.heap.size, 0, none⟩) (by omega)
  replace hc := Lib.hid hc
  clear F
  go_wp2_with fail
  refine hc.out.mono ?_
  rintro e W3 ⟨rfl, F, _⟩
  clear hc
  have hc := F.storeS (f := 1) (by omega) rfl rfl ticks_3
  rw [show ((1 : Nat) : Int) = 1 from rfl] at hc
  replace hc := Lib.hid hc
  clear F
  go_wp2_with fail
  refine hc.out.mono ?_
  rintro e W4 ⟨bb, rfl, _, S4, F, _⟩
  clear hc
  have hc := F.loadS (f := 0) (by omega) S4 ((U8_sh U8_ceK 1).part 4096) ((U8_sh U8.zero 1).part 4096) ceK_ok
  rw [show ((0 : Nat) : Int) = 0 from rfl] at hc
  change Calls _ _ _ _ (fun e w' => _ ∧ Fp w w' pb sb tb 2 ceL liL duL' tk4 ∧ _) at hc
  replace hc := Lib.hid hc
  clear F S4
  go_wp2_with fail
  refine hc.out.mono ?_
  rintro e W3 ⟨rfl, F, _⟩
  clear hc
  have hc := F.cell 0 9
  rw [at_3] at hc
  replace hc := Lib.hid hc
  clear F
  go_wp2_with fail
  refine hc.out.mono ?_
  rintro e W3 ⟨rfl, F, _⟩
  clear hc
  have hc := F.due 0 3
  rw [at_4] at hc
  replace hc := Lib.hid hc
  clear F
  go_wp2_with fail
  refine hc.out.mono ?_
  rintro e W3 ⟨rfl, F, _⟩
  clear hc
  have hc := F.storeOut (f := 2) (by omega)
  replace hc := Lib.hid hc
  clear F
  go_wp2_with fail
  refine hc.out.mono ?_
  rintro e W3 ⟨rfl, F, _⟩
  clear hc
  have B := F.below
  clear F
  -- pools that are none
  have hA : Below w.heap.size w (W3.alloc (.cells #[.slice none 0 0, .slice none 0 0] 61)) := B.alloc B.size _
  have Z : Zp (W3.alloc (.cells #[.slice none 0 0, .slice none 0 0] 61)) W3.heap.size := Blk.new W3 #[.slice none 0 0, .slice none 0 0] _
  obtain ⟨W4, hW4⟩ : ∃ W4, W3.alloc (.cells #[.slice none 0 0, .slice none 0 0] 61) = W4 := ⟨_, rfl⟩
  rw [hW4] at hA Z
  have z1 := Blk.cell Z 1 rfl
  replace Z := Lib.hid Z
  replace hA := Lib.hid hA
  clear B
  have k1 := pwake_none none 0 0 1 W4 (nil_cell 0 0 W4)
  have k2 := pdrop_none none 0 0 W4 (nil_cell 0 0 W4)
  have k3 := pwake_none (some ⟨W3.heap.size, 0, none⟩) 0 0 1 W4 (Z.out.cell 0 0)
  have k4 := ptake_nil W4
  have k5 := ptake_zero W3.heap.size W4 z1
  have k6 := pgive_nil 0 W4
  have k7 := pgive_zero W3.heap.size 0 W4 z1
  replace k1 := Lib.hid k1
  replace k2 := Lib.hid k2
  replace k3 := Lib.hid k3
  replace k4 := Lib.hid k4
  replace k5 := Lib.hid k5
  replace k6 := Lib.hid k6
  replace k7 := Lib.hid k7
  clear z1
  go_wp2_with fail
  refine k1.out.mono ?_
  rintro e W5 ⟨rfl, rfl⟩
  clear k1
  go_wp2_with fail
  refine k2.out.mono ?_
  rintro e W5 ⟨rfl, rfl⟩
  clear k2
  go_wp2_with fail
  refine k3.out.mono ?_
  rintro e W5 ⟨rfl, rfl⟩
  clear k3
  go_wp2_with fail
  refine k4.out.mono ?_
  rintro e W5 ⟨rfl, rfl⟩
  clear k4
  go_wp2_with fail
  refine k5.out.mono ?_
  rintro e W5 ⟨rfl, rfl⟩
  clear k5
  go_wp2_with fail
  refine k6.out.mono ?_
  rintro e W5 ⟨rfl, rfl⟩
  clear k6
  go_wp2_with fail
  refine k7.out.mono ?_
  rintro e W5 ⟨rfl, rfl⟩
  clear k7
  clear hW4
  have hB : Below W5.heap.size W5 (W5.alloc (.cells chunkZ 46)) := (Below.refl _ _).alloc (Nat.le_refl _) _
  have hc := hnw.out W5
  obtain ⟨W6, hW6⟩ : ∃ W6, W5.alloc (.cells chunkZ 46) = W6 := ⟨_, rfl⟩
  rw [hW6] at hB hc
  clear hW6
  replace Z := Lib.hid (Z.out.keep hB)
  replace hA := Lib.hid (hA.out.trans (hB.mono hA.out.size))
  have hd := pload_nil 0 (some ⟨W5.heap.size, 0, none⟩) W6
  replace hc := Lib.hid hc
  replace hd := Lib.hid hd
  clear hB
  go_wp2_with fail
  refine hc.out.mono ?_
  rintro e W7 ⟨rfl, rfl⟩
  clear hc
  go_wp2_with fail
  refine hd.out.mono ?_
  rintro e W5 ⟨rfl, rfl⟩
  clear hd
  have hB : Below W5.heap.size W5 (W5.alloc (.cells chunkZ 46)) := (Below.refl _ _).alloc (Nat.le_refl _) _
  have hc := hnw.out W5
  obtain ⟨W6, hW6⟩ : ∃ W6, W5.alloc (.cells chunkZ 46) = W6 := ⟨_, rfl⟩
  rw [hW6] at hB hc
  clear hW6
  replace Z := Lib.hid (Z.out.keep hB)
  replace hA := Lib.hid (hA.out.trans (hB.mono hA.out.size))
  have hd := pload_zero W3.heap.size 0 (some ⟨W5.heap.size, 0, none⟩) W6 (Blk.cell Z.out 1 rfl)
  replace hc := Lib.hid hc
  replace hd := Lib.hid hd
  clear hB
  go_wp2_with fail
  refine hc.out.mono ?_
  rintro e W7 ⟨rfl, rfl⟩
  clear hc
  go_wp2_with fail
  refine hd.out.mono ?_
  rintro e W5 ⟨rfl, rfl⟩
  clear hd
  have k1 := pstore_none none 0 W5 (frame_nil 0 W5)
  have k2 := pstore_none (some ⟨W3.heap.size, 0, none⟩) 0 W5 (Z.out.frame 0)
  have k3 := pused_nil W5
  replace k1 := Lib.hid k1
  replace k2 := Lib.hid k2
  replace k3 := Lib.hid k3
  go_wp2_with fail
  refine k1.out.mono ?_
  rintro e W5 ⟨rfl, rfl⟩
  clear k1
  go_wp2_with fail
  refine k2.out.mono ?_
  rintro e W5 ⟨rfl, rfl⟩
  clear k2
  go_wp2_with fail
  refine k3.out.mono ?_
  rintro e W5 ⟨rfl, rfl⟩
  clear k3
  have hc := nil_least 0 W5
  replace hc := Lib.hid hc
  go_wp2_with fail
  refine hc.out.mono ?_
  rintro e W6 ⟨rfl, hb⟩
  clear hc
  replace Z := Z.out.keep hb
  replace hA := Lib.hid (hA.out.trans (hb.mono hA.out.size))
  clear hb
  have hc := Z.ready 0 9
  replace hc := Lib.hid hc
  replace Z := Lib.hid Z
  go_wp2_with fail
  refine hc.out.mono ?_
  rintro e W5 ⟨base, cap, rfl, hb⟩
  clear hc
  replace Z := Z.out.keep hb
  replace hA := Lib.hid (hA.out.trans (hb.mono hA.out.size))
  clear hb
  have hc := fcell_no none 0 0 W5 (fun V _ => nil_cell 0 0 V)
  replace hc := Lib.hid hc
  replace Z := Lib.hid Z
  go_wp2_with fail
  refine hc.out.mono ?_
  rintro e W6 ⟨rfl, hb⟩
  clear hc
  replace Z := Z.out.keep hb
  replace hA := Lib.hid (hA.out.trans (hb.mono hA.out.size))
  clear hb
  have hc := fset_none (some ⟨W3.heap.size, 0, none⟩) 0 0 0 0 W6 (fun V hb => (Zp.keep Z hb).cell 0 0)
  replace hc := Lib.hid hc
  clear Z
  go_wp2_with fail
  refine hc.out.mono ?_
  rintro e W5 ⟨rfl, hb⟩
  clear hc
  replace hA := Lib.hid (hA.out.trans (hb.mono hA.out.size))
  clear hb
  have hc := due_no none 0 0 W5 (nil_cell 0 0 W5)
  replace hc := Lib.hid hc
  go_wp2_with fail
  refine hc.out.mono ?_
  rintro e W6 ⟨rfl, rfl⟩
  clear hc
  go_wp2_with fail
  go_ret
  exact ⟨rfl, hA.out⟩
end Go.Proofs.Ytlaodkolkoefgaa
