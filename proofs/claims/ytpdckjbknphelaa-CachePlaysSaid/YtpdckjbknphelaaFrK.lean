/-
  A chunk is loaded into a frame.
-/
import Derived.Test.YtpdckjbknphelaaFrJ
import Derived.Test.YtpdckjbknphelaaMg13
import Derived.StillTailTactics
namespace Go.Proofs.Ytpdckjbknphelaa
open Go.RowKit
set_option linter.unusedSimpArgs false
set_option linter.unusedVariables false

def putP (f : Nat) (g' g : Nat → Int × Int) : Nat → Int × Int := fun c => if f * 4096 ≤ c ∧ c < f * 4096 + 4096 then g' (c - f * 4096) else g c
def putD (f : Nat) (g' g : Nat → Int) : Nat → Int := fun c => if f * 4096 ≤ c ∧ c < f * 4096 + 4096 then g' (c - f * 4096) else g c
set_option maxRecDepth 100000 in
theorem slab_put {ce li ce' li' : Nat → Int × Int} {du du' : Nat → Int} (f : Nat) (j : Nat) : (if f * 40960 ≤ j ∧ j < f * 40960 + 40960 then slabF (partP 4096 ce') (partP 4096 li') du' (j - f * 40960) else slabF ce li du j) = slabF (putP f ce' ce) (putP f li' li) (putD f du' du) j := by
  by_cases h : f * 40960 ≤ j ∧ j < f * 40960 + 40960
  · rw [if_pos h]
    obtain ⟨i, rfl⟩ : ∃ i, j = f * 40960 + i := ⟨j - f * 40960, by omega⟩
    have hi : i < 40960 := by omega
    have hd : (f * 40960 + i) / 10 = f * 4096 + i / 10 := by omega
    have hc : f * 4096 ≤ (f * 40960 + i) / 10 ∧ (f * 40960 + i) / 10 < f * 4096 + 4096 := by omega
    have h0 : f * 40960 + i - f * 40960 = i := by omega
    have h1 : (f * 40960 + i - f * 40960) % 10 = (f * 40960 + i) % 10 := by omega
    have h2 : (f * 40960 + i - f * 40960) / 10 = (f * 40960 + i) / 10 - f * 4096 := by omega
    generalize f * 40960 + i = j at *
    clear hd h0 h
    have e1 : partP 4096 ce' (j / 10 - f * 4096) = putP f ce' ce (j / 10) := by unfold partP putP; rw [if_pos hc, if_pos (by omega)]
    have e2 : partP 4096 li' (j / 10 - f * 4096) = putP f li' li (j / 10) := by unfold partP putP; rw [if_pos hc, if_pos (by omega)]
    have e3 : du' (j / 10 - f * 4096) = putD f du' du (j / 10) := by unfold putD; rw [if_pos hc]
    unfold slabF
    rw [h1, h2, e1, e2, e3]
  · rw [if_neg h]
    have hc : ¬ (f * 4096 ≤ j / 10 ∧ j / 10 < f * 4096 + 4096) := by omega
    unfold slabF putP putD
    rw [if_neg hc, if_neg hc, if_neg hc]
theorem U8.put {f : Nat} {g' g : Nat → Int × Int} (h' : U8 g') (h : U8 g) : U8 (putP f g' g) := fun c => by
  unfold putP
  split
  · exact h' _
  · exact h c
/-- A row of bytes, copied into the slab. -/
theorem run_copy_into (w : World) (ty : TypeId) (rb sb o C : Nat) (S F : Nat → Value) (N : Nat) (hs : Row1 w sb 5 N S) (hN : o + 40960 ≤ N) (hd : Row1 w rb 5 40960 F) (h1 : ∀ j, (F j).oneCell' = true) :
    ∃ w', (Builtin.copy_ #[103, 103] ty #[.slice (some ⟨sb, o, none⟩) 40960 C, .slice (some ⟨rb, 0, none⟩) 40960 40960]).run Try.prog w = .ok (.int .i64 40960) w' ∧ Row1 w' sb 5 N (fun j => if o ≤ j ∧ j < o + 40960 then F (j - o) else S j) ∧ But sb w w' := by
  obtain ⟨cs, hcs⟩ : ∃ cs : List Value, (List.range 40960).map F = cs := ⟨_, rfl⟩
  have hl : cs.length = 40960 := by rw [← hcs, List.length_map, List.length_range]
  have hg : ∀ j, j < 40960 → cs[j]? = some (F j) := fun j hj => by rw [← hcs, List.getElem?_map, List.getElem?_range hj]; rfl
  have hr := run_copy_cells (P := Try.prog) w 103 103 ty 5 sb o 40960 C ⟨rb, 0, none⟩ 40960 40960 cs (by kernel_rfl) (by kernel_rfl) (by rw [hl]; rfl)
    (fun j v hv => by
      have hj : j < 40960 := by have := (List.getElem?_eq_some_iff.1 hv).1; omega
      rw [hg j hj] at hv
      obtain rfl := Option.some.inj hv
      have h3 := hd.cell (i := j) hj
      rw [Addr.add_mid, Nat.zero_add]
      exact h3)
    (fun j hj => by rw [hs.cell (by omega)]; rfl) (fun j hj => hs.frozen _)
    (fun v hv => by
      obtain ⟨j, hj, e⟩ := List.getElem_of_mem hv
      have h2 := hg j (by omega)
      rw [List.getElem?_eq_getElem hj, e] at h2
      rw [Option.some.inj h2]
      exact h1 _)
  rw [hl] at hr
  refine ⟨_, hr, (hs.setCells cs o).congr fun j hj => ?_, But.setCells cs o (But.refl _ _)⟩
  unfold runF
  rw [hl]
  by_cases e : o ≤ j ∧ j < o + 40960
  · rw [if_pos e, if_pos e, List.getD_eq_getElem?_getD, hg _ (by omega)]
    rfl
  · rw [if_neg e, if_neg e]

set_option maxRecDepth 100000 in
set_option maxHeartbeats 8000000 in
theorem pload_in (pb sb tb n : Nat) (ce li : Nat → Int × Int) (du : Nat → Int) (tk : Nat → Bool) (f cb : Nat) (cce cli : Nat → Int × Int) (s : Value) (ts : List Tk) (w : World) (h : Po w pb sb tb n ce li du tk) (hf : f < n)
    (hk : Ck w cb cce cli s) (ht : TRow w s ts) (hu : U8 cce) (hul : U8 cli) (hok : checkE cce cli ts = 0) :
    Calls Try.prog 36 #[.pointer (some ⟨pb, 0, none⟩), .int .i64 f, .pointer (some ⟨cb, 0, none⟩)] w fun e w' => e = .returned (.int .i64 0) ∧ Po w' pb sb tb n (putP f cce ce) (putP f cli li) (putD f (duF ts) du) tk ∧ But sb w w' := by
  have hn64 := h.n64
  have hfr := frame_in pb sb tb n f w h.pool h.n64 hf
  have hck := check_calls cb cce cli s ts w hk ht hu
  rw [hok] at hck
  obtain ⟨_, _, hto⟩ := checkE_inv hok
  obtain ⟨_, htb⟩ := tOk_inv hto
  have hdu := duF_ok hto
  have c1 := h.c1
  have hse := fs_eq
  have hbe := bs_eq
  have hmk := make_row4
  have hro := fun W => made_row (.int .u8 0) 40960 W 5
  generalize madeCells #[.int .u8 0] 40960 = Z at *
  replace hfr := Lib.hid hfr
  replace hck := Lib.hid hck
  replace hk := Lib.hid hk
  replace ht := Lib.hid ht
  replace hu := Lib.hid hu
  replace hul := Lib.hid hul
  replace htb := Lib.hid htb
  replace hdu := Lib.hid hdu
  replace hro := Lib.hid hro
  replace h := Lib.hid h
  clear hok hto
  go_enter Try.func36, Try.ntmps36
  go_wp2_with fail
  refine hfr.out.mono ?_
  rintro e w1 ⟨rfl, rfl⟩
  clear hfr
  go_wp2_with fail
  refine hck.out.mono ?_
  rintro e W1 ⟨rfl, B1⟩
  clear hck c1
  have hmk1 := hmk W1
  have hro1 := hro.out W1
  have hBa : Below W1.heap.size W1 (W1.alloc (.cells Z 5)) := (Below.refl _ _).alloc (Nat.le_refl _) _
  have hz1 := B1.size
  obtain ⟨W2, hW2⟩ : ∃ W2, W1.alloc (.cells Z 5) = W2 := ⟨_, rfl⟩
  rw [hW2] at hmk1 hro1 hBa
  clear hW2 hmk hro
  replace hro1 := Lib.hid hro1
  replace hBa := Lib.hid hBa
  replace B1 := Lib.hid B1
  go_wp2_with fail
  clear hmk1
  go_loopw [33] (fun i W => ∃ k : Nat, k ≤ 4096 ∧ i = .int .i64 k ∧ Row1 W W1.heap.size 5 40960 (slabF (partP k cce) (partP k cli) (fun _ => 0)) ∧ Below W1.heap.size W1 W) (fun i _ => 4096 - (intOf i).toNat)
  case atStart => exact ⟨0, by omega, rfl, by rw [partP_zero, partP_zero]; exact hro1.out.congr fun j _ => (slab_zero j).symm, hBa.out⟩
  case round =>
    obtain ⟨k, hk4, rfl, hro, HB⟩ := hrel
    clear hro1 hBa
    have hC := (hk.out.keep B1.out).keep HB
    have hCn : cb ≠ W1.heap.size := by have := (hk.out.keep B1.out).lt; omega
    by_cases hlt : k < 4096
    · -- DEV A
      have r0 := hro.cell (i := k * 10) (by omega)
      have r1 := hro.cell (i := k * 10 + 1) (by omega)
      have r2 := hro.cell (i := k * 10 + 2) (by omega)
      have r3 := hro.cell (i := k * 10 + 3) (by omega)
      have f0 := hro.frozen (k * 10)
      have f1 := hro.frozen (k * 10 + 1)
      have f2 := hro.frozen (k * 10 + 2)
      have f3 := hro.frozen (k * 10 + 3)
      have c0 := hC.c0 hlt
      have c1 := hC.c1 hlt
      have c2 := hC.l0 hlt
      have c3 := hC.l1 hlt
      have hp1 := partP_step k cce
      have hp2 := partP_step k cli
      obtain ⟨a, ha⟩ : ∃ a, (cce k).1 = a := ⟨_, rfl⟩
      obtain ⟨b, hb⟩ : ∃ b, (cce k).2 = b := ⟨_, rfl⟩
      obtain ⟨c, hc⟩ : ∃ c, (cli k).1 = c := ⟨_, rfl⟩
      obtain ⟨d, hd⟩ : ∃ d, (cli k).2 = d := ⟨_, rfl⟩
      rw [ha] at c0 hp1
      rw [hb] at c1 hp1
      rw [hc] at c2 hp2
      rw [hd] at c3 hp2
      have R1 := (((hro.set (k * 10) (.int .u8 a)).set (k * 10 + 1) (.int .u8 b)).congr fun j _ => slab_cell k a b j).drew
      have R2 := (((R1.set (k * 10 + 2) (.int .u8 c)).set (k * 10 + 3) (.int .u8 d)).congr fun j _ => slab_light k c d j).drew
      rw [hp1, hp2] at R2
      have B' := (((((HB.setCell (p := ⟨W1.heap.size, k * 10, none⟩) (Nat.le_refl _) (.int .u8 a)).setCell (p := ⟨W1.heap.size, k * 10 + 1, none⟩) (Nat.le_refl _) (.int .u8 b)).drew).setCell (p := ⟨W1.heap.size, k * 10 + 2, none⟩) (Nat.le_refl _) (.int .u8 c)).setCell (p := ⟨W1.heap.size, k * 10 + 3, none⟩) (Nat.le_refl _) (.int .u8 d)).drew
      obtain ⟨v0, hv0⟩ : ∃ v, slabF (partP k cce) (partP k cli) (fun _ => 0) (k * 10) = v := ⟨_, rfl⟩
      obtain ⟨v1, hv1⟩ : ∃ v, slabF (partP k cce) (partP k cli) (fun _ => 0) (k * 10 + 1) = v := ⟨_, rfl⟩
      obtain ⟨v2, hv2⟩ : ∃ v, slabF (partP k cce) (partP k cli) (fun _ => 0) (k * 10 + 2) = v := ⟨_, rfl⟩
      obtain ⟨v3, hv3⟩ : ∃ v, slabF (partP k cce) (partP k cli) (fun _ => 0) (k * 10 + 3) = v := ⟨_, rfl⟩
      rw [hv0] at r0
      rw [hv1] at r1
      rw [hv2] at r2
      rw [hv3] at r3
      have hl1 := hro.lt
      have hl2 := hC.lt
      have hkz : (k : Int) < 4096 := by omega
      have n1 : ((k : Int) * 10).toNat = k * 10 := by omega
      have n2 : ((k : Int) * 10 + 1).toNat = k * 10 + 1 := by omega
      have n3 : ((k : Int) * 10 + 2).toNat = k * 10 + 2 := by omega
      have n4 : ((k : Int) * 10 + 3).toNat = k * 10 + 3 := by omega
      have g1 : (k : Int) * 10 < 40960 := by omega
      have g2 : (k : Int) * 10 + 1 < 40960 := by omega
      have g3 : (k : Int) * 10 + 2 < 40960 := by omega
      have g4 : (k : Int) * 10 + 3 < 40960 := by omega
      have hne1 : ¬ cb = W1.heap.size := hCn
      have hne2 : ¬ W1.heap.size = cb := fun e => hCn e.symm
      replace R2 := Lib.hid R2
      replace B' := Lib.hid B'
      clear hro HB hp1 hp2 ha hb hc hd R1 hv0 hv1 hv2 hv3 hC
      go_wp2_with fail
      go_region
      go_wp2_with fail
      go_region
      go_wp2_with fail
      go_roundw
      case rel => exact ⟨k + 1, by omega, by go_num, R2.out, B'.out⟩
      case measure => simp [intOf]; omega
    · obtain rfl : k = 4096 := by omega
      have ct := hC.tk
      have hz2 := HB.size
      have tr := ht.out.keep B1.out
      obtain ⟨tb', tc, e, hnc, hcm, hcell⟩ := tr.open
      subst e
      obtain ⟨tn, htn⟩ : ∃ tn, ts.length = tn := ⟨_, rfl⟩
      rw [htn] at ct hnc
      unfold maxLen at hcm
      have hcl := hC.lt
      replace htn := Lib.hid htn
      replace hcell := Lib.hid hcell
      replace hro := Lib.hid hro
      replace HB := Lib.hid HB
      clear hC tr hlt hk4
      rw [show ((4096 : Nat) : Int) = 4096 from rfl]
      go_wp2_with fail
      go_loopw [89] (fun i W => ∃ k : Nat, k ≤ tn ∧ i = .int .i64 k ∧ Row1 W W1.heap.size 5 40960 (slabF (partP 4096 cce) (partP 4096 cli) (duF (ts.take k))) ∧ Below W1.heap.size W1 W) (fun i _ => tn - (intOf i).toNat)
      case atStart => exact ⟨0, by omega, rfl, hro.out, HB.out⟩
      case round =>
        obtain ⟨k, hk4, rfl, hro', HB'⟩ := hrel
        clear hro HB ct hcl
        by_cases hlt : k < tn
        · have hne : ts ≠ [] := fun e => by have := htn.out; rw [e] at this; simp at this; omega
          obtain ⟨tb2, off, rfl, hcell2⟩ := hcell.out hne
          obtain ⟨t, hkt⟩ : ∃ t, ts[k]? = some t := ⟨_, List.getElem?_eq_getElem (by rw [htn.out]; exact hlt)⟩
          obtain ⟨d0', d1'⟩ := hcell2 k t hkt
          have d0 := (HB'.cell (World.block_lt_of_cell? _ _ d0')).trans d0'
          have d1 := (HB'.cell (World.block_lt_of_cell? _ _ d1')).trans d1'
          clear d0' d1' hcell2
          have hbd := htb.out t (List.mem_of_getElem? hkt)
          have hst := duF_step hkt
          obtain ⟨at', d⟩ := t
          simp only at d0 d1 hbd hst
          obtain ⟨m, rfl⟩ : ∃ m : Nat, at' = (m : Int) := ⟨at'.toNat, by omega⟩
          rw [Int.toNat_natCast] at hst
          have hm : m < 4096 := by omega
          have hA := (HB'.alloc HB'.size (.cells #[.int .i64 m, .int .i64 d] 116)).drew
          have hb := Blk.new wr #[.int .i64 m, .int .i64 d] 116
          have hr2 := (hro'.alloc (.cells #[.int .i64 m, .int .i64 d] 116)).drew
          have b0 := hb.cell 0 rfl
          have b1 := hb.cell 1 rfl
          have hs := fsetdue_calls W1.heap.size (m * 10) 10 (40960 - m * 10) 40960 d 5 _ _ hr2 (by omega) (by omega) (Nat.le_refl _) (by omega) (by omega)
          obtain ⟨W3, hW3⟩ : ∃ W3, wr.alloc (.cells #[.int .i64 m, .int .i64 d] 116) = W3 := ⟨_, rfl⟩
          rw [hW3] at hA b0 b1 hs hr2
          have hwr := hro'.lt
          have hlw := HB'.size
          have hkz : (k : Int) < (tn : Int) := by omega
          have hmz : (m : Int) < 4096 := by omega
          have n1 : ((m : Int) * 10).toNat = m * 10 := by omega
          have w1' : IntKind.i64.wrap ((m : Int) * 10) = (m : Int) * 10 := IntWalk.i64_in _ (by omega)
          obtain ⟨M1, hM1⟩ : ∃ M1, (m : Int) + 1 = M1 := ⟨_, rfl⟩
          have q6 : IntKind.i64.wrap ((m : Int) + 1) = M1 := (IntWalk.i64_in _ (by omega)).trans hM1
          obtain ⟨H, hH⟩ : ∃ H, M1 * 10 = H := ⟨_, rfl⟩
          have w2' : IntKind.i64.wrap (M1 * 10) = H := (IntWalk.i64_in _ (by omega)).trans hH
          have q1 : 0 ≤ H := by omega
          have q2 : (m : Int) * 10 ≤ H := by omega
          have q3 : H ≤ 40960 := by omega
          have n2 : H.toNat = m * 10 + 10 := by omega
          have q7 : ¬ 40960 = m * 10 := by omega
          have q8 : max H 0 = H := by omega
          have q4 : (0 : Int) ≤ (m : Int) * 10 := by omega
          have q5 : (m : Int) * 10 ≤ (m : Int) * 10 + 10 := by omega
          clear hM1 hH
          replace hs := Lib.hid hs
          replace hst := Lib.hid hst
          replace hA := Lib.hid hA
          replace hkt := Lib.hid hkt
          clear hb hr2 hro' HB' hbd
          go_wp2_with fail
          go_still_tail 11, (by kernel_rfl)
          change wpList _ _ _ _ _ W3.drew
          clear hW3 q1 q2 q3 q4 q5 q6 q7 q8 n1 n2 w1' w2'
          go_wp2_with fail
          refine hs.out.mono ?_
          rintro e W4 ⟨rfl, hr4, hb4⟩
          clear hs b0 b1
          have hr5 := hr4.congr fun j _ => slab_due m d j
          rw [← hst.out] at hr5
          have B5 := But.step hA.out hb4 (Nat.le_refl _) hA.out.size
          replace hr5 := Lib.hid hr5
          replace B5 := Lib.hid B5
          clear hr4 hb4 hA hst
          go_wp2_with fail
          go_roundw
          case rel => exact ⟨k + 1, by omega, by go_num, hr5.out, B5.out⟩
          case measure => simp [intOf]; omega
        · obtain rfl : k = tn := by omega
          rw [List.take_of_length_le (by rw [htn.out]; omega)] at hro'
          have hBW := B1.out.trans (HB'.mono B1.out.size)
          have hPo := h.out.keep hBW
          obtain ⟨W5, hcp, hs5, hb5⟩ := run_copy_into wr 3 W1.heap.size sb (f * 40960) 40960 (slabF ce li du) _ (n * 40960) hPo.slab (by omega) hro' (slabF_one _ _ _)
          have hend : Po W5 pb sb tb n (putP f cce ce) (putP f cli li) (putD f (duF ts) du) tk := hPo.slabBut hb5 (hs5.congr fun j _ => slab_put f j) (fun c => by
            unfold putD
            split
            · exact hdu.out _
            · exact hPo.dub c) (hu.out.put hPo.uc) (hul.out.put hPo.ul)
          have hbut := (But.of_below (b := sb) hBW).trans hb5
          replace hend := Lib.hid hend
          replace hbut := Lib.hid hbut
          clear hs5 hb5 hPo hBW hro' HB'
          go_wp2_with fail
          go_ret
          exact ⟨rfl, hend.out, hbut.out⟩
end Go.Proofs.Ytpdckjbknphelaa
