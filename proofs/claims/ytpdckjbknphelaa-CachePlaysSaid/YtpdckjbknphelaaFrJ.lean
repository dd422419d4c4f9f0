/-
  A frame is stored as a chunk.
-/
import Derived.Test.YtpdckjbknphelaaMg10
import Derived.Test.YtpdckjbknphelaaMg1
namespace Go.Proofs.Ytpdckjbknphelaa
open Go.RowKit
set_option linter.unusedSimpArgs false
set_option linter.unusedVariables false

def shP (f : Nat) (g : Nat → Int × Int) : Nat → Int × Int := fun c => g (f * 4096 + c)
def shD (f : Nat) (g : Nat → Int) : Nat → Int := fun c => g (f * 4096 + c)
set_option maxRecDepth 100000 in
theorem slab_shift (ce li : Nat → Int × Int) (du : Nat → Int) (f j : Nat) : slabF ce li du (f * 40960 + j) = slabF (shP f ce) (shP f li) (shD f du) j := by
  have h1 : (f * 40960 + j) % 10 = j % 10 := by omega
  have h2 : (f * 40960 + j) / 10 = f * 4096 + j / 10 := by omega
  unfold slabF shP shD
  rw [h1, h2]
theorem slabF_one (ce li : Nat → Int × Int) (du : Nat → Int) (j : Nat) : (slabF ce li du j).oneCell' = true := by
  unfold slabF
  split
  · rfl
  split
  · rfl
  split
  · rfl
  split <;> rfl
/-- The first k of a frame's cells. -/
def partP (k : Nat) (g : Nat → Int × Int) : Nat → Int × Int := fun i => if i < k then g i else (0, 0)
theorem partP_zero (g : Nat → Int × Int) : partP 0 g = zeroP := by funext i; unfold partP zeroP; rw [if_neg (by omega)]
theorem partP_step (k : Nat) (g : Nat → Int × Int) : updP (partP k g) k ((g k).1, (g k).2) = partP (k + 1) g := by
  funext i
  unfold updP partP
  by_cases e : i = k
  · subst e; rw [if_pos rfl, if_pos (by omega)]
  · rw [if_neg e]
    by_cases e2 : i < k
    · rw [if_pos e2, if_pos (by omega)]
    · rw [if_neg e2, if_neg (by omega)]
theorem make_row4 : ∀ u : World, (Instr.makeSlice 103 (.int .i64 40960) (.int .i64 40960)).run Try.prog u = .ok (.slice (some ⟨u.heap.size, 0, none⟩) 40960 40960) (u.alloc (.cells (madeCells #[.int .u8 0] 40960) 5)) := fun u => make_bytes 40960 (by omega) u
/-- A frame's bytes, copied. -/
theorem run_copy_row (w : World) (ty : TypeId) (rb sb o : Nat) (C : Nat) (S F : Nat → Value) (N : Nat) (hs : Row1 w sb 5 N S) (hN : o + 40960 ≤ N) (hd : Row1 w rb 5 40960 F) (h1 : ∀ j, (S j).oneCell' = true) :
    ∃ w', (Builtin.copy_ #[103, 103] ty #[.slice (some ⟨rb, 0, none⟩) 40960 40960, .slice (some ⟨sb, o, none⟩) 40960 C]).run Try.prog w = .ok (.int .i64 40960) w' ∧ Row1 w' rb 5 40960 (fun j => S (o + j)) ∧ But rb w w' := by
  obtain ⟨cs, hcs⟩ : ∃ cs : List Value, (List.range 40960).map (fun j => S (o + j)) = cs := ⟨_, rfl⟩
  have hl : cs.length = 40960 := by rw [← hcs, List.length_map, List.length_range]
  have hg : ∀ j, j < 40960 → cs[j]? = some (S (o + j)) := fun j hj => by rw [← hcs, List.getElem?_map, List.getElem?_range hj]; rfl
  have hr := run_copy_cells (P := Try.prog) w 103 103 ty 5 rb 0 40960 40960 ⟨sb, o, none⟩ 40960 C cs (by kernel_rfl) (by kernel_rfl) (by rw [hl]; rfl)
    (fun j v hv => by
      have hj : j < 40960 := by have := (List.getElem?_eq_some_iff.1 hv).1; omega
      rw [hg j hj] at hv
      obtain rfl := Option.some.inj hv
      have h3 := hs.cell (i := o + j) (by omega)
      rw [Addr.add_mid]
      exact h3)
    (fun j hj => by rw [Nat.zero_add, hd.cell (by omega)]; rfl) (fun j hj => hd.frozen _)
    (fun v hv => by
      obtain ⟨j, hj, e⟩ := List.getElem_of_mem hv
      have h2 := hg j (by omega)
      rw [List.getElem?_eq_getElem hj, e] at h2
      rw [Option.some.inj h2]
      exact h1 _)
  rw [hl] at hr
  refine ⟨_, hr, (hd.setCells cs 0).congr fun j hj => ?_, But.setCells cs 0 (But.refl _ _)⟩
  unfold runF
  rw [if_pos (by omega), Nat.sub_zero, List.getD_eq_getElem?_getD, hg j hj]
  rfl

set_option maxRecDepth 100000 in
set_option maxHeartbeats 8000000 in
theorem pstore_in (pb sb tb n : Nat) (ce li : Nat → Int × Int) (du : Nat → Int) (tk : Nat → Bool) (f : Nat) (w : World) (h : Po w pb sb tb n ce li du tk) (hf : f < n) :
    Calls Try.prog 50 #[.pointer (some ⟨pb, 0, none⟩), .int .i64 f] w fun e w' => ∃ b s, e = .returned (.pointer (some ⟨b, 0, none⟩)) ∧ w.heap.size ≤ b ∧ Ck w' b (partP 4096 (shP f ce)) (partP 4096 (shP f li)) s ∧ TOwn w' (b + 1) s (tickD (fun i => du (f * 4096 + i)) 4096) ∧ Below w.heap.size w w' := by
  have hn64 := h.n64
  have hfr := fun W hb => frame_in pb sb tb n f W (h.keep hb).pool h.n64 hf
  have hcp := fun W F ty (hb : Below w.heap.size w W) hr => run_copy_row W ty w.heap.size sb (f * 40960) 40960 (slabF ce li du) F (n * 40960) (h.keep hb).slab (by omega) hr (slabF_one ce li du)
  have htk := fun W (hb : Below w.heap.size w W) => pticks_in pb sb tb n ce li du tk f W (h.keep hb) hf
  have hmk := make_row4 w
  have hro := made_row (.int .u8 0) 40960 w 5
  have hB1 : Below w.heap.size w (w.alloc (.cells (madeCells #[.int .u8 0] 40960) 5)) := (Below.refl _ _).alloc (Nat.le_refl _) _
  have hz1 : (w.alloc (.cells (madeCells #[.int .u8 0] 40960) 5)).heap.size = w.heap.size + 1 := by simp
  generalize madeCells #[.int .u8 0] 40960 = Z at *
  obtain ⟨W1, hW1⟩ : ∃ W1, w.alloc (.cells Z 5) = W1 := ⟨_, rfl⟩
  rw [hW1] at hmk hro hB1 hz1
  clear hW1
  have hf0 := hfr w (Below.refl _ _)
  have hf1 := hfr W1 hB1
  obtain ⟨W2, hcpy, hro2, hb2⟩ := hcp W1 _ 3 hB1 hro
  have hB2 := But.step hB1 hb2 (Nat.le_refl _) hB1.size
  have hz2 := hb2.size
  replace hro2 := hro2.congr fun j _ => slab_shift ce li du f j
  generalize hce : shP f ce = CE at *
  generalize hli : shP f li = LI at *
  generalize hdd : shD f du = DU at *
  have hnew := new_calls W2
  have k3 := ck_new W2
  have hB3 : Below w.heap.size w (W2.alloc (.cells chunkZ 91)) := hB2.alloc (by omega) _
  have hro3 := hro2.alloc (.cells chunkZ 91)
  have hz3 : (W2.alloc (.cells chunkZ 91)).heap.size = W2.heap.size + 1 := by simp
  obtain ⟨W3, hW3⟩ : ∃ W3, W2.alloc (.cells chunkZ 91) = W3 := ⟨_, rfl⟩
  rw [hW3] at hnew k3 hB3 hro3 hz3
  clear hW3
  have hse := fs_eq
  replace hf0 := Lib.hid hf0
  replace hf1 := Lib.hid hf1
  replace hnew := Lib.hid hnew
  replace k3 := Lib.hid k3
  replace hB3 := Lib.hid hB3
  replace hro3 := Lib.hid hro3
  replace htk := Lib.hid htk
  clear h hfr hcp hro hB1 hro2 hb2 hB2 hce hli hdd
  go_enter Try.func50, Try.ntmps50
  go_wp2_with fail
  refine hf0.out.mono ?_
  rintro e w1 ⟨rfl, rfl⟩
  clear hf0
  go_wp2_with fail
  refine hf1.out.mono ?_
  rintro e W1' ⟨rfl, rfl⟩
  clear hf1
  go_wp2_with fail
  refine hnew.out.mono ?_
  rintro e W4 ⟨rfl, rfl⟩
  clear hnew hmk hcpy
  go_wp2_with fail
  go_loopw [19] (fun i W => ∃ k : Nat, k ≤ 4096 ∧ i = .int .i64 k ∧ Ck W W2.heap.size (partP k CE) (partP k LI) (.slice none 0 0) ∧ Row1 W w1.heap.size 5 40960 (slabF CE LI DU) ∧ Below w1.heap.size w1 W) (fun i _ => 4096 - (intOf i).toNat)
  case atStart => exact ⟨0, by omega, rfl, by rw [partP_zero, partP_zero]; exact k3.out, hro3.out, hB3.out⟩
  case round =>
    obtain ⟨k, hk, rfl, kk, hro, HB⟩ := hrel
    clear k3 hB3 hro3
    by_cases hlt : k < 4096
    · have r0 : wr.cell? ⟨w1.heap.size, k * 10, none⟩ = some (.int .u8 (CE k).1) := by rw [hro.cell (by omega), slabF_0]
      have r1 : wr.cell? ⟨w1.heap.size, k * 10 + 1, none⟩ = some (.int .u8 (CE k).2) := by rw [hro.cell (by omega), slabF_1]
      have r2 : wr.cell? ⟨w1.heap.size, k * 10 + 2, none⟩ = some (.int .u8 (LI k).1) := by rw [hro.cell (by omega), slabF_2]
      have r3 : wr.cell? ⟨w1.heap.size, k * 10 + 3, none⟩ = some (.int .u8 (LI k).2) := by rw [hro.cell (by omega), slabF_3]
      have c0 := kk.c0 hlt
      have c1 := kk.c1 hlt
      have c2 := kk.l0 hlt
      have c3 := kk.l1 hlt
      have f0 := kk.frozen (k * 2)
      have f1 := kk.frozen (k * 2 + 1)
      have f2 := kk.frozen (8192 + k * 2)
      have f3 := kk.frozen (8192 + k * 2 + 1)
      have hp1 := partP_step k CE
      have hp2 := partP_step k LI
      obtain ⟨a, ha⟩ : ∃ a, (CE k).1 = a := ⟨_, rfl⟩
      obtain ⟨b, hb⟩ : ∃ b, (CE k).2 = b := ⟨_, rfl⟩
      obtain ⟨c, hc⟩ : ∃ c, (LI k).1 = c := ⟨_, rfl⟩
      obtain ⟨d, hd⟩ : ∃ d, (LI k).2 = d := ⟨_, rfl⟩
      rw [ha] at r0 hp1
      rw [hb] at r1 hp1
      rw [hc] at r2 hp2
      rw [hd] at r3 hp2
      have K' : Ck (((((wr.setCell ⟨W2.heap.size, k * 2, none⟩ (.int .u8 a)).setCell ⟨W2.heap.size, k * 2 + 1, none⟩ (.int .u8 b)).drew.setCell ⟨W2.heap.size, 8192 + k * 2, none⟩ (.int .u8 c)).setCell ⟨W2.heap.size, 8192 + k * 2 + 1, none⟩ (.int .u8 d)).drew) W2.heap.size (partP (k + 1) CE) (partP (k + 1) LI) (.slice none 0 0) := by
        rw [← hp1, ← hp2]
        exact (((kk.setCell hlt a b).drew).setLight hlt c d).drew
      have hne : w1.heap.size ≠ W2.heap.size := by omega
      have R' : Row1 (((((wr.setCell ⟨W2.heap.size, k * 2, none⟩ (.int .u8 a)).setCell ⟨W2.heap.size, k * 2 + 1, none⟩ (.int .u8 b)).drew.setCell ⟨W2.heap.size, 8192 + k * 2, none⟩ (.int .u8 c)).setCell ⟨W2.heap.size, 8192 + k * 2 + 1, none⟩ (.int .u8 d)).drew) w1.heap.size 5 40960 (slabF CE LI DU) := ((((((hro.set_other _ hne).set_other _ hne).drew).set_other _ hne).set_other _ hne).drew)
      have hle : w1.heap.size ≤ W2.heap.size := by omega
      have B' : Below w1.heap.size w1 (((((wr.setCell ⟨W2.heap.size, k * 2, none⟩ (.int .u8 a)).setCell ⟨W2.heap.size, k * 2 + 1, none⟩ (.int .u8 b)).drew.setCell ⟨W2.heap.size, 8192 + k * 2, none⟩ (.int .u8 c)).setCell ⟨W2.heap.size, 8192 + k * 2 + 1, none⟩ (.int .u8 d)).drew) := (((((HB.setCell (p := ⟨W2.heap.size, _, none⟩) hle _).setCell (p := ⟨W2.heap.size, _, none⟩) hle _).drew).setCell (p := ⟨W2.heap.size, _, none⟩) hle _).setCell (p := ⟨W2.heap.size, _, none⟩) hle _).drew
      have hl1 := hro.lt
      have hl2 := kk.lt
      have hkz : (k : Int) < 4096 := by omega
      have n1 : ((k : Int) * 10).toNat = k * 10 := by omega
      have n2 : ((k : Int) * 10 + 1).toNat = k * 10 + 1 := by omega
      have n3 : ((k : Int) * 10 + 2).toNat = k * 10 + 2 := by omega
      have n4 : ((k : Int) * 10 + 3).toNat = k * 10 + 3 := by omega
      have g1 : (k : Int) * 10 < 40960 := by omega
      have g2 : (k : Int) * 10 + 1 < 40960 := by omega
      have g3 : (k : Int) * 10 + 2 < 40960 := by omega
      have g4 : (k : Int) * 10 + 3 < 40960 := by omega
      replace K' := Lib.hid K'
      replace R' := Lib.hid R'
      replace B' := Lib.hid B'
      clear kk hro HB hp1 hp2 ha hb hc hd
      go_wp2_with fail
      go_region
      go_wp2_with fail
      go_region
      go_wp2_with fail
      go_roundw
      case rel => exact ⟨k + 1, by omega, by go_num, K'.out, R'.out, B'.out⟩
      case measure => simp [intOf]; omega
    · obtain rfl : k = 4096 := by omega
      have ht := htk.out wr HB
      have hz4 := kk.lt
      replace ht := Lib.hid ht
      replace kk := Lib.hid kk
      replace HB := Lib.hid HB
      clear hro
      go_wp2_with fail
      refine ht.out.mono ?_
      rintro e W5 ⟨v, rfl, ho, hb5⟩
      have k5 := kk.out.keep hb5
      have c5 := k5.tk
      have f5 := k5.frozen 16384
      have l5 := k5.lt
      have B5 := HB.out.trans (hb5.mono HB.out.size)
      obtain ⟨vb, vc, rfl, _⟩ := ho.row.open
      have k6 := k5.setTicks (.slice vb (tickD (fun i => du (f * 4096 + i)) 4096).length vc)
      have o6 := (ho.mono (B' := W2.heap.size + 1) hz4).setBelow (a := ⟨W2.heap.size, 16384, none⟩) (Nat.lt_succ_self _) (.slice vb (tickD (fun i => du (f * 4096 + i)) 4096).length vc)
      have B6 := B5.setCell (p := ⟨W2.heap.size, 16384, none⟩) (show w1.heap.size ≤ W2.heap.size by omega) (.slice vb (tickD (fun i => du (f * 4096 + i)) 4096).length vc)
      generalize (tickD (fun i => du (f * 4096 + i)) 4096).length = tl at *
      replace k6 := Lib.hid k6
      replace o6 := Lib.hid o6
      replace B6 := Lib.hid B6
      clear ht k5 B5 ho hb5 kk HB
      go_wp2_with fail
      go_ret
      exact ⟨W2.heap.size, _, rfl, by omega, k6.out, o6.out, B6.out⟩
end Go.Proofs.Ytpdckjbknphelaa
