/-
  cmp.Or, the order of Ready, chunk.Ready.
-/
import Derived.Test.YtmpnpanlabkkdaaSortO
import Derived.Test.YtmpnpanlabkkdaaChunkY
import Derived.Test.YtmpnpanlabkkdaaReadyP
import Derived.StillTailTactics
namespace Go.Proofs.Ytmpnpanlabkkdaa
open Go.RowKit
set_option linter.unusedSimpArgs false
set_option linter.unusedVariables false

def orI (a b : Int) : Int := if a = 0 then b else a
set_option maxRecDepth 100000 in
set_option maxHeartbeats 4000000 in
theorem or_calls (a b : Int) (g : Nat) (w : World) (c0 : w.cell? ⟨g, 0, none⟩ = some (.int .i64 a)) (c1 : w.cell? ⟨g, 1, none⟩ = some (.int .i64 b)) :
    Calls Try.prog 43 #[.slice (some ⟨g, 0, none⟩) 2 2] w fun e w' => e = .returned (.int .i64 (orI a b)) ∧ w' = w := by
  go_enter Try.func43, Try.ntmps43
  go_wp2_with fail
  go_loopw [8] (fun v W => ∃ i : Nat, i ≤ 2 ∧ v = .int .i64 i ∧ W = w ∧ (0 < i → a = 0) ∧ (1 < i → b = 0)) (fun v _ => 2 - (intOf v).toNat)
  case atStart => exact ⟨0, by omega, rfl, rfl, fun h => absurd h (by omega), fun h => absurd h (by omega)⟩
  case round =>
    obtain ⟨i, hi, rfl, rfl, h0, h1⟩ := hrel
    by_cases e0 : i = 0
    · subst e0
      by_cases ha : a = 0
      · go_wp2_with fail
        go_roundw
        case rel => exact ⟨1, by omega, by go_num, trivial, fun _ => ha, fun h => absurd h (by omega)⟩
        case measure => simp [intOf]
      · go_wp2_with fail
        go_ret
        exact ⟨ret_int (by unfold orI; rw [if_neg ha]), rfl⟩
    · by_cases e1 : i = 1
      · subst e1
        have ha := h0 (by omega)
        clear h0 h1 e0
        by_cases hb : b = 0
        · go_wp2_with fail
          go_roundw
          case rel => exact ⟨2, by omega, by go_num, trivial, fun _ => ha, fun _ => hb⟩
          case measure => simp [intOf]
        · go_wp2_with fail
          go_ret
          exact ⟨ret_int (by unfold orI; rw [if_pos ha]), rfl⟩
      · have e2 : i = 2 := by omega
        subst e2
        have ha := h0 (by omega)
        have hb := h1 (by omega)
        clear h0 h1 e0 e1
        go_wp2_with fail
        go_ret
        exact ⟨ret_int (by unfold orI; rw [if_pos ha]; exact hb.symm), rfl⟩

def cfR (x y : Ty) : Int := orI (cmpI x.2 y.2) (cmpI x.1 y.1)
theorem ltR_ok : LtOk ltR where
  trans x y z h1 h2 := by unfold ltR at *; simp at *; omega
  asymm x y h := by unfold ltR at *; simp at *; omega
theorem cfR_lt (x y : Ty) : decide (cfR x y < 0) = ltR x y := by
  unfold cfR ltR orI cmpI
  by_cases h1 : x.2 < y.2
  · simp [h1]
  · by_cases h2 : y.2 < x.2
    · have h3 : ¬ x.2 = y.2 := by omega
      simp [h1, h2, h3]
    · have h3 : x.2 = y.2 := by omega
      by_cases h4 : x.1 < y.1
      · simp [h3, h4]
      · by_cases h5 : y.1 < x.1
        · simp [h3, h4, h5]
        · simp [h3, h4, h5]

set_option maxRecDepth 100000 in
set_option maxHeartbeats 8000000 in
theorem order_ok : CmpOk cfR := by
  intro a b c d w
  have h64 := fun W => cmp64_calls b d W
  have hn := fun W => cmpn_calls a c W
  replace h64 := Lib.hid h64
  replace hn := Lib.hid hn
  obtain ⟨p, hp⟩ : ∃ p, p = cmpI b d := ⟨_, rfl⟩
  obtain ⟨q, hq⟩ : ∃ q, q = cmpI a c := ⟨_, rfl⟩
  rw [← hp] at h64
  rw [← hq] at hn
  replace hp := Lib.hid hp
  replace hq := Lib.hid hq
  go_enter Try.func42, Try.ntmps42
  go_wp2_with fail
  have A1 : Blk (w.alloc (.cells #[.int .i64 a, .int .i64 b] 62)) w.heap.size [.int .i64 a, .int .i64 b] 62 := Blk.new _ _ _
  have A2 := A1.alloc (.cells #[.int .i64 c, .int .i64 d] 62)
  have A3 : Blk ((w.alloc (.cells #[.int .i64 a, .int .i64 b] 62)).alloc (.cells #[.int .i64 c, .int .i64 d] 62)) (w.heap.size + 1) [.int .i64 c, .int .i64 d] 62 := Blk.new_at _ _ (by simp)
  have HB : Below w.heap.size w ((w.alloc (.cells #[.int .i64 a, .int .i64 b] 62)).alloc (.cells #[.int .i64 c, .int .i64 d] 62)) := ((Below.refl _ _).alloc (Nat.le_refl _) _).alloc (by simp) _
  clear A1
  replace A2 := Lib.hid A2
  replace A3 := Lib.hid A3
  replace HB := Lib.hid HB
  generalize (w.alloc (.cells #[.int .i64 a, .int .i64 b] 62)).alloc (.cells #[.int .i64 c, .int .i64 d] 62) = W at *
  have c0 := A2.out.drew.cell 0 rfl
  have c1 := A2.out.drew.cell 1 rfl
  have e0 := A3.out.drew.cell 0 rfl
  have e1 := A3.out.drew.cell 1 rfl
  clear A2 A3
  refine wp_region_still_tail 10 (by kernel_rfl) (by kernel_rfl) ?_
  change wpStill _ _ W.drew _ _ _
  simp only [List.take_succ_cons, List.take_zero, List.drop_succ_cons, List.drop_zero]
  generalize W.drew = V at *
  repeat (first | still_step | still_call (h64.out _) | still_call (hn.out _))
  refine wpStill_nil ?_
  change wpList _ _ _ _ _ _
  clear h64 hn
  go_wp2_with fail
  refine (or_calls p q _ _ (Blk.cell (Blk.drew (Blk.new _ #[.int .i64 p, .int .i64 q] _)) 0 rfl) (Blk.cell (Blk.drew (Blk.new _ #[.int .i64 p, .int .i64 q] _)) 1 rfl)).mono ?_
  rintro e W1 ⟨rfl, rfl⟩
  have hz := HB.out.size
  go_wp2_with fail
  go_ret
  exact ⟨ret_int (by unfold cfR; rw [hp.out, hq.out]), (HB.out.alloc hz _).drew⟩

theorem ready_nil (now : Int) (w : World) : Calls Try.prog 21 #[.pointer none, .int .i64 now] w fun e w' => e = .returned (.slice none 0 0) ∧ w' = w := by
  go_enter Try.func21, Try.ntmps21
  go_wp2_with fail
  go_ret
  exact ⟨rfl, rfl⟩
set_option maxRecDepth 100000 in
set_option maxHeartbeats 8000000 in
theorem ready_calls (b : Nat) (ce li : Nat → Int × Int) (s : Value) (ts : List Ty) (now : Int) (w : World) (hck : Ck w b ce li s) (ht : TRow w s ts) (hlen : ts.length ≤ 900000) :
    Calls Try.prog 21 #[.pointer (some ⟨b, 0, none⟩), .int .i64 now] w fun e w' => ∃ v rs, e = .returned v ∧ TOwn w' w.heap.size v rs ∧ Below w.heap.size w w' ∧ rs.Perm (ts.filter (dueF now)) ∧ rs.Pairwise (fun x y => ltR y x = false) := by
  have hsort := fun (v : Value) (fs : List Ty) (W : World) (h : TOwn W w.heap.size v fs) (h1 : fs.length ≤ 1000000) => sort_calls cfR order_ok ltR ltR_ok w.heap.size v fs W h h1 (fun p q x y _ _ _ => cfR_lt y x)
  replace hsort := Lib.hid hsort
  obtain ⟨base, cap, rfl, hnc, hc, hr⟩ := ht.open
  have ct := hck.tk
  obtain ⟨n, hnn⟩ : ∃ n, ts.length = n := ⟨_, rfl⟩
  rw [hnn] at ct hnc hlen
  replace hnn := Lib.hid hnn
  replace hr := Lib.hid hr
  unfold maxLen at hc
  clear ht hck
  go_enter Try.func21, Try.ntmps21
  go_wp2_with fail
  go_loopw [4, 14] (fun v i W => ∃ (k : Nat) (fs : List Ty), k ≤ n ∧ i = .int .i64 k ∧ fs = (ts.take k).filter (dueF now) ∧ TOwn W w.heap.size v fs ∧ Below w.heap.size w W) (fun _ i _ => n - (intOf i).toNat)
  case atStart => exact ⟨0, [], by omega, rfl, rfl, TOwn.nil _ _, Below.refl _ _⟩
  case round =>
    obtain ⟨k, fs, hk, rfl, hfs, hown, HB⟩ := hrel
    have hz := HB.size
    have hfl : fs.length ≤ k := by
      rw [hfs]
      exact Nat.le_trans (List.length_filter_le _ _) (by rw [List.length_take]; omega)
    replace hfs := Lib.hid hfs
    replace hown := Lib.hid hown
    by_cases hlt : k < n
    · have hne : ts ≠ [] := fun e => by have := hnn.out; rw [e] at this; simp at this; omega
      obtain ⟨tb, off, rfl, hcell⟩ := hr.out hne
      obtain ⟨t, hkt⟩ : ∃ t, ts[k]? = some t := ⟨_, List.getElem?_eq_getElem (by rw [hnn.out]; exact hlt)⟩
      obtain ⟨d0', d1'⟩ := hcell k t hkt
      have d0 := (HB.cell (World.block_lt_of_cell? _ _ d0')).trans d0'
      have d1 := (HB.cell (World.block_lt_of_cell? _ _ d1')).trans d1'
      clear d0' d1' ct
      have hst := filter_step (now := now) hkt
      rw [← hfs.out] at hst
      obtain ⟨x, y⟩ := t
      simp only at d0 d1 hst
      replace hst := Lib.hid hst
      replace hkt := Lib.hid hkt
      replace hcell := Lib.hid hcell
      replace HB := Lib.hid HB
      by_cases hq : y ≤ now
      · go_wp2_with (at_builtin; refine wpList_append_ticks rfl (.tmp 22) (.tmp 24) rfl rfl rfl ((hown.out.alloc _).alloc _) (trow_one (Blk.new_at _ _ (by simp))) (by simp; omega) (by simp; omega) ?_)
        intro v' w' h4 h5 h6
        have HB2 := below_own (((HB.out.alloc hz _).alloc (by simp; omega) _)) ((hown.out.alloc _).alloc _) h5 (by simp; omega)
        rw [show fs ++ [(x, y)] = (ts.take (k + 1)).filter (dueF now) by rw [hst.out]; simp [hq]] at h4
        replace h4 := Lib.hid h4
        replace HB2 := Lib.hid HB2
        clear h5 h6
        go_wp2_with fail
        go_roundw
        case rel => exact ⟨k + 1, _, by omega, by go_num, rfl, h4.out, HB2.out⟩
        case measure => simp [intOf]; omega
      · go_wp2_with fail
        go_roundw
        case rel => exact ⟨k + 1, _, by omega, by go_num, rfl, by rw [hst.out]; simp [hq]; exact hown.out.alloc _, HB.out.alloc hz _⟩
        case measure => simp [intOf]; omega
    · obtain rfl : k = n := by omega
      have hfs2 : fs = ts.filter (dueF now) := by rw [hfs.out, List.take_of_length_le (by rw [hnn.out]; omega)]
      have hcal := hsort.out _ _ wr hown.out (by omega)
      replace hcal := Lib.hid hcal
      replace hfs2 := Lib.hid hfs2
      replace HB := Lib.hid HB
      clear hlt hfs
      go_wp2_with fail
      refine hcal.out.mono ?_
      rintro e1 W1 ⟨rfl, rs, h1, h2, h3, h4⟩
      have HB2 := HB.out.trans h2
      rw [hfs2.out] at h3
      replace h1 := Lib.hid h1
      replace HB2 := Lib.hid HB2
      replace h3 := Lib.hid h3
      replace h4 := Lib.hid h4
      clear h2 hcal
      go_wp2_with fail
      go_ret
      exact ⟨_, rs, rfl, h1.out, HB2.out, h3.out, h4.out⟩
end Go.Proofs.Ytmpnpanlabkkdaa
