/-
  cmp.Compare, slices.MinFunc of ticks, chunk.Least.
-/
import Derived.Test.YtmpnpanlabkkdaaChunkX
namespace Go.Proofs.Ytmpnpanlabkkdaa
open Go.RowKit
set_option linter.unusedSimpArgs false
set_option linter.unusedVariables false

def cmpI (a b : Int) : Int := if a < b then -1 else if b < a then 1 else 0

set_option maxHeartbeats 400000 in
theorem nan64_calls (a : Int) (w : World) : Calls Try.prog 54 #[.int .i64 a] w fun e w' => e = .returned (.bool false) ∧ w' = w := by
  go_enter Try.func54, Try.ntmps54
  go_wp2_with fail
  go_ret
  exact ⟨rfl, rfl⟩

set_option maxHeartbeats 1000000 in
theorem cmp64_calls (a b : Int) (w : World) : Calls Try.prog 40 #[.int .i64 a, .int .i64 b] w fun e w' => e = .returned (.int .i64 (cmpI a b)) ∧ w' = w := by
  by_cases h1 : a < b
  · have e : cmpI a b = -1 := by unfold cmpI; rw [if_pos h1]
    rw [e]
    clear e
    go_enter Try.func40, Try.ntmps40
    go_wp2_with (go_at_call 54; refine (nan64_calls _ _).mono ?_; rintro e w' ⟨rfl, rfl⟩)
    go_ret
    exact ⟨rfl, rfl⟩
  · by_cases h2 : b < a
    · have e : cmpI a b = 1 := by unfold cmpI; rw [if_neg h1, if_pos h2]
      rw [e]
      clear e
      go_enter Try.func40, Try.ntmps40
      go_wp2_with (go_at_call 54; refine (nan64_calls _ _).mono ?_; rintro e w' ⟨rfl, rfl⟩)
      go_ret
      exact ⟨rfl, rfl⟩
    · have e : cmpI a b = 0 := by unfold cmpI; rw [if_neg h1, if_neg h2]
      rw [e]
      clear e
      go_enter Try.func40, Try.ntmps40
      go_wp2_with (go_at_call 54; refine (nan64_calls _ _).mono ?_; rintro e w' ⟨rfl, rfl⟩)
      go_ret
      exact ⟨rfl, rfl⟩
set_option maxHeartbeats 400000 in
theorem nann_calls (a : Int) (w : World) : Calls Try.prog 56 #[.int .i64 a] w fun e w' => e = .returned (.bool false) ∧ w' = w := by
  go_enter Try.func56, Try.ntmps56
  go_wp2_with fail
  go_ret
  exact ⟨rfl, rfl⟩

set_option maxHeartbeats 1000000 in
theorem cmpn_calls (a b : Int) (w : World) : Calls Try.prog 44 #[.int .i64 a, .int .i64 b] w fun e w' => e = .returned (.int .i64 (cmpI a b)) ∧ w' = w := by
  by_cases h1 : a < b
  · have e : cmpI a b = -1 := by unfold cmpI; rw [if_pos h1]
    rw [e]
    clear e
    go_enter Try.func44, Try.ntmps44
    go_wp2_with (go_at_call 56; refine (nann_calls _ _).mono ?_; rintro e w' ⟨rfl, rfl⟩)
    go_ret
    exact ⟨rfl, rfl⟩
  · by_cases h2 : b < a
    · have e : cmpI a b = 1 := by unfold cmpI; rw [if_neg h1, if_pos h2]
      rw [e]
      clear e
      go_enter Try.func44, Try.ntmps44
      go_wp2_with (go_at_call 56; refine (nann_calls _ _).mono ?_; rintro e w' ⟨rfl, rfl⟩)
      go_ret
      exact ⟨rfl, rfl⟩
    · have e : cmpI a b = 0 := by unfold cmpI; rw [if_neg h1, if_neg h2]
      rw [e]
      clear e
      go_enter Try.func44, Try.ntmps44
      go_wp2_with (go_at_call 56; refine (nann_calls _ _).mono ?_; rintro e w' ⟨rfl, rfl⟩)
      go_ret
      exact ⟨rfl, rfl⟩

set_option maxHeartbeats 1000000 in
theorem leastc_calls (a1 d1 a2 d2 : Int) (w : World) : Calls Try.prog 39 #[.agg #[.int .i64 a1, .int .i64 d1], .agg #[.int .i64 a2, .int .i64 d2]] w fun e w' => e = .returned (.int .i64 (cmpI d1 d2)) ∧ Below w.heap.size w w' := by
  go_enter Try.func39, Try.ntmps39
  go_wp2_with fail
  refine (cmp64_calls _ _ _).mono ?_
  rintro e w1 ⟨rfl, rfl⟩
  go_wp2_with fail
  go_ret
  exact ⟨rfl, ((Below.refl _ _).alloc (Nat.le_refl _) _).alloc (by simp) _⟩

set_option maxRecDepth 100000 in
set_option maxHeartbeats 4000000 in
theorem minf_calls (s : Value) (ts : List (Int × Int)) (w : World) (ht : TRow w s ts) (hne : ts ≠ []) :
    Calls Try.prog 38 #[s, .func (.func 39) #[] #[]] w fun e w' => ∃ a : Int, e = .returned (.agg #[.int .i64 a, .int .i64 (leastL ts)]) ∧ Below w.heap.size w w' := by
  obtain ⟨base, cap, rfl, hn, hcap, hr⟩ := ht.open
  obtain ⟨n, hnn⟩ : ∃ n, ts.length = n := ⟨_, rfl⟩
  have hn0 : 0 < n := by rw [← hnn]; exact List.length_pos_iff.2 hne
  rw [hnn] at hn ⊢
  obtain ⟨tb, off, rfl, hcell⟩ := hr hne
  obtain ⟨t0, hk0⟩ : ∃ t, ts[0]? = some t := ⟨_, List.getElem?_eq_getElem (by omega)⟩
  obtain ⟨d0, d1⟩ := hcell 0 t0 hk0
  rw [Nat.zero_mul, Nat.add_zero] at d0 d1
  have hl1 : leastL (ts.take 1) = t0.2 := by have := leastL_step hk0; simpa using this
  replace hnn := Lib.hid hnn
  replace hcell := Lib.hid hcell
  replace hk0 := Lib.hid hk0
  replace hl1 := Lib.hid hl1
  obtain ⟨x0, y0⟩ := t0
  simp only at d0 d1
  unfold maxLen at hcap
  have htb : tb < w.heap.size := World.block_lt_of_cell? _ _ d0
  have hn1 : decide ((n : Int) < 1) = false := by simp; omega
  clear hr hne ht
  have hB : Below w.heap.size w ((w.alloc (.cells #[.int .i64 0, .int .i64 0] 62)).alloc (.cells #[.int .i64 x0, .int .i64 y0] 62)) := ((Below.refl _ _).alloc (Nat.le_refl _) _).alloc (by simp) _
  have hb4 : Blk ((w.alloc (.cells #[.int .i64 0, .int .i64 0] 62)).alloc (.cells #[.int .i64 x0, .int .i64 y0] 62)) w.heap.size [.int .i64 0, .int .i64 0] 62 := (Blk.new w _ _).alloc _
  have hb5 : Blk ((w.alloc (.cells #[.int .i64 0, .int .i64 0] 62)).alloc (.cells #[.int .i64 x0, .int .i64 y0] 62)) (w.heap.size + 1) [.int .i64 x0, .int .i64 y0] 62 := Blk.new_at _ _ (by simp)
  replace hB := Lib.hid hB
  replace hb4 := Lib.hid hb4
  replace hb5 := Lib.hid hb5
  go_enter Try.func38, Try.ntmps38
  go_wp2_with fail
  go_loopw [6] (fun i W => ∃ (k : Nat) (a : Int), 1 ≤ k ∧ k ≤ n ∧ i = .int .i64 k ∧ Blk W w.heap.size [.int .i64 0, .int .i64 0] 62 ∧ Blk W (w.heap.size + 1) [.int .i64 a, .int .i64 (leastL (ts.take k))] 62 ∧ Below w.heap.size w W) (fun i _ => n - (intOf i).toNat)
  case atStart => exact ⟨1, x0, by omega, by omega, rfl, hb4.out, by rw [hl1.out]; exact hb5.out, hB.out⟩
  case round =>
    obtain ⟨k, a, hk1, hk, rfl, b4, b5, HB⟩ := hrel
    clear hb4 hb5 hB d0 d1
    by_cases hlt : k < n
    · obtain ⟨t, hkt⟩ : ∃ t, ts[k]? = some t := ⟨_, List.getElem?_eq_getElem (by rw [hnn.out]; exact hlt)⟩
      obtain ⟨d0, d1⟩ := hcell.out k t hkt
      have hst := leastL_step hkt
      rw [if_neg (by omega)] at hst
      obtain ⟨x, y⟩ := t
      simp only at d0 d1 hst
      obtain ⟨L, hL⟩ : ∃ L, leastL (ts.take k) = L := ⟨_, rfl⟩
      rw [hL] at b5 hst
      clear hL
      replace d0 := (HB.cell (World.block_lt_of_cell? _ _ d0)).trans d0
      replace d1 := (HB.cell (World.block_lt_of_cell? _ _ d1)).trans d1
      have hkz : (k : Int) < (n : Int) := by omega
      have htw := World.block_lt_of_cell? _ _ d0
      have e0 : ∀ p : Ext, (ext wr p).cell? ⟨tb, off + k * 2, none⟩ = some (.int .i64 x) := fun p => ((below_ext wr p).cell (p := ⟨tb, off + k * 2, none⟩) htw).trans d0
      have e1 : ∀ p : Ext, (ext wr p).cell? ⟨tb, off + k * 2 + 1, none⟩ = some (.int .i64 y) := fun p => ((below_ext wr p).cell (p := ⟨tb, off + k * 2 + 1, none⟩) htw).trans d1
      have f0 := b5.cells_ext 0 rfl
      have f1 := b5.cells_ext 1 rfl
      have hcal := fun W => leastc_calls x y a L W
      replace hst := Lib.hid hst
      replace hkt := Lib.hid hkt
      replace HB := Lib.hid HB
      replace b4 := Lib.hid b4
      by_cases hq : y < L
      · rw [if_pos hq] at hst
        have hc : cmpI y L = -1 := by unfold cmpI; rw [if_pos hq]
        rw [hc] at hcal
        clear hc
        replace hcal := Lib.hid hcal
        go_wp2_with fail
        refine wp_region_ext (by kernel_rfl) (by kernel_rfl) ?_
        repeat (quiet_step ((go_at_call 39; exact calls_ext_of (hcal.out _))))
        refine wpQuiet_nil ?_
        rintro _ ⟨pq, rfl⟩
        have B6 := below_step HB.out HB.out.size (below_ext wr pq)
        have h4 := b4.out.ext pq
        have h5 := b5.ext pq
        have g0 := e0 pq
        have g1 := e1 pq
        clear e0 e1 f0 f1 b5 d0 d1 hcal
        generalize ext wr pq = W at *
        have k0 := h5.cell 0 rfl
        have k1 := h5.cell 1 rfl
        have k2 := h5.frozen 0
        have k3 := h5.frozen 1
        have hl5 := h5.lt
        have hne : ¬ tb = w.heap.size + 1 := by omega
        have hne' : ¬ w.heap.size + 1 = tb := by omega
        have j4 := (h4.set_other (a := ⟨w.heap.size + 1, 0, none⟩) (.int .i64 x) (by simp)).set_other (a := ⟨w.heap.size + 1, 1, none⟩) (.int .i64 y) (by simp)
        have j5 : Blk ((W.setCell ⟨w.heap.size + 1, 0, none⟩ (.int .i64 x)).setCell ⟨w.heap.size + 1, 1, none⟩ (.int .i64 y)) (w.heap.size + 1) [.int .i64 x, .int .i64 y] 62 := (h5.set 0 (.int .i64 x)).set 1 (.int .i64 y)
        have j6 := (B6.setCell (p := ⟨w.heap.size + 1, 0, none⟩) (by simp) (.int .i64 x)).setCell (p := ⟨w.heap.size + 1, 1, none⟩) (by simp) (.int .i64 y)
        replace j4 := Lib.hid j4
        replace j5 := Lib.hid j5
        replace j6 := Lib.hid j6
        clear h4 h5 B6 HB b4
        go_wp2_with fail
        go_roundw
        case rel => exact ⟨k + 1, x, by omega, by omega, by go_num, j4.out, by rw [hst.out]; exact j5.out, j6.out⟩
        case measure => simp [intOf]; omega
      · rw [if_neg hq] at hst
        have hc : 0 ≤ cmpI y L := by unfold cmpI; rw [if_neg hq]; split <;> omega
        have hc' : decide (cmpI y L < 0) = false := by simp; omega
        generalize cmpI y L = c at *
        replace hcal := Lib.hid hcal
        go_wp2_with fail
        refine wp_region_ext (by kernel_rfl) (by kernel_rfl) ?_
        repeat (quiet_step ((go_at_call 39; exact calls_ext_of (hcal.out _))))
        refine wpQuiet_nil ?_
        rintro _ ⟨pq, rfl⟩
        have B6 := below_step HB.out HB.out.size (below_ext wr pq)
        have h4 := b4.out.ext pq
        have h5 := b5.ext pq
        replace h4 := Lib.hid h4
        replace h5 := Lib.hid h5
        replace B6 := Lib.hid B6
        clear e0 e1 f0 f1 b5 d0 d1 hcal HB b4
        go_wp2_with fail
        go_roundw
        case rel => exact ⟨k + 1, a, by omega, by omega, by go_num, h4.out, by rw [hst.out]; exact h5.out, B6.out⟩
        case measure => simp [intOf]; omega
    · obtain rfl : k = n := by omega
      rw [List.take_of_length_le (by rw [hnn.out]; omega)] at b5
      obtain ⟨L, hL⟩ : ∃ L, leastL ts = L := ⟨_, rfl⟩
      rw [hL] at b5
      replace hL := Lib.hid hL
      have k0 := b5.cell 0 rfl
      have k1 := b5.cell 1 rfl
      have k2 := b4.frozen 0
      have k3 := b4.frozen 1
      have k4 := b4.cell 0 rfl
      have k5 := b4.cell 1 rfl
      have hl5 := b4.lt
      have j4 : Blk ((wr.setCell ⟨w.heap.size, 0, none⟩ (.int .i64 a)).setCell ⟨w.heap.size, 1, none⟩ (.int .i64 L)) w.heap.size [.int .i64 a, .int .i64 L] 62 := (b4.set 0 (.int .i64 a)).set 1 (.int .i64 L)
      have j40 := j4.cell 0 rfl
      have j41 := j4.cell 1 rfl
      have j6 := (HB.setCell (p := ⟨w.heap.size, 0, none⟩) (by simp) (.int .i64 a)).setCell (p := ⟨w.heap.size, 1, none⟩) (by simp) (.int .i64 L)
      replace j6 := Lib.hid j6
      replace j40 := Lib.hid j40
      replace j41 := Lib.hid j41
      clear b4 b5 HB j4
      go_wp2_with fail
      refine bodyPost_ret (v := .agg #[.int .i64 a, .int .i64 L]) (by simp [results, Try.results38, go_sem, j40.out, j41.out]) rfl ⟨a, by rw [hL.out], j6.out⟩

theorem field_tick1 (a b : Int) (W : World) : (Instr.field 62 (.agg #[.int .i64 a, .int .i64 b]) 1).run Try.prog W = .ok (.int .i64 b) W := by rfl

set_option maxRecDepth 100000 in
set_option maxHeartbeats 4000000 in
theorem least_calls (b : Nat) (ce li : Nat → Int × Int) (s : Value) (ts : List (Int × Int)) (w : World) (h : Ck w b ce li s) (ht : TRow w s ts) :
    Calls Try.prog 19 #[.pointer (some ⟨b, 0, none⟩)] w fun e w' => e = .returned (.int .i64 (leastL ts)) ∧ Below w.heap.size w w' := by
  have ct := h.tk
  have hl := h.lt
  by_cases hne : ts = []
  · subst hne
    obtain ⟨base, cap, rfl, _⟩ := ht.open
    clear h ht
    go_enter Try.func19, Try.ntmps19
    go_wp2_with fail
    go_ret
    exact ⟨rfl, Below.refl _ _⟩
  · have hcal := minf_calls s ts w ht hne
    obtain ⟨base, cap, rfl, _⟩ := ht.open
    have hn : ((ts.length : Int) == 0) = false := by
      have := List.length_pos_iff.2 hne
      simp; omega
    have hn2 : decide (ts = []) = false := by simp [hne]
    replace hcal := Lib.hid hcal
    clear h ht
    go_enter Try.func19, Try.ntmps19
    go_wp2_with fail
    refine hcal.out.mono ?_
    rintro e w1 ⟨a, rfl, hb⟩
    have hf := field_tick1 a (leastL ts) w1
    replace hb := Lib.hid hb
    go_wp2_with fail
    go_ret
    exact ⟨rfl, hb.out⟩
end Go.Proofs.Ytmpnpanlabkkdaa
