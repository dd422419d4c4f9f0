/-
  The document's pool: in, Cell, Light, Ticks, Used, Take.
-/
import Derived.Test.YtlaodkolkoefgaaFrU
import Derived.Test.YtlaodkolkoefgaaStage
namespace Go.Proofs.Ytlaodkolkoefgaa
open Go.RowKit
set_option linter.unusedSimpArgs false
set_option linter.unusedVariables false

set_option maxRecDepth 100000 in
set_option maxHeartbeats 4000000 in
theorem in_calls (qb kb kc n : Nat) (f i : Int) (w : World) (c0 : w.cell? ⟨qb, 0, none⟩ = some (.slice (some ⟨kb, 0, none⟩) n kc)) (hn : n ≤ 64) :
    Calls Try.prog 62 #[.pointer (some ⟨qb, 0, none⟩), .int .i64 f, .int .i64 i] w fun e w' => e = .returned (.bool (decide (inR n f i))) ∧ w' = w := by
  by_cases q1 : 0 ≤ f
  · by_cases q2 : f < n
    · by_cases q3 : 0 ≤ i
      · by_cases q4 : i < 4096
        · rw [decide_eq_true (show inR n f i from ⟨q1, q2, q3, q4⟩)]
          go_enter Try.func62, Try.ntmps62
          go_wp2_with fail
          go_ret
          exact ⟨rfl, rfl⟩
        · rw [decide_eq_false (show ¬ inR n f i from fun h => q4 h.2.2.2)]
          have q4' : decide (i < 4096) = false := by simp; omega
          go_enter Try.func62, Try.ntmps62
          go_wp2_with fail
          go_ret
          exact ⟨rfl, rfl⟩
      · rw [decide_eq_false (show ¬ inR n f i from fun h => q3 h.2.2.1)]
        have q3' : decide (0 ≤ i) = false := by simp; omega
        go_enter Try.func62, Try.ntmps62
        go_wp2_with fail
        go_ret
        exact ⟨rfl, rfl⟩
    · rw [decide_eq_false (show ¬ inR n f i from fun h => q2 h.2.1)]
      have q2' : decide (f < (n : Int)) = false := by simp; omega
      go_enter Try.func62, Try.ntmps62
      go_wp2_with fail
      go_ret
      exact ⟨rfl, rfl⟩
  · rw [decide_eq_false (show ¬ inR n f i from fun h => q1 h.1)]
    have q1' : decide (0 ≤ f) = false := by simp; omega
    go_enter Try.func62, Try.ntmps62
    go_wp2_with fail
    go_ret
    exact ⟨rfl, rfl⟩
/-- A frame's cell, its light, as the document has them. -/
def atR (n : Nat) (CE : Nat → Nat → Int × Int) (f i : Int) : Int × Int := if inR n f i then CE f.toNat i.toNat else (0, 0)
set_option maxRecDepth 100000 in
set_option maxHeartbeats 4000000 in
theorem rcell_calls (qb kb kc ub n : Nat) (x : Nat → Nat) (CE LI : Nat → Nat → Int × Int) (T : Nat → List Tk) (tk : Nat → Bool) (f i : Int) (w : World) (h : Rp w qb kb kc ub n x CE LI T tk) :
    Calls Try.prog 51 #[.pointer (some ⟨qb, 0, none⟩), .int .i64 f, .int .i64 i] w fun e w' => e = .returned (.agg #[.int .u8 (atR n CE f i).1, .int .u8 (atR n CE f i).2]) ∧ Below w.heap.size w w' := by
  have hA : Below w.heap.size w (w.alloc (.cells #[.int .u8 0, .int .u8 0] 25)) := (Below.refl _ _).alloc (Nat.le_refl _) _
  have hb := Blk.new w #[.int .u8 0, .int .u8 0] 25
  have h1 := h.keep hA
  have hkl := h.ptrs.elim fun cs k => k.1.lt
  have hql := h.pool.lt
  have hxl : ∀ f, f < n → x f < w.heap.size := fun f hf => (h.ch f hf).elim fun s k => k.1.lt
  obtain ⟨W1, hW1⟩ : ∃ W1, w.alloc (.cells #[.int .u8 0, .int .u8 0] 25) = W1 := ⟨_, rfl⟩
  rw [hW1] at hA hb h1
  have hc := in_calls qb kb kc n f i W1 h1.c0 h1.n64
  have x0 := hb.cell 0 rfl
  have x1 := hb.cell 1 rfl
  have y0 := hb.frozen 0
  have y1 := hb.frozen 1
  have hl1 := hb.lt
  have q0 := h1.c0
  replace hc := Lib.hid hc
  replace hA := Lib.hid hA
  replace hb := Lib.hid hb
  by_cases hr : inR n f i
  · obtain ⟨m, j, rfl, rfl, hm, hj⟩ := inR_nat hr
    have hat : atR n CE (m : Int) (j : Int) = CE m j := by unfold atR; rw [if_pos hr]; simp
    rw [hat]
    rw [decide_eq_true hr] at hc
    have pm := h1.ptr hm
    obtain ⟨s, kx, _⟩ := h1.ch m hm
    have k0 := kx.c0 hj
    have k1 := kx.c1 hj
    have hxm := hxl m hm
    have hne : ¬ x m = w.heap.size := by omega
    obtain ⟨a, ha⟩ : ∃ a, (CE m j).1 = a := ⟨_, rfl⟩
    obtain ⟨b, hb'⟩ : ∃ a, (CE m j).2 = a := ⟨_, rfl⟩
    rw [ha] at k0 ⊢
    rw [hb'] at k1 ⊢
    have hn64 := h.n64
    have hmz : (m : Int) < (n : Int) := by omega
    have hjz : (j : Int) < 4096 := by omega
    clear h h1 kx ha hb' hat hr hxl
    go_enter Try.func51, Try.ntmps51
    go_wp2_with fail
    refine hc.out.mono ?_
    rintro e w1 ⟨rfl, rfl⟩
    clear hc hW1
    go_wp2_with fail
    have hx2 : Blk ((w1.setCell ⟨w.heap.size, 0, none⟩ (.int .u8 a)).setCell ⟨w.heap.size, 1, none⟩ (.int .u8 b)) w.heap.size [.int .u8 a, .int .u8 b] 25 := (hb.out.set 0 _).set 1 _
    refine bodyPost_ret (results_cell_row rfl _ _ w.heap.size 25 #[.int .u8 a, .int .u8 b] (0, 0) _ rfl hx2 Try.underlying25 rfl (by kernel_rfl)) rfl ?_
    exact ⟨rfl, (hA.out.setCell (p := ⟨_, _, none⟩) (Nat.le_refl _) _).setCell (p := ⟨_, _, none⟩) (Nat.le_refl _) _⟩
  · have hat : atR n CE f i = (0, 0) := if_neg hr
    rw [hat]
    rw [decide_eq_false hr] at hc
    clear h h1 hat hr hxl
    go_enter Try.func51, Try.ntmps51
    go_wp2_with fail
    refine hc.out.mono ?_
    rintro e w1 ⟨rfl, rfl⟩
    clear hc hW1
    go_wp2_with fail
    have hx2 : Blk ((w1.setCell ⟨w.heap.size, 0, none⟩ (.int .u8 0)).setCell ⟨w.heap.size, 1, none⟩ (.int .u8 0)) w.heap.size [.int .u8 0, .int .u8 0] 25 := (hb.out.set 0 _).set 1 _
    refine bodyPost_ret (results_cell_row rfl _ _ w.heap.size 25 #[.int .u8 0, .int .u8 0] (0, 0) _ rfl hx2 Try.underlying25 rfl (by kernel_rfl)) rfl ?_
    exact ⟨rfl, (hA.out.setCell (p := ⟨_, _, none⟩) (Nat.le_refl _) _).setCell (p := ⟨_, _, none⟩) (Nat.le_refl _) _⟩
set_option maxRecDepth 100000 in
set_option maxHeartbeats 4000000 in
theorem rlight_calls (qb kb kc ub n : Nat) (x : Nat → Nat) (CE LI : Nat → Nat → Int × Int) (T : Nat → List Tk) (tk : Nat → Bool) (f i : Int) (w : World) (h : Rp w qb kb kc ub n x CE LI T tk) :
    Calls Try.prog 53 #[.pointer (some ⟨qb, 0, none⟩), .int .i64 f, .int .i64 i] w fun e w' => e = .returned (.agg #[.int .u8 (atR n LI f i).1, .int .u8 (atR n LI f i).2]) ∧ Below w.heap.size w w' := by
  have hA : Below w.heap.size w (w.alloc (.cells #[.int .u8 0, .int .u8 0] 42)) := (Below.refl _ _).alloc (Nat.le_refl _) _
  have hb := Blk.new w #[.int .u8 0, .int .u8 0] 42
  have h1 := h.keep hA
  have hkl := h.ptrs.elim fun cs k => k.1.lt
  have hql := h.pool.lt
  have hxl : ∀ f, f < n → x f < w.heap.size := fun f hf => (h.ch f hf).elim fun s k => k.1.lt
  obtain ⟨W1, hW1⟩ : ∃ W1, w.alloc (.cells #[.int .u8 0, .int .u8 0] 42) = W1 := ⟨_, rfl⟩
  rw [hW1] at hA hb h1
  have hc := in_calls qb kb kc n f i W1 h1.c0 h1.n64
  have x0 := hb.cell 0 rfl
  have x1 := hb.cell 1 rfl
  have y0 := hb.frozen 0
  have y1 := hb.frozen 1
  have hl1 := hb.lt
  have q0 := h1.c0
  replace hc := Lib.hid hc
  replace hA := Lib.hid hA
  replace hb := Lib.hid hb
  by_cases hr : inR n f i
  · obtain ⟨m, j, rfl, rfl, hm, hj⟩ := inR_nat hr
    have hat : atR n LI (m : Int) (j : Int) = LI m j := by unfold atR; rw [if_pos hr]; simp
    rw [hat]
    rw [decide_eq_true hr] at hc
    have pm := h1.ptr hm
    obtain ⟨s, kx, _⟩ := h1.ch m hm
    have k0 := kx.l0 hj
    have k1 := kx.l1 hj
    have hxm := hxl m hm
    have hne : ¬ x m = w.heap.size := by omega
    obtain ⟨a, ha⟩ : ∃ a, (LI m j).1 = a := ⟨_, rfl⟩
    obtain ⟨b, hb'⟩ : ∃ a, (LI m j).2 = a := ⟨_, rfl⟩
    rw [ha] at k0 ⊢
    rw [hb'] at k1 ⊢
    have hn64 := h.n64
    have hmz : (m : Int) < (n : Int) := by omega
    have hjz : (j : Int) < 4096 := by omega
    clear h h1 kx ha hb' hat hr hxl
    go_enter Try.func53, Try.ntmps53
    go_wp2_with fail
    refine hc.out.mono ?_
    rintro e w1 ⟨rfl, rfl⟩
    clear hc hW1
    go_wp2_with fail
    have hx2 : Blk ((w1.setCell ⟨w.heap.size, 0, none⟩ (.int .u8 a)).setCell ⟨w.heap.size, 1, none⟩ (.int .u8 b)) w.heap.size [.int .u8 a, .int .u8 b] 42 := (hb.out.set 0 _).set 1 _
    refine bodyPost_ret (results_cell_row rfl _ _ w.heap.size 42 #[.int .u8 a, .int .u8 b] (0, 0) _ rfl hx2 Try.underlying42 rfl (by kernel_rfl)) rfl ?_
    exact ⟨rfl, (hA.out.setCell (p := ⟨_, _, none⟩) (Nat.le_refl _) _).setCell (p := ⟨_, _, none⟩) (Nat.le_refl _) _⟩
  · have hat : atR n LI f i = (0, 0) := if_neg hr
    rw [hat]
    rw [decide_eq_false hr] at hc
    clear h h1 hat hr hxl
    go_enter Try.func53, Try.ntmps53
    go_wp2_with fail
    refine hc.out.mono ?_
    rintro e w1 ⟨rfl, rfl⟩
    clear hc hW1
    go_wp2_with fail
    have hx2 : Blk ((w1.setCell ⟨w.heap.size, 0, none⟩ (.int .u8 0)).setCell ⟨w.heap.size, 1, none⟩ (.int .u8 0)) w.heap.size [.int .u8 0, .int .u8 0] 42 := (hb.out.set 0 _).set 1 _
    refine bodyPost_ret (results_cell_row rfl _ _ w.heap.size 42 #[.int .u8 0, .int .u8 0] (0, 0) _ rfl hx2 Try.underlying42 rfl (by kernel_rfl)) rfl ?_
    exact ⟨rfl, (hA.out.setCell (p := ⟨_, _, none⟩) (Nat.le_refl _) _).setCell (p := ⟨_, _, none⟩) (Nat.le_refl _) _⟩

set_option maxRecDepth 100000 in
set_option maxHeartbeats 4000000 in
theorem rticks_calls (qb kb kc ub n : Nat) (x : Nat → Nat) (CE LI : Nat → Nat → Int × Int) (T : Nat → List Tk) (tk : Nat → Bool) (f : Int) (w : World) (h : Rp w qb kb kc ub n x CE LI T tk) :
    Calls Try.prog 49 #[.pointer (some ⟨qb, 0, none⟩), .int .i64 f] w fun e w' => (∃ v, e = .returned v ∧ TRow w v (if 0 ≤ f ∧ f < n then T f.toNat else [])) ∧ w' = w := by
  have hc := in_calls qb kb kc n f 0 w h.c0 h.n64
  have q0 := h.c0
  have hn64 := h.n64
  replace hc := Lib.hid hc
  by_cases hr : 0 ≤ f ∧ f < n
  · have hr2 : inR n f 0 := ⟨hr.1, hr.2, by omega, by omega⟩
    have hcc := hc.out
    rw [decide_eq_true hr2] at hcc
    replace hcc := Lib.hid hcc
    clear hc
    rw [if_pos hr]
    obtain ⟨m, rfl⟩ : ∃ m : Nat, f = (m : Int) := ⟨f.toNat, by omega⟩
    have hm : m < n := by omega
    have pm := h.ptr hm
    obtain ⟨s, kx, tr⟩ := h.ch m hm
    obtain ⟨tb, tc, rfl, _⟩ := tr.open
    have kt := kx.tk
    have hmz : (m : Int) < (n : Int) := by omega
    rw [Int.toNat_natCast]
    generalize (T m).length = tl at *
    replace tr := Lib.hid tr
    clear h kx hr hr2
    go_enter Try.func49, Try.ntmps49
    go_wp2_with fail
    refine hcc.out.mono ?_
    rintro e w1 ⟨rfl, rfl⟩
    clear hcc
    go_wp2_with fail
    go_ret
    exact ⟨⟨_, rfl, tr.out⟩, rfl⟩
  · have hr2 : ¬ inR n f 0 := fun h => hr ⟨h.1, h.2.1⟩
    have hcc := hc.out
    rw [decide_eq_false hr2] at hcc
    replace hcc := Lib.hid hcc
    rw [if_neg hr]
    clear h hc hr hr2
    go_enter Try.func49, Try.ntmps49
    go_wp2_with fail
    refine hcc.out.mono ?_
    rintro e w1 ⟨rfl, rfl⟩
    clear hcc
    go_wp2_with fail
    go_ret
    exact ⟨⟨_, rfl, TRow.nil _⟩, rfl⟩
set_option maxRecDepth 100000 in
set_option maxHeartbeats 4000000 in
theorem rused_calls (qb kb kc ub n : Nat) (x : Nat → Nat) (CE LI : Nat → Nat → Int × Int) (T : Nat → List Tk) (tk : Nat → Bool) (w : World) (h : Rp w qb kb kc ub n x CE LI T tk) :
    Calls Try.prog 57 #[.pointer (some ⟨qb, 0, none⟩)] w fun e w' => e = .returned (.int .i64 (usedN tk n : Nat)) ∧ w' = w := by
  have c1 := h.c1
  have hn64 := h.n64
  have ht := h.take
  clear h
  replace ht := Lib.hid ht
  go_enter Try.func57, Try.ntmps57
  go_wp2_with fail
  go_loop [3, 4] (fun v i => ∃ k : Nat, k ≤ n ∧ i = .int .i64 k ∧ v = .int .i64 (usedN tk k : Nat)) (fun _ i => n - (intOf i).toNat)
  case atStart => exact ⟨0, by omega, rfl, rfl⟩
  case round =>
    obtain ⟨k, hk, rfl, rfl⟩ := hrel
    have hul := usedN_le tk k
    by_cases hlt : k < n
    · have c0 := ht.out.cell hlt
      have hkz : (k : Int) < (n : Int) := by omega
      have hst : usedN tk (k + 1) = usedN tk k + if tk k then 1 else 0 := rfl
      obtain ⟨v, hv⟩ : ∃ v, tk k = v := ⟨_, rfl⟩
      rw [hv] at c0 hst
      obtain ⟨U, hU⟩ : ∃ U, usedN tk k = U := ⟨_, rfl⟩
      rw [hU] at hst hul ⊢
      clear hv hU
      cases v with
      | false =>
        replace hst := Lib.hid hst
        go_wp2_with fail
        go_round
        case rel => exact ⟨k + 1, by omega, by go_num, by rw [hst.out]; rfl⟩
        case measure => simp [intOf]; omega
      | true =>
        replace hst := Lib.hid hst
        go_wp2_with fail
        go_round
        case rel => exact ⟨k + 1, by omega, by go_num, by rw [hst.out]; go_num⟩
        case measure => simp [intOf]; omega
    · obtain rfl : k = n := by omega
      go_wp2_with fail
      go_ret
      exact ⟨rfl, rfl⟩
set_option maxRecDepth 100000 in
set_option maxHeartbeats 4000000 in
theorem rtake_calls (qb kb kc ub n : Nat) (x : Nat → Nat) (CE LI : Nat → Nat → Int × Int) (T : Nat → List Tk) (tk : Nat → Bool) (w : World) (h : Rp w qb kb kc ub n x CE LI T tk) :
    Calls Try.prog 48 #[.pointer (some ⟨qb, 0, none⟩)] w fun e w' => ∃ r, e = .returned (.tuple #[.int .i64 (optN r), .bool r.isSome]) ∧ Fst n tk r ∧ Rp w' qb kb kc ub n x CE LI T (takenT tk r) ∧ But ub w w' := by
  have c1 := h.c1
  have hql := h.pool.lt
  have hul := h.take.lt
  have hn64 := h.n64
  replace h := Lib.hid h
  go_enter Try.func48, Try.ntmps48
  go_wp2_with fail
  go_loop [4] (fun i => ∃ k : Nat, k ≤ n ∧ i = .int .i64 k ∧ ∀ j, j < k → tk j = true) (fun i => n - (intOf i).toNat)
  case atStart => exact ⟨0, by omega, rfl, fun j hj => absurd hj (Nat.not_lt_zero _)⟩
  case round =>
    obtain ⟨k, hk, rfl, hall⟩ := hrel
    replace hall := Lib.hid hall
    by_cases hlt : k < n
    · have c0 := h.out.take.cell hlt
      have f0 := h.out.take.frozen k
      obtain ⟨v, hv⟩ : ∃ v, tk k = v := ⟨_, rfl⟩
      rw [hv] at c0
      have hkz : (k : Int) < (n : Int) := by omega
      replace hv := Lib.hid hv
      cases v with
      | false =>
        have hend := h.out.setTk k true
        have hf : Fst n tk (some k) := ⟨fun j hj => by cases hj; exact ⟨hlt, hv.out, hall.out⟩, fun h => by cases h⟩
        replace hend := Lib.hid hend
        replace hf := Lib.hid hf
        go_wp2_with fail
        go_ret2
        exact ⟨some k, rfl, hf.out, hend.out, (But.refl _ _).setCell _ _⟩
      | true =>
        go_wp2_with fail
        go_round
        case rel => exact ⟨k + 1, by omega, by go_num, fun j hj => by
          by_cases e : j = k
          · rw [e]; exact hv.out
          · exact hall.out j (by omega)⟩
        case measure => simp [intOf]; omega
    · obtain rfl : k = n := by omega
      have hf : Fst k tk none := ⟨fun j hj => (by cases hj), fun _ => hall.out⟩
      replace hf := Lib.hid hf
      go_wp2_with fail
      go_ret2
      exact ⟨none, rfl, hf.out, h.out, But.refl _ _⟩
end Go.Proofs.Ytlaodkolkoefgaa
