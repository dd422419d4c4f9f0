/-
  The statements' own ticks and awake.
-/
import Derived.Test.YtmpnpanlabkkdaaChunkY
namespace Go.Proofs.Ytmpnpanlabkkdaa
open Go.RowKit
set_option linter.unusedSimpArgs false
set_option linter.unusedVariables false

def flatT (ts : List Tk) : List Int := ts.flatMap fun t => [t.1, t.2]
theorem flatT_len (ts : List Tk) : (flatT ts).length = ts.length * 2 := by
  induction ts with
  | nil => rfl
  | cons t r ih => simp only [flatT, List.flatMap_cons, List.length_append] at *; simp at *; omega
theorem flatT_at : ∀ {ts : List Tk} {j : Nat} {t : Tk}, ts[j]? = some t → (flatT ts)[2 * j]? = some t.1 ∧ (flatT ts)[2 * j + 1]? = some t.2
  | [], j, t, h => by simp at h
  | x :: r, 0, t, h => by
    obtain rfl : x = t := by simpa using h
    exact ⟨rfl, rfl⟩
  | x :: r, j + 1, t, h => by
    have := flatT_at (ts := r) (j := j) (t := t) (by simpa using h)
    have e : flatT (x :: r) = x.1 :: x.2 :: flatT r := rfl
    rw [e, show 2 * (j + 1) = 2 * j + 1 + 1 by omega]
    exact ⟨this.1, this.2⟩

set_option maxRecDepth 100000 in
set_option maxHeartbeats 4000000 in
/-- The numbers are these. -/
theorem ticksl_calls (s : Value) (ts : List (Int × Int)) (lb : Nat) (m : Nat) (w : World) (ht : TRow w s ts) (hm : m = 2 * ts.length) (hlen : ts.length ≤ 1000000) (T : TypeId) (hl : Blk w lb ((flatT ts).map (Value.int .i64)) T) :
    Calls Try.prog 30 #[s, .slice (some ⟨lb, 0, none⟩) m m] w fun e w' => e = .returned (.bool true) ∧ ∃ q, w' = w.drewN q := by
  obtain ⟨base, cap, rfl, hn, hcap, hr⟩ := ht.open
  obtain ⟨n, hnn⟩ : ∃ n, ts.length = n := ⟨_, rfl⟩
  rw [hnn] at hn hm hlen ⊢
  subst hm
  have hll : ∀ (j : Nat) (t : Tk), ts[j]? = some t → w.cell? ⟨lb, 2 * j, none⟩ = some (.int .i64 t.1) ∧ w.cell? ⟨lb, 2 * j + 1, none⟩ = some (.int .i64 t.2) := fun j t h => by
    obtain ⟨h1, h2⟩ := flatT_at h
    exact ⟨hl.cell _ (by rw [List.getElem?_map, h1]; rfl), hl.cell _ (by rw [List.getElem?_map, h2]; rfl)⟩
  replace hnn := Lib.hid hnn
  replace hr := Lib.hid hr
  replace hll := Lib.hid hll
  unfold maxLen at hcap
  clear ht hl
  have hw0 : IntKind.i64.wrap (2 * (n : Int)) = 2 * (n : Int) := IntWalk.i64_in _ (by omega)
  have hnm : (2 * (n : Int) == ((2 * n : Nat) : Int)) = true := by simp
  go_enter Try.func30, Try.ntmps30
  go_wp2_with fail
  go_loopw [5] (fun i W => ∃ k : Nat, k ≤ n ∧ i = .int .i64 k ∧ ∃ q, W = w.drewN q) (fun i _ => n - (intOf i).toNat)
  case atStart => exact ⟨0, by omega, rfl, 0, rfl⟩
  case round =>
    obtain ⟨k, hk, rfl, q, rfl⟩ := hrel
    clear hw0 hnm
    by_cases hlt : k < n
    · have hne : ts ≠ [] := fun e => by have := hnn.out; rw [e] at this; simp at this; omega
      obtain ⟨tb, off, rfl, hcell⟩ := hr.out hne
      obtain ⟨t, hkt⟩ : ∃ t, ts[k]? = some t := ⟨_, List.getElem?_eq_getElem (by rw [hnn.out]; exact hlt)⟩
      obtain ⟨d0, d1⟩ := hcell k t hkt
      obtain ⟨e0, e1⟩ := hll.out k t hkt
      obtain ⟨x, y⟩ := t
      simp only at d0 d1 e0 e1
      have hkz : (k : Int) < (n : Int) := by omega
      have g1 : (2 * (k : Int)).toNat = 2 * k := by omega
      have g2 : (2 * (k : Int) + 1).toNat = 2 * k + 1 := by omega
      have g3 : (0 : Int) ≤ 2 * (k : Int) := by omega
      have g4 : (0 : Int) ≤ 2 * (k : Int) + 1 := by omega
      have g5 : 2 * (k : Int) < 2 * (n : Int) := by omega
      have g6 : 2 * (k : Int) + 1 < 2 * (n : Int) := by omega
      have g7 : IntKind.i64.wrap (2 * (k : Int)) = 2 * (k : Int) := IntWalk.i64_in _ (by omega)
      have g8 : IntKind.i64.wrap (2 * (k : Int) + 1) = 2 * (k : Int) + 1 := IntWalk.i64_in _ (by omega)
      have g9 : (x == x) = true := by simp
      have g10 : (y == y) = true := by simp
      replace hcell := Lib.hid hcell
      replace hkt := Lib.hid hkt
      go_wp2_with fail
      go_quiet (fail)
      clear g7 g8
      go_wp2_with fail
      go_roundw
      case rel => exact ⟨k + 1, by omega, by go_num, _, rfl⟩
      case measure => simp [intOf]; omega
    · obtain rfl : k = n := by omega
      go_wp2_with fail
      go_ret
      exact ⟨rfl, q, rfl⟩

theorem check_zero : checkE zeroP zeroP [] = 0 := checkE_0 (fun i _ => rfl) (fun i _ => rfl) rfl
theorem wake_1 : wakeL [] 9 5 = [(9, 5)] := by decide
theorem wake_2 : wakeL [(9, 5)] 3 7 = [(3, 7), (9, 5)] := by decide
theorem wake_3 : wakeL [(3, 7), (9, 5)] 9 4 = [(3, 7), (9, 4)] := by decide

set_option maxRecDepth 100000 in
set_option maxHeartbeats 8000000 in
theorem awake_calls (w : World) : Calls Try.prog 9 #[] w fun e w' => e = .returned (.bool true) ∧ Below w.heap.size w w' := by
  have hnew := new_calls w
  have k1 := ck_new w
  have B1 : Below w.heap.size w (w.alloc (.cells chunkZ 44)) := (Below.refl _ _).alloc (Nat.le_refl _) _
  have hz1 : (w.alloc (.cells chunkZ 44)).heap.size = w.heap.size + 1 := by simp
  obtain ⟨W1, hW1⟩ : ∃ W1, w.alloc (.cells chunkZ 44) = W1 := ⟨_, rfl⟩
  rw [hW1] at k1 B1 hz1 hnew
  clear hW1
  have t1 := TRow.nil W1
  have hck := check_calls w.heap.size zeroP zeroP (.slice none 0 0) [] W1 k1 t1 U8.zero
  rw [check_zero] at hck
  replace hnew := Lib.hid hnew
  replace hck := Lib.hid hck
  replace hz1 := Lib.hid hz1
  go_enter Try.func9, Try.ntmps9
  go_wp2_with fail
  refine hnew.out.mono ?_
  rintro e w' ⟨rfl, rfl⟩
  go_wp2_with fail
  refine hck.out.mono ?_
  rintro e W2 ⟨rfl, hb2⟩
  have k2 := k1.keep hb2
  have t2 := t1.keep hb2
  have B2 := below_step B1 (by have := hz1.out; omega) hb2
  have c0 : W2.cell? ⟨w.heap.size, 8190, none⟩ = some (.int .u8 0) := k2.c0 (i := 4095) (by omega)
  have c1 : W2.cell? ⟨w.heap.size, 8191, none⟩ = some (.int .u8 0) := k2.c1 (i := 4095) (by omega)
  have ct := k2.tk
  have hap : Apart (.slice none 0 0) w.heap.size := fun a n c e => by cases e
  have hwk := wake_calls w.heap.size zeroP zeroP (.slice none 0 0) [] 9 5 W2 k2 t2 hap (by simp)
  rw [wake_1] at hwk
  replace hwk := Lib.hid hwk
  clear hb2 hck k1 t1 B1 hnew
  replace B2 := Lib.hid B2
  go_wp2_with fail
  refine hwk.out.mono ?_
  rintro e W3 ⟨rfl, s3, k3, t3, ap3, bt3, _⟩
  have B3 := But.step B2.out bt3 (Nat.le_refl _) B2.out.size
  clear hwk k2 t2 B2 bt3 hap c0 c1 ct
  have hwk := wake_calls w.heap.size zeroP zeroP s3 [(9, 5)] 3 7 W3 k3 t3 ap3 (by simp)
  rw [wake_2] at hwk
  replace hwk := Lib.hid hwk
  replace B3 := Lib.hid B3
  go_wp2_with fail
  refine hwk.out.mono ?_
  rintro e W4 ⟨rfl, s4, k4, t4, ap4, bt4, _⟩
  have B4 := But.step B3.out bt4 (Nat.le_refl _) B3.out.size
  clear hwk k3 t3 B3 bt4 ap3
  have hwk := wake_calls w.heap.size zeroP zeroP s4 [(3, 7), (9, 5)] 9 4 W4 k4 t4 ap4 (by simp)
  rw [wake_3] at hwk
  replace hwk := Lib.hid hwk
  replace B4 := Lib.hid B4
  go_wp2_with fail
  refine hwk.out.mono ?_
  rintro e W5 ⟨rfl, s5, k5, t5, ap5, bt5, _⟩
  have B5 := But.step B4.out bt5 (Nat.le_refl _) B4.out.size
  clear hwk k4 t4 B4 bt5 ap4
  have ct := k5.tk
  have hlt5 := k5.lt
  have hA5 : Below W5.heap.size W5 (W5.alloc (.cells #[.int .i64 3, .int .i64 7, .int .i64 9, .int .i64 4] 3)) := (Below.refl _ _).alloc (Nat.le_refl _) _
  have k6 := k5.keep hA5
  have t6 := t5.keep hA5
  have B6 := below_step B5 B5.size hA5
  have htk := ticksl_calls s5 [(3, 7), (9, 4)] W5.heap.size 4 _ t6 rfl (by simp) _ (Blk.new W5 #[.int .i64 3, .int .i64 7, .int .i64 9, .int .i64 4] 3)
  have hc6 : (W5.alloc (.cells #[.int .i64 3, .int .i64 7, .int .i64 9, .int .i64 4] 3)).heap.size = W5.heap.size + 1 := by simp
  replace htk := Lib.hid htk
  clear hA5 k5 t5 B5
  go_wp2_with fail
  refine htk.out.mono ?_
  rintro e W7 ⟨rfl, q, rfl⟩
  have k7 := k6.drewN q
  have t7 : TRow ((W5.alloc (.cells #[.int .i64 3, .int .i64 7, .int .i64 9, .int .i64 4] 3)).drewN q) s5 [(3, 7), (9, 4)] := t6
  have B7 := below_drewN B6 q
  clear htk k6 t6 B6 ct hlt5
  generalize (W5.alloc (.cells #[.int .i64 3, .int .i64 7, .int .i64 9, .int .i64 4] 3)).drewN q = W6 at *
  have hdu := due_calls w.heap.size zeroP zeroP s5 [(3, 7), (9, 4)] 9 W6 k7 t7
  rw [show dueL [(3, 7), (9, 4)] 9 = 4 from by decide] at hdu
  replace hdu := Lib.hid hdu
  go_wp2_with fail
  refine hdu.out.mono ?_
  rintro e W8 ⟨rfl, hb8⟩
  have k8 := k7.keep hb8
  have t8 := t7.keep hb8
  have B8 := below_step B7 B7.size hb8
  clear hdu k7 t7 B7 hb8
  have hle := least_calls w.heap.size zeroP zeroP s5 [(3, 7), (9, 4)] W8 k8 t8
  rw [show leastL [(3, 7), (9, 4)] = 4 from by decide] at hle
  replace hle := Lib.hid hle
  go_wp2_with fail
  refine hle.out.mono ?_
  rintro e W9 ⟨rfl, hb9⟩
  have B9 := below_step B8 B8.size hb9
  clear hle k8 t8 B8 hb9
  replace B9 := Lib.hid B9
  go_wp2_with fail
  go_ret
  exact ⟨rfl, B9.out⟩
end Go.Proofs.Ytmpnpanlabkkdaa
