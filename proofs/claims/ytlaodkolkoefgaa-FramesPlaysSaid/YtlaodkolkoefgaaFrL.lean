/-
  What Load refuses.
-/
import Derived.Test.YtlaodkolkoefgaaFrK
namespace Go.Proofs.Ytlaodkolkoefgaa
open Go.RowKit
set_option linter.unusedSimpArgs false
set_option linter.unusedVariables false

set_option maxHeartbeats 1000000 in
theorem check_nil (w : World) : Calls Try.prog 10 #[.pointer none] w fun e w' => e = .returned (.int .i64 1) ∧ Below w.heap.size w w' := by
  go_enter Try.func10, Try.ntmps10
  go_wp2_with fail
  go_ret
  exact ⟨rfl, Below.refl _ _⟩
set_option maxRecDepth 100000 in
set_option maxHeartbeats 4000000 in
/-- The chunk may not be. -/
theorem pload_bad (pb sb tb n f : Nat) (c : Option Addr) (E : Int) (w : World) (hp : Blk w pb (poolC sb tb n) 61) (hn : n ≤ 64) (hf : f < n) (hE : E ≠ 0)
    (hc : Calls Try.prog 10 #[.pointer c] w fun e w' => e = .returned (.int .i64 E) ∧ Below w.heap.size w w') :
    Calls Try.prog 9 #[.pointer (some ⟨pb, 0, none⟩), .int .i64 f, .pointer c] w fun e w' => e = .returned (.int .i64 E) ∧ Below w.heap.size w w' := by
  have hfr := frame_in pb sb tb n f w hp hn hf
  have c1 : w.cell? ⟨pb, 1, none⟩ = some (.slice (some ⟨tb, 0, none⟩) n n) := hp.cell 1 rfl
  have hse := fs_eq
  have hbe := bs_eq
  have hE0 : (E == 0) = false := beq_eq_false_iff_ne.2 hE
  replace hfr := Lib.hid hfr
  replace hc := Lib.hid hc
  replace hE := Lib.hid hE
  clear hp
  go_enter Try.func9, Try.ntmps9
  go_wp2_with fail
  refine hfr.out.mono ?_
  rintro e w1 ⟨rfl, rfl⟩
  clear hfr
  go_wp2_with fail
  refine hc.out.mono ?_
  rintro e W1 ⟨rfl, B1⟩
  clear hc c1
  replace B1 := Lib.hid B1
  go_wp2_with fail
  go_ret
  exact ⟨rfl, B1.out⟩
set_option maxRecDepth 100000 in
set_option maxHeartbeats 4000000 in
theorem pload_out (pb n cp tb : Nat) (f : Int) (c : Option Addr) (w : World) (c1 : w.cell? ⟨pb, 1, none⟩ = some (.slice (some ⟨tb, 0, none⟩) n cp)) (hc : Calls Try.prog 29 #[.pointer (some ⟨pb, 0, none⟩), .int .i64 f] w fun e w' => e = .returned (.slice none 0 0) ∧ w' = w) :
    Calls Try.prog 9 #[.pointer (some ⟨pb, 0, none⟩), .int .i64 f, .pointer c] w fun e w' => e = .returned (.int .i64 2) ∧ w' = w := by
  have hse := fs_eq
  have hbe := bs_eq
  replace hc := Lib.hid hc
  go_enter Try.func9, Try.ntmps9
  go_wp2_with fail
  refine hc.out.mono ?_
  rintro e w1 ⟨rfl, rfl⟩
  clear hc
  go_wp2_with fail
  go_ret
  exact ⟨rfl, rfl⟩
set_option maxRecDepth 100000 in
set_option maxHeartbeats 4000000 in
theorem pload_nil (f : Int) (c : Option Addr) (w : World) : Calls Try.prog 9 #[.pointer none, .int .i64 f, .pointer c] w fun e w' => e = .returned (.int .i64 1) ∧ w' = w := by
  go_enter Try.func9, Try.ntmps9
  go_wp2_with fail
  go_ret
  exact ⟨rfl, rfl⟩
set_option maxRecDepth 100000 in
set_option maxHeartbeats 4000000 in
theorem pload_zero (pb : Nat) (f : Int) (c : Option Addr) (w : World) (c1 : w.cell? ⟨pb, 1, none⟩ = some (.slice none 0 0)) : Calls Try.prog 9 #[.pointer (some ⟨pb, 0, none⟩), .int .i64 f, .pointer c] w fun e w' => e = .returned (.int .i64 1) ∧ w' = w := by
  have hbe := bs_eq
  go_enter Try.func9, Try.ntmps9
  go_wp2_with fail
  go_ret
  exact ⟨rfl, rfl⟩
set_option maxRecDepth 100000 in
set_option maxHeartbeats 4000000 in
theorem pstore_none (p : Option Addr) (f : Int) (w : World) (hc : Calls Try.prog 29 #[.pointer p, .int .i64 f] w fun e w' => e = .returned (.slice none 0 0) ∧ w' = w) :
    Calls Try.prog 12 #[.pointer p, .int .i64 f] w fun e w' => e = .returned (.pointer none) ∧ w' = w := by
  have hse := fs_eq
  replace hc := Lib.hid hc
  go_enter Try.func12, Try.ntmps12
  go_wp2_with fail
  refine hc.out.mono ?_
  rintro e w1 ⟨rfl, rfl⟩
  clear hc
  go_wp2_with fail
  go_ret
  exact ⟨rfl, rfl⟩
set_option maxRecDepth 100000 in
set_option maxHeartbeats 4000000 in
theorem pused_nil (w : World) : Calls Try.prog 24 #[.pointer none] w fun e w' => e = .returned (.int .i64 0) ∧ w' = w := by
  go_enter Try.func24, Try.ntmps24
  go_wp2_with fail
  go_ret
  exact ⟨rfl, rfl⟩
set_option maxRecDepth 100000 in
set_option maxHeartbeats 4000000 in
theorem ptake_zero (pb : Nat) (w : World) (c1 : w.cell? ⟨pb, 1, none⟩ = some (.slice none 0 0)) : Calls Try.prog 19 #[.pointer (some ⟨pb, 0, none⟩)] w fun e w' => e = .returned (.tuple #[.int .i64 0, .bool false]) ∧ w' = w := by
  have hc : Calls Try.prog 36 #[.slice none 0 0, .bool false] w fun e w' => e = .returned (.int .i64 (-1)) ∧ w' = w := by
    go_enter Try.func36, Try.ntmps36
    go_wp2_with fail
    go_loop [8] (fun i => i = .int .i64 0) (fun _ => 1)
    case atStart => rfl
    case round =>
      obtain rfl := hrel
      go_wp2_with fail
      go_ret
      exact ⟨rfl, rfl⟩
  replace hc := Lib.hid hc
  go_enter Try.func19, Try.ntmps19
  go_wp2_with fail
  refine hc.out.mono ?_
  rintro e w1 ⟨rfl, rfl⟩
  clear hc
  go_wp2_with fail
  go_ret2
  exact ⟨rfl, rfl⟩
/-! Least due of a frame. -/
set_option maxRecDepth 100000 in
set_option maxHeartbeats 4000000 in
theorem pleast_any (p : Option Addr) (f : Int) (ts : List Tk) (w : World) (hb : ∀ t ∈ ts, 1 ≤ t.2) (hlen : ts.length ≤ 4096)
    (hc : Calls Try.prog 33 #[.pointer p, .int .i64 f] w fun e w' => ∃ v, e = .returned v ∧ TOwn w' w.heap.size v ts ∧ Below w.heap.size w w') :
    Calls Try.prog 22 #[.pointer p, .int .i64 f] w fun e w' => e = .returned (.int .i64 (leastL ts)) ∧ Below w.heap.size w w' := by
  replace hc := Lib.hid hc
  replace hb := Lib.hid hb
  go_enter Try.func22, Try.ntmps22
  go_wp2_with fail
  refine hc.out.mono ?_
  rintro e W1 ⟨v, rfl, ho, B1⟩
  clear hc
  obtain ⟨base, cap, rfl, hnc, hcm, hr⟩ := ho.row.open
  obtain ⟨n, hnn⟩ : ∃ n, ts.length = n := ⟨_, rfl⟩
  rw [hnn] at hnc hlen ⊢
  replace hnn := Lib.hid hnn
  replace hr := Lib.hid hr
  replace B1 := Lib.hid B1
  unfold maxLen at hcm
  clear ho
  go_wp2_with fail
  go_loopw [4, 11] (fun m i W => ∃ k : Nat, k ≤ n ∧ i = .int .i64 k ∧ m = .int .i64 (leastL (ts.take k)) ∧ Below W1.heap.size W1 W) (fun _ i _ => n - (intOf i).toNat)
  case atStart => exact ⟨0, by omega, rfl, rfl, Below.refl _ _⟩
  case round =>
    obtain ⟨k, hk, rfl, rfl, HB⟩ := hrel
    by_cases hlt : k < n
    · have hne : ts ≠ [] := fun e => by have := hnn.out; rw [e] at this; simp at this; omega
      obtain ⟨tb, off, rfl, hcell⟩ := hr.out hne
      obtain ⟨t, hkt⟩ : ∃ t, ts[k]? = some t := ⟨_, List.getElem?_eq_getElem (by rw [hnn.out]; exact hlt)⟩
      obtain ⟨d0', d1'⟩ := hcell k t hkt
      have d0 := (HB.cell (World.block_lt_of_cell? _ _ d0')).trans d0'
      have d1 := (HB.cell (World.block_lt_of_cell? _ _ d1')).trans d1'
      have hst := leastL_step hkt
      have hA := HB.alloc HB.size (.cells #[.int .i64 t.1, .int .i64 t.2] 56)
      obtain ⟨x, u⟩ := t
      simp only at d0 d1 hst hA
      have hbl : k = 0 → leastL (ts.take k) = 0 := fun e => by subst e; rfl
      have hbl2 : k ≠ 0 → 1 ≤ leastL (ts.take k) := fun e => by
        have hmem : ∀ v ∈ ts.take k, 1 ≤ v.2 := fun v hv => hb.out v (List.mem_of_mem_take hv)
        have hnil : ts.take k ≠ [] := fun e2 => by
          have := congrArg List.length e2
          rw [List.length_take, hnn.out] at this
          simp at this; omega
        cases hq : ts.take k with
        | nil => exact absurd hq hnil
        | cons a r =>
          rw [hq] at hmem
          show 1 ≤ r.foldl (fun m u => if u.2 < m then u.2 else m) a.2
          have key : ∀ (r : List Tk) (m : Int), 1 ≤ m → (∀ v ∈ r, 1 ≤ v.2) → 1 ≤ r.foldl (fun m u => if u.2 < m then u.2 else m) m := by
            intro r
            induction r with
            | nil => intro m hm _; exact hm
            | cons b r ih =>
              intro m hm hr
              rw [List.foldl_cons]
              exact ih _ (by have := hr b List.mem_cons_self; split <;> omega) (fun v hv => hr v (List.mem_cons_of_mem _ hv))
          exact key r a.2 (hmem a List.mem_cons_self) (fun v hv => hmem v (List.mem_cons_of_mem _ hv))
      obtain ⟨L, hL⟩ : ∃ L, leastL (ts.take k) = L := ⟨_, rfl⟩
      rw [hL] at hst hbl hbl2 ⊢
      have hkz : (k : Int) < (n : Int) := by omega
      replace hst := Lib.hid hst
      replace hcell := Lib.hid hcell
      replace hkt := Lib.hid hkt
      replace hA := Lib.hid hA
      replace hL := Lib.hid hL
      clear HB d0' d1'
      by_cases k0 : k = 0
      · have hL0 := hbl k0
        subst hL0
        replace hbl2 := Lib.hid hbl2
        replace k0 := Lib.hid k0
        clear hbl
        go_wp2_with fail
        go_roundw
        case rel => exact ⟨k + 1, by omega, by go_num, by rw [hst.out, if_pos k0.out], hA.out⟩
        case measure => simp [intOf]; omega
      · have hL1 := hbl2 k0
        have hLe : (L == 0) = false := beq_eq_false_iff_ne.2 (by omega)
        replace k0 := Lib.hid k0
        clear hbl hbl2
        by_cases q : u < L
        · go_wp2_with fail
          go_roundw
          case rel => exact ⟨k + 1, by omega, by go_num, by rw [hst.out, if_neg k0.out, if_pos q], hA.out⟩
          case measure => simp [intOf]; omega
        · have q' : decide (u < L) = false := by simp; omega
          go_wp2_with fail
          go_roundw
          case rel => exact ⟨k + 1, by omega, by go_num, by rw [hst.out, if_neg k0.out, if_neg q], hA.out⟩
          case measure => simp [intOf]; omega
    · obtain rfl : k = n := by omega
      rw [List.take_of_length_le (by rw [hnn.out]; omega)]
      replace HB := Lib.hid HB
      go_wp2_with fail
      go_ret
      exact ⟨rfl, B1.out.trans (HB.out.mono B1.out.size)⟩
end Go.Proofs.Ytlaodkolkoefgaa
