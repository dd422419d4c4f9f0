/-
  Whether a chunk may be: the document's.
-/
import Derived.Test.YtmpnpanlabkkdaaChunkC
namespace Go.Proofs.Ytmpnpanlabkkdaa
open Go.RowKit
set_option linter.unusedSimpArgs false
set_option linter.unusedVariables false

set_option maxRecDepth 100000 in
set_option maxHeartbeats 4000000 in
theorem rcheck_calls (b : Nat) (ce li : Nat → Int × Int) (s : Value) (ts : List (Int × Int)) (w : World) (h : Ck w b ce li s) (ht : TRow w s ts) (hu : U8 ce) :
    Calls Try.prog 12 #[.pointer (some ⟨b, 0, none⟩)] w fun e w' => e = .returned (.int .i64 (checkE ce li ts)) ∧ Below w.heap.size w w' := by
  replace hu := Lib.hid hu
  go_enter Try.func12, Try.ntmps12
  go_wp2_with fail
  go_loopw [3] (fun i W => ∃ k : Nat, k ≤ 4096 ∧ i = .int .i64 k ∧ (∀ j, j < k → mayC ce j = true) ∧ Below w.heap.size w W) (fun i _ => 4096 - (intOf i).toNat)
  case atStart => exact ⟨0, by omega, rfl, fun _ h => absurd h (Nat.not_lt_zero _), Below.refl _ _⟩
  case round =>
    obtain ⟨k, hk, rfl, hall, HB⟩ := hrel
    have hW := h.below HB h.lt
    replace hall := Lib.hid hall
    by_cases hlt : k < 4096
    · have c0 := hW.c0 hlt
      have c1 := hW.c1 hlt
      have hz := HB.size
      have bd := hu.out k
      obtain ⟨x, hx⟩ : ∃ x, (ce k).1 = x := ⟨_, rfl⟩
      obtain ⟨y, hy⟩ : ∃ y, (ce k).2 = y := ⟨_, rfl⟩
      have hm : mayC ce k = mayK x y := by rw [← hx, ← hy]; rfl
      rw [hx] at c0 bd
      rw [hy] at c1 bd
      clear hx hy
      replace HB := Lib.hid HB
      cases hv : mayK x y
      · have hcal := rmayk_calls x y
        rw [hv] at hm hcal
        clear hv
        replace hcal := Lib.hid hcal
        replace hm := Lib.hid hm
        go_wp2_with fail
        refine (hcal.out _ bd.1 bd.2.1 bd.2.2.1).mono ?_
        rintro e w1 ⟨rfl, hb⟩
        replace HB := Lib.hid (below_step HB.out hz hb)
        go_wp2_with fail
        go_ret
        exact ⟨ret_int (checkE_11 hlt hm.out).symm, HB.out⟩
      · have hcal := rmayk_calls x y
        rw [hv] at hm hcal
        clear hv
        replace hcal := Lib.hid hcal
        replace hm := Lib.hid hm
        go_wp2_with fail
        refine (hcal.out _ bd.1 bd.2.1 bd.2.2.1).mono ?_
        rintro e w1 ⟨rfl, hb⟩
        replace HB := Lib.hid (below_step HB.out hz hb)
        go_wp2_with fail
        go_roundw
        case rel => exact ⟨k + 1, by omega, by go_num, fun j hj => by
          by_cases e : j = k
          · subst e; exact hm.out
          · exact hall.out j (by omega), HB.out⟩
        case measure => simp [intOf]; omega
    · obtain rfl : k = 4096 := by omega
      clear hlt hk
      replace HB := Lib.hid HB
      go_wp2_with fail
      go_loopw [4] (fun i W' => ∃ k : Nat, k ≤ 4096 ∧ i = .int .i64 k ∧ (∀ j, j < k → litC li j = true) ∧ W' = wr) (fun i _ => 4096 - (intOf i).toNat)
      case atStart => exact ⟨0, by omega, rfl, fun _ h => absurd h (Nat.not_lt_zero _), rfl⟩
      case round =>
        obtain ⟨k, hk, rfl, hlit, rfl⟩ := hrel
        replace hlit := Lib.hid hlit
        by_cases hlt : k < 4096
        · have c0 := hW.l0 hlt
          have c1 := hW.l1 hlt
          have hm : litC li k = decide ((li k).1 ≤ 15 ∧ (li k).2 ≤ 15) := rfl
          obtain ⟨x, hx⟩ : ∃ x, (li k).1 = x := ⟨_, rfl⟩
          obtain ⟨y, hy⟩ : ∃ y, (li k).2 = y := ⟨_, rfl⟩
          rw [hx] at c0 hm
          rw [hy] at c1 hm
          clear hx hy
          replace hm := Lib.hid hm
          by_cases hx : 15 < x
          · go_wp2_with fail
            go_ret
            exact ⟨ret_int (checkE_2 hall.out hlt (by rw [hm.out]; simp; omega)).symm, HB.out⟩
          · by_cases hy : 15 < y
            · go_wp2_with fail
              go_ret
              exact ⟨ret_int (checkE_2 hall.out hlt (by rw [hm.out]; simp; omega)).symm, HB.out⟩
            · go_wp2_with fail
              go_roundw
              case rel => exact ⟨k + 1, by omega, by go_num, fun j hj => by
                by_cases e : j = k
                · subst e; rw [hm.out]; simp; omega
                · exact hlit.out j (by omega), trivial⟩
              case measure => simp [intOf]; omega
        · obtain rfl : k = 4096 := by omega
          clear hlt hk
          obtain ⟨base, cap, rfl, hn, hc, hr⟩ := (ht.keep HB.out).open
          have ct := hW.tk
          have hbl := hW.lt
          obtain ⟨n, hnn⟩ : ∃ n, ts.length = n := ⟨_, rfl⟩
          rw [hnn] at ct hn
          replace hnn := Lib.hid hnn
          replace hr := Lib.hid hr
          unfold maxLen at hc
          go_wp2_with fail
          go_loopw [5] (fun i W' => ∃ (k : Nat) (last : Int), k ≤ n ∧ i = .int .i64 k ∧ -1 ≤ last ∧ (k = 0 → last = -1) ∧ (∀ j t, k = j + 1 → ts[j]? = some t → last = t.1) ∧ tOk (-1) ts = tOk last (ts.drop k) ∧ Below wr.heap.size wr W') (fun i _ => n - (intOf i).toNat)
          case atStart => exact ⟨0, -1, by omega, rfl, by omega, fun _ => rfl, fun j t e _ => by omega, by rw [List.drop_zero], Below.refl _ _⟩
          case round =>
            obtain ⟨k, last, hk, rfl, hl0, hl1, hl2, hto, HB2⟩ := hrel
            replace hto := Lib.hid hto
            replace hl1 := Lib.hid hl1
            replace hl2 := Lib.hid hl2
            have hct := (HB2.cell (World.block_lt_of_cell? _ _ ct)).trans ct
            by_cases hlt : k < n
            · have hne : ts ≠ [] := fun e => by have := hnn.out; rw [e] at this; simp at this; omega
              obtain ⟨tb, off, rfl, hcell⟩ := hr.out hne
              obtain ⟨t, hkt⟩ : ∃ t, ts[k]? = some t := ⟨_, List.getElem?_eq_getElem (by rw [hnn.out]; exact hlt)⟩
              obtain ⟨d0', d1'⟩ := hcell k t hkt
              have d0 := (HB2.cell (World.block_lt_of_cell? _ _ d0')).trans d0'
              have d1 := (HB2.cell (World.block_lt_of_cell? _ _ d1')).trans d1'
              clear d0' d1'
              have hst := hto.out.trans (tOk_step hkt)
              replace hst := Lib.hid hst
              have hok : tickOk last t = decide (last < t.1 ∧ t.1 < 4096 ∧ 1 ≤ t.2 ∧ t.2 ≤ 2199023255552) := rfl
              have hkt2 : ∀ x : Int, t.1 = x → ∀ j t', k + 1 = j + 1 → ts[j]? = some t' → x = t'.1 := fun x hx j t' e ht' => by
                obtain rfl : j = k := by omega
                rw [hkt] at ht'
                obtain rfl := Option.some.inj ht'
                exact hx.symm
              obtain ⟨x, hx⟩ : ∃ x, t.1 = x := ⟨_, rfl⟩
              obtain ⟨y, hy⟩ : ∃ y, t.2 = y := ⟨_, rfl⟩
              replace hkt2 := Lib.hid (hkt2 x hx)
              replace hkt := Lib.hid hkt
              have hst2 : tOk (-1) ts = (decide (last < x ∧ x < 4096 ∧ 1 ≤ y ∧ y ≤ 2199023255552) && tOk x (ts.drop (k + 1))) := by rw [hst.out, hok, hx, hy]
              rw [hx] at d0
              rw [hy] at d1
              clear hx hy hok
              replace hst2 := Lib.hid hst2
              have hz2 := HB2.size
              have Hend := HB.out.trans (HB2.mono HB.out.size)
              replace HB2 := Lib.hid HB2
              replace Hend := Lib.hid Hend
              have Hd : Below w.heap.size w (wr.alloc (.cells #[.int .i64 x, .int .i64 y] 62)) := Hend.out.alloc (by have := Hend.out.size; omega) _
              replace Hd := Lib.hid Hd
              have e4 : tOk (-1) ts = false → checkE ce li ts = 4 := fun h => checkE_4 hall.out hlit.out h
              replace e4 := Lib.hid e4
              go_wp2_with fail
              by_cases q1 : x < 0
              · replace hcell := Lib.hid hcell
                clear hct d0 d1
                go_quiet (fail)
                go_wp2_with fail
                go_ret
                exact ⟨ret_int (e4.out (by rw [hst2.out]; simp; omega)).symm, below_drewN Hd.out _⟩
              have q1' : decide (x < 0) = false := by simp; omega
              by_cases q2 : 4095 < x
              · replace hcell := Lib.hid hcell
                clear hct d0 d1
                go_quiet (fail)
                go_wp2_with fail
                go_ret
                exact ⟨ret_int (e4.out (by rw [hst2.out]; simp; omega)).symm, below_drewN Hd.out _⟩
              have q2' : decide (4095 < x) = false := by simp; omega
              by_cases q3 : y < 1
              · replace hcell := Lib.hid hcell
                clear hct d0 d1
                go_quiet (fail)
                go_wp2_with fail
                go_ret
                exact ⟨ret_int (e4.out (by rw [hst2.out]; simp; omega)).symm, below_drewN Hd.out _⟩
              have q3' : decide (y < 1) = false := by simp; omega
              by_cases q4 : 2199023255552 < y
              · replace hcell := Lib.hid hcell
                clear hct d0 d1
                go_quiet (fail)
                go_wp2_with fail
                go_ret
                exact ⟨ret_int (e4.out (by rw [hst2.out]; simp; omega)).symm, below_drewN Hd.out _⟩
              have q4' : decide (2199023255552 < y) = false := by simp; omega
              by_cases k0 : k = 0
              · subst k0
                have hl : last = -1 := hl1.out rfl
                replace hl := Lib.hid hl
                replace hcell := Lib.hid hcell
                clear hct d0 d1
                go_quiet (fail)
                go_wp2_with fail
                go_roundw
                case rel => exact ⟨1, x, by omega, by go_num, by omega, fun h => by omega, fun j t h1 h2 => hkt2.out j t (by omega) h2, by rw [hst2.out]; have := hl.out; simp; omega, below_drewN (HB2.out.alloc (by omega) _) _⟩
                case measure => simp [intOf]; omega
              · obtain ⟨tp, htp⟩ : ∃ t, ts[k - 1]? = some t := ⟨_, List.getElem?_eq_getElem (by rw [hnn.out]; omega)⟩
                have hl := hl2.out (k - 1) tp (by omega) htp
                have p0 := (HB2.out.cell (World.block_lt_of_cell? _ _ (hcell (k - 1) tp htp).1)).trans (hcell (k - 1) tp htp).1
                rw [← hl] at p0
                clear hl htp
                have hbt := World.block_lt_of_cell? _ _ p0
                have hbc := World.block_lt_of_cell? _ _ hct
                replace hcell := Lib.hid hcell
                clear d0 d1
                have hk1 : (0 : Int) < (k : Int) := by omega
                have hk1' : decide ((0 : Int) < (k : Int)) = true := by simp; omega
                have hkn : 0 < k := by omega
                have hkn' : decide (0 < k) = true := by simp; omega
                have hk2 : (1 : Int) ≤ (k : Int) := by omega
                have hk3 : ((k : Int) - 1) < (n : Int) := by omega
                have hk4 : (0 : Int) ≤ (k : Int) - 1 := by omega
                have hw1 : IntKind.i64.wrap ((k : Int) - 1) = (k : Int) - 1 := IntWalk.i64_in _ (by omega)
                have hw2 : ((k : Int) - 1).toNat = k - 1 := by omega
                by_cases q5 : x ≤ last
                · go_quiet (fail)
                  clear hw1 hw2
                  go_wp2_with fail
                  go_ret
                  exact ⟨ret_int (e4.out (by rw [hst2.out]; simp; omega)).symm, below_drewN Hd.out _⟩
                · have q5' : decide (x ≤ last) = false := by simp; omega
                  go_quiet (fail)
                  clear hw1 hw2
                  go_wp2_with fail
                  go_roundw
                  case rel => exact ⟨k + 1, x, by omega, by go_num, by omega, fun h => by omega, hkt2.out, by rw [hst2.out]; simp; omega, below_drewN (HB2.out.alloc (by omega) _) _⟩
                  case measure => simp [intOf]; omega
            · obtain rfl : k = n := by omega
              have Hend := HB.out.trans (HB2.mono HB.out.size)
              replace Hend := Lib.hid Hend
              replace HB2 := Lib.hid HB2
              go_wp2_with fail
              go_ret
              exact ⟨ret_int (checkE_0 hall.out hlit.out (by rw [hto.out, List.drop_of_length_le (by rw [hnn.out]; omega)]; rfl)).symm, Hend.out⟩
end Go.Proofs.Ytmpnpanlabkkdaa
