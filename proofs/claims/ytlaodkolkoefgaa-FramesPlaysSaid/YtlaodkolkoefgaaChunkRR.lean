/-
  The document's Ready of a list of ticks: the first of those that are left, again and again.
-/
import Derived.Test.YtlaodkolkoefgaaMg11
import Derived.Test.YtlaodkolkoefgaaMg1
import Derived.Test.YtlaodkolkoefgaaMg26
import Derived.BigQuiet
namespace Go.Proofs.Ytlaodkolkoefgaa
open Go.RowKit
set_option linter.unusedSimpArgs false
set_option linter.unusedVariables false

def slen : Value → Nat
  | .slice _ n _ => n
  | _ => 0
theorem under_bools : Try.prog.underlying 59 = some (.slice 4) := by kernel_rfl
theorem info_bool : (Try.prog.info? 4).map (fun i => (i.zero, i.size, i.bytes)) = some (some (.bool false), 1, 1) := by kernel_rfl
theorem make_bools (n : Nat) (hn : n ≤ 1000000) : ∀ u : World, (Instr.makeSlice 59 (.int .i64 (n : Int)) (.int .i64 (n : Int))).run Try.prog u = .ok (.slice (some ⟨u.heap.size, 0, none⟩) n n) (u.alloc (.cells (madeCells #[.bool false] n) 4)) := fun u =>
  run_make_row' 59 4 (.bool false) 1 under_bools info_bool rfl .i64 .i64 n (by omega) (by omega) u

set_option maxRecDepth 100000 in
set_option maxHeartbeats 8000000 in
theorem rready_calls (s : Value) (ts : List Tk) (now : Int) (w : World) (ht : TRow w s ts) (hlen : ts.length ≤ 900000) :
    Calls Try.prog 56 #[s, .int .i64 now] w fun e w' => ∃ v rs, e = .returned v ∧ TRow w' v rs ∧ Below w.heap.size w w' ∧ rs.Perm (ts.filter (dueF now)) ∧ rs.Pairwise (fun x y => ltR y x = false) := by
  obtain ⟨base, cap, rfl, hnc, hc, hr⟩ := ht.open
  obtain ⟨n, hnn⟩ : ∃ n, ts.length = n := ⟨_, rfl⟩
  rw [hnn] at hnc hlen ⊢
  have hmk := make_bools n (by omega) w
  have hg1 := made_row (.bool false) n w 4
  have hB1 : Below w.heap.size w (w.alloc (.cells (madeCells #[.bool false] n) 4)) := (Below.refl _ _).alloc (Nat.le_refl _) _
  generalize madeCells #[.bool false] n = Z at *
  obtain ⟨W1, hW1⟩ : ∃ W1, w.alloc (.cells Z 4) = W1 := ⟨_, rfl⟩
  rw [hW1] at hmk hg1 hB1
  clear hW1
  replace hnn := Lib.hid hnn
  replace hr := Lib.hid hr
  unfold maxLen at hc
  replace hg1 := Lib.hid hg1
  replace hB1 := Lib.hid hB1
  clear ht
  go_enter Try.func56, Try.ntmps56
  go_wp2_with fail
  clear hmk
  go_loopw [6] (fun v W => ∃ (G : Nat → Bool) (us : List Tk), Sel ts now G us ∧ TOwn W (w.heap.size + 1) v us ∧ slen v = us.length ∧ Row1 W w.heap.size 4 n (fun i => .bool (G i)) ∧ Below w.heap.size w W) (fun v _ => n + 1 - slen v)
  case atStart => exact ⟨fun _ => false, [], Sel.start, TOwn.nil _ _, rfl, hg1.out, hB1.out⟩
  case round =>
    obtain ⟨G, us, hS, hown, hsl, hG, HB⟩ := hrel
    clear hg1 hB1
    obtain ⟨vb, vc, rfl, hvn, hvc, _⟩ := hown.row.open
    unfold maxLen at hvc
    have hul := hS.len
    rw [hnn.out] at hul
    obtain ⟨U, hU⟩ : ∃ U, us.length = U := ⟨_, rfl⟩
    rw [hU] at hvn hul hown hsl ⊢
    replace hU := Lib.hid hU
    replace hS := Lib.hid hS
    replace hown := Lib.hid hown
    have hGl := hG.lt
    replace hG := Lib.hid hG
    replace HB := Lib.hid HB
    clear hsl
    go_wp2_with fail
    go_loopw [7, 8] (fun b i W => ∃ (k : Nat) (bo : Option Nat), k ≤ n ∧ i = .int .i64 k ∧ b = .int .i64 (optI bo) ∧ Best ts now G k bo ∧ ∃ q, W = wr.drewN q) (fun _ i _ => n - (intOf i).toNat)
    case atStart => exact ⟨0, none, by omega, rfl, rfl, fun j hj => absurd hj (Nat.not_lt_zero _), 0, rfl⟩
    case round =>
      obtain ⟨k, bo, hk, rfl, rfl, hb, q, rfl⟩ := hrel
      by_cases hlt : k < n
      · -- DEV A
        have hne : ts ≠ [] := fun e => by have := hnn.out; rw [e] at this; simp at this; omega
        obtain ⟨tb, off, rfl, hcell⟩ := hr.out hne
        obtain ⟨t, hkt⟩ : ∃ t, ts[k]? = some t := ⟨_, List.getElem?_eq_getElem (by rw [hnn.out]; exact hlt)⟩
        obtain ⟨d0', d1'⟩ := hcell k t hkt
        have d0 := (HB.out.cell (World.block_lt_of_cell? _ _ d0')).trans d0'
        have d1 := (HB.out.cell (World.block_lt_of_cell? _ _ d1')).trans d1'
        clear d0' d1'
        have hgk := hG.out.cell hlt
        have hgd := getD_of hkt
        have hmem := @mem_leftI ts now G k
        rw [hgd, hnn.out] at hmem
        obtain ⟨x, y⟩ := t
        simp only at d0 d1 hmem
        obtain ⟨g, hg⟩ : ∃ g, G k = g := ⟨_, rfl⟩
        rw [hg] at hgk hmem
        have hkz : (k : Int) < (n : Int) := by omega
        replace hg := Lib.hid hg
        replace hkt := Lib.hid hkt
        replace hgd := Lib.hid hgd
        cases g with
        | true =>
          have hb2 := hb.skip (fun h => by have := (hmem.1 h).2.1; cases this)
          clear hmem hb
          replace hb2 := Lib.hid hb2
          replace hcell := Lib.hid hcell
          go_wp2_with fail
          go_roundw
          case rel => exact ⟨k + 1, bo, by omega, by go_num, rfl, hb2.out, _, rfl⟩
          case measure => simp [intOf]; omega
        | false =>
          by_cases q1 : now < y
          · have hb2 := hb.skip (fun h => by have := (hmem.1 h).2.2; omega)
            clear hmem hb
            replace hb2 := Lib.hid hb2
            replace hcell := Lib.hid hcell
            go_wp2_with fail
            go_roundw
            case rel => exact ⟨k + 1, bo, by omega, by go_num, rfl, hb2.out, _, rfl⟩
            case measure => simp [intOf]; omega
          · have q1' : decide (now < y) = false := by simp; omega
            have hin : k ∈ leftI ts now G := hmem.2 ⟨hlt, rfl, by omega⟩
            clear hmem
            cases bo with
            | none =>
              have hb2 := hb.first hin
              clear hb hin
              replace hb2 := Lib.hid hb2
              replace hcell := Lib.hid hcell
              unfold optI
              go_wp2_with fail
              go_quiet (fail)
              go_wp2_with fail
              go_roundw
              case rel => exact ⟨k + 1, some k, by omega, by go_num, rfl, hb2.out, _, rfl⟩
              case measure => simp [intOf]; omega
            | some m =>
              have hb0 := hb
              obtain ⟨hmk, hml, _⟩ := hb0
              obtain ⟨tm, hmt⟩ : ∃ t, ts[m]? = some t := ⟨_, List.getElem?_eq_getElem (by rw [hnn.out]; omega)⟩
              obtain ⟨e0', e1'⟩ := hcell m tm hmt
              have e0 := (HB.out.cell (World.block_lt_of_cell? _ _ e0')).trans e0'
              have e1 := (HB.out.cell (World.block_lt_of_cell? _ _ e1')).trans e1'
              clear e0' e1'
              have hmd := getD_of hmt
              obtain ⟨u, v⟩ := tm
              simp only at e0 e1
              have hmz : (m : Int) < (n : Int) := by omega
              have hmn : decide ((m : Int) < 0) = false := by simp
              have hless : ltR (x, y) (u, v) = true → Best ts now G (k + 1) (some k) := fun h => Best.less hb hin (by rw [hgd.out, hmd]; exact h)
              have hkeep : ltR (x, y) (u, v) = false → Best ts now G (k + 1) (some m) := fun h => Best.keep hb (by rw [hgd.out, hmd]; exact h)
              have hlt1 : ltR (x, y) (u, v) = decide (y < v ∨ y = v ∧ x < u) := rfl
              rw [hlt1] at hless hkeep
              replace hless := Lib.hid hless
              replace hkeep := Lib.hid hkeep
              replace hmt := Lib.hid hmt
              replace hmd := Lib.hid hmd
              replace hcell := Lib.hid hcell
              clear hlt1 hb hin
              unfold optI
              by_cases p1 : y < v
              · go_wp2_with fail
                go_quiet (fail)
                go_wp2_with fail
                go_roundw
                case rel => exact ⟨k + 1, some k, by omega, by go_num, rfl, hless.out (by simp; omega), _, rfl⟩
                case measure => simp [intOf]; omega
              · have p1' : decide (y < v) = false := by simp; omega
                by_cases p2 : y = v
                · have p2' : (y == v) = true := beq_iff_eq.2 p2
                  replace p2 := Lib.hid p2
                  by_cases p3 : x < u
                  · go_wp2_with fail
                    go_quiet (fail)
                    go_wp2_with fail
                    go_roundw
                    case rel => exact ⟨k + 1, some k, by omega, by go_num, rfl, hless.out (by have := p2.out; simp; omega), _, rfl⟩
                    case measure => simp [intOf]; omega
                  · have p3' : decide (x < u) = false := by simp; omega
                    go_wp2_with fail
                    go_quiet (fail)
                    go_wp2_with fail
                    go_roundw
                    case rel => exact ⟨k + 1, some m, by omega, by go_num, rfl, hkeep.out (by have := p2.out; simp; omega), _, rfl⟩
                    case measure => simp [intOf]; omega
                · have p2' : (y == v) = false := beq_eq_false_iff_ne.2 p2
                  replace p2 := Lib.hid p2
                  go_wp2_with fail
                  go_quiet (fail)
                  go_wp2_with fail
                  go_roundw
                  case rel => exact ⟨k + 1, some m, by omega, by go_num, rfl, hkeep.out (by have := p2.out; simp; omega), _, rfl⟩
                  case measure => simp [intOf]; omega
      · obtain rfl : k = n := by omega
        have hown2 := hown.out.keep (below_drewN (Below.refl _ _) q)
        have hG2 := hG.out.drewN q
        have HB2 := below_drewN HB.out q
        have hGl2 : w.heap.size < (wr.drewN q).heap.size := hGl
        generalize wr.drewN q = W at *
        cases bo with
        | none =>
          have hdn := hS.out.done (fun j hj => hb j (by have := hnn.out; omega))
          have hst := hS.out.sorted
          have hrow := hown2.row
          replace hdn := Lib.hid hdn
          replace hst := Lib.hid hst
          replace hrow := Lib.hid hrow
          replace HB2 := Lib.hid HB2
          clear hb hown2 hG2
          unfold optI
          go_wp2_with fail
          go_ret
          exact ⟨_, us, rfl, hrow.out, HB2.out, hdn.out, hst.out⟩
        | some m =>
          obtain ⟨hmk, hml, hmin⟩ := hb
          have hstep := hS.out.step hml (fun j hj => hmin j (by have := (mem_leftI.1 hj).1; rw [hnn.out] at this; exact this) hj)
          have hmore := hS.out.more hml
          rw [hnn.out, hU.out] at hmore
          have hne : ts ≠ [] := fun e => by have := hnn.out; rw [e] at this; simp at this; omega
          obtain ⟨tb, off, rfl, hcell⟩ := hr.out hne
          obtain ⟨t, hmt⟩ : ∃ t, ts[m]? = some t := ⟨_, List.getElem?_eq_getElem (by rw [hnn.out]; exact hmk)⟩
          obtain ⟨d0', d1'⟩ := hcell m t hmt
          have htb : ¬ tb = w.heap.size := fun e => by have := World.block_lt_of_cell? _ _ d0'; simp at this; omega
          have d0 := (HB2.cell (World.block_lt_of_cell? _ _ d0')).trans d0'
          have d1 := (HB2.cell (World.block_lt_of_cell? _ _ d1')).trans d1'
          clear d0' d1' hmin
          rw [getD_of hmt] at hstep
          obtain ⟨x, y⟩ := t
          simp only at d0 d1
          have hmz : (m : Int) < (k : Int) := by omega
          have hmn : decide ((m : Int) < 0) = false := by simp
          have cg := hG2.cell hmk
          have fg := hG2.frozen m
          have hG3 := hG2.set m (.bool true)
          have HB3 := HB2.setCell (p := ⟨w.heap.size, m, none⟩) (Nat.le_refl _) (.bool true)
          have hown3 := hown2.setBelow (a := ⟨w.heap.size, m, none⟩) (Nat.lt_succ_self _) (.bool true)
          have hz3 : w.heap.size + 1 ≤ (W.setCell ⟨w.heap.size, m, none⟩ (.bool true)).heap.size := by simp [World.setCell]; omega
          replace hcell := Lib.hid hcell
          replace hmt := Lib.hid hmt
          replace hstep := Lib.hid hstep
          replace hG3 := Lib.hid hG3
          replace HB3 := Lib.hid HB3
          replace hown3 := Lib.hid hown3
          replace hz3 := Lib.hid hz3
          clear hG2 HB2 hown2 hml
          unfold optI
          go_wp2_with (at_builtin; refine wpList_append_ticks rfl (.tmp 79) (.tmp 84) rfl rfl rfl (hown3.out.alloc _) (trow_one (Blk.new_at _ _ (by simp))) (by rw [hU.out]; simp; omega) (by have := hz3.out; simp at this ⊢; omega) ?_)
          intro v' w' h4 h5 h6
          have HB4 := below_own ((Below.refl (w.heap.size + 1) _).alloc hz3.out _) (hown3.out.alloc _) h5 (by have := hz3.out; simp at this ⊢; omega)
          have hG4 := hG3.out.below HB4 (Nat.lt_succ_self _)
          have HB5 := HB3.out.trans (HB4.mono (Nat.le_succ _))
          obtain ⟨wb, wc, rfl, _⟩ := h4.row.open
          have hl5 : (us ++ [(x, y)]).length = U + 1 := by rw [List.length_append, hU.out]; rfl
          rw [hl5] at h4 ⊢
          replace hl5 := Lib.hid hl5
          replace h4 := Lib.hid h4
          replace hG4 := Lib.hid hG4
          replace HB5 := Lib.hid HB5
          clear h5 h6 HB4 hG3 HB3 hown3
          go_wp2_with fail
          go_roundw
          case rel => exact ⟨_, _, hstep.out, h4.out, by rw [hl5.out]; rfl, hG4.out.congr (fun i _ => by by_cases e : i = m <;> simp [e]), HB5.out⟩
          case measure => simp [slen]; omega
end Go.Proofs.Ytlaodkolkoefgaa
