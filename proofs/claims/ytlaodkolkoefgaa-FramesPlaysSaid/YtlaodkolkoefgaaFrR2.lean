/-
  slices.DeleteFunc of what is not due.
-/
import Derived.Test.YtlaodkolkoefgaaMg26
namespace Go.Proofs.Ytlaodkolkoefgaa
open Go.RowKit
set_option linter.unusedSimpArgs false
set_option linter.unusedVariables false

theorem optI_none : optI none = -1 := rfl
set_option maxRecDepth 100000 in
set_option maxHeartbeats 8000000 in
theorem deletef_calls (nb B : Nat) (now : Int) (v : Value) (ts : List Tk) (w : World) (hown : TOwn w B v ts) (hc : w.cell? ⟨nb, 0, none⟩ = some (.int .i64 now)) (hnb : nb < B) (hlen : ts.length ≤ 1000000) (hB : B ≤ w.heap.size) :
    Calls Try.prog 37 #[v, .func (.func 38) #[] #[.pointer (some ⟨nb, 0, none⟩)]] w fun e w' => ∃ v', e = .returned v' ∧ TOwn w' B v' (ts.filter (dueF now)) ∧ Below B w w' := by
  have hidx := index_late v ts now nb w hown.row hc
  cases hf : ts.findIdx? (lateP now) with
  | none =>
    rw [hf, optI_none] at hidx
    have hall : ts.filter (dueF now) = ts := by
      rw [List.findIdx?_eq_none_iff] at hf
      exact List.filter_eq_self.2 (fun t ht => by rw [late_due, hf t ht]; rfl)
    rw [hall]
    obtain ⟨vb, vc, rfl, _⟩ := hown.row.open
    replace hidx := Lib.hid hidx
    replace hown := Lib.hid hown
    clear hf hall
    go_enter Try.func37, Try.ntmps37
    go_wp2_with fail
    refine hidx.out.mono ?_
    rintro e W1 ⟨rfl, hb⟩
    have ho := hown.out.keep hb
    have hb2 := hb.mono hB
    replace ho := Lib.hid ho
    replace hb2 := Lib.hid hb2
    clear hidx hb hown
    go_wp2_with fail
    go_ret
    exact ⟨_, rfl, ho.out, hb2.out⟩
  | some k =>
    rw [hf, show optI (some k) = (k : Int) from rfl] at hidx
    have hD := Del.start hf
    obtain ⟨g, cap, n, rfl, hn⟩ : ∃ g cap n, v = .slice (some ⟨g, 0, none⟩) n cap ∧ n = ts.length := by
      rcases hown.2 with ⟨rfl, h0⟩ | ⟨g, cap, cur, rfl, _⟩
      · rw [List.findIdx?_eq_some_iff_getElem] at hf
        have := hf.1; omega
      · exact ⟨g, cap, _, rfl, rfl⟩
    have hkn : k < n := by
      rw [List.findIdx?_eq_some_iff_getElem] at hf
      have := hf.1; omega
    obtain ⟨_, _, hBg, hnu, hnc, hcm, _, _⟩ := hown.split
    clear hnu
    rw [← hn] at hnc hlen
    unfold maxLen at hcm
    have hk1 : ((k : Int) == -1) = false := beq_eq_false_iff_ne.2 (by omega)
    replace hidx := Lib.hid hidx
    replace hn := Lib.hid hn
    replace hD := Lib.hid hD
    clear hf
    go_enter Try.func37, Try.ntmps37
    go_wp2_with fail
    refine hidx.out.mono ?_
    rintro e W1 ⟨rfl, hb⟩
    have ho := hown.keep hb
    have hb2 := hb.mono hB
    replace ho := Lib.hid ho
    replace hb2 := Lib.hid hb2
    clear hidx hb
    go_wp2_with fail
    go_loopw [5, 6] (fun vi vj W => ∃ (i j : Nat) (us : List Tk), j ≤ n ∧ i < j ∧ vi = .int .i64 i ∧ vj = .int .i64 j ∧ Del ts us now i j ∧ TOwn W B (.slice (some ⟨g, 0, none⟩) n cap) us ∧ Below B w W) (fun _ vj _ => n - (intOf vj).toNat)
    case atStart => exact ⟨k, k + 1, ts, by omega, by omega, rfl, by go_num, hD.out, ho.out, hb2.out⟩
    case round =>
      obtain ⟨i, j, us, hj, hij, rfl, rfl, hDl, ho2, HB⟩ := hrel
      clear ho hb2 hD
      by_cases hlt : j < n
      · obtain ⟨t, hjt⟩ : ∃ t, ts[j]? = some t := ⟨_, List.getElem?_eq_getElem (by have := hn.out; omega)⟩
        have huj := hDl.at hjt
        obtain ⟨d0, d1⟩ := ho2.cellAt huj
        have hcn := (HB.cell (p := ⟨nb, 0, none⟩) hnb).trans hc
        obtain ⟨x, y⟩ := t
        simp only at d0 d1
        have hA : Below wr.heap.size wr (wr.alloc (.cells #[.int .i64 x, .int .i64 y] 56)) := (Below.refl _ _).alloc (Nat.le_refl _) _
        have hbk := Blk.new wr #[.int .i64 x, .int .i64 y] 56
        obtain ⟨W2, hW2⟩ : ∃ W2, wr.alloc (.cells #[.int .i64 x, .int .i64 y] 56) = W2 := ⟨_, rfl⟩
        rw [hW2] at hA hbk
        have hcal := late_calls x y now nb W2 ((hA.cell (World.block_lt_of_cell? _ _ hcn)).trans hcn)
        have b0 := hbk.cell 0 rfl
        have b1 := hbk.cell 1 rfl
        have hjz : (j : Int) < (n : Int) := by omega
        have hzw : B ≤ wr.heap.size := Nat.le_trans hB HB.size
        have ho3 := ho2.keep hA
        have HB2 := HB.trans (hA.mono hzw)
        have hzw2 : B ≤ W2.heap.size := Nat.le_trans hzw hA.size
        have hgl := (ho2.split.choose_spec).1.lt
        obtain ⟨b, hb⟩ : ∃ b, lateP now (x, y) = b := ⟨_, rfl⟩
        rw [hb] at hcal
        replace hcal := Lib.hid hcal
        replace hbk := Lib.hid hbk
        replace ho3 := Lib.hid ho3
        replace HB2 := Lib.hid HB2
        replace hb := Lib.hid hb
        replace hjt := Lib.hid hjt
        replace hDl := Lib.hid hDl
        clear hA ho2 HB huj hcn hown
        go_wp2_with fail
        refine hcal.out.mono ?_
        rintro e W3 ⟨rfl, hb3⟩
        clear hcal b0 b1 d0 d1 hW2
        have hbk3 := hbk.out.below hb3 hbk.out.lt
        have ho4 := ho3.out.keep hb3
        have HB3 := HB2.out.trans (hb3.mono hzw2)
        have hz3 := Nat.le_trans hB HB3.size
        have b0 := hbk3.cell 0 rfl
        have b1 := hbk3.cell 1 rfl
        clear hbk ho3 HB2 hb3
        cases b with
        | true =>
          have hD2 := hDl.out.skip hjt.out hb.out
          replace hD2 := Lib.hid hD2
          replace ho4 := Lib.hid ho4
          replace HB3 := Lib.hid HB3
          clear hbk3
          go_wp2_with fail
          go_roundw
          case rel => exact ⟨i, j + 1, us, by omega, by omega, rfl, by go_num, hD2.out, ho4.out, HB3.out⟩
          case measure => simp [intOf]; omega
        | false =>
          have hD2 := hDl.out.keepT hjt.out hb.out
          have hul := hDl.out.len
          have hiu : i < us.length := by have := hn.out; omega
          replace hul := Lib.hid hul
          obtain ⟨ho5, hg3, _, f0, f1, ⟨u0, c0⟩, ⟨u1, c1⟩⟩ := ho4.setAt hiu x y
          have HB5 := (HB3.setCell (p := ⟨g, i * 2, none⟩) hBg (.int .i64 x)).setCell (p := ⟨g, i * 2 + 1, none⟩) hBg (.int .i64 y)
          have hne : ¬ wr.heap.size = g := by omega
          have hiz : (i : Int) < (n : Int) := by omega
          replace hD2 := Lib.hid hD2
          replace ho5 := Lib.hid ho5
          replace HB5 := Lib.hid HB5
          clear hbk3 ho4 HB3
          go_wp2_with fail
          go_roundw
          case rel => exact ⟨i + 1, j + 1, _, by omega, by omega, by go_num, by go_num, hD2.out, ho5.out, HB5.out⟩
          case measure => simp [intOf]; omega
      · obtain rfl : j = n := by omega
        have hD3 := hDl
        rw [hn.out] at hD3
        have hfin := hD3.done
        have hul := hDl.len
        have hsh := ho2.shrink (i := i) (by have := hn.out; omega)
        rw [hfin] at hsh
        have hfl : (ts.filter (dueF now)).length = i := by rw [← hfin, List.length_take]; have := hn.out; omega
        obtain ⟨cs, hbk, _, hx1, _, _, hcl, _⟩ := ho2.split
        obtain ⟨vs, hclr⟩ := run_clear_many wr g (i * 2) (j - i) (cap - i) (by omega) cs hbk (by omega)
        have hend := hsh.behind vs (o := i * 2) (by omega)
        have HB5 : Below B w (wr.setCells g (i * 2) vs) := But.step HB (But.setRun vs (i * 2) (But.refl g wr)) hBg (Nat.le_trans hB HB.size)
        have hgl := hbk.lt
        have hiz : (i : Int) ≤ (j : Int) := by omega
        have hicap : (i : Int) ≤ (cap : Int) := by omega
        replace hend := Lib.hid hend
        replace HB5 := Lib.hid HB5
        clear hD3 hfin hsh hDl ho2 HB hown hbk hx1 hul
        replace hfl := Lib.hid hfl
        go_wp2_with fail
        go_ret
        exact ⟨_, rfl, hend.out, HB5.out⟩

end Go.Proofs.Ytlaodkolkoefgaa
