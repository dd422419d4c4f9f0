/-
  The walk of ChunkChecks: true for every list of edits and ticks.
-/
import Derived.Test.YtmpnpanlabkkdaaChunkAw
import Derived.Test.YtmpnpanlabkkdaaChunkR
namespace Go.Proofs.Ytmpnpanlabkkdaa
open Go.RowKit
set_option linter.unusedSimpArgs false
set_option linter.unusedVariables false

set_option maxRecDepth 100000 in
set_option maxHeartbeats 8000000 in
theorem checks_walk (s : Value) (es : List Ed) (st : Value) (ts : List Tk) (w : World) (he : ERow w s es) (ho : EdOk es) (ht : TRow w st ts) :
    Calls Try.prog 3 #[s, st] w fun e w' => e = .returned (.bool true) ∧ Below w.heap.size w w' := by
  have haw := fun W => awake_calls W
  replace haw := Lib.hid haw
  obtain ⟨bs, cs, hs, _⟩ := he.open
  obtain ⟨bt, ct, hst, _⟩ := ht.open
  by_cases hn : 300 < es.length
  · subst hs hst
    clear he ho ht
    go_enter Try.func3, Try.ntmps3
    go_wp2_with fail
    refine (haw.out _).mono ?_
    rintro e w1 ⟨rfl, hb⟩
    replace hb := Lib.hid hb
    go_wp2_with fail
    go_ret
    exact ⟨rfl, hb.out⟩
  by_cases hm : 300 < ts.length
  · subst hs hst
    clear he ho ht
    go_enter Try.func3, Try.ntmps3
    go_wp2_with fail
    refine (haw.out _).mono ?_
    rintro e w1 ⟨rfl, hb⟩
    replace hb := Lib.hid hb
    go_wp2_with fail
    go_ret
    exact ⟨rfl, hb.out⟩
  obtain ⟨u1, u2⟩ := ed_U8 ho
  have c1 := ofe_calls s st es ts w he ht (by omega)
  subst hs hst
  replace c1 := Lib.hid c1
  replace he := Lib.hid he
  replace ht := Lib.hid ht
  replace u1 := Lib.hid u1
  replace u2 := Lib.hid u2
  clear ho
  go_enter Try.func3, Try.ntmps3
  go_wp2_with fail
  refine c1.out.mono ?_
  rintro e W1 ⟨rfl, B1, z1, s1, k1, o1⟩
  have he1 := he.out.keep B1
  have ht1 := ht.out.keep B1
  have t1 := o1.row
  have c2 := ofe_calls _ _ es ts W1 he1 ht1 (by omega)
  clear c1 o1 he1 ht1
  replace c2 := Lib.hid c2
  go_wp2_with fail
  refine c2.out.mono ?_
  rintro e W2 ⟨rfl, hb2, z2, s2, k2, o2⟩
  have B2 := below_step B1 B1.size hb2
  replace k1 := k1.keep hb2
  replace t1 := t1.keep hb2
  have t2 := o2.row
  clear c2 o2 B1 hb2 he ht
  generalize W1.heap.size = b2 at *
  have c3 := check_calls w.heap.size (edCe es) (edLi es) s1 ts W2 k1 t1 u1.out
  obtain ⟨E, hE⟩ : ∃ E, checkE (edCe es) (edLi es) ts = E := ⟨_, rfl⟩
  have c4 := fun W k t => rcheck_calls b2 (edCe es) (edLi es) s2 ts W k t u1.out
  rw [hE] at c3 c4
  have hEE : (E == E) = true := by simp
  have hzz : w.heap.size ≤ W2.heap.size := by omega
  replace hE := Lib.hid hE
  replace c3 := Lib.hid c3
  replace c4 := Lib.hid c4
  replace hzz := Lib.hid hzz
  go_wp2_with fail
  refine c3.out.mono ?_
  rintro e W3 ⟨rfl, hb3⟩
  have B3 := below_step B2 hzz.out hb3
  replace k1 := k1.keep hb3
  replace t1 := t1.keep hb3
  replace k2 := k2.keep hb3
  replace t2 := t2.keep hb3
  have hz3 := Nat.le_trans hzz.out hb3.size
  clear hb3 B2 c3 hzz
  replace hz3 := Lib.hid hz3
  go_wp2_with fail
  refine (c4.out _ k2 t2).mono ?_
  rintro e W4 ⟨rfl, hb4⟩
  have B4 := below_step B3 hz3.out hb4
  replace k1 := k1.keep hb4
  replace t1 := t1.keep hb4
  replace k2 := k2.keep hb4
  replace t2 := t2.keep hb4
  have hz4 := Nat.le_trans hz3.out hb4.size
  clear hb4 B3 c4 hz3
  have c5 := movable_calls w.heap.size (edCe es) (edLi es) s1 W4 k1 u1.out
  obtain ⟨M, hM⟩ : ∃ M, movN (edCe es) 4096 = M := ⟨_, rfl⟩
  rw [hM] at c5
  have hMM : (M == M) = true := by simp
  replace hM := Lib.hid hM
  replace c5 := Lib.hid c5
  replace hz4 := Lib.hid hz4
  go_wp2_with fail
  refine c5.out.mono ?_
  rintro e W5 ⟨rfl, hb5⟩
  have B5 := below_step B4 hz4.out hb5
  replace k1 := k1.keep hb5
  replace t1 := t1.keep hb5
  replace k2 := k2.keep hb5
  replace t2 := t2.keep hb5
  have hz5 := Nat.le_trans hz4.out hb5.size
  clear hb5 B4 c5 hz4
  have c6 := rmovable_calls b2 (edCe es) (edLi es) s2 W5 k2
  rw [hM.out] at c6
  replace c6 := Lib.hid c6
  replace hz5 := Lib.hid hz5
  go_wp2_with fail
  refine c6.out.mono ?_
  rintro e W6 ⟨rfl, hb6⟩
  have B6 := below_step B5 hz5.out hb6
  replace k1 := k1.keep hb6
  replace t1 := t1.keep hb6
  replace k2 := k2.keep hb6
  replace t2 := t2.keep hb6
  have hz6 := Nat.le_trans hz5.out hb6.size
  clear hb6 B5 c6 hz5
  have c7 := rsame_calls w.heap.size b2 (edCe es) (edCe es) (edLi es) (edLi es) s1 s2 ts ts W6 k1 k2 t1 t2
  rw [sameB_refl] at c7
  replace c7 := Lib.hid c7
  replace B6 := Lib.hid B6
  replace hz6 := Lib.hid hz6
  clear k1 t1 k2 t2
  go_wp2_with fail
  refine c7.out.mono ?_
  rintro e W7 ⟨rfl, q, rfl⟩
  clear c7
  go_wp2_with fail
  refine (haw.out _).mono ?_
  rintro e W8 ⟨rfl, hb8⟩
  have B8 := below_step (below_drewN B6.out q) hz6.out hb8
  clear hb8
  replace B8 := Lib.hid B8
  go_wp2_with fail
  go_ret
  exact ⟨rfl, B8.out⟩
end Go.Proofs.Ytmpnpanlabkkdaa
