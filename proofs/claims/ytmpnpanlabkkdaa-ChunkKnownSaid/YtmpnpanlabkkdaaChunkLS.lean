/-
  The walk of ChunkSame: true for every two lists of edits and of ticks.
-/
import Derived.Test.YtmpnpanlabkkdaaChunkAw
import Derived.LaidEql
namespace Go.Proofs.Ytmpnpanlabkkdaa
open Go.RowKit
set_option linter.unusedSimpArgs false
set_option linter.unusedVariables false

theorem sizeOf_chunk (W : World) : (Go.sizeOf 44).run Try.prog W = .ok 16385 W := by
  have h := size_chunk
  cases hq : Try.prog.info? 44 with
  | none => rw [hq] at h; cases h
  | some i =>
    rw [hq] at h
    have hi : i.size = 16385 := Option.some.inj h
    simp only [Go.sizeOf, typeInfo, Sem.run_bind, run_program, Result.andThen_ok, hq, Sem.run_pure, hi]
theorem eql_ptr_ne {W : World} {b c : Nat} {ce li ce' li' : Nat → Int × Int} {s s' : Value} (h : b ≠ c) (hb : Ck W b ce li s) (hc : Ck W c ce' li' s') :
    (binOp .eql 25 (.pointer (some ⟨b, 0, none⟩)) (.pointer (some ⟨c, 0, none⟩))).run Try.prog W = .ok (.bool false) W := by
  obtain ⟨cs, hb, _⟩ := hb
  obtain ⟨cs', hc, _⟩ := hc
  have hU : Try.prog.underlying 25 = some (.pointer 44) := by kernel_rfl
  have hsa := run_sameAddr_other (P := Try.prog) W (a := ⟨b, 0, none⟩) (b := ⟨c, 0, none⟩) (by simp [h]) hb hc
  have he : ∀ d : Nat, (Op.equalIn (d + 1) 25 (.pointer (some ⟨b, 0, none⟩)) (.pointer (some ⟨c, 0, none⟩))).run Try.prog W = .ok false W := fun d => by
    simp only [Op.equalIn, Sem.run_bind, run_underlying hU, Result.andThen_ok, sizeOf_chunk]
    rw [if_pos (by decide), hsa]
  simp only [binOp, Op.equal, Op.maxDepth, Sem.run_bind, he 9999, Result.andThen_ok, Sem.run_pure]
theorem eql_nil_ptr (W : World) (p : Option Addr) : (binOp .eql 25 (.pointer none) (.pointer p)).run Try.prog W = .ok (.bool p.isNone) W := by
  have hU : Try.prog.underlying 25 = some (.pointer 44) := by kernel_rfl
  have he : ∀ d : Nat, (Op.equalIn (d + 1) 25 (.pointer none) (.pointer p)).run Try.prog W = .ok p.isNone W := fun d => by
    simp only [Op.equalIn, Sem.run_bind, run_underlying hU, Result.andThen_ok]
    rfl
  simp only [binOp, Op.equal, Op.maxDepth, Sem.run_bind, he 9999, Result.andThen_ok, Sem.run_pure]

theorem rsame_b (b b' : Nat) (ce ce' li li' : Nat → Int × Int) (s s' : Value) (ts us : List (Int × Int)) (w : World) (h : Ck w b ce li s) (h' : Ck w b' ce' li' s') (ht : TRow w s ts) (hu : TRow w s' us) :
    Calls Try.prog 15 #[.pointer (some ⟨b, 0, none⟩), .pointer (some ⟨b', 0, none⟩)] w fun e w' => e = .returned (.bool (sameB ce ce' li li' ts us)) ∧ Below w.heap.size w w' :=
  (rsame_calls b b' ce ce' li li' s s' ts us w h h' ht hu).mono fun _ _ ⟨he, q, hw⟩ => ⟨he, by rw [hw]; exact below_drewN (Below.refl _ _) q⟩
theorem same_b (b b' : Nat) (ce ce' li li' : Nat → Int × Int) (s s' : Value) (ts us : List (Int × Int)) (w : World) (h : Ck w b ce li s) (h' : Ck w b' ce' li' s') (ht : TRow w s ts) (hu : TRow w s' us) :
    Calls Try.prog 17 #[.pointer (some ⟨b, 0, none⟩), .pointer (some ⟨b', 0, none⟩)] w fun e w' => e = .returned (.bool (sameB ce ce' li li' ts us)) ∧ Below w.heap.size w w' :=
  (same_calls b b' ce ce' li li' s s' ts us w h h' ht hu).mono fun _ _ ⟨he, q, hw⟩ => ⟨he, by rw [hw]; exact below_drewN (Below.refl _ _) q⟩
set_option maxRecDepth 100000 in
set_option maxHeartbeats 1000000 in
theorem same_nil1 (b : Nat) (w : World) : Calls Try.prog 17 #[.pointer (some ⟨b, 0, none⟩), .pointer none] w fun e w' => e = .returned (.bool false) ∧ Below w.heap.size w w' := by
  go_enter Try.func17, Try.ntmps17
  go_wp2_with fail
  go_ret
  exact ⟨rfl, Below.refl _ _⟩
set_option maxRecDepth 100000 in
set_option maxHeartbeats 1000000 in
theorem same_nil2 (b : Nat) (w : World) : Calls Try.prog 17 #[.pointer none, .pointer (some ⟨b, 0, none⟩)] w fun e w' => e = .returned (.bool false) ∧ Below w.heap.size w w' := by
  have hq := eql_nil_ptr w (some ⟨b, 0, none⟩)
  go_enter Try.func17, Try.ntmps17
  go_wp2_with fail
  go_ret
  exact ⟨rfl, Below.refl _ _⟩
set_option maxRecDepth 100000 in
set_option maxHeartbeats 1000000 in
theorem same_nil3 (w : World) : Calls Try.prog 17 #[.pointer none, .pointer none] w fun e w' => e = .returned (.bool true) ∧ Below w.heap.size w w' := by
  go_enter Try.func17, Try.ntmps17
  go_wp2_with fail
  go_ret
  exact ⟨rfl, Below.refl _ _⟩

/-- Three chunks, and the lists that they were made of. -/
structure C3 (w W : World) (s s' st su : Value) (es es' : List Ed) (ts us : List Tk) (a b c : Nat) (sa sb sc : Value) : Prop where
  bel : Below w.heap.size w W
  le : w.heap.size ≤ W.heap.size
  he : ERow W s es
  he' : ERow W s' es'
  ht : TRow W st ts
  hu : TRow W su us
  ka : Ck W a (edCe es) (edLi es) sa
  ra : TRow W sa ts
  kb : Ck W b (edCe es') (edLi es') sb
  rb : TRow W sb us
  kc : Ck W c (edCe es) (edLi es) sc
  rc : TRow W sc ts
theorem C3.keep {w W W' : World} {s s' st su : Value} {es es' : List Ed} {ts us : List Tk} {a b c : Nat} {sa sb sc : Value} (h : C3 w W s s' st su es es' ts us a b c sa sb sc) (hb : Below W.heap.size W W') : C3 w W' s s' st su es es' ts us a b c sa sb sc :=
  ⟨below_step h.bel h.le hb, Nat.le_trans h.le hb.size, h.he.keep hb, h.he'.keep hb, h.ht.keep hb, h.hu.keep hb, h.ka.keep hb, h.ra.keep hb, h.kb.keep hb, h.rb.keep hb, h.kc.keep hb, h.rc.keep hb⟩

set_option maxRecDepth 100000 in
set_option maxHeartbeats 8000000 in
theorem same_walk (s : Value) (es : List Ed) (s' : Value) (es' : List Ed) (st : Value) (ts : List Tk) (su : Value) (us : List Tk) (w : World) (he : ERow w s es) (he' : ERow w s' es') (ht : TRow w st ts) (hu : TRow w su us) :
    Calls Try.prog 4 #[s, s', st, su] w fun e w' => e = .returned (.bool true) ∧ Below w.heap.size w w' := by
  have haw := fun W => awake_calls W
  replace haw := Lib.hid haw
  obtain ⟨bs, cs, hs, _⟩ := he.open
  obtain ⟨bs', cs', hs', _⟩ := he'.open
  obtain ⟨bt, ct, hst, _⟩ := ht.open
  obtain ⟨bu, cu, hsu, _⟩ := hu.open
  by_cases hn : 300 < es.length
  · subst hs hs' hst hsu
    clear he he' ht hu
    go_enter Try.func4, Try.ntmps4
    go_wp2_with fail
    refine (haw.out _).mono ?_
    rintro e w1 ⟨rfl, hb⟩
    replace hb := Lib.hid hb
    go_wp2_with fail
    go_ret
    exact ⟨rfl, hb.out⟩
  have hn' : decide (300 < es.length) = false := by simp; omega
  by_cases hn : 300 < es'.length
  · subst hs hs' hst hsu
    clear he he' ht hu
    go_enter Try.func4, Try.ntmps4
    go_wp2_with fail
    refine (haw.out _).mono ?_
    rintro e w1 ⟨rfl, hb⟩
    replace hb := Lib.hid hb
    go_wp2_with fail
    go_ret
    exact ⟨rfl, hb.out⟩
  have hn' : decide (300 < es'.length) = false := by simp; omega
  by_cases hn : 300 < ts.length
  · subst hs hs' hst hsu
    clear he he' ht hu
    go_enter Try.func4, Try.ntmps4
    go_wp2_with fail
    refine (haw.out _).mono ?_
    rintro e w1 ⟨rfl, hb⟩
    replace hb := Lib.hid hb
    go_wp2_with fail
    go_ret
    exact ⟨rfl, hb.out⟩
  have hn' : decide (300 < ts.length) = false := by simp; omega
  by_cases hn : 300 < us.length
  · subst hs hs' hst hsu
    clear he he' ht hu
    go_enter Try.func4, Try.ntmps4
    go_wp2_with fail
    refine (haw.out _).mono ?_
    rintro e w1 ⟨rfl, hb⟩
    replace hb := Lib.hid hb
    go_wp2_with fail
    go_ret
    exact ⟨rfl, hb.out⟩
  have hn' : decide (300 < us.length) = false := by simp; omega
  have c1 := ofe_calls s st es ts w he ht (by omega)
  replace c1 := Lib.hid c1
  replace he := Lib.hid he
  replace he' := Lib.hid he'
  replace ht := Lib.hid ht
  replace hu := Lib.hid hu
  subst hs hs' hst hsu
  go_enter Try.func4, Try.ntmps4
  go_wp2_with fail
  refine c1.out.mono ?_
  rintro e W1 ⟨rfl, B1, z1, sa, ka, oa⟩
  have he1 := he.out.keep B1
  have he1' := he'.out.keep B1
  have ht1 := ht.out.keep B1
  have hu1 := hu.out.keep B1
  have ra := oa.row
  have c2 := ofe_calls _ _ es' us W1 he1' hu1 (by omega)
  clear c1 oa
  replace c2 := Lib.hid c2
  go_wp2_with fail
  refine c2.out.mono ?_
  rintro e W2 ⟨rfl, hb2, z2, sb, kb, ob⟩
  have B2 := below_step B1 B1.size hb2
  have he2 := he1.keep hb2
  have he2' := he1'.keep hb2
  have ht2 := ht1.keep hb2
  have hu2 := hu1.keep hb2
  have ka2 := ka.keep hb2
  have ra2 := ra.keep hb2
  have rb := ob.row
  have c3 := copy_calls w.heap.size (edCe es) (edLi es) sa ts W2 ka2 ra2 (by omega)
  clear c2 ob B1 he1 he1' ht1 hu1 ka ra he he' ht hu
  replace c3 := Lib.hid c3
  go_wp2_with fail
  refine c3.out.mono ?_
  rintro e W3 ⟨rfl, hb3, z3, sc, kc, oc⟩
  have B3 := below_step B2 (by have := hb2.size; omega) hb3
  have hz2 := hb2.size
  have hz3 := hb3.size
  have C : C3 w W3 _ _ _ _ es es' ts us w.heap.size W1.heap.size W2.heap.size sa sb sc := ⟨B3, by omega, he2.keep hb3, he2'.keep hb3, ht2.keep hb3, hu2.keep hb3, ka2.keep hb3, ra2.keep hb3, kb.keep hb3, rb.keep hb3, kc, oc.row⟩
  have hne : ¬ W2.heap.size = w.heap.size := by omega
  have hne' : ¬ w.heap.size = W2.heap.size := by omega
  clear c3 oc B2 B3 hb2 hb3 z1 z2 z3 hz2 hz3 he2 he2' ht2 hu2 ka2 ra2 kb rb kc
  generalize W1.heap.size = b1 at *
  generalize W2.heap.size = b2 at *
  have hne2 := eql_ptr_ne hne C.kc C.ka
  -- the document's, of the copy
  have d1 := rsame_b _ _ _ _ _ _ _ _ _ _ _ C.kc C.ka C.rc C.ra
  rw [sameB_refl] at d1
  replace d1 := Lib.hid d1
  replace C := Lib.hid C
  go_wp2_with fail
  refine d1.out.mono ?_
  rintro e W4 ⟨rfl, hb⟩
  replace C := C.out.keep hb
  clear d1 hb
  have d1 := same_b _ _ _ _ _ _ _ _ _ _ _ C.kc C.ka C.rc C.ra
  rw [sameB_refl] at d1
  replace d1 := Lib.hid d1
  replace C := Lib.hid C
  go_wp2_with fail
  refine d1.out.mono ?_
  rintro e W5 ⟨rfl, hb⟩
  replace C := C.out.keep hb
  clear d1 hb
  obtain ⟨R, hR⟩ : ∃ R, sameB (edCe es) (edCe es') (edLi es) (edLi es') ts us = R := ⟨_, rfl⟩
  have hR' : sameB (edCe es') (edCe es) (edLi es') (edLi es) us ts = R := by rw [sameB_symm]; exact hR
  replace hR := Lib.hid hR
  replace hR' := Lib.hid hR'
  have hRR : (R == R) = true := by simp
  have hRR' : (R != R) = false := by simp
  have d1 := same_b _ _ _ _ _ _ _ _ _ _ _ C.ka C.kb C.ra C.rb
  rw [hR.out] at d1
  replace d1 := Lib.hid d1
  replace C := Lib.hid C
  go_wp2_with fail
  refine d1.out.mono ?_
  rintro e W6 ⟨rfl, hb⟩
  replace C := C.out.keep hb
  clear d1 hb
  have d1 := rsame_b _ _ _ _ _ _ _ _ _ _ _ C.ka C.kb C.ra C.rb
  rw [hR.out] at d1
  replace d1 := Lib.hid d1
  replace C := Lib.hid C
  go_wp2_with fail
  refine d1.out.mono ?_
  rintro e W6 ⟨rfl, hb⟩
  replace C := C.out.keep hb
  clear d1 hb
  have d1 := same_b _ _ _ _ _ _ _ _ _ _ _ C.kb C.ka C.rb C.ra
  rw [hR'.out] at d1
  replace d1 := Lib.hid d1
  replace C := Lib.hid C
  go_wp2_with fail
  refine d1.out.mono ?_
  rintro e W6 ⟨rfl, hb⟩
  replace C := C.out.keep hb
  clear d1 hb
  have d1 := rsame_b _ _ _ _ _ _ _ _ _ _ _ C.ka C.kb C.ra C.rb
  rw [hR.out] at d1
  replace d1 := Lib.hid d1
  replace C := Lib.hid C
  go_wp2_with fail
  refine d1.out.mono ?_
  rintro e W6 ⟨rfl, hb⟩
  replace C := C.out.keep hb
  clear d1 hb
  replace C := Lib.hid C
  go_wp2_with fail
  refine (same_nil1 _ _).mono ?_
  rintro e W7 ⟨rfl, hb⟩
  replace C := C.out.keep hb
  clear hb
  replace C := Lib.hid C
  go_wp2_with fail
  refine (same_nil2 _ _).mono ?_
  rintro e W8 ⟨rfl, hb⟩
  replace C := C.out.keep hb
  clear hb
  have d1 := ofe_calls _ _ es ts W8 C.he C.ht (by omega)
  replace d1 := Lib.hid d1
  replace C := Lib.hid C
  go_wp2_with fail
  refine d1.out.mono ?_
  rintro e W9 ⟨rfl, hb, _, sd, kd, od⟩
  replace C := C.out.keep hb
  clear d1 hb
  have d1 := rsame_b _ _ _ _ _ _ _ _ _ _ _ C.ka kd C.ra od.row
  rw [sameB_refl] at d1
  clear kd od
  generalize W8.heap.size = b8 at *
  replace d1 := Lib.hid d1
  replace C := Lib.hid C
  go_wp2_with fail
  refine d1.out.mono ?_
  rintro e W10 ⟨rfl, hb⟩
  replace C := C.out.keep hb
  clear d1 hb
  have d1 := ofe_calls _ _ es' us W10 C.he' C.hu (by omega)
  replace d1 := Lib.hid d1
  replace C := Lib.hid C
  go_wp2_with fail
  refine d1.out.mono ?_
  rintro e W11 ⟨rfl, hb, _, sd, kd, od⟩
  replace C := C.out.keep hb
  clear d1 hb
  have d1 := rsame_b _ _ _ _ _ _ _ _ _ _ _ C.kb kd C.rb od.row
  rw [sameB_refl] at d1
  clear kd od
  generalize W10.heap.size = b10 at *
  replace d1 := Lib.hid d1
  replace C := Lib.hid C
  go_wp2_with fail
  refine d1.out.mono ?_
  rintro e W12 ⟨rfl, hb⟩
  replace C := C.out.keep hb
  clear d1 hb
  replace C := Lib.hid C
  go_wp2_with fail
  refine (haw.out _).mono ?_
  rintro e W13 ⟨rfl, hb⟩
  replace C := C.out.keep hb
  clear hb
  have Bz := C.bel
  clear C
  replace Bz := Lib.hid Bz
  go_wp2_with fail
  go_ret
  exact ⟨rfl, Bz.out⟩
end Go.Proofs.Ytmpnpanlabkkdaa
