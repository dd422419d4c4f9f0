/-
  chunk.Same, slices.Clone, chunk.Copy.
-/
import Derived.Test.YtlaodkolkoefgaaChunkG
import Derived.Test.YtlaodkolkoefgaaMg1
namespace Go.Proofs.Ytlaodkolkoefgaa
open Go.RowKit
set_option linter.unusedSimpArgs false
set_option linter.unusedVariables false

theorem ck_arrays {w : World} {b : Nat} {ce li : Nat → Int × Int} {s : Value} (h : Ck w b ce li s) :
    (∃ A, CellsA A ce ∧ ∀ n, (Instr.loadAt 43 (.pointer (some ⟨b, 0, none⟩))).run Try.prog (w.drewN n) = .ok (.agg A) (w.drewN n)) ∧
    (∃ A, CellsA A li ∧ ∀ n, (Instr.loadAt 44 (.pointer (some ⟨b, 8192, none⟩))).run Try.prog (w.drewN n) = .ok (.agg A) (w.drewN n)) := by
  obtain ⟨cs, hb, hl⟩ := h
  have hlen := hl.len
  constructor
  · have hn : (cs.take 8192).length = 8192 := by rw [List.length_take]; omega
    refine ⟨(cs.take 8192).toArray, ⟨by rw [List.size_toArray, hn], fun i hi => ?_⟩, fun n => ?_⟩
    · rw [List.getElem?_toArray, List.getElem?_toArray, List.getElem?_take, List.getElem?_take, if_pos (by omega), if_pos (by omega), hl.get _ (by omega), hl.get _ (by omega), ckF_c0 hi, ckF_c1 hi]
      exact ⟨rfl, rfl⟩
    · refine run_loadAt_mid (w.drewN n) b 0 _ (cs.take 8192) (.array 4096 25) (fun j v hv => ?_) (by kernel_rfl) rfl (by rw [hn]; kernel_rfl)
      have hj := (List.getElem?_eq_some_iff.1 hv).1
      rw [hn] at hj
      rw [List.getElem?_take, if_pos hj] at hv
      rw [Nat.zero_add]
      exact (hb.drewN n).cell j hv
  · have hn : ((cs.drop 8192).take 8192).length = 8192 := by rw [List.length_take, List.length_drop]; omega
    refine ⟨((cs.drop 8192).take 8192).toArray, ⟨by rw [List.size_toArray, hn], fun i hi => ?_⟩, fun n => ?_⟩
    · rw [List.getElem?_toArray, List.getElem?_toArray, List.getElem?_take, List.getElem?_take, if_pos (by omega), if_pos (by omega), List.getElem?_drop, List.getElem?_drop, hl.get _ (by omega), hl.get _ (by omega), ckF_l0 hi, ← Nat.add_assoc, ckF_l1 hi]
      exact ⟨rfl, rfl⟩
    · refine run_loadAt_mid (w.drewN n) b 8192 _ ((cs.drop 8192).take 8192) (.array 4096 42) (fun j v hv => ?_) (by kernel_rfl) rfl (by rw [hn]; kernel_rfl)
      have hj := (List.getElem?_eq_some_iff.1 hv).1
      rw [hn] at hj
      rw [List.getElem?_take, if_pos hj, List.getElem?_drop] at hv
      exact (hb.drewN n).cell _ hv

section
variable {P : Program} {ops : Array Oper} {C : World → Prop} {Q : Act → Prop} {a : Act} {o : Oper} {rest : List Oper}
theorem wpQuiet_run {v : Value} (hw : Region.wanted o (yielded ops a.tmps) = true) (hr : ∀ w, C w → (execOp a.eval o).run P w = .ok (.value v) w) (h : wpQuiet P ops C Q rest (a.put o.dst v)) : wpQuiet P ops C Q (o :: rest) a :=
  wpQuiet_step fun K hK => by
    rw [if_pos hw]
    exact ⟨v, fun w hC => by unfold Oper.quietAt; rw [hr w hC]; exact ⟨rfl, rfl⟩, hK _ h⟩
theorem wpQuiet_load (ty : TypeId) (x : Operand) (ho : o.op = .load ty x) (hw : Region.wanted o (yielded ops a.tmps) = true) {p v : Value} (hx : a.eval x = p) (hl : ∀ w, C w → (Instr.loadAt ty p).run P w = .ok v w)
    (h : wpQuiet P ops C Q rest (a.put o.dst v)) : wpQuiet P ops C Q (o :: rest) a :=
  wpQuiet_run hw (fun w hC => by unfold execOp; simp only [ho, hx, Sem.run_bind, hl w hC, Result.andThen_ok, Sem.run_pure]) h
theorem wpQuiet_eqAgg (ty : TypeId) (x y : Operand) (t' : TypeId) (ho : o.op = .binOp .eql ty x y t') (hw : Region.wanted o (yielded ops a.tmps) = true) {A B : Array Value} {b : Bool} (hx : a.eval x = .agg A) (hy : a.eval y = .agg B) (hm : P.eqGuardType P.depth ty = false)
    (hq : ∀ w, (binOp .eql ty (.agg A) (.agg B)).run P w = .ok (.bool b) w)
    (h : wpQuiet P ops C Q rest (a.put o.dst (.bool b))) : wpQuiet P ops C Q (o :: rest) a :=
  wpQuiet_run hw (fun w hC => by unfold execOp; simp only [ho, hx, hy, Sem.run_bind, run_eqGuard_agg w _ _ _ _ _ _ hm, hq, Result.andThen_ok, Sem.run_pure]) h
end

theorem sameB_parts (ce ce' li li' : Nat → Int × Int) (ts ts' : List (Int × Int)) : sameB ce ce' li li' ts ts' = (allN (fun i => decide (ce i = ce' i)) 4096 && (allN (fun i => decide (li i = li' i)) 4096 && decide (ts = ts'))) := by
  rw [Bool.eq_iff_iff, sameB_iff, Bool.and_eq_true, Bool.and_eq_true, allN_iff, allN_iff, decide_eq_true_iff]
  constructor
  · intro ⟨h1, h2⟩
    exact ⟨fun i hi => by simpa using (h1 i hi).1, fun i hi => by simpa using (h1 i hi).2, h2⟩
  · intro ⟨h1, h2, h3⟩
    exact ⟨fun i hi => ⟨by simpa using h1 i hi, by simpa using h2 i hi⟩, h3⟩

set_option maxRecDepth 100000 in
set_option maxHeartbeats 2000000 in
theorem same_calls (b b' : Nat) (ce ce' li li' : Nat → Int × Int) (s s' : Value) (ts us : List (Int × Int)) (w : World) (h : Ck w b ce li s) (h' : Ck w b' ce' li' s') (ht : TRow w s ts) (hu : TRow w s' us) :
    Calls Try.prog 11 #[.pointer (some ⟨b, 0, none⟩), .pointer (some ⟨b', 0, none⟩)] w fun e w' => e = .returned (.bool (sameB ce ce' li li' ts us)) ∧ ∃ q, w' = w.drewN q := by
  have hcal := fun q => equal_calls s s' ts us (w.drewN q) ht hu
  obtain ⟨⟨A, hA, lA⟩, ⟨B, hB, lB⟩⟩ := ck_arrays h
  obtain ⟨⟨A', hA', lA'⟩, ⟨B', hB', lB'⟩⟩ := ck_arrays h'
  have q1 := eql_cells A A' ce ce' hA hA'
  have q2 := eql_lights B B' li li' hB hB'
  have hr := sameB_parts ce ce' li li' ts us
  have ct := h.tk
  have ct' := h'.tk
  clear hA hB hA' hB' h h' ht hu
  obtain ⟨e1, he1⟩ : ∃ e, allN (fun i => decide (ce i = ce' i)) 4096 = e := ⟨_, rfl⟩
  obtain ⟨e2, he2⟩ : ∃ e, allN (fun i => decide (li i = li' i)) 4096 = e := ⟨_, rfl⟩
  obtain ⟨e3, he3⟩ : ∃ e, decide (ts = us) = e := ⟨_, rfl⟩
  obtain ⟨R, hR⟩ : ∃ e, sameB ce ce' li li' ts us = e := ⟨_, rfl⟩
  rw [hR]
  rw [hR] at hr
  rw [he1] at hr q1
  rw [he2] at hr q2
  rw [he3] at hr
  simp only [he3] at hcal
  clear he1 he2 he3 hR
  replace hcal := Lib.hid hcal
  cases e1
  · simp only [Bool.false_and] at hr
    subst hr
    replace lA := Lib.hid lA
    replace lA' := Lib.hid lA'
    replace q1 := Lib.hid q1
    clear hcal lB lB' q2
    go_enter Try.func11, Try.ntmps11
    go_wp2_with fail
    refine wp_region_quiet_lit (by kernel_rfl) (by kernel_rfl) ?_
    iterate 3 (go_big_quiet_step (fail))
    refine wpQuiet_load 43 (.tmp 16) rfl rfl rfl (fun w' ⟨n, e⟩ => by subst e; exact lA.out n) ?_
    simp only [Act.put, List.setIfInBounds_toArray, List.set_cons_succ, List.set_cons_zero]
    iterate 3 (go_big_quiet_step (fail))
    refine wpQuiet_load 43 (.tmp 20) rfl rfl rfl (fun w' ⟨n, e⟩ => by subst e; exact lA'.out n) ?_
    simp only [Act.put, List.setIfInBounds_toArray, List.set_cons_succ, List.set_cons_zero]
    refine wpQuiet_eqAgg 43 (.tmp 17) (.tmp 21) 43 rfl rfl rfl rfl (by kernel_rfl) q1.out ?_
    simp only [Act.put, List.setIfInBounds_toArray, List.set_cons_succ, List.set_cons_zero]
    repeat (go_big_quiet_step (fail))
    refine wpQuiet_nil ?_
    rintro _ ⟨nq, rfl⟩
    go_wp2_with fail
    go_ret
    exact ⟨rfl, _, rfl⟩
  · replace lA := Lib.hid lA
    replace lA' := Lib.hid lA'
    replace q1 := Lib.hid q1
    replace lB := Lib.hid lB
    replace lB' := Lib.hid lB'
    replace q2 := Lib.hid q2
    cases e2
    all_goals
      simp only [Bool.true_and, Bool.false_and] at hr
      subst hr
      go_enter Try.func11, Try.ntmps11
      go_wp2_with fail
      refine wp_region_quiet_lit (by kernel_rfl) (by kernel_rfl) ?_
      iterate 3 (go_big_quiet_step (fail))
      refine wpQuiet_load 43 (.tmp 16) rfl rfl rfl (fun w' ⟨n, e⟩ => by subst e; exact lA.out n) ?_
      simp only [Act.put, List.setIfInBounds_toArray, List.set_cons_succ, List.set_cons_zero]
      iterate 3 (go_big_quiet_step (fail))
      refine wpQuiet_load 43 (.tmp 20) rfl rfl rfl (fun w' ⟨n, e⟩ => by subst e; exact lA'.out n) ?_
      simp only [Act.put, List.setIfInBounds_toArray, List.set_cons_succ, List.set_cons_zero]
      refine wpQuiet_eqAgg 43 (.tmp 17) (.tmp 21) 43 rfl rfl rfl rfl (by kernel_rfl) q1.out ?_
      simp only [Act.put, List.setIfInBounds_toArray, List.set_cons_succ, List.set_cons_zero]
      iterate 4 (go_big_quiet_step (fail))
      refine wpQuiet_load 44 (.tmp 26) rfl rfl rfl (fun w' ⟨n, e⟩ => by subst e; exact lB.out n) ?_
      simp only [Act.put, List.setIfInBounds_toArray, List.set_cons_succ, List.set_cons_zero]
      iterate 3 (go_big_quiet_step (fail))
      refine wpQuiet_load 44 (.tmp 30) rfl rfl rfl (fun w' ⟨n, e⟩ => by subst e; exact lB'.out n) ?_
      simp only [Act.put, List.setIfInBounds_toArray, List.set_cons_succ, List.set_cons_zero]
      refine wpQuiet_eqAgg 44 (.tmp 27) (.tmp 31) 44 rfl rfl rfl rfl (by kernel_rfl) q2.out ?_
      simp only [Act.put, List.setIfInBounds_toArray, List.set_cons_succ, List.set_cons_zero]
      repeat (go_big_quiet_step ((go_at_call 32; exact Calls.quiet_of (hcal.out _))))
      refine wpQuiet_nil ?_
      rintro _ ⟨nq, rfl⟩
      go_wp2_with fail
      go_ret
      exact ⟨rfl, _, rfl⟩
end Go.Proofs.Ytlaodkolkoefgaa

/-
  A chunk made of edits and ticks: the document's Of.
-/
namespace Go.Proofs.Ytlaodkolkoefgaa
open Go.RowKit
set_option linter.unusedSimpArgs false
set_option linter.unusedVariables false

abbrev Ed := Int × (Int × Int) × (Int × Int)
def editV (e : Ed) : List Value := [.int .i64 e.1, .int .u8 e.2.1.1, .int .u8 e.2.1.2, .int .u8 e.2.2.1, .int .u8 e.2.2.2]
def ERow (w : World) (s : Value) (es : List Ed) : Prop := SRow w 5 s (es.map editV)
theorem ERow.keep {w w' : World} {s : Value} {es : List Ed} (h : ERow w s es) (hb : Below w.heap.size w w') : ERow w' s es := SRow.keep h hb
theorem ERow.open {w : World} {s : Value} {es : List Ed} (h : ERow w s es) : ∃ base cap, s = .slice base es.length cap ∧ es.length ≤ cap ∧ cap ≤ maxLen ∧
    (es ≠ [] → ∃ b off, base = some ⟨b, off, none⟩ ∧ ∀ j e, es[j]? = some e → w.cell? ⟨b, off + j * 5, none⟩ = some (.int .i64 e.1) ∧ w.cell? ⟨b, off + j * 5 + 1, none⟩ = some (.int .u8 e.2.1.1) ∧ w.cell? ⟨b, off + j * 5 + 2, none⟩ = some (.int .u8 e.2.1.2) ∧
      w.cell? ⟨b, off + j * 5 + 3, none⟩ = some (.int .u8 e.2.2.1) ∧ w.cell? ⟨b, off + j * 5 + 4, none⟩ = some (.int .u8 e.2.2.2)) := by
  obtain ⟨base, cap, e, h1, h2, h3⟩ := h
  rw [List.length_map] at e h1
  refine ⟨base, cap, e, h1.1, h2, fun hne => ?_⟩
  obtain ⟨b, off, hb, h4⟩ := h3 (by simpa using hne)
  exact ⟨b, off, hb, fun j t ht => by
    have hj : (es.map editV)[j]? = some (editV t) := by rw [List.getElem?_map, ht]; rfl
    exact ⟨h4 j _ hj 0 _ rfl, h4 j _ hj 1 _ rfl, h4 j _ hj 2 _ rfl, h4 j _ hj 3 _ rfl, h4 j _ hj 4 _ rfl⟩⟩
/-- Each number of the edits fits in a byte. -/
def EdOk (es : List Ed) : Prop := ∀ e ∈ es, 0 ≤ e.2.1.1 ∧ e.2.1.1 ≤ 255 ∧ 0 ≤ e.2.1.2 ∧ e.2.1.2 ≤ 255 ∧ 0 ≤ e.2.2.1 ∧ e.2.2.1 ≤ 255 ∧ 0 ≤ e.2.2.2 ∧ e.2.2.2 ≤ 255

def edCe (es : List Ed) : Nat → Int × Int := es.foldl (fun f e => updP f (e.1 % 4096).toNat e.2.1) zeroP
def edLi (es : List Ed) : Nat → Int × Int := es.foldl (fun f e => updP f (e.1 % 4096).toNat e.2.2) zeroP
theorem edCe_snoc (es : List Ed) (e : Ed) : edCe (es ++ [e]) = updP (edCe es) (e.1 % 4096).toNat e.2.1 := by simp [edCe, List.foldl_append]
theorem edLi_snoc (es : List Ed) (e : Ed) : edLi (es ++ [e]) = updP (edLi es) (e.1 % 4096).toNat e.2.2 := by simp [edLi, List.foldl_append]
theorem ed_U8 {es : List Ed} (h : EdOk es) : U8 (edCe es) ∧ U8 (edLi es) := by
  have key : ∀ (es : List Ed) (f g : Nat → Int × Int), EdOk es → U8 f → U8 g → U8 (es.foldl (fun f e => updP f (e.1 % 4096).toNat e.2.1) f) ∧ U8 (es.foldl (fun f e => updP f (e.1 % 4096).toNat e.2.2) g) := by
    intro es
    induction es with
    | nil => intro f g _ hf hg; exact ⟨hf, hg⟩
    | cons e r ih =>
      intro f g ho hf hg
      have h1 := ho e List.mem_cons_self
      exact ih _ _ (fun x hx => ho x (List.mem_cons_of_mem _ hx)) (hf.upd _ ⟨h1.1, h1.2.1⟩ ⟨h1.2.2.1, h1.2.2.2.1⟩) (hg.upd _ ⟨h1.2.2.2.2.1, h1.2.2.2.2.2.1⟩ ⟨h1.2.2.2.2.2.2.1, h1.2.2.2.2.2.2.2⟩)
  exact key es _ _ h U8.zero U8.zero

set_option maxRecDepth 100000 in
set_option maxHeartbeats 4000000 in
theorem ofe_calls (s st : Value) (es : List Ed) (ts : List (Int × Int)) (w : World) (he : ERow w s es) (ht : TRow w st ts) (hlen : ts.length ≤ 1000000) :
    Calls Try.prog 8 #[s, st] w fun e w' => e = .returned (.pointer (some ⟨w.heap.size, 0, none⟩)) ∧ Below w.heap.size w w' ∧ w.heap.size < w'.heap.size ∧ ∃ s', Ck w' w.heap.size (edCe es) (edLi es) s' ∧ TOwn w' (w.heap.size + 1) s' ts := by
  have hz : ∀ w, (zeroValue 46).run Try.prog w = .ok (.agg chunkZ) w := zero_chunk
  have hk := ck_new w
  have hbel : Below w.heap.size w (w.alloc (.cells chunkZ 46)) := (Below.refl _ _).alloc (Nat.le_refl _) _
  have hsz : w.heap.size < (w.alloc (.cells chunkZ 46)).heap.size := by simp
  generalize chunkZ = Z at *
  obtain ⟨base, cap, rfl, hn, hc, hr⟩ := he.open
  obtain ⟨n, hnn⟩ : ∃ n, es.length = n := ⟨_, rfl⟩
  rw [hnn] at hn ⊢
  replace hnn := Lib.hid hnn
  replace hr := Lib.hid hr
  replace hlen := Lib.hid hlen
  replace ht := Lib.hid ht
  replace hk := Lib.hid hk
  replace hbel := Lib.hid hbel
  replace hsz := Lib.hid hsz
  unfold maxLen at hc
  clear he
  go_enter Try.func8, Try.ntmps8
  go_wp2_with fail
  go_loopw [6] (fun i W => ∃ k : Nat, k ≤ n ∧ i = .int .i64 k ∧ Ck W w.heap.size (edCe (es.take k)) (edLi (es.take k)) (.slice none 0 0) ∧ Below w.heap.size w W) (fun i _ => n - (intOf i).toNat)
  case atStart => exact ⟨0, by omega, rfl, hk.out, hbel.out⟩
  case round =>
    obtain ⟨k, hk', rfl, hck, HB⟩ := hrel
    clear hk hbel hsz hz
    by_cases hlt : k < n
    · have hne : es ≠ [] := fun e => by have := hnn.out; rw [e] at this; simp at this; omega
      obtain ⟨tb, off, rfl, hcell⟩ := hr.out hne
      obtain ⟨e, hke⟩ : ∃ t, es[k]? = some t := ⟨_, List.getElem?_eq_getElem (by rw [hnn.out]; exact hlt)⟩
      obtain ⟨d0, d1, d2, d3, d4⟩ := hcell k e hke
      have htake : es.take (k + 1) = es.take k ++ [e] := by
        have hkl : k < es.length := by rw [hnn.out]; exact hlt
        rw [List.take_succ_eq_append_getElem hkl]
        rw [List.getElem?_eq_getElem hkl] at hke
        rw [Option.some.inj hke]
      have hce := edCe_snoc (es.take k) e
      have hli := edLi_snoc (es.take k) e
      rw [← htake] at hce hli
      have hb0 : tb < w.heap.size := World.block_lt_of_cell? _ _ d0
      replace d0 := (HB.cell (World.block_lt_of_cell? _ _ d0)).trans d0
      replace d1 := (HB.cell (World.block_lt_of_cell? _ _ d1)).trans d1
      replace d2 := (HB.cell (World.block_lt_of_cell? _ _ d2)).trans d2
      replace d3 := (HB.cell (World.block_lt_of_cell? _ _ d3)).trans d3
      replace d4 := (HB.cell (World.block_lt_of_cell? _ _ d4)).trans d4
      replace hcell := Lib.hid hcell
      replace hke := Lib.hid hke
      replace htake := Lib.hid htake
      obtain ⟨at', ⟨x, y⟩, ⟨u, v⟩⟩ := e
      simp only at d0 d1 d2 d3 d4 hce hli
      obtain ⟨m, hm⟩ : ∃ m : Nat, (at' % 4096).toNat = m := ⟨_, rfl⟩
      have hm1 : m < 4096 := by omega
      have hand : bits .and .i64 at' 4095 = (m : Int) := by rw [i64_and4095]; omega
      rw [hm] at hce hli
      clear hm
      replace hce := Lib.hid hce
      replace hli := Lib.hid hli
      have f0 := hck.frozen (m * 2)
      have f1 := hck.frozen (m * 2 + 1)
      have f2 := hck.frozen (8192 + m * 2)
      have f3 := hck.frozen (8192 + m * 2 + 1)
      have c0 := hck.c0 hm1
      have c1 := hck.c1 hm1
      have c2 := hck.l0 hm1
      have c3 := hck.l1 hm1
      have hz1 := hck.lt
      have hnb : ¬ tb = w.heap.size := by omega
      replace HB := Lib.hid HB
      replace hck := Lib.hid hck
      go_wp2_with fail
      go_region
      go_wp2_with fail
      go_region
      go_wp2_with fail
      go_roundw
      case rel =>
        refine ⟨k + 1, by omega, by go_num, ?_, ?_⟩
        · rw [hce.out, hli.out]
          exact (hck.out.setCell hm1 x y).setLight hm1 u v
        · exact ((((HB.out.setCell (p := ⟨w.heap.size, _, none⟩) (Nat.le_refl _) _).setCell (p := ⟨w.heap.size, _, none⟩) (Nat.le_refl _) _).setCell (p := ⟨w.heap.size, _, none⟩) (Nat.le_refl _) _).setCell (p := ⟨w.heap.size, _, none⟩) (Nat.le_refl _) _).drew.drew
      case measure => simp [intOf]; omega
    · obtain rfl : k = n := by omega
      rw [List.take_of_length_le (by rw [hnn.out]; omega)] at hck
      have ct := hck.tk
      have hrow := ht.out.keep HB
      have hlt2 := hck.lt
      have f0 := hck.frozen 16384
      have hnil := TOwn.nil wr (w.heap.size + 1)
      replace HB := Lib.hid HB
      replace hck := Lib.hid hck
      replace hrow := Lib.hid hrow
      replace hnil := Lib.hid hnil
      clear hr
      go_wp2_with (at_builtin; refine wpList_append_ticks rfl (.tmp 46) (.tmp 47) rfl rfl rfl hnil.out hrow.out (by simpa using hlen.out) (by omega) ?_)
      intro v' w' h4 h5 h6
      obtain ⟨vb, vc, rfl, _⟩ := h4.row.open
      have hb5 : Below (w.heap.size + 1) wr w' := below_own (Below.refl _ _) hnil.out h5 (by omega)
      have hck2 := hck.out.below hb5 (by omega)
      have ct2 := hck2.tk
      have f2 := hck2.frozen 16384
      have hend : Below w.heap.size w (w'.setCell ⟨w.heap.size, 16384, none⟩ (.slice vb ts.length vc)) := (HB.out.trans (hb5.mono (by omega))).setCell (p := ⟨w.heap.size, 16384, none⟩) (Nat.le_refl _) _
      have h7 : TOwn (w'.setCell ⟨w.heap.size, 16384, none⟩ (.slice vb ts.length vc)) (w.heap.size + 1) (.slice vb ts.length vc) ts := h4.setBelow (a := ⟨w.heap.size, 16384, none⟩) (Nat.lt_succ_self _) _
      have h8 := hck2.setTicks (.slice vb ts.length vc)
      have h9 := hck2.lt
      replace hend := Lib.hid hend
      replace h7 := Lib.hid h7
      replace h8 := Lib.hid h8
      clear h4 h5 h6 hb5 hck2 HB hck hrow hnil
      go_wp2_with fail
      go_ret
      exact ⟨rfl, hend.out, by simp; omega, _, h8.out, h7.out⟩
end Go.Proofs.Ytlaodkolkoefgaa
