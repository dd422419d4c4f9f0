/-
  slices.Clone of ticks, chunk.Copy.
-/
import Derived.Test.YtmpnpanlabkkdaaChunkS
import Derived.Lib.Slices
namespace Go.Proofs.Ytmpnpanlabkkdaa
open Go.RowKit
set_option linter.unusedSimpArgs false
set_option linter.unusedVariables false

theorem blk_setCells_own {T : TypeId} : ∀ (vs old pre : List Value) {w : World} {b : Nat}, old.length = vs.length → Blk w b (pre ++ old) T → Blk (w.setCells b pre.length vs) b (pre ++ vs) T
  | [], old, pre, w, b, hl, h => by
    obtain rfl : old = [] := List.eq_nil_of_length_eq_zero hl
    exact h
  | v :: vs, [], pre, w, b, hl, h => by simp at hl
  | v :: vs, x :: old, pre, w, b, hl, h => by
    have h1 := h.set pre.length v
    rw [List.set_append_right _ _ (Nat.le_refl _), Nat.sub_self, List.set_cons_zero, show pre ++ v :: old = (pre ++ [v]) ++ old by simp] at h1
    have h2 := blk_setCells_own vs old (pre ++ [v]) (by simpa using hl) h1
    rw [List.length_append] at h2
    have e : pre ++ v :: vs = (pre ++ [v]) ++ vs := by simp
    rw [e]
    exact h2

theorem eql_slice_nil (w : World) (a : Option Addr) (n c n' c' : Nat) : (binOp .eql 23 (.slice a n c) (.slice none n' c')).run Try.prog w = .ok (.bool a.isNone) w := Lib.run_eql_slice_nil w _ _ a n c n' c' under_ticks
theorem under_chunk : Try.prog.underlying 44 = some (.struct (Try.prog.fieldsOf 44)) := by kernel_rfl
theorem size_chunk : (Try.prog.info? 44).map (·.size) = some 16385 := by kernel_rfl

set_option maxRecDepth 100000 in
set_option maxHeartbeats 2000000 in
theorem clone_calls (s : Value) (ts : List (Int × Int)) (w : World) (ht : TRow w s ts) (hlen : ts.length ≤ 1000000) :
    Calls Try.prog 36 #[s] w fun e w' => ∃ v, e = .returned v ∧ TOwn w' w.heap.size v ts ∧ Below w.heap.size w w' := by
  have ht' := ht
  obtain ⟨base, cap, rfl, h1, h2, h3⟩ := ht
  cases base with
  | none =>
    have h0 : ts = [] := by
      by_cases e : ts = []
      · exact e
      · obtain ⟨b, off, hb, _⟩ := h3 (by simpa using e)
        cases hb
    subst h0
    obtain rfl : cap = 0 := h1.2 rfl
    clear h1 h2 h3 ht' hlen
    have q := fun w => eql_slice_nil w none 0 0 0 0
    go_enter Try.func36, Try.ntmps36
    go_wp2_with fail
    go_ret
    exact ⟨_, rfl, TOwn.nil _ _, Below.refl _ _⟩
  | some a =>
    have hown : TOwn (w.alloc (.cells #[] 62)) w.heap.size (.slice (some ⟨w.heap.size, 0, none⟩) 0 0) [] := World.ownsRow_made w #[] 0 (Nat.le_refl _) (Nat.zero_le _) rfl
    have hrow := ht'.keep (w' := w.alloc (.cells #[] 62)) ((Below.refl _ _).alloc (Nat.le_refl _) _)
    rw [List.length_map] at hrow ⊢
    replace hown := Lib.hid hown
    replace hrow := Lib.hid hrow
    clear h1 h2 h3 ht'
    replace hlen := Lib.hid hlen
    have q := fun w => eql_slice_nil w (some a) ts.length cap 0 0
    go_enter Try.func36, Try.ntmps36
    go_wp2_with (at_builtin; refine wpList_append_ticks rfl (.tmp 5) (.tmp 6) rfl rfl rfl hown.out hrow.out (by simpa using hlen.out) (by simp) ?_)
    intro v' w' h4 h5 h6
    have hb := below_own ((Below.refl w.heap.size w).alloc (Nat.le_refl _) (.cells #[] 62)) hown.out h5 (by simp)
    replace h4 := Lib.hid h4
    replace hb := Lib.hid hb
    clear h5 h6
    go_wp2_with fail
    go_ret
    exact ⟨_, rfl, h4.out, hb.out⟩

set_option maxRecDepth 100000 in
set_option maxHeartbeats 2000000 in
theorem copy_calls (b : Nat) (ce li : Nat → Int × Int) (s : Value) (ts : List (Int × Int)) (w : World) (h : Ck w b ce li s) (ht : TRow w s ts) (hlen : ts.length ≤ 1000000) :
    Calls Try.prog 16 #[.pointer (some ⟨b, 0, none⟩)] w fun e w' => e = .returned (.pointer (some ⟨w.heap.size, 0, none⟩)) ∧ Below w.heap.size w w' ∧ w.heap.size < w'.heap.size ∧ ∃ s', Ck w' w.heap.size ce li s' ∧ TOwn w' (w.heap.size + 1) s' ts := by
  have hz : ∀ w, (zeroValue 44).run Try.prog w = .ok (.agg chunkZ) w := zero_chunk
  have hzn : chunkZ.toList.length = 16385 := chunkZ_ckL.len
  generalize chunkZ = Z at *
  obtain ⟨cs, hb, hl⟩ := h
  have hcl := hl.len
  have ht1 := ht.keep (w' := w.alloc (.cells Z 44)) ((Below.refl _ _).alloc (Nat.le_refl _) _)
  replace hl := Lib.hid hl
  have h0 := hb.lt
  have hrg : w.rangeAt b 0 cs := fun j v hv => by rw [Nat.zero_add]; exact hb.cell j hv
  have hone : cs.toArray.all (·.oneCell') = true := by
    refine all_oneCell_toArray fun v hv => ?_
    obtain ⟨j, hj, e⟩ := List.getElem_of_mem hv
    have h1 := hl.out.get j (by omega)
    rw [List.getElem?_eq_getElem hj, e] at h1
    obtain rfl := Option.some.inj h1
    unfold ckF
    have hs : s.oneCell' = true := by obtain ⟨base, cap, rfl, _⟩ := ht; rfl
    (repeat' split) <;> first | rfl | exact hs
  have hck : Ck w b ce li s := ⟨cs, hb, hl.out⟩
  have hnew := Blk.new w Z 44
  have hthere : (w.alloc (.cells Z 44)).there w.heap.size 0 cs.toArray.size := by
    refine there_new_at rfl ?_
    have : Z.size = 16385 := by simpa using hzn
    simp; omega
  have hbel : Below w.heap.size w ((w.alloc (.cells Z 44)).setCells w.heap.size 0 cs) := below_setCells cs 0 (Nat.le_refl _) _ ((Below.refl _ _).alloc (Nat.le_refl _) _)
  have hbn : Blk ((w.alloc (.cells Z 44)).setCells w.heap.size 0 cs) w.heap.size cs 44 := blk_setCells_own cs Z.toList [] (by rw [hcl, hzn]) hnew
  have hck1 : Ck ((w.alloc (.cells Z 44)).setCells w.heap.size 0 cs) w.heap.size ce li s := ⟨cs, hbn, hl.out⟩
  have hck0 := hck.keep hbel
  have hrow := ht.keep hbel
  have hst : (storeCells ⟨w.heap.size, 0, none⟩ cs).run Try.prog (w.alloc (.cells Z 44)) = .ok () ((w.alloc (.cells Z 44)).setCells w.heap.size 0 cs) := by
    have hth : ∀ j, j < cs.length → _ := fun j hj => hthere j (by simpa using hj)
    have hon : ∀ v ∈ cs, v.oneCell' = true := fun v hv => (Array.all_eq_true_iff_forall_mem.1 hone) v (by simpa using hv)
    have := run_storeCells_cells (P := Try.prog) w.heap.size 0 cs 0 (w.alloc (.cells Z 44)) (fun j hj => by simpa using (hth j hj).1) (fun j hj => by simp) hon
    simpa using this
  obtain ⟨W, hW⟩ : ∃ W, (w.alloc (.cells Z 44)).setCells w.heap.size 0 cs = W := ⟨_, rfl⟩
  rw [hW] at hbel hck1 hck0 hrow hst
  clear hW
  have ct := hck0.tk
  have hcal := clone_calls s ts W hrow hlen
  have hlt := hck1.lt
  replace hrg := Lib.hid hrg
  replace hone := Lib.hid hone
  replace hthere := Lib.hid hthere
  replace hcl := Lib.hid hcl
  replace hlen := Lib.hid hlen
  replace hbel := Lib.hid hbel
  replace hck1 := Lib.hid hck1
  replace hcal := Lib.hid hcal
  clear hck0 hrow
  clear ht ht1 hb hbn hck hnew hzn
  go_enter Try.func16, Try.ntmps16
  go_wp2_with (refine wpList_load_mid rfl 44 (.tmp 7) rfl b 0 rfl cs _ hrg.out under_chunk rfl (by rw [hcl.out]; exact size_chunk) ?_)
  go_wp2_with fail
  refine hcal.out.mono ?_
  rintro e W2 ⟨v, rfl, hown, hb2⟩
  obtain ⟨vb, vc, rfl, _⟩ := hown.row.open
  have hz2 := hb2.size
  have k2 := hck1.out.keep hb2
  have cf := k2.frozen 16384
  have hx := k2.tk
  have hap := hown.apart hlt
  have hend : Below w.heap.size w (W2.setCell ⟨w.heap.size, 16384, none⟩ (.slice vb ts.length vc)) := (below_step hbel.out hbel.out.size hb2).setCell (p := ⟨w.heap.size, 16384, none⟩) (Nat.le_refl _) _
  have hown2 : TOwn (W2.setCell ⟨w.heap.size, 16384, none⟩ (.slice vb ts.length vc)) (w.heap.size + 1) (.slice vb ts.length vc) ts := (hown.setBelow (a := ⟨w.heap.size, 16384, none⟩) hlt _).mono (by omega)
  have hck2 := k2.setTicks (.slice vb ts.length vc)
  replace hend := Lib.hid hend
  replace hown2 := Lib.hid hown2
  replace hck2 := Lib.hid hck2
  clear hb2 hown hbel hcal hap k2 hck1
  go_wp2_with fail
  go_ret
  exact ⟨rfl, hend.out, by simp; omega, _, hck2.out, hown2.out⟩
end Go.Proofs.Ytmpnpanlabkkdaa
