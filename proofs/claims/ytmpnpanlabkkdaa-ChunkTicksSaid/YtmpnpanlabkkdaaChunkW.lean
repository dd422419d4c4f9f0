/-
  chunk.Wake.
-/
import Derived.Test.YtmpnpanlabkkdaaChunkN2
namespace Go.Proofs.Ytmpnpanlabkkdaa
open Go.RowKit
set_option linter.unusedSimpArgs false
set_option linter.unusedVariables false

theorem insert_calls (B eb k : Nat) (v : Value) (ts : List (Int × Int)) (x d : Int) (w : World) (h : TOwn w B v ts) (hk : k ≤ ts.length) (hlen : ts.length ≤ 900000) (hB : B ≤ w.heap.size) (he : Blk w eb [.int .i64 x, .int .i64 d] 62)
    (hap : Apart v eb) :
    Calls Try.prog 50 #[v, .int .i64 k, .slice (some ⟨eb, 0, none⟩) 1 1] w fun e w' => ∃ v', e = .returned v' ∧ TOwn w' B v' (insL ts k (x, d)) ∧ w.grownBy w' v.ownBlock := by
  by_cases h0 : k = ts.length
  · subst h0; exact insert_end B eb v ts x d w h hlen hB he
  · have hlt : k < ts.length := by omega
    obtain ⟨base, cap, hv, hn, _⟩ := h.row.open
    by_cases hc : ts.length + 1 ≤ cap
    · exact insert_shift B eb k v ts x d w h hlt hlen hB he hap (fun a n c e => by rw [hv] at e; cases e; exact hc)
    · exact insert_grow B eb k v ts x d w h hlt hlen hB he (fun a n c e => by rw [hv] at e; cases e; omega)

theorem cellsT_set {ts : List Tk} {k : Nat} {t : Tk} (ht : ts[k]? = some t) (y : Int) : (cellsT ts).set (k * 2 + 1) (.int .i64 y) = cellsT (ts.set k (t.1, y)) := by
  obtain ⟨hk, e⟩ := List.getElem?_eq_some_iff.1 ht
  have e1 : cellsT ts = cellsT (ts.take k) ++ (tickV t ++ cellsT (ts.drop (k + 1))) := by
    have e2 : ts = ts.take k ++ (t :: ts.drop (k + 1)) := by rw [← e, ← List.drop_eq_getElem_cons hk, List.take_append_drop]
    conv => lhs; rw [e2]
    rw [cellsT_app]
    rfl
  have e3 : ts.set k (t.1, y) = ts.take k ++ ((t.1, y) :: ts.drop (k + 1)) := List.set_eq_take_append_cons_drop.trans (by rw [if_pos hk])
  have hpl : (cellsT (ts.take k)).length = k * 2 := by rw [cellsT_len, List.length_take]; omega
  rw [e1, e3, cellsT_app, List.set_append_right _ _ (by rw [hpl]; omega), hpl, Nat.add_sub_cancel_left]
  rfl

/-- A chunk whose ticks have become ts; all else is as it was. The row of ticks is the elder or a new one. -/
def Woke (b : Nat) (ce li : Nat → Int × Int) (s : Value) (ts : List (Int × Int)) (w W : World) : Prop := ∃ s', Ck W b ce li s' ∧ TRow W s' ts ∧ Apart s' b ∧ But b w W ∧ ∀ c, c < w.heap.size → Apart s c → Apart s' c

set_option maxRecDepth 100000 in
set_option maxHeartbeats 8000000 in
theorem wake_calls (b : Nat) (ce li : Nat → Int × Int) (s : Value) (ts : List (Int × Int)) (x d : Int) (w : World) (h : Ck w b ce li s) (ht : TRow w s ts) (hap : Apart s b) (hlen : ts.length ≤ 800000) :
    Calls Try.prog 25 #[.pointer (some ⟨b, 0, none⟩), .int .i64 x, .int .i64 d] w fun e w' => e = .returned (.tuple #[]) ∧ Woke b ce li s (wakeL ts x d) w w' := by
  have hbl := h.lt
  have hA : Below w.heap.size w (w.alloc (.cells #[.int .i64 x] 3)) := (Below.refl _ _).alloc (Nat.le_refl _) _
  by_cases hok : 0 ≤ x ∧ x < 4096 ∧ 1 ≤ d
  · obtain ⟨h0, h1, hd⟩ := hok
    have hib := Blk.new w #[.int .i64 x] 3
    have k1 := h.keep hA
    have t1 := ht.keep hA
    have hs1 : (w.alloc (.cells #[.int .i64 x] 3)).heap.size = w.heap.size + 1 := by simp
    obtain ⟨W1, hW1⟩ : ∃ W1, w.alloc (.cells #[.int .i64 x] 3) = W1 := ⟨_, rfl⟩
    rw [hW1] at hib k1 t1 hA hs1
    have hcal := clone_calls s ts W1 t1 (by omega)
    have ct := k1.tk
    have ci := hib.cell 0 rfl
    have q1 : decide (x < 0) = false := by simp; omega
    have q2 : decide (4096 ≤ x) = false := by simp; omega
    have q3 : decide (d < 1) = false := by simp; omega
    replace hcal := Lib.hid hcal
    replace hs1 := Lib.hid hs1
    go_enter Try.func25, Try.ntmps25
    go_wp2_with fail
    refine hcal.out.mono ?_
    rintro e W2 ⟨v, rfl, hown, hb2⟩
    clear hW1 hcal
    have k2 := k1.keep hb2
    have t2 := t1.keep hb2
    have B2 := below_step hA (by have := hs1.out; omega) hb2
    have i2 := hib.below hb2 hib.lt
    have ci2 := i2.cell 0 rfl
    have hpl := place_calls b ce li s ts x W2 k2 t2
    have hz2 := hb2.size
    rw [hs1.out] at hown hz2
    clear hib k1 t1 hA ct ci hb2
    replace hpl := Lib.hid hpl
    go_wp2_with fail
    refine hpl.out.mono ?_
    rintro e W3 ⟨rfl, hb3⟩
    have k3 := k2.keep hb3
    have t3 := t2.keep hb3
    have B3 := below_step B2 (by omega) hb3
    have i3 := i2.below hb3 i2.lt
    have hown3 := hown.keep hb3
    have hz3 := hb3.size
    clear hpl k2 t2 B2 i2 ci2 hown hb3
    have hapb := hown3.apart (b := b) (by omega)
    have hapc := fun (c : Nat) (hc : c < w.heap.size) => hown3.apart (b := c) (by omega)
    cases hp : placeL ts x with
    | some k =>
      obtain ⟨_, _, hk, t, hkt, htx, _⟩ := placeL_inv hp
      have hwk := wakeL_set hd hp hkt
      have hne : ts ≠ [] := fun e => by subst e; simp at hk
      obtain ⟨g, cap, R, rfl, hBg, hnc, hcm, hbg, hR⟩ := hown3.whole hne k
      have hcx : W3.cell? ⟨g, k * 2 + 1, none⟩ = some (.int .i64 t.2) := by
        rw [World.ownsRow.cellAt hown3 _ (by omega)]
        exact (cellsT_at hkt).2
      have hfx := World.ownsRow.frozenAt hown3 (k * 2 + 1)
      obtain ⟨hst, hgr⟩ := World.ownsRow.stored hown3 (k * 2 + 1) (.int .i64 (minI t.2 d))
      rw [cellsT_set hkt, htx, ← hwk] at hst
      have hlw : (wakeL ts x d).length = ts.length := by rw [hwk]; simp
      have hown4 : TOwn (W3.setCell ⟨g, k * 2 + 1, none⟩ (.int .i64 (minI t.2 d))) (w.heap.size + 1) (.slice (some ⟨g, 0, none⟩) ts.length cap) (wakeL ts x d) := by
        unfold TOwn
        rw [hlw]
        exact hst
      have hgb : ¬ b = g := by omega
      have hgb' : ¬ g = b := by omega
      have k4 := k3.set_other (a := ⟨g, k * 2 + 1, none⟩) (.int .i64 (minI t.2 d)) (by show b ≠ g; omega)
      have ct4 := k4.tk
      have cf4 := k4.frozen 16384
      have k5 := k4.setTicks (.slice (some ⟨g, 0, none⟩) ts.length cap)
      have hown5 := hown4.setBelow (a := ⟨b, 16384, none⟩) (show b < w.heap.size + 1 by omega) (.slice (some ⟨g, 0, none⟩) ts.length cap)
      have hbut : But b w ((W3.setCell ⟨g, k * 2 + 1, none⟩ (.int .i64 (minI t.2 d))).setCell ⟨b, 16384, none⟩ (.slice (some ⟨g, 0, none⟩) ts.length cap)) := ((But.of_below B3).setNew (a := ⟨g, k * 2 + 1, none⟩) (show w.heap.size ≤ g by omega) _).setCell 16384 _
      have hend : Woke b ce li s (wakeL ts x d) w ((W3.setCell ⟨g, k * 2 + 1, none⟩ (.int .i64 (minI t.2 d))).setCell ⟨b, 16384, none⟩ (.slice (some ⟨g, 0, none⟩) ts.length cap)) := ⟨_, k5, hown5.row, hapb, hbut, fun c hc _ => hapc c hc⟩
      have hkz : (k : Int) < (ts.length : Int) := by omega
      have ct3 := k3.tk
      have cf3 := k3.frozen 16384
      have hlt3 := k3.lt
      have hbl3 := hbg.lt
      have hmn : minI t.2 d = if d < t.2 then d else t.2 := rfl
      obtain ⟨y, hy⟩ : ∃ y, t.2 = y := ⟨_, rfl⟩
      rw [hy] at hcx hmn hend
      clear hst hgr hwk hlw hown4 k4 ct4 cf4 k5 hown5 hbut k3 t3 B3 i3 hown3 hapb hapc hbg hR hne hkt htx hy hp h ht hap
      replace hend := Lib.hid hend
      unfold optI
      unfold maxLen at hcm
      by_cases hq : d < y
      · rw [if_pos hq] at hmn
        rw [hmn] at hend
        clear hmn
        go_wp2_with fail
        refine bodyPost_ret (results_none rfl _ _ _) rfl ?_
        exact ⟨rfl, hend.out⟩
      · rw [if_neg hq] at hmn
        rw [hmn] at hend
        clear hmn
        have hq' : y ≤ d := by omega
        go_wp2_with fail
        refine bodyPost_ret (results_none rfl _ _ _) rfl ?_
        exact ⟨rfl, hend.out⟩
    | none =>
      have hwk := wakeL_ins h0 h1 hd hp
      have ci3 := i3.cell 0 rfl
      have hix := index_above v ts x w.heap.size W3 hown3.row ci3
      have hup : (ts.findIdx? (aboveP x)).getD ts.length = upL ts x := rfl
      have hul := upL_le ts x
      have hbl3 := k3.lt
      have hil3 := i3.lt
      obtain ⟨vb, vc, hv, hvn, hvc, _⟩ := hown3.row.open
      subst hv
      unfold maxLen at hvc
      replace hix := Lib.hid hix
      unfold optI
      have hmf : ∀ (fn : Fn) (first cap : Array Value) (w : World), (Instr.makeFunc fn first cap).run Try.prog w = .ok (.func fn first cap) w := fun _ _ _ _ => rfl
      replace hwk := Lib.hid hwk
      replace hup := Lib.hid hup
      clear hp h ht hap
      go_wp2_with fail
      refine hix.out.mono ?_
      rintro e W4 ⟨rfl, hb4⟩
      have k4 := k3.keep hb4
      have B4 := below_step B3 (by omega) hb4
      have i4 := i3.below hb4 i3.lt
      have ci4 := i4.cell 0 rfl
      have hown4 := hown3.keep hb4
      have hz4 := hb4.size
      have hil4 := i4.lt
      have hapb4 := hapb
      clear hix k3 t3 B3 i3 ci3 hown3 hb4 hapb hapc
      -- the tick in its own block
      have he := Blk.new W4 #[.int .i64 x, .int .i64 d] 62
      have hown5 := hown4.alloc (.cells #[.int .i64 x, .int .i64 d] 62)
      have hape : Apart (.slice vb ts.length vc) W4.heap.size := fun a n c e => by
        have := (hown4.blk a.block (by cases e; rfl)).2
        omega
      have hin := insert_calls (w.heap.size + 1) W4.heap.size (upL ts x) _ ts x d _ hown5 hul (by omega) (by simp; omega) he hape
      rw [← hwk.out] at hin
      have k5 := k4.alloc (.cells #[.int .i64 x, .int .i64 d] 62)
      have B5 := B4.alloc (by omega) (.cells #[.int .i64 x, .int .i64 d] 62)
      replace hin := Lib.hid hin
      have hfin : ∀ (W5 : World) (v' : Value), TOwn W5 (w.heap.size + 1) v' (wakeL ts x d) → (W4.alloc (.cells #[.int .i64 x, .int .i64 d] 62)).grownBy W5 (Value.ownBlock (.slice vb ts.length vc)) → ∃ vb' vc', v' = .slice vb' (wakeL ts x d).length vc' ∧ W5.cell? ⟨b, 16384, none⟩ = some s ∧ W5.frozen? ⟨b, 16384, none⟩ = false ∧ b < W5.heap.size ∧
          Woke b ce li s (wakeL ts x d) w (W5.setCell ⟨b, 16384, none⟩ v') := fun W5 v' h6 hg => by
        have hne : some b ≠ Value.ownBlock (.slice vb ts.length vc) := fun e => by
          have := (hown4.blk b e.symm).1
          omega
        obtain ⟨cs, hcs, hcl⟩ := k5
        have hcs6 : Blk W5 b cs 44 := (hg.block b hcs.lt hne).trans hcs
        have k6 : Ck W5 b ce li s := ⟨cs, hcs6, hcl⟩
        have B6 : Below w.heap.size w W5 := B5.grown hg (by simp; omega) (fun k hk => by have := (hown4.blk k hk).1; omega)
        obtain ⟨vb', vc', e, _⟩ := h6.row.open
        refine ⟨vb', vc', e, k6.tk, k6.frozen _, k6.lt, v', k6.setTicks v', ?_, ?_, ?_, fun c hc _ => h6.apart (by omega)⟩
        · exact (h6.setBelow (a := ⟨b, 16384, none⟩) (show b < w.heap.size + 1 by omega) v').row
        · exact h6.apart (by omega)
        · exact (But.of_below B6).setCell 16384 v'
      replace hfin := Lib.hid hfin
      clear k4 B4 i4 hown4 k5 B5 hapb4 he hown5 hape
      cases hf : ts.findIdx? (aboveP x) with
      | none =>
        have hu : upL ts x = ts.length := by rw [← hup.out, hf]; rfl
        rw [hu] at hin
        clear hf hu hup hul
        unfold optI
        go_wp2_with fail
        refine hin.out.mono ?_
        rintro e W5 ⟨v', rfl, h6, hg⟩
        obtain ⟨vb', vc', rfl, c6, f6, l6, h7⟩ := hfin.out W5 v' h6 hg
        clear h6 hg hin hfin
        replace h7 := Lib.hid h7
        go_wp2_with fail
        refine bodyPost_end (results_none rfl _ _ _) rfl ?_
        exact ⟨rfl, h7.out⟩
      | some k =>
        have hu : upL ts x = k := by rw [← hup.out, hf]; rfl
        rw [hu] at hin hul
        clear hf hu hup
        unfold optI
        go_wp2_with fail
        refine hin.out.mono ?_
        rintro e W5 ⟨v', rfl, h6, hg⟩
        obtain ⟨vb', vc', rfl, c6, f6, l6, h7⟩ := hfin.out W5 v' h6 hg
        clear h6 hg hin hfin
        replace h7 := Lib.hid h7
        go_wp2_with fail
        refine bodyPost_end (results_none rfl _ _ _) rfl ?_
        exact ⟨rfl, h7.out⟩
  · rw [wakeL_no hok]
    have hend : Woke b ce li s ts w (w.alloc (.cells #[.int .i64 x] 3)) := ⟨s, h.keep hA, ht.keep hA, hap, But.of_below hA, fun c _ h => h⟩
    replace hend := Lib.hid hend
    clear h ht hap hA
    have hq : x < 0 ∨ 4096 ≤ x ∨ d < 1 := by omega
    by_cases q1 : x < 0
    · clear hq hok
      go_enter Try.func25, Try.ntmps25
      go_wp2_with fail
      refine bodyPost_ret (results_none rfl _ _ _) rfl ?_
      exact ⟨rfl, hend.out⟩
    · have q1' : decide (x < 0) = false := by simp; omega
      by_cases q2 : 4096 ≤ x
      · clear hq hok
        go_enter Try.func25, Try.ntmps25
        go_wp2_with fail
        refine bodyPost_ret (results_none rfl _ _ _) rfl ?_
        exact ⟨rfl, hend.out⟩
      · have q3 : d < 1 := by omega
        have q2' : decide (4096 ≤ x) = false := by simp; omega
        clear hq hok
        go_enter Try.func25, Try.ntmps25
        go_wp2_with fail
        refine bodyPost_ret (results_none rfl _ _ _) rfl ?_
        exact ⟨rfl, hend.out⟩
end Go.Proofs.Ytmpnpanlabkkdaa
