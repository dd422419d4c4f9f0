/-
  slices.Delete of one tick out of a row that the call owns; chunk.Drop.
-/
import Derived.Test.YtmpnpanlabkkdaaChunkW
namespace Go.Proofs.Ytmpnpanlabkkdaa
open Go.RowKit
set_option linter.unusedSimpArgs false
set_option linter.unusedVariables false

set_option maxRecDepth 100000 in
set_option maxHeartbeats 4000000 in
theorem delete_calls (B k : Nat) (v : Value) (ts : List (Int × Int)) (w : World) (h : TOwn w B v ts) (hk : k < ts.length) (hlen : ts.length ≤ 900000) (hB : B ≤ w.heap.size) :
    Calls Try.prog 46 #[v, .int .i64 k, .int .i64 ((k : Int) + 1)] w fun e w' => ∃ v', e = .returned v' ∧ TOwn w' B v' (ts.eraseIdx k) ∧ w.grownBy w' v.ownBlock := by
  have hne : ts ≠ [] := fun e => by subst e; simp at hk
  obtain ⟨g, cap, R, rfl, hBg, hnc, hcm, hb, hR⟩ := h.whole hne k
  have hpl : (cellsT (ts.take k)).length = k * 2 := by rw [cellsT_len, List.length_take]; omega
  have hdl : (cellsT (ts.drop (k + 1))).length = (ts.length - (k + 1)) * 2 := by rw [cellsT_len, List.length_drop]
  obtain ⟨t, ht⟩ : ∃ t, ts[k]? = some t := ⟨_, List.getElem?_eq_getElem hk⟩
  have hdrop : cellsT (ts.drop k) = tickV t ++ cellsT (ts.drop (k + 1)) := by
    rw [List.drop_eq_getElem_cons hk]
    rw [List.getElem?_eq_getElem hk] at ht
    rw [Option.some.inj ht]
    rfl
  rw [hdrop, List.append_assoc] at hb
  have herase : ts.eraseIdx k = ts.take k ++ ts.drop (k + 1) := List.eraseIdx_eq_take_drop_succ ts k
  have hel : (ts.eraseIdx k).length = ts.length - 1 := by rw [List.length_eraseIdx, if_pos hk]
  obtain ⟨i0, hi0, hz0, hzs, hzb⟩ := info_parts info_tick
  -- the append
  have c1 : ∀ ty (a : Addr) c, (a = ⟨g, (k + 1) * 2, none⟩ ∨ ts.length = k + 1) → (Builtin.append_ #[23, 23] ty #[.slice (some ⟨g, 0, none⟩) k cap, .slice (some a) (ts.length - (k + 1)) c]).run Try.prog w.drew =
      .ok (.slice (some ⟨g, 0, none⟩) (k + (ts.length - (k + 1))) cap) (w.drew.setCells g (0 + k * i0.size) (cellsT (ts.drop (k + 1)))) := fun ty a c ha => by
    refine run_append_room_cells w.drew 23 ty 62 i0 under_ticks hi0 g 0 k cap a (ts.length - (k + 1)) c (cellsT (ts.drop (k + 1))) (by rw [hzs]; exact hdl) (fun j u hj => ?_) (cellsT_one _) (by omega) (fun j hj => ?_) (fun j hj => hb.drew.frozen _)
    · rcases ha with rfl | ha
      · rw [Addr.add_mid, hb.drew.cell_eq, List.getElem?_append_right (by rw [hpl]; omega), hpl, show (k + 1) * 2 + j - k * 2 = 2 + j by omega, List.getElem?_append_right (by show 2 ≤ _; omega), show 2 + j - (tickV t).length = j by show 2 + j - 2 = j; omega, List.getElem?_append_left (List.getElem?_eq_some_iff.1 hj).1]
        exact hj
      · have := (List.getElem?_eq_some_iff.1 hj).1
        rw [hdl] at this
        omega
    · rw [hdl] at hj
      rw [hb.drew.cell_eq, List.getElem?_eq_getElem (by simp only [List.length_append, hpl, hdl, hzs]; show _ < k * 2 + (2 + _); omega)]
      rfl
  rw [hzs, Nat.zero_add] at c1
  have b1 : Blk (w.drew.setCells g (k * 2) (cellsT (ts.drop (k + 1)))) g (cellsT (ts.take k) ++ (cellsT (ts.drop (k + 1)) ++ (tickV t ++ (cellsT (ts.drop (k + 1)) ++ R)).drop ((ts.length - (k + 1)) * 2))) 62 := by
    have hW := hb.drew
    rw [← List.take_append_drop ((ts.length - (k + 1)) * 2) (tickV t ++ (cellsT (ts.drop (k + 1)) ++ R))] at hW
    have := blk_mid (cellsT (ts.drop (k + 1))) _ _ _ (by rw [List.length_take, hdl]; simp only [List.length_append, hdl]; omega) hW
    rw [hpl] at this
    exact this
  obtain ⟨X, hX⟩ : ∃ X, (tickV t ++ (cellsT (ts.drop (k + 1)) ++ R)).drop ((ts.length - (k + 1)) * 2) = X := ⟨_, rfl⟩
  have hXl : X.length = 2 + R.length := by rw [← hX, List.length_drop]; simp only [List.length_append, hdl]; show 2 + _ - _ = _; omega
  obtain ⟨W1, hW1⟩ : ∃ W1, w.drew.setCells g (k * 2) (cellsT (ts.drop (k + 1))) = W1 := ⟨_, rfl⟩
  rw [hX, hW1] at b1
  rw [hW1] at c1
  have g1 : w.grownBy W1 (some g) := by rw [← hW1]; exact grownBy_trans (grownBy_drew w _) (grownBy_setCells _ _ _ _)
  have c2 := fun ty c => run_clear_ticks W1 ty g ((ts.length - 1) * 2) c _ _ b1 (by simp only [List.length_append, hpl, hdl, hXl]; omega)
  have b2 : Blk (W1.setCells g ((ts.length - 1) * 2) [.int .i64 0, .int .i64 0]) g (cellsT (ts.eraseIdx k) ++ ([.int .i64 0, .int .i64 0] ++ X.drop 2)) 62 := by
    rw [← List.take_append_drop 2 X, ← List.append_assoc, ← cellsT_app, ← herase] at b1
    have := blk_mid [.int .i64 0, .int .i64 0] (X.take 2) (cellsT (ts.eraseIdx k)) (X.drop 2) (by rw [List.length_take, hXl]; show min 2 _ = 2; omega) b1
    rw [cellsT_len, hel] at this
    exact this
  have g2 : w.grownBy (W1.setCells g ((ts.length - 1) * 2) [.int .i64 0, .int .i64 0]) (some g) := grownBy_trans g1 (grownBy_setCells _ _ _ _)
  obtain ⟨W2, hW2⟩ : ∃ W2, W1.setCells g ((ts.length - 1) * 2) [.int .i64 0, .int .i64 0] = W2 := ⟨_, rfl⟩
  rw [hW2] at c2 b2 g2
  have hown : TOwn W2 B (.slice (some ⟨g, 0, none⟩) (ts.length - 1) cap) (ts.eraseIdx k) :=
    TOwn.of_blk b2 hBg hel.symm (by rw [hel]; omega) hcm (by rw [hel, List.length_append, List.length_drop, hXl]; show _ + (2 + _) = _; omega)
  clear h hb b1 b2 g1 hdrop herase hel hpl hdl hXl hX hR ht hi0 hz0 hzs hzb
  replace c1 := Lib.hid c1
  replace c2 := Lib.hid c2
  replace hown := Lib.hid hown
  replace g2 := Lib.hid g2
  replace hW1 := Lib.hid hW1
  replace hW2 := Lib.hid hW2
  unfold maxLen at hcm
  obtain ⟨n, hn⟩ : ∃ n, ts.length = n := ⟨_, rfl⟩
  rw [hn] at hk hlen hnc c1 c2 hown ⊢
  have hkk : k + (n - (k + 1)) = n - 1 := by omega
  rw [hkk] at c1
  replace hn := Lib.hid hn
  clear hkk
  have hz2 : ((k : Int) == (k : Int) + 1) = false := by simp; omega
  have hb1 : (0 : Int) ≤ (k : Int) + 1 := by omega
  have htn : ((k : Int) + 1).toNat = k + 1 := by omega
  have hkn : k + 1 ≤ n := by omega
  have hkc : k ≤ cap := by omega
  have hkc' : (k : Int) ≤ (cap : Int) := by omega
  have hkn' : (k : Int) + 1 ≤ (n : Int) := by omega
  by_cases hcap : cap = k + 1
  · subst hcap
    obtain rfl : n = k + 1 := by omega
    simp only [Nat.sub_self, Nat.add_sub_cancel] at c1 c2 hown
    have hc2 : ¬ (k + 1 = k) := by omega
    have hk3 : ¬ (k + 1 < k) := by omega
    have hk4 : (k : Int) ≤ (k : Int) + 1 := by omega
    have hk5 : decide ((k : Int) + 1 < (k : Int)) = false := by simp; omega
    go_enter Try.func46, Try.ntmps46
    go_wp2_with fail
    go_still_tail 6, (by kernel_rfl)
    change wpList _ _ _ _ _ w.drew
    refine wpList_append_run _ rfl (.tmp 22) (.tmp 25) 23 23 rfl _ _ rfl rfl (c1.out _ _ _ (Or.inr trivial)) ?_
    go_wp2_with (refine wpList_clear_run _ rfl (.tmp 31) 23 rfl _ rfl (c2.out _ _) ?_)
    go_wp2_with fail
    go_ret
    exact ⟨_, rfl, hown.out, g2.out⟩
  · have hc3 : n - (n - 1) = 1 := by omega
    have hc2 : ¬ (cap = n - 1) := by omega
    go_enter Try.func46, Try.ntmps46
    go_wp2_with fail
    go_still_tail 6, (by kernel_rfl)
    change wpList _ _ _ _ _ w.drew
    refine wpList_append_run _ rfl (.tmp 22) (.tmp 25) 23 23 rfl _ _ rfl rfl (c1.out _ _ _ (Or.inl rfl)) ?_
    go_wp2_with (refine wpList_clear_run _ rfl (.tmp 31) 23 rfl _ rfl (c2.out _ _) ?_)
    go_wp2_with fail
    go_ret
    exact ⟨_, rfl, hown.out, g2.out⟩

set_option maxRecDepth 100000 in
set_option maxHeartbeats 4000000 in
theorem drop_calls (b : Nat) (ce li : Nat → Int × Int) (s : Value) (ts : List (Int × Int)) (x : Int) (w : World) (h : Ck w b ce li s) (ht : TRow w s ts) (hap : Apart s b) (hlen : ts.length ≤ 800000) :
    Calls Try.prog 23 #[.pointer (some ⟨b, 0, none⟩), .int .i64 x] w fun e w' => e = .returned (.tuple #[]) ∧ Woke b ce li s (dropL ts x) w w' := by
  have hbl := h.lt
  have hcal := place_calls b ce li s ts x w h ht
  cases hp : placeL ts x with
  | none =>
    have hd : dropL ts x = ts := by unfold dropL; rw [hp]
    rw [hd]
    rw [hp] at hcal
    unfold optI at hcal
    replace hcal := Lib.hid hcal
    clear hd hp
    go_enter Try.func23, Try.ntmps23
    go_wp2_with fail
    refine hcal.out.mono ?_
    rintro e w1 ⟨rfl, hb⟩
    have hend : Woke b ce li s ts w w1 := ⟨s, h.keep hb, ht.keep hb, hap, But.of_below hb, fun c _ h => h⟩
    replace hend := Lib.hid hend
    clear hb h ht hap hcal
    go_wp2_with fail
    refine bodyPost_end (results_none rfl _ _ _) rfl ?_
    exact ⟨rfl, hend.out⟩
  | some k =>
    obtain ⟨_, _, hk, _⟩ := placeL_inv hp
    have hd : dropL ts x = ts.eraseIdx k := by unfold dropL; rw [hp]
    rw [hd]
    rw [hp] at hcal
    unfold optI at hcal
    replace hcal := Lib.hid hcal
    replace hd := Lib.hid hd
    clear hp
    go_enter Try.func23, Try.ntmps23
    go_wp2_with fail
    refine hcal.out.mono ?_
    rintro e w1 ⟨rfl, hb⟩
    have k1 := h.keep hb
    have t1 := ht.keep hb
    have ct := k1.tk
    have hcl := clone_calls s ts w1 t1 (by omega)
    have hz := hb.size
    have hl1 := k1.lt
    replace hcl := Lib.hid hcl
    clear h ht hap hcal
    have hw1 : IntKind.i64.wrap ((k : Int) + 1) = (k : Int) + 1 := IntWalk.i64_in _ (by omega)
    go_wp2_with fail
    refine hcl.out.mono ?_
    rintro e w2 ⟨v, rfl, hown, hb2⟩
    have k2 := k1.keep hb2
    have B2 := below_step hb hz hb2
    have hz2 := hb2.size
    have hde := delete_calls w1.heap.size k v ts w2 hown hk (by omega) hz2
    obtain ⟨vb, vc, hv, hvn, hvc, _⟩ := hown.row.open
    subst hv
    unfold maxLen at hvc
    have hfin : ∀ (W5 : World) (v' : Value), TOwn W5 w1.heap.size v' (ts.eraseIdx k) → w2.grownBy W5 (Value.ownBlock (.slice vb ts.length vc)) → ∃ vb' vc', v' = .slice vb' (ts.eraseIdx k).length vc' ∧ W5.cell? ⟨b, 16384, none⟩ = some s ∧ W5.frozen? ⟨b, 16384, none⟩ = false ∧ b < W5.heap.size ∧
        Woke b ce li s (ts.eraseIdx k) w (W5.setCell ⟨b, 16384, none⟩ v') := fun W5 v' h6 hg => by
      have hne : some b ≠ Value.ownBlock (.slice vb ts.length vc) := fun e => by
        have := (hown.blk b e.symm).1
        omega
      obtain ⟨cs, hcs, hcl⟩ := k2
      have hcs6 : Blk W5 b cs 44 := (hg.block b hcs.lt hne).trans hcs
      have k6 : Ck W5 b ce li s := ⟨cs, hcs6, hcl⟩
      have B6 : Below w.heap.size w W5 := B2.grown hg (by omega) (fun k hk => by have := (hown.blk k hk).1; omega)
      obtain ⟨vb', vc', e, _⟩ := h6.row.open
      refine ⟨vb', vc', e, k6.tk, k6.frozen _, k6.lt, v', k6.setTicks v', ?_, ?_, ?_, fun c hc _ => h6.apart (by omega)⟩
      · exact (h6.setBelow (a := ⟨b, 16384, none⟩) (show b < w1.heap.size by omega) v').row
      · exact h6.apart (by omega)
      · exact (But.of_below B6).setCell 16384 v'
    replace hfin := Lib.hid hfin
    replace hde := Lib.hid hde
    clear k1 t1 ct hcl hb k2 B2 hown hb2
    go_wp2_with fail
    refine hde.out.mono ?_
    rintro e W5 ⟨v', rfl, h6, hg⟩
    obtain ⟨vb', vc', rfl, c6, f6, l6, h7⟩ := hfin.out W5 v' h6 hg
    clear h6 hg hde hfin
    replace h7 := Lib.hid h7
    go_wp2_with fail
    refine bodyPost_end (results_none rfl _ _ _) rfl ?_
    exact ⟨rfl, h7.out⟩
end Go.Proofs.Ytmpnpanlabkkdaa
