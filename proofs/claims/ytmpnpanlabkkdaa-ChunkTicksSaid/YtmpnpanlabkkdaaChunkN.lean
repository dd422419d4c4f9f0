/-
  slices.Insert of one tick into a row that the call owns.
-/
import Derived.Test.YtmpnpanlabkkdaaChunkL
import Derived.StillTailTactics
namespace Go.Proofs.Ytmpnpanlabkkdaa
open Go.RowKit
set_option linter.unusedSimpArgs false
set_option linter.unusedVariables false

theorem insL_end (ts : List Tk) (t : Tk) : insL ts ts.length t = ts ++ [t] := by simp [insL]
theorem cellsT_ins (ts : List Tk) (k : Nat) (t : Tk) : cellsT (insL ts k t) = cellsT (ts.take k) ++ (tickV t ++ cellsT (ts.drop k)) := by
  unfold insL
  rw [cellsT_app]
  rfl
theorem insL_len (ts : List Tk) (k : Nat) (t : Tk) (h : k ≤ ts.length) : (insL ts k t).length = ts.length + 1 := by simp [insL, List.length_take, List.length_drop]; omega

set_option maxRecDepth 100000 in
set_option maxHeartbeats 4000000 in
/-- At the end. -/
theorem insert_end (B eb : Nat) (v : Value) (ts : List (Int × Int)) (x d : Int) (w : World) (h : TOwn w B v ts) (hlen : ts.length ≤ 900000) (hB : B ≤ w.heap.size) (he : Blk w eb [.int .i64 x, .int .i64 d] 62) :
    Calls Try.prog 50 #[v, .int .i64 ts.length, .slice (some ⟨eb, 0, none⟩) 1 1] w fun e w' => ∃ v', e = .returned v' ∧ TOwn w' B v' (insL ts ts.length (x, d)) ∧ w.grownBy w' v.ownBlock := by
  rw [insL_end]
  have h' := h
  have hr := trow_one he
  obtain ⟨base, cap, rfl, hn, hc, _⟩ := h.row.open
  unfold maxLen at hc
  replace h' := Lib.hid h'
  replace hr := Lib.hid hr
  clear he h
  by_cases hcap : cap = ts.length
  · subst hcap
    go_enter Try.func50, Try.ntmps50
    go_wp2_with (at_builtin; refine wpList_append_ticks rfl (.tmp 23) (.tmp 24) rfl rfl rfl h'.out hr.out (by simp; omega) hB ?_)
    intro v' w' h4 h5 h6
    replace h4 := Lib.hid h4
    replace h5 := Lib.hid h5
    clear h6
    go_wp2_with fail
    go_ret
    exact ⟨_, rfl, h4.out, h5.out⟩
  · go_enter Try.func50, Try.ntmps50
    go_wp2_with (at_builtin; refine wpList_append_ticks rfl (.tmp 23) (.tmp 24) rfl rfl rfl h'.out hr.out (by simp; omega) hB ?_)
    intro v' w' h4 h5 h6
    replace h4 := Lib.hid h4
    replace h5 := Lib.hid h5
    clear h6
    go_wp2_with fail
    go_ret
    exact ⟨_, rfl, h4.out, h5.out⟩

set_option maxRecDepth 100000 in
set_option maxHeartbeats 4000000 in
/-- In the middle, in place. -/
theorem insert_shift (B eb k : Nat) (v : Value) (ts : List (Int × Int)) (x d : Int) (w : World) (h : TOwn w B v ts) (hk : k < ts.length) (hlen : ts.length ≤ 900000) (hB : B ≤ w.heap.size) (he : Blk w eb [.int .i64 x, .int .i64 d] 62)
    (hap : Apart v eb) (hroom : ∀ a n c, v = .slice (some a) n c → n + 1 ≤ c) :
    Calls Try.prog 50 #[v, .int .i64 k, .slice (some ⟨eb, 0, none⟩) 1 1] w fun e w' => ∃ v', e = .returned v' ∧ TOwn w' B v' (insL ts k (x, d)) ∧ w.grownBy w' v.ownBlock := by
  have hne : ts ≠ [] := fun e => by subst e; simp at hk
  obtain ⟨g, cap, R, rfl, hBg, hnc, hcm, hb, hR⟩ := h.whole hne k
  have hrm := hroom _ _ _ rfl
  have hge : eb ≠ g := fun e => hap _ _ _ rfl e.symm
  have hpl : (cellsT (ts.take k)).length = k * 2 := by rw [cellsT_len, List.length_take]; omega
  have hdl : (cellsT (ts.drop k)).length = (ts.length - k) * 2 := by rw [cellsT_len, List.length_drop]
  have hR2 : 2 ≤ R.length := by omega
  -- the two copies
  have s1 : ∀ (W : World), Blk W g (cellsT (ts.take k) ++ (cellsT (ts.drop k) ++ R)) 62 → ∀ ty dc sc, (Builtin.copy_ #[23, 23] ty #[.slice (some ⟨g, (k + 1) * 2, none⟩) (ts.length - k) dc, .slice (some ⟨g, k * 2, none⟩) (ts.length + 1 - k) sc]).run Try.prog W =
      .ok (goInt (ts.length - k : Nat)) (W.setCells g ((k + 1) * 2) (cellsT (ts.drop k))) := fun W hW ty dc sc => by
    refine run_copy_ticks W ty g ((k + 1) * 2) _ dc ⟨g, k * 2, none⟩ _ sc (cellsT (ts.drop k)) (ts.length - k) (by simp only [Nat.min_def]; split <;> omega) hdl (fun j u hj => ?_) _ _ hW (by simp only [List.length_append, hpl, hdl]; omega) (cellsT_one _)
    rw [Addr.add_mid, hW.cell_eq, List.getElem?_append_right (by rw [hpl]; omega), hpl, Nat.add_sub_cancel_left, List.getElem?_append_left (List.getElem?_eq_some_iff.1 hj).1]
    exact hj
  have b1 : ∀ (W : World), Blk W g (cellsT (ts.take k) ++ (cellsT (ts.drop k) ++ R)) 62 → Blk (W.setCells g ((k + 1) * 2) (cellsT (ts.drop k))) g (cellsT (ts.take k) ++ ((cellsT (ts.drop k) ++ R).take 2 ++ (cellsT (ts.drop k) ++ R.drop 2))) 62 := fun W hW => by
    have hE : ((cellsT (ts.drop k) ++ R).take 2).length = 2 := by rw [List.length_take, List.length_append]; omega
    have hF : (((cellsT (ts.drop k) ++ R).drop 2).take ((ts.length - k) * 2)).length = (cellsT (ts.drop k)).length := by rw [List.length_take, List.length_drop, List.length_append, hdl]; omega
    have hG : ((cellsT (ts.drop k) ++ R).drop 2).drop ((ts.length - k) * 2) = R.drop 2 := by
      rw [List.drop_drop, Nat.add_comm, ← List.drop_drop, List.drop_left' hdl]
    have hsplit : cellsT (ts.take k) ++ (cellsT (ts.drop k) ++ R) = (cellsT (ts.take k) ++ (cellsT (ts.drop k) ++ R).take 2) ++ (((cellsT (ts.drop k) ++ R).drop 2).take ((ts.length - k) * 2) ++ R.drop 2) := by
      rw [List.append_assoc, ← hG, List.take_append_drop, List.take_append_drop]
    rw [hsplit] at hW
    have := blk_mid (cellsT (ts.drop k)) _ _ (R.drop 2) hF hW
    rw [List.length_append, hpl, hE, show k * 2 + 2 = (k + 1) * 2 by omega, List.append_assoc] at this
    exact this
  have s2 : ∀ (W : World) (E : List Value), E.length = 2 → Blk W g (cellsT (ts.take k) ++ (E ++ (cellsT (ts.drop k) ++ R.drop 2))) 62 → Blk W eb [.int .i64 x, .int .i64 d] 62 → ∀ ty dl dc, 1 ≤ dl → (Builtin.copy_ #[23, 23] ty #[.slice (some ⟨g, k * 2, none⟩) dl dc, .slice (some ⟨eb, 0, none⟩) 1 1]).run Try.prog W =
      .ok (goInt (1 : Nat)) (W.setCells g (k * 2) (tickV (x, d))) := fun W E hE hW hWe ty dl dc hdl1 => by
    refine run_copy_ticks W ty g (k * 2) _ dc ⟨eb, 0, none⟩ 1 1 (tickV (x, d)) 1 (by simp only [Nat.min_def]; split <;> omega) rfl (fun j u hj => ?_) _ _ hW (by simp only [List.length_append, hpl, hdl, tickV, hE]; simp) (by intro v hv; simp [tickV] at hv; rcases hv with rfl | rfl <;> rfl)
    rw [Addr.add_mid, Nat.zero_add]
    exact hWe.cell j hj
  have b2 : ∀ (W : World) (E : List Value), E.length = 2 → Blk W g (cellsT (ts.take k) ++ (E ++ (cellsT (ts.drop k) ++ R.drop 2))) 62 → Blk (W.setCells g (k * 2) (tickV (x, d))) g (cellsT (ts.take k) ++ (tickV (x, d) ++ (cellsT (ts.drop k) ++ R.drop 2))) 62 := fun W E hE hW => by
    have := blk_mid (tickV (x, d)) E _ _ (by rw [hE]; rfl) hW
    rwa [hpl] at this
  -- what comes of it
  obtain ⟨W1, hW1⟩ : ∃ W1, w.drew.setCells g ((k + 1) * 2) (cellsT (ts.drop k)) = W1 := ⟨_, rfl⟩
  obtain ⟨W2, hW2⟩ : ∃ W2, W1.setCells g (k * 2) (tickV (x, d)) = W2 := ⟨_, rfl⟩
  have c1 := s1 w.drew hb
  have d1 := b1 w.drew hb
  rw [hW1] at c1 d1
  have hE : ((cellsT (ts.drop k) ++ R).take 2).length = 2 := by rw [List.length_take, List.length_append]; omega
  have g1 : w.grownBy W1 (some g) := by rw [← hW1]; exact grownBy_trans (grownBy_drew w _) (grownBy_setCells _ _ _ _)
  have e1 : Blk W1 eb [.int .i64 x, .int .i64 d] 62 := (g1.block eb he.lt (fun e => hge (by cases e; rfl))).trans he
  have c2 := fun ty dl dc hdl1 => s2 W1 _ hE d1 e1 ty dl dc hdl1
  have d2 := b2 W1 _ hE d1
  rw [hW2] at c2 d2
  have g2 : w.grownBy W2 (some g) := by rw [← hW2]; exact grownBy_trans g1 (grownBy_setCells _ _ _ _)
  have hins := insL_len ts k (x, d) (by omega)
  have hown : TOwn W2 B (.slice (some ⟨g, 0, none⟩) (ts.length + 1) cap) (insL ts k (x, d)) := by
    refine TOwn.of_blk (R := R.drop 2) ?_ hBg (by rw [hins]) (by rw [hins]; exact hrm) hcm (by rw [hins, List.length_drop]; omega)
    rw [cellsT_ins, List.append_assoc, List.append_assoc]
    exact d2
  have hov : ∀ lb cb, (callFunc 58 #[.slice (some ⟨eb, 0, none⟩) 1 1, .slice (some ⟨g, (k + 1) * 2, none⟩) lb cb]).run Try.prog w = .ok (.value (.bool false)) w := fun lb cb => by
    have hsh : ∀ {b : Nat} {C : List Value} {T : TypeId}, Blk w b C T → w.shape? b = some (T, C.length) := fun h => by unfold Blk at h; simp [World.shape?, h]
    rw [run_callFunc_extern Try.func58 (by kernel_rfl) (by kernel_rfl) (by kernel_rfl) (e := Extern.SlicesOverlaps.overlaps #[23, 23] #[4]) (by kernel_rfl),
      Lib.run_overlaps_apart w 23 4 62 under_ticks 2 (by go_simp) ⟨eb, 0, none⟩ ⟨g, (k + 1) * 2, none⟩ 1 1 lb cb hge _ _ _ _ (hsh he) (hsh hb) (by simp only [List.length_append, hpl, hdl]; omega) (he.frozen 0) (he.frozen _)]
    rfl
  clear s1 b1 s2 b2 d1 d2 e1 hE h he hb hap hroom g1 hR hpl hdl
  unfold maxLen at hcm
  replace c1 := Lib.hid c1
  replace c2 := Lib.hid c2
  replace hown := Lib.hid hown
  replace g2 := Lib.hid g2
  replace hins := Lib.hid hins
  replace hW1 := Lib.hid hW1
  replace hW2 := Lib.hid hW2
  have hz2 : ((k : Int) == (ts.length : Int)) = false := by simp; omega
  have hz3 : decide ((cap : Int) < (ts.length : Int) + 1) = false := by simp; omega
  have hw1 : IntKind.i64.wrap ((k : Int) + 1) = (k : Int) + 1 := IntWalk.i64_in _ (by omega)
  have hb1 : (0 : Int) ≤ (k : Int) + 1 := by omega
  have htn : ((k : Int) + 1).toNat = k + 1 := by omega
  have hb2 : ¬ (cap = k + 1) := by omega
  have hb3 : (k : Int) ≤ (ts.length : Int) + 1 := by omega
  have hkn : k ≤ ts.length := by omega
  have hkn1 : k ≤ ts.length + 1 := by omega
  have hb5 : ¬ (cap = k) := by omega
  go_enter Try.func50, Try.ntmps50
  go_wp2_with (simp only [hov])
  go_still_tail 8, (by kernel_rfl)
  change wpList _ _ _ _ _ w.drew
  refine wpList_copy_run _ rfl (.tmp 73) (.tmp 76) 23 23 rfl _ _ rfl rfl (c1.out _ _ _) ?_
  go_wp2_with (refine wpList_copy_run _ rfl (.tmp 80) (.tmp 81) 23 23 rfl _ _ rfl rfl (c2.out _ _ _ (by omega)) ?_)
  go_wp2_with fail
  go_ret
  exact ⟨_, rfl, hown.out, g2.out⟩
end Go.Proofs.Ytmpnpanlabkkdaa
