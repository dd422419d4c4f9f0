/-
  slices.Insert of one tick into a row that has no room.
-/
import Derived.Test.YtmpnpanlabkkdaaChunkN
namespace Go.Proofs.Ytmpnpanlabkkdaa
open Go.RowKit
set_option linter.unusedSimpArgs false
set_option linter.unusedVariables false

theorem zc_len (m : Nat) : (Builtin.zeroCells (Value.agg #[.int .i64 0, .int .i64 0]).cells m).toList.length = m * 2 := by
  rw [Array.length_toList, size_zeroCells]; rfl
theorem grownBy_thenNew {u v w : World} {g : Nat} {r : Option Nat} (h : u.grownBy v none) (k : v.grownBy w (some g)) (hg : u.heap.size ≤ g) : u.grownBy w r :=
  ⟨k.os.trans h.os, k.tape.trans h.tape, k.output.trans h.output, Nat.le_trans h.size k.size, fun i hi _ => (k.block i (Nat.lt_of_lt_of_le hi h.size) (fun e => by cases e; omega)).trans (h.block i hi (fun e => by cases e))⟩

set_option maxRecDepth 100000 in
set_option maxHeartbeats 4000000 in
theorem insert_grow (B eb k : Nat) (v : Value) (ts : List (Int × Int)) (x d : Int) (w : World) (h : TOwn w B v ts) (hk : k < ts.length) (hlen : ts.length ≤ 900000) (hB : B ≤ w.heap.size) (he : Blk w eb [.int .i64 x, .int .i64 d] 62)
    (hroom : ∀ a n c, v = .slice (some a) n c → c < n + 1) :
    Calls Try.prog 50 #[v, .int .i64 k, .slice (some ⟨eb, 0, none⟩) 1 1] w fun e w' => ∃ v', e = .returned v' ∧ TOwn w' B v' (insL ts k (x, d)) ∧ w.grownBy w' v.ownBlock := by
  have hne : ts ≠ [] := fun e => by subst e; simp at hk
  obtain ⟨g, cap, R, rfl, hBg, hnc, hcm, hb, hR⟩ := h.whole hne k
  have hrm := hroom _ _ _ rfl
  obtain rfl : cap = ts.length := by omega
  have hpl : (cellsT (ts.take k)).length = k * 2 := by rw [cellsT_len, List.length_take]; omega
  have hdl : (cellsT (ts.drop k)).length = (ts.length - k) * 2 := by rw [cellsT_len, List.length_drop]
  have hgw := hb.lt
  have hew := he.lt
  obtain ⟨i0, hi0, hz0, hzs, hzb⟩ := info_parts info_tick
  have hold : (Builtin.firstCells i0.size k (.slice (some ⟨g, 0, none⟩) k ts.length)).run Try.prog w.drew = .ok (cellsT (ts.take k)).toArray w.drew := by
    rw [hzs]
    exact run_firstCells_some w.drew 2 k ⟨g, 0, none⟩ k ts.length (cellsT (ts.take k)) hpl (fun j u hj => by
      rw [Addr.add_mid, Nat.zero_add]
      refine hb.cell j ?_
      rw [List.getElem?_append_left (List.getElem?_eq_some_iff.1 hj).1]
      exact hj)
  obtain ⟨G, hG⟩ : ∃ G, grownCap w (ts.length + 1) ts.length 62 = G := ⟨_, rfl⟩
  have hG1 : ts.length + 1 ≤ G := by rw [← hG]; exact grownCap_ge _ _ _ _
  have hG2 : G ≤ maxLen := by rw [← hG]; exact grownCap_le_maxLen _ _ _ _ (by unfold maxLen; omega)
  obtain ⟨Z, hZ⟩ : ∃ Z : List Value, (Builtin.zeroCells (Value.agg #[.int .i64 0, .int .i64 0]).cells (ts.length + 1 - k)).toList ++ (Builtin.zeroCells (Value.agg #[.int .i64 0, .int .i64 0]).cells (G - (ts.length + 1))).toList = Z := ⟨_, rfl⟩
  have hZl : Z.length = (G - k) * 2 := by
    rw [← hZ, List.length_append, zc_len, zc_len]
    omega
  have hrz : ∀ ty, (Builtin.append_ #[23, 3] ty #[.slice (some ⟨g, 0, none⟩) k ts.length, .int .i64 ((ts.length : Int) + 1 - (k : Int))]).run Try.prog w =
      .ok (.slice (some ⟨w.heap.size, 0, none⟩) (ts.length + 1) G) (w.drew.alloc (.cells (cellsT (ts.take k) ++ Z).toArray 62)) := fun ty => by
    have hkk : (ts.length : Int) + 1 - (k : Int) = ((ts.length + 1 - k : Nat) : Int) := by omega
    have hik : k + (ts.length + 1 - k) = ts.length + 1 := by omega
    have h := Lib.run_append_grow_zeros w 23 3 ty 62 i0 _ .i64 .i64 under_ticks (by kernel_rfl) hi0 hz0 (some ⟨g, 0, none⟩) k ts.length (cellsT (ts.take k)) hold (ts.length + 1 - k) (by omega) (by omega) (by omega) (by omega) (by rw [hzb]; omega) (by rw [hzb, hik]; exact growslice_fits (by omega) (by omega))
    rw [hik, hG] at h
    have e : (cellsT (ts.take k)).toArray ++ Builtin.zeroCells (Value.agg #[.int .i64 0, .int .i64 0]).cells (ts.length + 1 - k) ++ Builtin.zeroCells (Value.agg #[.int .i64 0, .int .i64 0]).cells (G - (ts.length + 1)) = (cellsT (ts.take k) ++ Z).toArray := by
      rw [← hZ]
      apply Array.ext'
      simp only [Array.toList_append, List.toList_toArray, List.append_assoc]
    rw [hkk, h, e]
  obtain ⟨W0, hW0⟩ : ∃ W0, w.drew.alloc (.cells (cellsT (ts.take k) ++ Z).toArray 62) = W0 := ⟨_, rfl⟩
  have b0 : Blk W0 w.heap.size (cellsT (ts.take k) ++ Z) 62 := by
    rw [← hW0]
    have := Blk.new w.drew (cellsT (ts.take k) ++ Z).toArray 62
    simpa using this
  have g0 : w.grownBy W0 none := by rw [← hW0]; exact grownBy_trans (grownBy_drew w _) (World.grownBy_alloc _ _ _)
  rw [hW0] at hrz
  have e0 : Blk W0 eb [.int .i64 x, .int .i64 d] 62 := (g0.block eb hew (fun e => by cases e)).trans he
  have c1 : ∀ ty dc, (Builtin.copy_ #[23, 23] ty #[.slice (some ⟨w.heap.size, k * 2, none⟩) (ts.length + 1 - k) dc, .slice (some ⟨eb, 0, none⟩) 1 1]).run Try.prog W0 = .ok (goInt (1 : Nat)) (W0.setCells w.heap.size (k * 2) (tickV (x, d))) := fun ty dc => by
    refine run_copy_ticks W0 ty w.heap.size (k * 2) _ dc ⟨eb, 0, none⟩ 1 1 (tickV (x, d)) 1 (by simp only [Nat.min_def]; split <;> omega) rfl (fun j u hj => ?_) _ _ b0 (by rw [List.length_append, hpl, hZl]; show k * 2 + 2 ≤ _; omega) (by intro v hv; simp [tickV] at hv; rcases hv with rfl | rfl <;> rfl)
    rw [Addr.add_mid, Nat.zero_add]
    exact e0.cell j hj
  have b1 : Blk (W0.setCells w.heap.size (k * 2) (tickV (x, d))) w.heap.size (cellsT (ts.take k) ++ (tickV (x, d) ++ Z.drop 2)) 62 := by
    rw [← List.take_append_drop 2 Z] at b0
    have := blk_mid (tickV (x, d)) (Z.take 2) (cellsT (ts.take k)) (Z.drop 2) (by rw [List.length_take, hZl]; show min 2 _ = 2; omega) b0
    rwa [hpl] at this
  have g1 : w.grownBy (W0.setCells w.heap.size (k * 2) (tickV (x, d))) none := grownBy_thenNew g0 (grownBy_setCells _ _ _ _) (Nat.le_refl _)
  obtain ⟨W1, hW1⟩ : ∃ W1, W0.setCells w.heap.size (k * 2) (tickV (x, d)) = W1 := ⟨_, rfl⟩
  rw [hW1] at c1 b1 g1
  have s1 : Blk W1 g (cellsT (ts.take k) ++ (cellsT (ts.drop k) ++ R)) 62 := (g1.block g hgw (fun e => by cases e)).trans hb
  have c2 : ∀ ty dc, (Builtin.copy_ #[23, 23] ty #[.slice (some ⟨w.heap.size, (k + 1) * 2, none⟩) (ts.length - k) dc, .slice (some ⟨g, k * 2, none⟩) (ts.length - k) (ts.length - k)]).run Try.prog W1.drew = .ok (goInt (ts.length - k : Nat)) (W1.drew.setCells w.heap.size ((k + 1) * 2) (cellsT (ts.drop k))) := fun ty dc => by
    refine run_copy_ticks W1.drew ty w.heap.size ((k + 1) * 2) _ dc ⟨g, k * 2, none⟩ _ _ (cellsT (ts.drop k)) (ts.length - k) (by simp only [Nat.min_def]; split <;> omega) hdl (fun j u hj => ?_) _ _ b1.drew (by simp only [List.length_append, hpl, hdl, List.length_drop, hZl]; show _ ≤ k * 2 + (2 + _); omega) (cellsT_one _)
    rw [Addr.add_mid, s1.drew.cell_eq, List.getElem?_append_right (by rw [hpl]; omega), hpl, Nat.add_sub_cancel_left, List.getElem?_append_left (List.getElem?_eq_some_iff.1 hj).1]
    exact hj
  have b2 : Blk (W1.drew.setCells w.heap.size ((k + 1) * 2) (cellsT (ts.drop k))) w.heap.size (cellsT (ts.take k) ++ (tickV (x, d) ++ (cellsT (ts.drop k) ++ (Z.drop 2).drop ((ts.length - k) * 2)))) 62 := by
    have hW := b1.drew
    rw [← List.take_append_drop ((ts.length - k) * 2) (Z.drop 2), ← List.append_assoc] at hW
    have := blk_mid (cellsT (ts.drop k)) _ _ _ (by rw [List.length_take, List.length_drop, hdl, hZl]; omega) hW
    rw [List.length_append, hpl, show k * 2 + (tickV (x, d)).length = (k + 1) * 2 from by show k * 2 + 2 = _; omega, List.append_assoc] at this
    exact this
  have g2 : w.grownBy (W1.drew.setCells w.heap.size ((k + 1) * 2) (cellsT (ts.drop k))) (some g) := grownBy_thenNew (grownBy_trans g1 (grownBy_drew _ _)) (grownBy_setCells _ _ _ _) (Nat.le_refl _)
  obtain ⟨W2, hW2⟩ : ∃ W2, W1.drew.setCells w.heap.size ((k + 1) * 2) (cellsT (ts.drop k)) = W2 := ⟨_, rfl⟩
  rw [hW2] at c2 b2 g2
  have hins := insL_len ts k (x, d) (by omega)
  have hown : TOwn W2 B (.slice (some ⟨w.heap.size, 0, none⟩) (ts.length + 1) G) (insL ts k (x, d)) := by
    refine TOwn.of_blk (R := (Z.drop 2).drop ((ts.length - k) * 2)) ?_ hB (by rw [hins]) (by rw [hins]; exact hG1) hG2 (by rw [hins, List.length_drop, List.length_drop, hZl]; omega)
    rw [cellsT_ins, List.append_assoc, List.append_assoc]
    exact b2
  clear h he hb hroom hR hold b0 g0 e0 b1 g1 s1 b2 hZl hZ hdl hpl hcm
  replace hrz := Lib.hid hrz
  replace c1 := Lib.hid c1
  replace c2 := Lib.hid c2
  replace hown := Lib.hid hown
  replace g2 := Lib.hid g2
  replace hG := Lib.hid hG
  replace hW0 := Lib.hid hW0
  replace hW1 := Lib.hid hW1
  replace hW2 := Lib.hid hW2
  replace hins := Lib.hid hins
  replace hzs := Lib.hid hzs
  replace hzb := Lib.hid hzb
  replace hi0 := Lib.hid hi0
  replace hz0 := Lib.hid hz0
  unfold maxLen at hG2
  have hz2 : ((k : Int) == (ts.length : Int)) = false := by simp; omega
  have hz3 : decide ((ts.length : Int) < (ts.length : Int) + 1) = true := by simp; omega
  have hkn : k ≤ ts.length := by omega
  have hw1 : IntKind.i64.wrap ((k : Int) + 1) = (k : Int) + 1 := IntWalk.i64_in _ (by omega)
  have hb1 : (0 : Int) ≤ (k : Int) + 1 := by omega
  have htn : ((k : Int) + 1).toNat = k + 1 := by omega
  have hb2 : ¬ (ts.length = k) := by omega
  have hb3 : ¬ (G = k) := by omega
  have hb4 : ¬ (G = k + 1) := by omega
  have hkG : k ≤ ts.length + 1 := by omega
  go_enter Try.func50, Try.ntmps50
  go_wp2_with (first | (at_builtin; refine wpList_append_run _ rfl (.tmp 34) (.tmp 39) 23 3 rfl _ _ rfl rfl (hrz.out _) ?_) | (refine wpList_copy_run _ rfl (.tmp 43) (.tmp 44) 23 23 rfl _ _ rfl rfl (c1.out _ _) ?_))
  go_wp2_with fail
  go_still_tail 8, (by kernel_rfl)
  change wpList _ _ _ _ _ W1.drew
  refine wpList_copy_run _ rfl (.tmp 50) (.tmp 53) 23 23 rfl _ _ rfl rfl (c2.out _ _) ?_
  go_wp2_with fail
  go_ret
  exact ⟨_, rfl, hown.out, g2.out⟩
end Go.Proofs.Ytmpnpanlabkkdaa
