/-
  The law's do: acts that set, give, take, wake, drop.
-/
import Derived.Test.YtlaodkolkoefgaaMg42
namespace Go.Proofs.Ytlaodkolkoefgaa
open Go.RowKit
set_option linter.unusedSimpArgs false
set_option linter.unusedVariables false

def actC (k f a c0 c1 l0 l1 d : Int) (se st : Value) : List Value := [.int .i64 k, .int .i64 f, .int .i64 a, .int .u8 c0, .int .u8 c1, .int .u8 l0, .int .u8 l1, .int .i64 d, se, st]
/-- The worlds of two calls, one behind the other. -/
def twoC (w1 : World) (ab : Nat) (cs : List Value) (M : Value → World → Prop) (E : Value → Value → World → Prop) (u : Nat → Value) (s : Nat) (W : World) : Prop := match s with
  | 0 => W = w1.drew
  | 1 => M (u 0) W ∧ Blk W ab cs 67
  | _ => E (u 0) (u 1) W ∧ Blk W ab cs 67
def twoV (V0 V1 : Value → Prop) (s : Nat) (v : Value) : Prop := match s with
  | 0 => V0 v
  | 1 => V1 v
  | _ => True
theorem twoV_some {V0 V1 : Value → Prop} (h0 : ∃ v, V0 v) (h1 : ∃ v, V1 v) (s : Nat) : ∃ v, twoV V0 V1 s v := match s with
  | 0 => h0
  | 1 => h1
  | _ + 2 => ⟨undef, trivial⟩
theorem twoC_cong {w1 : World} {ab : Nat} {cs : List Value} {M : Value → World → Prop} {E : Value → Value → World → Prop} (u u' : Nat → Value) (s : Nat) (W : World) (hu : ∀ j, j < s → u j = u' j) (h : twoC w1 ab cs M E u s W) : twoC w1 ab cs M E u' s W := match s, h with
  | 0, h => h
  | 1, h => by unfold twoC at *; rw [← hu 0 (by omega)]; exact h
  | _ + 2, h => by unfold twoC at *; rw [← hu 0 (by omega), ← hu 1 (by omega)]; exact h
theorem twoC_blk {w1 : World} {ab : Nat} {cs : List Value} {M : Value → World → Prop} {E : Value → Value → World → Prop} (hb : Blk w1 ab cs 67) {u : Nat → Value} {N : Nat} {W : World} (h : AnyStage (twoC w1 ab cs M E u) N W) : Blk W ab cs 67 := by
  obtain ⟨s, hs, h⟩ := h
  match s, h with
  | 0, h => cases h; exact hb
  | 1, h => exact h.2
  | _ + 2, h => exact h.2
section
variable {w W : World} {B : Bx} {s : FS} {r : RS}
theorem i64_and7' {k j : Int} (h : k % 8 = j) : bits .and .i64 k 7 = j := (i64_and7 k).trans h
set_option maxRecDepth 100000 in
set_option maxHeartbeats 8000000 in
theorem do_set (k f a c0 c1 l0 l1 d : Int) (se st : Value) (W : World) (h : Pr w W B s r) (hl : Ld B.n s r) (hk : k % 8 = 2) (hc0 : 0 ≤ c0 ∧ c0 ≤ 255) (hc1 : 0 ≤ c1 ∧ c1 ≤ 255) (hl0 : 0 ≤ l0 ∧ l0 ≤ 255) (hl1 : 0 ≤ l1 ∧ l1 ≤ 255)
    (hse : ∃ b n c, se = .slice b n c) (hst : ∃ b n c, st = .slice b n c) :
    Calls Try.prog 26 #[.pointer (some ⟨B.pb, 0, none⟩), .pointer (some ⟨B.qb, 0, none⟩), .agg (actC k f a c0 c1 l0 l1 d se st).toArray] W fun e w' => e = .returned (.bool true) ∧ ∃ s' r', Pr w w' B s' r' ∧ Ld B.n s' r' := by
  have hand := i64_and7' hk
  obtain ⟨eb, en, ec, rfl⟩ := hse
  obtain ⟨tb', tn, tc, rfl⟩ := hst
  have hbk := Blk.new W (actC k f a c0 c1 l0 l1 d (.slice eb en ec) (.slice tb' tn tc)).toArray 67
  rw [List.toList_toArray] at hbk
  have h1 := h.keep ((Below.refl W.heap.size W).alloc (Nat.le_refl _) (.cells (actC k f a c0 c1 l0 l1 d (.slice eb en ec) (.slice tb' tn tc)).toArray 67))
  obtain ⟨ab, hab⟩ : ∃ ab, W.heap.size = ab := ⟨_, rfl⟩
  have htwo : ∃ v, Two w B ab s r _ _ _ _ (.bool v) (.bool v) := ⟨_, two_set (w := w) hl ab f a (x := c0) (y := c1) hc0 hc1⟩
  rw [hab] at hbk
  unfold actC at *
  obtain ⟨W1, hW1⟩ : ∃ W1, W.alloc (.cells #[.int .i64 k, .int .i64 f, .int .i64 a, .int .u8 c0, .int .u8 c1, .int .u8 l0, .int .u8 l1, .int .i64 d, .slice eb en ec, .slice tb' tn tc] 67) = W1 := ⟨_, rfl⟩
  rw [hW1] at hbk h1
  have x0 := hbk.cell 0 rfl
  replace htwo := Lib.hid htwo
  replace hbk := Lib.hid hbk
  replace h1 := Lib.hid h1
  clear h hl
  go_enter Try.func26, Try.ntmps26
  go_upto_region 15 with fail
  obtain ⟨bv, s', r', hld, hP, hQ⟩ := htwo.out
  replace hP := Lib.hid hP
  replace hQ := Lib.hid hQ
  obtain ⟨CC, hCC⟩ : ∃ C, C = twoC W1 ab [.int .i64 k, .int .i64 f, .int .i64 a, .int .u8 c0, .int .u8 c1, .int .u8 l0, .int .u8 l1, .int .i64 d, .slice eb en ec, .slice tb' tn tc] (fun _ W => Pr w W B s' r) (fun _ _ W => ∃ x, Pr w W B s' { r' with x := x }) := ⟨_, rfl⟩
  have hblk : ∀ u N W, AnyStage (CC u) N W → Blk W ab [.int .i64 k, .int .i64 f, .int .i64 a, .int .u8 c0, .int .u8 c1, .int .u8 l0, .int .u8 l1, .int .i64 d, .slice eb en ec, .slice tb' tn tc] 67 := by
    rw [hCC]; exact fun u N W h => twoC_blk hbk.out h
  replace hCC := Lib.hid hCC
  replace hblk := Lib.hid hblk
  refine wp_region_stageM [2, 2, 2, 2, 2, 2, 2, 2, 2, 2, 2, 2, 2, 2, 2, 2, 2, 2] (C := CC) (V := twoV (fun v => v = .bool bv) (fun v => v = .bool bv)) (N := 2) (by kernel_rfl) (by kernel_rfl) (by kernel_rfl) (by kernel_rfl) (by kernel_rfl) (twoV_some ⟨_, rfl⟩ ⟨_, rfl⟩) (fun u u' s w h1 h2 => by rw [hCC.out] at *; exact twoC_cong u u' s w h1 h2) (fun _ => by rw [hCC.out]; rfl) ?_
  intro u hu
  have e0 : u 0 = .bool bv := hu 0
  have e1 : u 1 = .bool bv := hu 1
  have y1 : ∀ p : {w // AnyStage (CC u) 2 w}, p.val.cell? ⟨ab, 1, none⟩ = some (.int .i64 f) := fun p => (hblk.out _ _ _ p.property).cell 1 rfl
  have y2 : ∀ p : {w // AnyStage (CC u) 2 w}, p.val.cell? ⟨ab, 2, none⟩ = some (.int .i64 a) := fun p => (hblk.out _ _ _ p.property).cell 2 rfl
  have y3 : ∀ p : {w // AnyStage (CC u) 2 w}, p.val.cell? ⟨ab, 3, none⟩ = some (.int .u8 c0) := fun p => (hblk.out _ _ _ p.property).cell 3 rfl
  have y4 : ∀ p : {w // AnyStage (CC u) 2 w}, p.val.cell? ⟨ab, 4, none⟩ = some (.int .u8 c1) := fun p => (hblk.out _ _ _ p.property).cell 4 rfl
  have y5 : ∀ p : {w // AnyStage (CC u) 2 w}, p.val.cell? ⟨ab, 5, none⟩ = some (.int .u8 l0) := fun p => (hblk.out _ _ _ p.property).cell 5 rfl
  have y6 : ∀ p : {w // AnyStage (CC u) 2 w}, p.val.cell? ⟨ab, 6, none⟩ = some (.int .u8 l1) := fun p => (hblk.out _ _ _ p.property).cell 6 rfl
  have n2 : Nonempty {w // AnyStage (CC u) 2 w} := ⟨⟨W1.drew, 0, by omega, by rw [hCC.out]; rfl⟩⟩
  repeat (refine wpStageM_step rfl (fun K hK => ?_); go_simp; refine hK _ ?_; clear hK K)
  refine wpStageM_call rfl (fun w' hw' => ?_) ?_
  · have e : w' = W1.drew := by rw [hCC.out] at hw'; exact hw'
    subst e
    unfold callAtU
    go_simp
    refine (hP.out _ (h1.out.keep (Below.refl _ _).drew)).mono ?_
    rintro e W2 ⟨rfl, hp, hn⟩
    rw [hCC.out]
    exact ⟨_, rfl, rfl, hp, hn _ (hbk.out.below (Below.refl _ _).drew hbk.out.lt)⟩
  rw [e0]
  repeat (refine wpStageM_step rfl (fun K hK => ?_); go_simp; refine hK _ ?_; clear hK K)
  refine wpStageM_call rfl (fun w' hw' => ?_) ?_
  · rw [hCC.out] at hw'
    obtain ⟨hp, hb⟩ := hw'
    replace hp := Lib.hid hp
    replace hb := Lib.hid hb
    unfold callAtU
    go_simp
    refine (hQ.out _ hp.out).mono ?_
    rintro e W2 ⟨rfl, hp, hn⟩
    rw [hCC.out]
    exact ⟨_, rfl, rfl, hp, hn _ hb.out⟩
  rw [e1]
  repeat (refine wpStageM_step rfl (fun K hK => ?_); go_simp; refine hK _ ?_; clear hK K)
  refine wpStageM_nil ?_
  intro w' hw'
  rw [hCC.out] at hw'
  obtain ⟨⟨x', hp⟩, _⟩ := hw'
  replace hp := Lib.hid hp
  clear y1 y2 y3 y4 y5 y6 n2
  go_wp2_with fail
  go_ret
  exact ⟨rfl, s', _, hp.out, hld.l, hld.tk⟩
set_option maxRecDepth 100000 in
set_option maxHeartbeats 8000000 in
theorem do_setL (k f a c0 c1 l0 l1 d : Int) (se st : Value) (W : World) (h : Pr w W B s r) (hl : Ld B.n s r) (hk : k % 8 = 3) (hc0 : 0 ≤ c0 ∧ c0 ≤ 255) (hc1 : 0 ≤ c1 ∧ c1 ≤ 255) (hl0 : 0 ≤ l0 ∧ l0 ≤ 255) (hl1 : 0 ≤ l1 ∧ l1 ≤ 255)
    (hse : ∃ b n c, se = .slice b n c) (hst : ∃ b n c, st = .slice b n c) :
    Calls Try.prog 26 #[.pointer (some ⟨B.pb, 0, none⟩), .pointer (some ⟨B.qb, 0, none⟩), .agg (actC k f a c0 c1 l0 l1 d se st).toArray] W fun e w' => e = .returned (.bool true) ∧ ∃ s' r', Pr w w' B s' r' ∧ Ld B.n s' r' := by
  have hand := i64_and7' hk
  obtain ⟨eb, en, ec, rfl⟩ := hse
  obtain ⟨tb', tn, tc, rfl⟩ := hst
  have hbk := Blk.new W (actC k f a c0 c1 l0 l1 d (.slice eb en ec) (.slice tb' tn tc)).toArray 67
  rw [List.toList_toArray] at hbk
  have h1 := h.keep ((Below.refl W.heap.size W).alloc (Nat.le_refl _) (.cells (actC k f a c0 c1 l0 l1 d (.slice eb en ec) (.slice tb' tn tc)).toArray 67))
  obtain ⟨ab, hab⟩ : ∃ ab, W.heap.size = ab := ⟨_, rfl⟩
  have htwo : ∃ v, Two w B ab s r _ _ _ _ (.bool v) (.bool v) := ⟨_, two_setL (w := w) hl ab f a (x := l0) (y := l1) hl0 hl1⟩
  rw [hab] at hbk
  unfold actC at *
  obtain ⟨W1, hW1⟩ : ∃ W1, W.alloc (.cells #[.int .i64 k, .int .i64 f, .int .i64 a, .int .u8 c0, .int .u8 c1, .int .u8 l0, .int .u8 l1, .int .i64 d, .slice eb en ec, .slice tb' tn tc] 67) = W1 := ⟨_, rfl⟩
  rw [hW1] at hbk h1
  have x0 := hbk.cell 0 rfl
  replace htwo := Lib.hid htwo
  replace hbk := Lib.hid hbk
  replace h1 := Lib.hid h1
  clear h hl
  go_enter Try.func26, Try.ntmps26
  go_upto_region 18 with fail
  obtain ⟨bv, s', r', hld, hP, hQ⟩ := htwo.out
  replace hP := Lib.hid hP
  replace hQ := Lib.hid hQ
  obtain ⟨CC, hCC⟩ : ∃ C, C = twoC W1 ab [.int .i64 k, .int .i64 f, .int .i64 a, .int .u8 c0, .int .u8 c1, .int .u8 l0, .int .u8 l1, .int .i64 d, .slice eb en ec, .slice tb' tn tc] (fun _ W => Pr w W B s' r) (fun _ _ W => ∃ x, Pr w W B s' { r' with x := x }) := ⟨_, rfl⟩
  have hblk : ∀ u N W, AnyStage (CC u) N W → Blk W ab [.int .i64 k, .int .i64 f, .int .i64 a, .int .u8 c0, .int .u8 c1, .int .u8 l0, .int .u8 l1, .int .i64 d, .slice eb en ec, .slice tb' tn tc] 67 := by
    rw [hCC]; exact fun u N W h => twoC_blk hbk.out h
  replace hCC := Lib.hid hCC
  replace hblk := Lib.hid hblk
  refine wp_region_stageM [2, 2, 2, 2, 2, 2, 2, 2, 2, 2, 2, 2, 2, 2, 2, 2, 2, 2] (C := CC) (V := twoV (fun v => v = .bool bv) (fun v => v = .bool bv)) (N := 2) (by kernel_rfl) (by kernel_rfl) (by kernel_rfl) (by kernel_rfl) (by kernel_rfl) (twoV_some ⟨_, rfl⟩ ⟨_, rfl⟩) (fun u u' s w h1 h2 => by rw [hCC.out] at *; exact twoC_cong u u' s w h1 h2) (fun _ => by rw [hCC.out]; rfl) ?_
  intro u hu
  have e0 : u 0 = .bool bv := hu 0
  have e1 : u 1 = .bool bv := hu 1
  have y1 : ∀ p : {w // AnyStage (CC u) 2 w}, p.val.cell? ⟨ab, 1, none⟩ = some (.int .i64 f) := fun p => (hblk.out _ _ _ p.property).cell 1 rfl
  have y2 : ∀ p : {w // AnyStage (CC u) 2 w}, p.val.cell? ⟨ab, 2, none⟩ = some (.int .i64 a) := fun p => (hblk.out _ _ _ p.property).cell 2 rfl
  have y3 : ∀ p : {w // AnyStage (CC u) 2 w}, p.val.cell? ⟨ab, 3, none⟩ = some (.int .u8 c0) := fun p => (hblk.out _ _ _ p.property).cell 3 rfl
  have y4 : ∀ p : {w // AnyStage (CC u) 2 w}, p.val.cell? ⟨ab, 4, none⟩ = some (.int .u8 c1) := fun p => (hblk.out _ _ _ p.property).cell 4 rfl
  have y5 : ∀ p : {w // AnyStage (CC u) 2 w}, p.val.cell? ⟨ab, 5, none⟩ = some (.int .u8 l0) := fun p => (hblk.out _ _ _ p.property).cell 5 rfl
  have y6 : ∀ p : {w // AnyStage (CC u) 2 w}, p.val.cell? ⟨ab, 6, none⟩ = some (.int .u8 l1) := fun p => (hblk.out _ _ _ p.property).cell 6 rfl
  have n2 : Nonempty {w // AnyStage (CC u) 2 w} := ⟨⟨W1.drew, 0, by omega, by rw [hCC.out]; rfl⟩⟩
  repeat (refine wpStageM_step rfl (fun K hK => ?_); go_simp; refine hK _ ?_; clear hK K)
  refine wpStageM_call rfl (fun w' hw' => ?_) ?_
  · have e : w' = W1.drew := by rw [hCC.out] at hw'; exact hw'
    subst e
    unfold callAtU
    go_simp
    refine (hP.out _ (h1.out.keep (Below.refl _ _).drew)).mono ?_
    rintro e W2 ⟨rfl, hp, hn⟩
    rw [hCC.out]
    exact ⟨_, rfl, rfl, hp, hn _ (hbk.out.below (Below.refl _ _).drew hbk.out.lt)⟩
  rw [e0]
  repeat (refine wpStageM_step rfl (fun K hK => ?_); go_simp; refine hK _ ?_; clear hK K)
  refine wpStageM_call rfl (fun w' hw' => ?_) ?_
  · rw [hCC.out] at hw'
    obtain ⟨hp, hb⟩ := hw'
    replace hp := Lib.hid hp
    replace hb := Lib.hid hb
    unfold callAtU
    go_simp
    refine (hQ.out _ hp.out).mono ?_
    rintro e W2 ⟨rfl, hp, hn⟩
    rw [hCC.out]
    exact ⟨_, rfl, rfl, hp, hn _ hb.out⟩
  rw [e1]
  repeat (refine wpStageM_step rfl (fun K hK => ?_); go_simp; refine hK _ ?_; clear hK K)
  refine wpStageM_nil ?_
  intro w' hw'
  rw [hCC.out] at hw'
  obtain ⟨⟨x', hp⟩, _⟩ := hw'
  replace hp := Lib.hid hp
  clear y1 y2 y3 y4 y5 y6 n2
  go_wp2_with fail
  go_ret
  exact ⟨rfl, s', _, hp.out, hld.l, hld.tk⟩
set_option maxRecDepth 100000 in
set_option maxHeartbeats 8000000 in
theorem do_give (k f a c0 c1 l0 l1 d : Int) (se st : Value) (W : World) (h : Pr w W B s r) (hl : Ld B.n s r) (hk : k % 8 = 1) (hc0 : 0 ≤ c0 ∧ c0 ≤ 255) (hc1 : 0 ≤ c1 ∧ c1 ≤ 255) (hl0 : 0 ≤ l0 ∧ l0 ≤ 255) (hl1 : 0 ≤ l1 ∧ l1 ≤ 255)
    (hse : ∃ b n c, se = .slice b n c) (hst : ∃ b n c, st = .slice b n c) :
    Calls Try.prog 26 #[.pointer (some ⟨B.pb, 0, none⟩), .pointer (some ⟨B.qb, 0, none⟩), .agg (actC k f a c0 c1 l0 l1 d se st).toArray] W fun e w' => e = .returned (.bool true) ∧ ∃ s' r', Pr w w' B s' r' ∧ Ld B.n s' r' := by
  have hand := i64_and7' hk
  obtain ⟨eb, en, ec, rfl⟩ := hse
  obtain ⟨tb', tn, tc, rfl⟩ := hst
  have hbk := Blk.new W (actC k f a c0 c1 l0 l1 d (.slice eb en ec) (.slice tb' tn tc)).toArray 67
  rw [List.toList_toArray] at hbk
  have h1 := h.keep ((Below.refl W.heap.size W).alloc (Nat.le_refl _) (.cells (actC k f a c0 c1 l0 l1 d (.slice eb en ec) (.slice tb' tn tc)).toArray 67))
  obtain ⟨ab, hab⟩ : ∃ ab, W.heap.size = ab := ⟨_, rfl⟩
  have htwo : ∃ v, Two w B ab s r _ _ _ _ (.int .i64 v) (.int .i64 v) := two_give (w := w) hl ab f
  rw [hab] at hbk
  unfold actC at *
  obtain ⟨W1, hW1⟩ : ∃ W1, W.alloc (.cells #[.int .i64 k, .int .i64 f, .int .i64 a, .int .u8 c0, .int .u8 c1, .int .u8 l0, .int .u8 l1, .int .i64 d, .slice eb en ec, .slice tb' tn tc] 67) = W1 := ⟨_, rfl⟩
  rw [hW1] at hbk h1
  have x0 := hbk.cell 0 rfl
  replace htwo := Lib.hid htwo
  replace hbk := Lib.hid hbk
  replace h1 := Lib.hid h1
  clear h hl
  go_enter Try.func26, Try.ntmps26
  go_upto_region 12 with fail
  obtain ⟨bv, s', r', hld, hP, hQ⟩ := htwo.out
  replace hP := Lib.hid hP
  replace hQ := Lib.hid hQ
  obtain ⟨CC, hCC⟩ : ∃ C, C = twoC W1 ab [.int .i64 k, .int .i64 f, .int .i64 a, .int .u8 c0, .int .u8 c1, .int .u8 l0, .int .u8 l1, .int .i64 d, .slice eb en ec, .slice tb' tn tc] (fun _ W => Pr w W B s' r) (fun _ _ W => ∃ x, Pr w W B s' { r' with x := x }) := ⟨_, rfl⟩
  have hblk : ∀ u N W, AnyStage (CC u) N W → Blk W ab [.int .i64 k, .int .i64 f, .int .i64 a, .int .u8 c0, .int .u8 c1, .int .u8 l0, .int .u8 l1, .int .i64 d, .slice eb en ec, .slice tb' tn tc] 67 := by
    rw [hCC]; exact fun u N W h => twoC_blk hbk.out h
  replace hCC := Lib.hid hCC
  replace hblk := Lib.hid hblk
  refine wp_region_stageM [2, 2, 2, 2, 2, 2, 2, 2, 2, 2] (C := CC) (V := twoV (fun v => v = .int .i64 bv) (fun v => v = .int .i64 bv)) (N := 2) (by kernel_rfl) (by kernel_rfl) (by kernel_rfl) (by kernel_rfl) (by kernel_rfl) (twoV_some ⟨_, rfl⟩ ⟨_, rfl⟩) (fun u u' s w h1 h2 => by rw [hCC.out] at *; exact twoC_cong u u' s w h1 h2) (fun _ => by rw [hCC.out]; rfl) ?_
  intro u hu
  have e0 : u 0 = .int .i64 bv := hu 0
  have e1 : u 1 = .int .i64 bv := hu 1
  have y1 : ∀ p : {w // AnyStage (CC u) 2 w}, p.val.cell? ⟨ab, 1, none⟩ = some (.int .i64 f) := fun p => (hblk.out _ _ _ p.property).cell 1 rfl
  have y2 : ∀ p : {w // AnyStage (CC u) 2 w}, p.val.cell? ⟨ab, 2, none⟩ = some (.int .i64 a) := fun p => (hblk.out _ _ _ p.property).cell 2 rfl
  have y3 : ∀ p : {w // AnyStage (CC u) 2 w}, p.val.cell? ⟨ab, 3, none⟩ = some (.int .u8 c0) := fun p => (hblk.out _ _ _ p.property).cell 3 rfl
  have y4 : ∀ p : {w // AnyStage (CC u) 2 w}, p.val.cell? ⟨ab, 4, none⟩ = some (.int .u8 c1) := fun p => (hblk.out _ _ _ p.property).cell 4 rfl
  have y5 : ∀ p : {w // AnyStage (CC u) 2 w}, p.val.cell? ⟨ab, 5, none⟩ = some (.int .u8 l0) := fun p => (hblk.out _ _ _ p.property).cell 5 rfl
  have y6 : ∀ p : {w // AnyStage (CC u) 2 w}, p.val.cell? ⟨ab, 6, none⟩ = some (.int .u8 l1) := fun p => (hblk.out _ _ _ p.property).cell 6 rfl
  have n2 : Nonempty {w // AnyStage (CC u) 2 w} := ⟨⟨W1.drew, 0, by omega, by rw [hCC.out]; rfl⟩⟩
  repeat (refine wpStageM_step rfl (fun K hK => ?_); go_simp; refine hK _ ?_; clear hK K)
  refine wpStageM_call rfl (fun w' hw' => ?_) ?_
  · have e : w' = W1.drew := by rw [hCC.out] at hw'; exact hw'
    subst e
    unfold callAtU
    go_simp
    refine (hP.out _ (h1.out.keep (Below.refl _ _).drew)).mono ?_
    rintro e W2 ⟨rfl, hp, hn⟩
    rw [hCC.out]
    exact ⟨_, rfl, rfl, hp, hn _ (hbk.out.below (Below.refl _ _).drew hbk.out.lt)⟩
  rw [e0]
  repeat (refine wpStageM_step rfl (fun K hK => ?_); go_simp; refine hK _ ?_; clear hK K)
  refine wpStageM_call rfl (fun w' hw' => ?_) ?_
  · rw [hCC.out] at hw'
    obtain ⟨hp, hb⟩ := hw'
    replace hp := Lib.hid hp
    replace hb := Lib.hid hb
    unfold callAtU
    go_simp
    refine (hQ.out _ hp.out).mono ?_
    rintro e W2 ⟨rfl, hp, hn⟩
    rw [hCC.out]
    exact ⟨_, rfl, rfl, hp, hn _ hb.out⟩
  rw [e1]
  repeat (refine wpStageM_step rfl (fun K hK => ?_); go_simp; refine hK _ ?_; clear hK K)
  refine wpStageM_nil ?_
  intro w' hw'
  rw [hCC.out] at hw'
  obtain ⟨⟨x', hp⟩, _⟩ := hw'
  replace hp := Lib.hid hp
  clear y1 y2 y3 y4 y5 y6 n2
  go_wp2_with fail
  go_ret
  exact ⟨rfl, s', _, hp.out, hld.l, hld.tk⟩
set_option maxRecDepth 100000 in
set_option maxHeartbeats 8000000 in
theorem do_wake (k f a c0 c1 l0 l1 d : Int) (se st : Value) (W : World) (h : Pr w W B s r) (hl : Ld B.n s r) (hk : k % 8 = 4) (hc0 : 0 ≤ c0 ∧ c0 ≤ 255) (hc1 : 0 ≤ c1 ∧ c1 ≤ 255) (hl0 : 0 ≤ l0 ∧ l0 ≤ 255) (hl1 : 0 ≤ l1 ∧ l1 ≤ 255)
    (hse : ∃ b n c, se = .slice b n c) (hst : ∃ b n c, st = .slice b n c) :
    Calls Try.prog 26 #[.pointer (some ⟨B.pb, 0, none⟩), .pointer (some ⟨B.qb, 0, none⟩), .agg (actC k f a c0 c1 l0 l1 d se st).toArray] W fun e w' => e = .returned (.bool true) ∧ ∃ s' r', Pr w w' B s' r' ∧ Ld B.n s' r' := by
  have hdd : ∀ c, 0 ≤ s.du c := fun c => (h.F.1.dub c).1
  have hand := i64_and7' hk
  obtain ⟨eb, en, ec, rfl⟩ := hse
  obtain ⟨tb', tn, tc, rfl⟩ := hst
  have hbk := Blk.new W (actC k f a c0 c1 l0 l1 d (.slice eb en ec) (.slice tb' tn tc)).toArray 67
  rw [List.toList_toArray] at hbk
  have h1 := h.keep ((Below.refl W.heap.size W).alloc (Nat.le_refl _) (.cells (actC k f a c0 c1 l0 l1 d (.slice eb en ec) (.slice tb' tn tc)).toArray 67))
  obtain ⟨ab, hab⟩ : ∃ ab, W.heap.size = ab := ⟨_, rfl⟩
  have htwo := two_wake (w := w) hdd hl ab f a d
  rw [hab] at hbk
  unfold actC at *
  obtain ⟨W1, hW1⟩ : ∃ W1, W.alloc (.cells #[.int .i64 k, .int .i64 f, .int .i64 a, .int .u8 c0, .int .u8 c1, .int .u8 l0, .int .u8 l1, .int .i64 d, .slice eb en ec, .slice tb' tn tc] 67) = W1 := ⟨_, rfl⟩
  rw [hW1] at hbk h1
  have x0 := hbk.cell 0 rfl
  replace htwo := Lib.hid htwo
  replace hbk := Lib.hid hbk
  replace h1 := Lib.hid h1
  clear h hl
  go_enter Try.func26, Try.ntmps26
  obtain ⟨s', r', hld, hP, hQ⟩ := htwo.out
  replace hP := Lib.hid hP
  replace hQ := Lib.hid hQ
  have x1 := hbk.out.cell 1 rfl
  have x2 := hbk.out.cell 2 rfl
  have x7 := hbk.out.cell 7 rfl
  go_wp2_with fail
  refine (hP.out _ h1.out).mono ?_
  rintro e W2 ⟨rfl, hp, hn⟩
  have hb2 := hn _ hbk.out
  have z1 := hb2.cell 1 rfl
  have z2 := hb2.cell 2 rfl
  have z7 := hb2.cell 7 rfl
  replace hp := Lib.hid hp
  clear hb2 hn x0 x1 x2 x7
  go_wp2_with fail
  refine (hQ.out _ hp.out).mono ?_
  rintro e W3 ⟨rfl, hp3, _⟩
  obtain ⟨x', hp3⟩ := hp3
  replace hp3 := Lib.hid hp3
  clear z1 z2 z7
  go_wp2_with fail
  go_ret
  exact ⟨rfl, s', _, hp3.out, hld.l, hld.tk⟩
set_option maxRecDepth 100000 in
set_option maxHeartbeats 8000000 in
theorem do_drop (k f a c0 c1 l0 l1 d : Int) (se st : Value) (W : World) (h : Pr w W B s r) (hl : Ld B.n s r) (hk : k % 8 = 5) (hc0 : 0 ≤ c0 ∧ c0 ≤ 255) (hc1 : 0 ≤ c1 ∧ c1 ≤ 255) (hl0 : 0 ≤ l0 ∧ l0 ≤ 255) (hl1 : 0 ≤ l1 ∧ l1 ≤ 255)
    (hse : ∃ b n c, se = .slice b n c) (hst : ∃ b n c, st = .slice b n c) :
    Calls Try.prog 26 #[.pointer (some ⟨B.pb, 0, none⟩), .pointer (some ⟨B.qb, 0, none⟩), .agg (actC k f a c0 c1 l0 l1 d se st).toArray] W fun e w' => e = .returned (.bool true) ∧ ∃ s' r', Pr w w' B s' r' ∧ Ld B.n s' r' := by
  have hdd : ∀ c, 0 ≤ s.du c := fun c => (h.F.1.dub c).1
  have hand := i64_and7' hk
  obtain ⟨eb, en, ec, rfl⟩ := hse
  obtain ⟨tb', tn, tc, rfl⟩ := hst
  have hbk := Blk.new W (actC k f a c0 c1 l0 l1 d (.slice eb en ec) (.slice tb' tn tc)).toArray 67
  rw [List.toList_toArray] at hbk
  have h1 := h.keep ((Below.refl W.heap.size W).alloc (Nat.le_refl _) (.cells (actC k f a c0 c1 l0 l1 d (.slice eb en ec) (.slice tb' tn tc)).toArray 67))
  obtain ⟨ab, hab⟩ : ∃ ab, W.heap.size = ab := ⟨_, rfl⟩
  have htwo := two_drop (w := w) hdd hl ab f a
  rw [hab] at hbk
  unfold actC at *
  obtain ⟨W1, hW1⟩ : ∃ W1, W.alloc (.cells #[.int .i64 k, .int .i64 f, .int .i64 a, .int .u8 c0, .int .u8 c1, .int .u8 l0, .int .u8 l1, .int .i64 d, .slice eb en ec, .slice tb' tn tc] 67) = W1 := ⟨_, rfl⟩
  rw [hW1] at hbk h1
  have x0 := hbk.cell 0 rfl
  replace htwo := Lib.hid htwo
  replace hbk := Lib.hid hbk
  replace h1 := Lib.hid h1
  clear h hl
  go_enter Try.func26, Try.ntmps26
  obtain ⟨s', r', hld, hP, hQ⟩ := htwo.out
  replace hP := Lib.hid hP
  replace hQ := Lib.hid hQ
  have x1 := hbk.out.cell 1 rfl
  have x2 := hbk.out.cell 2 rfl
  have x7 := hbk.out.cell 7 rfl
  go_wp2_with fail
  refine (hP.out _ h1.out).mono ?_
  rintro e W2 ⟨rfl, hp, hn⟩
  have hb2 := hn _ hbk.out
  have z1 := hb2.cell 1 rfl
  have z2 := hb2.cell 2 rfl
  have z7 := hb2.cell 7 rfl
  replace hp := Lib.hid hp
  clear hb2 hn x0 x1 x2 x7
  go_wp2_with fail
  refine (hQ.out _ hp.out).mono ?_
  rintro e W3 ⟨rfl, hp3, _⟩
  obtain ⟨x', hp3⟩ := hp3
  replace hp3 := Lib.hid hp3
  clear z1 z2 z7
  go_wp2_with fail
  go_ret
  exact ⟨rfl, s', _, hp3.out, hld.l, hld.tk⟩
set_option maxRecDepth 100000 in
set_option maxHeartbeats 8000000 in
theorem do_take (k f a c0 c1 l0 l1 d : Int) (se st : Value) (W : World) (h : Pr w W B s r) (hl : Ld B.n s r) (hk : k % 8 = 6) (hc0 : 0 ≤ c0 ∧ c0 ≤ 255) (hc1 : 0 ≤ c1 ∧ c1 ≤ 255) (hl0 : 0 ≤ l0 ∧ l0 ≤ 255) (hl1 : 0 ≤ l1 ∧ l1 ≤ 255)
    (hse : ∃ b n c, se = .slice b n c) (hst : ∃ b n c, st = .slice b n c) :
    Calls Try.prog 26 #[.pointer (some ⟨B.pb, 0, none⟩), .pointer (some ⟨B.qb, 0, none⟩), .agg (actC k f a c0 c1 l0 l1 d se st).toArray] W fun e w' => e = .returned (.bool true) ∧ ∃ s' r', Pr w w' B s' r' ∧ Ld B.n s' r' := by
  have hdd : ∀ c, 0 ≤ s.du c := fun c => (h.F.1.dub c).1
  have hand := i64_and7' hk
  obtain ⟨eb, en, ec, rfl⟩ := hse
  obtain ⟨tb', tn, tc, rfl⟩ := hst
  have hbk := Blk.new W (actC k f a c0 c1 l0 l1 d (.slice eb en ec) (.slice tb' tn tc)).toArray 67
  rw [List.toList_toArray] at hbk
  have h1 := h.keep ((Below.refl W.heap.size W).alloc (Nat.le_refl _) (.cells (actC k f a c0 c1 l0 l1 d (.slice eb en ec) (.slice tb' tn tc)).toArray 67))
  obtain ⟨ab, hab⟩ : ∃ ab, W.heap.size = ab := ⟨_, rfl⟩
  have htwo := two_take (w := w) hl ab
  rw [hab] at hbk
  unfold actC at *
  obtain ⟨W1, hW1⟩ : ∃ W1, W.alloc (.cells #[.int .i64 k, .int .i64 f, .int .i64 a, .int .u8 c0, .int .u8 c1, .int .u8 l0, .int .u8 l1, .int .i64 d, .slice eb en ec, .slice tb' tn tc] 67) = W1 := ⟨_, rfl⟩
  rw [hW1] at hbk h1
  have x0 := hbk.cell 0 rfl
  replace htwo := Lib.hid htwo
  replace hbk := Lib.hid hbk
  replace h1 := Lib.hid h1
  clear h hl
  go_enter Try.func26, Try.ntmps26
  obtain ⟨q, s', r', hld, hP, hQ⟩ := htwo.out
  replace hP := Lib.hid hP
  replace hQ := Lib.hid hQ
  go_wp2_with fail
  refine (hP.out _ h1.out).mono ?_
  rintro e W2 ⟨rfl, hp, hn⟩
  replace hp := Lib.hid hp
  clear hn x0
  go_wp2_with fail
  refine (hQ.out _ hp.out).mono ?_
  rintro e W3 ⟨rfl, hp3, _⟩
  obtain ⟨x', hp3⟩ := hp3
  replace hp3 := Lib.hid hp3
  go_wp2_with fail
  go_ret
  exact ⟨rfl, s', _, hp3.out, hld.l, hld.tk⟩
end
end Go.Proofs.Ytlaodkolkoefgaa
