/-
  The contracts of kind.of, kind.May, kind.Movable.
-/
import Derived.Deep.MidRow
import Derived.Test.YtpdckjbknphelaaMg1
namespace Go.Proofs.Ytpdckjbknphelaa
open Go.RowKit
set_option linter.unusedSimpArgs false
set_option linter.unusedVariables false

def kRow (s : ByteArray) (a b c : Int) : List Value := [.string s, .int .u8 a, .int .u8 b, .int .u8 c]
def kNames : List ByteArray := [⟨#[97, 105, 114]⟩, ⟨#[98, 101, 100, 114, 111, 99, 107]⟩, ⟨#[115, 116, 111, 110, 101]⟩, ⟨#[115, 111, 105, 108]⟩, ⟨#[115, 97, 110, 100]⟩, ⟨#[103, 114, 97, 118, 101, 108]⟩, ⟨#[119, 111, 111, 100]⟩, ⟨#[108, 101, 97, 118, 101, 115]⟩, ⟨#[97, 115, 104]⟩, ⟨#[103, 108, 97, 115, 115]⟩, ⟨#[109, 111, 118, 101, 114]⟩, ⟨#[116, 111, 114, 99, 104]⟩, ⟨#[112, 108, 97, 110, 116]⟩, ⟨#[119, 97, 116, 101, 114]⟩, ⟨#[102, 105, 114, 101]⟩]
def kIs : List Int := [13, 0, 2, 2, 18, 18, 34, 34, 18, 3, 0, 13, 45, 5, 13]
def kLeast : List Int := [0, 0, 0, 0, 0, 0, 0, 0, 0, 0, 0, 1, 0, 0, 0]
def kMost : List Int := [0, 0, 0, 0, 0, 0, 0, 0, 0, 0, 0, 15, 3, 7, 1]
/-- The table. -/
def kTable : List Value := [.string ⟨#[97, 105, 114]⟩, .int .u8 13, .int .u8 0, .int .u8 0, .string ⟨#[98, 101, 100, 114, 111, 99, 107]⟩, .int .u8 0, .int .u8 0, .int .u8 0, .string ⟨#[115, 116, 111, 110, 101]⟩, .int .u8 2, .int .u8 0, .int .u8 0, .string ⟨#[115, 111, 105, 108]⟩, .int .u8 2, .int .u8 0, .int .u8 0, .string ⟨#[115, 97, 110, 100]⟩, .int .u8 18, .int .u8 0, .int .u8 0, .string ⟨#[103, 114, 97, 118, 101, 108]⟩, .int .u8 18, .int .u8 0, .int .u8 0, .string ⟨#[119, 111, 111, 100]⟩, .int .u8 34, .int .u8 0, .int .u8 0, .string ⟨#[108, 101, 97, 118, 101, 115]⟩, .int .u8 34, .int .u8 0, .int .u8 0, .string ⟨#[97, 115, 104]⟩, .int .u8 18, .int .u8 0, .int .u8 0, .string ⟨#[103, 108, 97, 115, 115]⟩, .int .u8 3, .int .u8 0, .int .u8 0, .string ⟨#[109, 111, 118, 101, 114]⟩, .int .u8 0, .int .u8 0, .int .u8 0, .string ⟨#[116, 111, 114, 99, 104]⟩, .int .u8 13, .int .u8 1, .int .u8 15, .string ⟨#[112, 108, 97, 110, 116]⟩, .int .u8 45, .int .u8 0, .int .u8 3, .string ⟨#[119, 97, 116, 101, 114]⟩, .int .u8 5, .int .u8 0, .int .u8 7, .string ⟨#[102, 105, 114, 101]⟩, .int .u8 13, .int .u8 0, .int .u8 1]

theorem below_setCells {B : Nat} {w : World} : ∀ (vs : List Value) (o : Nat) {b : Nat} (hb : B ≤ b) (W : World), Below B w W → Below B w (W.setCells b o vs)
  | [], _, _, _, _, h => h
  | v :: r, o, b, hb, W, h => below_setCells r (o + 1) hb _ (h.setCell (p := ⟨b, o, none⟩) hb v)
theorem blk_setCells {b' : Nat} {cs : List Value} {T : TypeId} : ∀ (vs : List Value) (o : Nat) {b : Nat} (hb : b' ≠ b) (W : World), Blk W b' cs T → Blk (W.setCells b o vs) b' cs T
  | [], _, _, _, _, h => h
  | v :: r, o, b, hb, W, h => blk_setCells r (o + 1) hb _ (h.set_other v hb)
theorem there_new_at {W : World} {cs : Array Value} {T : TypeId} {n m : Nat} (h : n = W.heap.size) (hm : m ≤ cs.size) : (W.alloc (.cells cs T)).there n 0 m := by
  intro j hj
  have hb := Blk.new_at cs T h
  rw [Nat.zero_add]
  refine ⟨?_, hb.frozen _⟩
  rw [hb.cell_eq, List.getElem?_eq_getElem (by simp; omega)]
  rfl
theorem wpList_world {P : Program} {ops : Array Oper} {Q : Exit → Act → World → Prop} {l : List Oper} {a : Act} {w : World} (I : World → Prop) (h : I w) (hh : ∀ W, I W → wpList P ops Q l a W) : wpList P ops Q l a w := hh w h
/-- The walk stands still here. -/
theorem wpList_at {P : Program} {ops : Array Oper} {Q : Exit → Act → World → Prop} {rest : List Oper} {o : Oper} {a : Act} {w : World} (ho : o.op = .store 128 (.tmp 3) (.tmp 19)) (h : wpList P ops Q (o :: rest) a w) : wpList P ops Q (o :: rest) a w := h
theorem kTable_at (kk : Nat) (h : kk < 15) : kTable[kk * 4]? = some (.string (kNames.getD kk ⟨#[]⟩)) ∧ kTable[kk * 4 + 1]? = some (.int .u8 (kIs.getD kk 0)) ∧ kTable[kk * 4 + 2]? = some (.int .u8 (kLeast.getD kk 0)) ∧ kTable[kk * 4 + 3]? = some (.int .u8 (kMost.getD kk 0)) := by
  obtain rfl | rfl | rfl | rfl | rfl | rfl | rfl | rfl | rfl | rfl | rfl | rfl | rfl | rfl | rfl : kk = 0 ∨ kk = 1 ∨ kk = 2 ∨ kk = 3 ∨ kk = 4 ∨ kk = 5 ∨ kk = 6 ∨ kk = 7 ∨ kk = 8 ∨ kk = 9 ∨ kk = 10 ∨ kk = 11 ∨ kk = 12 ∨ kk = 13 ∨ kk = 14 := by omega
  all_goals exact ⟨rfl, rfl, rfl, rfl⟩
theorem info_row : (Try.prog.info? 120).map (·.size) = some 4 := by kernel_rfl
theorem info_rows : (Try.prog.info? 128).map (·.size) = some kTable.toArray.size := by kernel_rfl
theorem kTable_len : kTable.length = 60 := by kernel_rfl

set_option maxRecDepth 100000 in
set_option maxHeartbeats 4000000 in
theorem of_calls (kk : Nat) (w : World) (hk : kk < 15) :
    Calls Try.prog 56 #[.int .u8 kk] w fun e w' => e = .returned (.agg (kRow (kNames.getD kk ⟨#[]⟩) (kIs.getD kk 0) (kLeast.getD kk 0) (kMost.getD kk 0)).toArray) ∧ Below w.heap.size w w' := by
  obtain ⟨c0, c1, c2, c3⟩ := kTable_at kk hk
  generalize kNames.getD kk ⟨#[]⟩ = s at *
  generalize kIs.getD kk 0 = a at *
  generalize kLeast.getD kk 0 = b at *
  generalize kMost.getD kk 0 = c at *
  replace c0 := Lib.hid c0
  replace c1 := Lib.hid c1
  replace c2 := Lib.hid c2
  replace c3 := Lib.hid c3
  go_enter Try.func56, Try.ntmps56
  go_wp2_with (refine wpList_at rfl ?_; generalize hp : wpList _ _ _ _ _ _ = p; replace hp := Lib.hid hp)
  rw [← hp.out]
  clear hp
  refine wpList_store_mid rfl 128 (.tmp 3) (.tmp 19) rfl (w.heap.size + 1) 0 kTable.toArray ?hx ?hy ?ht info_rows ?h1 ?cont
  case hx => rfl
  case hy => rfl
  case h1 => kernel_rfl
  case ht => exact there_new_at (by simp) (Nat.le_of_eq (by kernel_rfl))
  case cont =>
    refine wpList_world (fun W1 => (∀ j v, kTable[j]? = some v → W1.cell? ⟨w.heap.size + 1, j, none⟩ = some v) ∧ Below w.heap.size w W1 ∧ w.heap.size + 1 < W1.heap.size ∧ ∃ v0 v1 v2 v3, Blk W1 w.heap.size [v0, v1, v2, v3] 120) ⟨?_, ?_, ?_, ?_⟩ ?_
    · intro j v hv
      rw [show (⟨w.heap.size + 1, j, none⟩ : Addr) = ⟨w.heap.size + 1, 0 + j, none⟩ from by rw [Nat.zero_add]]
      exact World.rangeAt_setCells_same _ _ 0 kTable (there_new_at (by simp) (Nat.le_of_eq (by kernel_rfl))) j v hv
    · exact below_setCells _ _ (by omega) _ (((Below.refl _ _).alloc (Nat.le_refl _) _).alloc (by simp) _)
    · exact Nat.lt_of_lt_of_le (by simp) (below_setCells (B := 0) (w := World.alloc _ _) kTable 0 (Nat.zero_le _) _ (Below.refl _ _)).size
    · exact ⟨_, _, _, _, blk_setCells _ _ (by omega) _ ((Blk.new w _ _).alloc _)⟩
    rintro W1 ⟨hc, HB, hz, v0, v1, v2, v3, b2⟩
    have b2_l := b2.lt
    have b2_0 := b2.cell 0 rfl
    have b2_1 := b2.cell 1 rfl
    have b2_2 := b2.cell 2 rfl
    have b2_3 := b2.cell 3 rfl
    have b2_f0 := b2.frozen 0
    have b2_f1 := b2.frozen 1
    have b2_f2 := b2.frozen 2
    have b2_f3 := b2.frozen 3
    have y0 := hc _ _ c0.out
    have y1 := hc _ _ c1.out
    have y2 := hc _ _ c2.out
    have y3 := hc _ _ c3.out
    clear hc c0 c1 c2 c3
    replace HB := Lib.hid HB
    go_wp2_with fail
    refine bodyPost_ret (v := .agg (kRow s a b c).toArray) (by simp [results, Try.results56, go_sem, kRow, b2_0, b2_1, b2_2, b2_3]) rfl ⟨rfl, ?_⟩
    repeat (refine Below.setCell ?_ (by simp <;> omega) _)
    exact HB.out
set_option maxRecDepth 100000 in
set_option maxHeartbeats 4000000 in
theorem of_none (k : Int) (w : World) (h0 : 15 ≤ k) (h1 : k ≤ 255) :
    Calls Try.prog 56 #[.int .u8 k] w fun e w' => e = .returned (.agg (kRow ⟨#[]⟩ 0 0 0).toArray) ∧ Below w.heap.size w w' := by
  go_enter Try.func56, Try.ntmps56
  go_wp2_with (refine wpList_at rfl ?_; generalize hp : wpList _ _ _ _ _ _ = p; replace hp := Lib.hid hp)
  rw [← hp.out]
  clear hp
  refine wpList_store_mid rfl 128 (.tmp 3) (.tmp 19) rfl (w.heap.size + 1) 0 kTable.toArray ?hx ?hy ?ht info_rows ?h1 ?cont
  case hx => rfl
  case hy => rfl
  case h1 => kernel_rfl
  case ht => exact there_new_at (by simp) (Nat.le_of_eq (by kernel_rfl))
  case cont =>
    refine wpList_world (fun W1 => (∀ j v, kTable[j]? = some v → W1.cell? ⟨w.heap.size + 1, j, none⟩ = some v) ∧ Below w.heap.size w W1 ∧ w.heap.size + 1 < W1.heap.size ∧ ∃ v0 v1 v2 v3, Blk W1 w.heap.size [v0, v1, v2, v3] 120) ⟨?_, ?_, ?_, ?_⟩ ?_
    · intro j v hv
      rw [show (⟨w.heap.size + 1, j, none⟩ : Addr) = ⟨w.heap.size + 1, 0 + j, none⟩ from by rw [Nat.zero_add]]
      exact World.rangeAt_setCells_same _ _ 0 kTable (there_new_at (by simp) (Nat.le_of_eq (by kernel_rfl))) j v hv
    · exact below_setCells _ _ (by omega) _ (((Below.refl _ _).alloc (Nat.le_refl _) _).alloc (by simp) _)
    · exact Nat.lt_of_lt_of_le (by simp) (below_setCells (B := 0) (w := World.alloc _ _) kTable 0 (Nat.zero_le _) _ (Below.refl _ _)).size
    · exact ⟨_, _, _, _, blk_setCells _ _ (by omega) _ ((Blk.new w _ _).alloc _)⟩
    rintro W1 ⟨hc, HB, hz, v0, v1, v2, v3, b2⟩
    have b2_l := b2.lt
    have b2_0 := b2.cell 0 rfl
    have b2_1 := b2.cell 1 rfl
    have b2_2 := b2.cell 2 rfl
    have b2_3 := b2.cell 3 rfl
    have b2_f0 := b2.frozen 0
    have b2_f1 := b2.frozen 1
    have b2_f2 := b2.frozen 2
    have b2_f3 := b2.frozen 3
    clear hc
    have hk : ¬ k < 15 := by omega
    replace HB := Lib.hid HB
    go_wp2_with fail
    refine bodyPost_ret (v := .agg (kRow ⟨#[]⟩ 0 0 0).toArray) (by simp [results, Try.results56, go_sem, kRow, b2_0, b2_1, b2_2, b2_3]) rfl ⟨rfl, ?_⟩
    repeat (refine Below.setCell ?_ (by simp <;> omega) _)
    exact HB.out
end Go.Proofs.Ytpdckjbknphelaa
