/-
  A frame is given.
-/
import Derived.Test.YtlaodkolkoefgaaMg8
import Derived.Test.YtlaodkolkoefgaaMg3
namespace Go.Proofs.Ytlaodkolkoefgaa
open Go.RowKit
set_option linter.unusedSimpArgs false
set_option linter.unusedVariables false

/-- All old blocks but these two are as they were. -/
structure But2 (a b : Nat) (w w' : World) : Prop where
  os : w'.os = w.os
  tape : w'.tape = w.tape
  output : w'.output = w.output
  size : w.heap.size ≤ w'.heap.size
  block : ∀ k, k < w.heap.size → k ≠ a → k ≠ b → w'.heap[k]? = w.heap[k]?
section
variable {a b : Nat} {u w W : World}
theorem But2.refl (a b : Nat) (w : World) : But2 a b w w := ⟨rfl, rfl, rfl, Nat.le_refl _, fun _ _ _ _ => rfl⟩
theorem But2.left (h : But a w W) (b : Nat) : But2 a b w W := ⟨h.os, h.tape, h.output, h.size, fun k hk h1 _ => h.block k hk h1⟩
theorem But2.right (h : But b w W) (a : Nat) : But2 a b w W := ⟨h.os, h.tape, h.output, h.size, fun k hk _ h1 => h.block k hk h1⟩
theorem But2.trans (h : But2 a b u w) (k : But2 a b w W) : But2 a b u W :=
  ⟨k.os.trans h.os, k.tape.trans h.tape, k.output.trans h.output, Nat.le_trans h.size k.size, fun i hi h1 h2 => (k.block i (Nat.lt_of_lt_of_le hi h.size) h1 h2).trans (h.block i hi h1 h2)⟩
theorem But2.of_below (h : Below w.heap.size w W) (a b : Nat) : But2 a b w W := But2.left (But.of_below h) b
theorem But2.below {B : Nat} (h : But2 a b w W) (h1 : B ≤ a) (h2 : B ≤ b) (hs : B ≤ w.heap.size) : Below B w W := ⟨h.os, h.tape, h.output, h.size, fun k hk => h.block k (by omega) (by omega) (by omega)⟩
theorem But2.step {B : Nat} {v : World} (h0 : Below B v w) (h : But2 a b w W) (h1 : B ≤ a) (h2 : B ≤ b) (hs : B ≤ w.heap.size) : Below B v W := h0.trans (h.below h1 h2 hs)
theorem Blk.but2 {c : Nat} {cs : List Value} {T : TypeId} (h : Blk w c cs T) (hb : But2 a b w W) (h1 : c ≠ a) (h2 : c ≠ b) : Blk W c cs T := (hb.block c h.lt h1 h2).trans h
theorem Row1.but2 {c n : Nat} {T : TypeId} {f : Nat → Value} (h : Row1 w c T n f) (hb : But2 a b w W) (h1 : c ≠ a) (h2 : c ≠ b) : Row1 W c T n f := h.elim fun cs h => ⟨cs, h.1.but2 hb h1 h2, h.2⟩
end

def clrP (f : Nat) (g : Nat → Int × Int) : Nat → Int × Int := fun c => if f * 4096 ≤ c ∧ c < f * 4096 + 4096 then (0, 0) else g c
def clrD (f : Nat) (g : Nat → Int) : Nat → Int := fun c => if f * 4096 ≤ c ∧ c < f * 4096 + 4096 then 0 else g c
set_option maxRecDepth 100000 in
theorem slab_clear {ce li : Nat → Int × Int} {du : Nat → Int} (f : Nat) {Z : List Value} (hl : Z.length = 40960) (hz : ∀ i, i < 40960 → Z.getD i undef = .int .u8 0) (j : Nat) : runF (f * 40960) Z (slabF ce li du) j = slabF (clrP f ce) (clrP f li) (clrD f du) j := by
  unfold runF
  by_cases h : f * 40960 ≤ j ∧ j < f * 40960 + Z.length
  · rw [if_pos h, hz _ (by omega)]
    have hc : f * 4096 ≤ j / 10 ∧ j / 10 < f * 4096 + 4096 := by omega
    unfold slabF clrP clrD
    rw [if_pos hc, if_pos hc, if_pos hc, byteN_zero]
    split
    · rfl
    split
    · rfl
    split
    · rfl
    split <;> rfl
  · rw [if_neg h]
    have hc : ¬ (f * 4096 ≤ j / 10 ∧ j / 10 < f * 4096 + 4096) := by omega
    unfold slabF clrP clrD
    rw [if_neg hc, if_neg hc, if_neg hc]
theorem U8.clr {f : Nat} {g : Nat → Int × Int} (h : U8 g) : U8 (clrP f g) := fun c => by
  unfold clrP
  split
  · simp
  · exact h c
theorem zero_u8 : ∀ w : World, (zeroValue 5).run Try.prog w = .ok (.int .u8 0) w := fun w => by kernel_rfl

set_option maxRecDepth 100000 in
set_option maxHeartbeats 4000000 in
theorem pgive_in (pb sb tb n : Nat) (ce li : Nat → Int × Int) (du : Nat → Int) (tk : Nat → Bool) (f : Nat) (w : World) (h : Po w pb sb tb n ce li du tk) (hf : f < n) (ht : tk f = true) :
    Calls Try.prog 20 #[.pointer (some ⟨pb, 0, none⟩), .int .i64 f] w fun e w' => e = .returned (.int .i64 0) ∧ Po w' pb sb tb n (clrP f ce) (clrP f li) (clrD f du) (tkSet tk f false) ∧ But2 sb tb w w' := by
  have hn64 := h.n64
  have hc := frame_in pb sb tb n f w h.pool h.n64 hf
  have c1 := h.c1
  have cf := h.take.cell hf
  rw [ht] at cf
  have ff := h.take.frozen f
  have h2 := h.setTk f false
  have hclr := fun ty => Lib.run_clear_slice (P := Try.prog) (w.setCell ⟨tb, f, none⟩ (.bool false)) 58 5 ty (.int .u8 0) (by kernel_rfl) zero_u8 rfl rfl sb (f * 40960) 40960 40960 (by omega)
    (fun j hj => by rw [h2.slab.cell (by omega)]; rfl) (fun j hj => h2.slab.frozen _)
  obtain ⟨Z, hZ⟩ : ∃ Z, List.replicate 40960 (Value.int .u8 0) = Z := ⟨_, rfl⟩
  have hZl : Z.length = 40960 := by rw [← hZ]; exact List.length_replicate
  have hZg : ∀ i, i < 40960 → Z.getD i undef = .int .u8 0 := fun i hi => by rw [← hZ, List.getD_eq_getElem?_getD, List.getElem?_replicate, if_pos hi]; rfl
  rw [hZ] at hclr
  clear hZ
  have hrow := h2.slab.setCells Z (f * 40960)
  have hbut : But2 sb tb w ((w.setCell ⟨tb, f, none⟩ (.bool false)).setCells sb (f * 40960) Z) := (But2.right ((But.refl tb w).setCell f _) sb).trans (But2.left (But.setCells Z _ (But.refl _ _)) tb)
  have hend : Po ((w.setCell ⟨tb, f, none⟩ (.bool false)).setCells sb (f * 40960) Z) pb sb tb n (clrP f ce) (clrP f li) (clrD f du) (tkSet tk f false) :=
    h2.slabBut (But.setCells Z _ (But.refl _ _)) (hrow.congr fun j _ => slab_clear f hZl hZg j) (fun c => by
      unfold clrD
      split
      · exact ⟨Int.le_refl _, by omega⟩
      · exact h.dub c) h.uc.clr h.ul.clr
  have hfz : (f : Int) < (n : Int) := by omega
  have htl := h.take.lt
  have hpl := h.pool.lt
  have hne := h.ne2
  have hse := fs_eq
  have hbe := bs_eq
  replace hc := Lib.hid hc
  replace hbut := Lib.hid hbut
  replace hend := Lib.hid hend
  replace hZl := Lib.hid hZl
  replace hZg := Lib.hid hZg
  clear h h2 hrow ht
  go_enter Try.func20, Try.ntmps20
  go_wp2_with fail
  refine hc.out.mono ?_
  rintro e w1 ⟨rfl, rfl⟩
  clear hc
  go_wp2_with fail
  go_ret
  exact ⟨rfl, hend.out, hbut.out⟩
set_option maxRecDepth 100000 in
set_option maxHeartbeats 4000000 in
theorem pgive_free (pb sb tb n f : Nat) (tk : Nat → Bool) (w : World) (hp : Blk w pb (poolC sb tb n) 61) (hn : n ≤ 64) (htk : Row1 w tb 4 n (fun i => .bool (tk i))) (hf : f < n) (ht : tk f = false) :
    Calls Try.prog 20 #[.pointer (some ⟨pb, 0, none⟩), .int .i64 f] w fun e w' => e = .returned (.int .i64 5) ∧ w' = w := by
  have hc := frame_in pb sb tb n f w hp hn hf
  have c1 : w.cell? ⟨pb, 1, none⟩ = some (.slice (some ⟨tb, 0, none⟩) n n) := hp.cell 1 rfl
  have cf := htk.cell hf
  rw [ht] at cf
  have hfz : (f : Int) < (n : Int) := by omega
  have hse := fs_eq
  have hbe := bs_eq
  replace hc := Lib.hid hc
  clear hp htk ht
  go_enter Try.func20, Try.ntmps20
  go_wp2_with fail
  refine hc.out.mono ?_
  rintro e w1 ⟨rfl, rfl⟩
  clear hc
  go_wp2_with fail
  go_ret
  exact ⟨rfl, rfl⟩
set_option maxRecDepth 100000 in
set_option maxHeartbeats 4000000 in
theorem pgive_out (pb n c tb : Nat) (f : Int) (w : World) (c1 : w.cell? ⟨pb, 1, none⟩ = some (.slice (some ⟨tb, 0, none⟩) n c)) (hc : Calls Try.prog 29 #[.pointer (some ⟨pb, 0, none⟩), .int .i64 f] w fun e w' => e = .returned (.slice none 0 0) ∧ w' = w) :
    Calls Try.prog 20 #[.pointer (some ⟨pb, 0, none⟩), .int .i64 f] w fun e w' => e = .returned (.int .i64 2) ∧ w' = w := by
  have hse := fs_eq
  have hbe := bs_eq
  replace hc := Lib.hid hc
  go_enter Try.func20, Try.ntmps20
  go_wp2_with fail
  refine hc.out.mono ?_
  rintro e w1 ⟨rfl, rfl⟩
  clear hc
  go_wp2_with fail
  go_ret
  exact ⟨rfl, rfl⟩
set_option maxRecDepth 100000 in
set_option maxHeartbeats 4000000 in
theorem pgive_nil (f : Int) (w : World) : Calls Try.prog 20 #[.pointer none, .int .i64 f] w fun e w' => e = .returned (.int .i64 1) ∧ w' = w := by
  go_enter Try.func20, Try.ntmps20
  go_wp2_with fail
  go_ret
  exact ⟨rfl, rfl⟩
set_option maxRecDepth 100000 in
set_option maxHeartbeats 4000000 in
theorem pgive_zero (pb : Nat) (f : Int) (w : World) (c1 : w.cell? ⟨pb, 1, none⟩ = some (.slice none 0 0)) : Calls Try.prog 20 #[.pointer (some ⟨pb, 0, none⟩), .int .i64 f] w fun e w' => e = .returned (.int .i64 1) ∧ w' = w := by
  have hbe := bs_eq
  go_enter Try.func20, Try.ntmps20
  go_wp2_with fail
  go_ret
  exact ⟨rfl, rfl⟩
end Go.Proofs.Ytlaodkolkoefgaa

/-
  Whether a chunk may be: chunk.Check and the document's.
-/
namespace Go.Proofs.Ytlaodkolkoefgaa
open Go.RowKit
set_option linter.unusedSimpArgs false
set_option linter.unusedVariables false

def allN (p : Nat → Bool) : Nat → Bool
  | 0 => true
  | n + 1 => allN p n && p n
theorem allN_iff (p : Nat → Bool) : ∀ n, allN p n = true ↔ ∀ i, i < n → p i = true
  | 0 => by simp [allN]
  | n + 1 => by
    unfold allN
    rw [Bool.and_eq_true, allN_iff p n]
    exact ⟨fun ⟨h1, h2⟩ i hi => by
      by_cases e : i = n
      · subst e; exact h2
      · exact h1 i (by omega), fun h => ⟨fun i hi => h i (by omega), h n (by omega)⟩⟩
theorem allN_no {p : Nat → Bool} {n i : Nat} (hi : i < n) (h : p i = false) : allN p n = false := by
  cases hh : allN p n with
  | false => rfl
  | true => rw [(allN_iff p n).1 hh i hi] at h; cases h

def tickOk (last : Int) (t : Int × Int) : Bool := decide (last < t.1 ∧ t.1 < 4096 ∧ 1 ≤ t.2 ∧ t.2 ≤ 2199023255552)
def tOk : Int → List (Int × Int) → Bool
  | _, [] => true
  | last, t :: r => tickOk last t && tOk t.1 r
def mayC (ce : Nat → Int × Int) (i : Nat) : Bool := mayK (ce i).1 (ce i).2
def litC (li : Nat → Int × Int) (i : Nat) : Bool := decide ((li i).1 ≤ 15 ∧ (li i).2 ≤ 15)
def checkE (ce li : Nat → Int × Int) (ts : List (Int × Int)) : Int :=
  if allN (mayC ce) 4096 then (if allN (litC li) 4096 then (if tOk (-1) ts then 0 else 4) else 2) else 11
theorem checkE_11 {ce li : Nat → Int × Int} {ts : List (Int × Int)} {i : Nat} (hi : i < 4096) (h : mayC ce i = false) : checkE ce li ts = 11 := by
  unfold checkE; rw [allN_no hi h]; rfl
theorem checkE_2 {ce li : Nat → Int × Int} {ts : List (Int × Int)} {i : Nat} (h0 : ∀ i, i < 4096 → mayC ce i = true) (hi : i < 4096) (h : litC li i = false) : checkE ce li ts = 2 := by
  unfold checkE; rw [(allN_iff _ _).2 h0, allN_no hi h]; rfl
theorem checkE_4 {ce li : Nat → Int × Int} {ts : List (Int × Int)} (h0 : ∀ i, i < 4096 → mayC ce i = true) (h1 : ∀ i, i < 4096 → litC li i = true) (h : tOk (-1) ts = false) : checkE ce li ts = 4 := by
  unfold checkE; rw [(allN_iff _ _).2 h0, (allN_iff _ _).2 h1, h]; rfl
theorem checkE_0 {ce li : Nat → Int × Int} {ts : List (Int × Int)} (h0 : ∀ i, i < 4096 → mayC ce i = true) (h1 : ∀ i, i < 4096 → litC li i = true) (h : tOk (-1) ts = true) : checkE ce li ts = 0 := by
  unfold checkE; rw [(allN_iff _ _).2 h0, (allN_iff _ _).2 h1, h]; rfl
theorem tOk_step {last : Int} {ts : List (Int × Int)} {k : Nat} {t : Int × Int} (ht : ts[k]? = some t) : tOk last (ts.drop k) = (tickOk last t && tOk t.1 (ts.drop (k + 1))) := by
  have hk := (List.getElem?_eq_some_iff.1 ht).1
  rw [List.drop_eq_getElem_cons hk]
  have : ts[k] = t := by rw [List.getElem?_eq_getElem hk] at ht; exact Option.some.inj ht
  rw [this]
  rfl

set_option maxRecDepth 100000 in
set_option maxHeartbeats 8000000 in
theorem check_calls (b : Nat) (ce li : Nat → Int × Int) (s : Value) (ts : List (Int × Int)) (w : World) (h : Ck w b ce li s) (ht : TRow w s ts) (hu : U8 ce) :
    Calls Try.prog 10 #[.pointer (some ⟨b, 0, none⟩)] w fun e w' => e = .returned (.int .i64 (checkE ce li ts)) ∧ Below w.heap.size w w' := by
  replace hu := Lib.hid hu
  go_enter Try.func10, Try.ntmps10
  go_wp2_with fail
  go_loopw [10] (fun i W => ∃ k : Nat, k ≤ 4096 ∧ i = .int .i64 k ∧ (∀ j, j < k → mayC ce j = true) ∧ Below w.heap.size w W) (fun i _ => 4096 - (intOf i).toNat)
  case atStart => exact ⟨0, by omega, rfl, fun _ h => absurd h (Nat.not_lt_zero _), Below.refl _ _⟩
  case round =>
    obtain ⟨k, hk, rfl, hall, HB⟩ := hrel
    have hW := h.below HB h.lt
    replace hall := Lib.hid hall
    by_cases hlt : k < 4096
    · have c0 := hW.c0 hlt
      have c1 := hW.c1 hlt
      have hz := HB.size
      have bd := hu.out k
      obtain ⟨x, hx⟩ : ∃ x, (ce k).1 = x := ⟨_, rfl⟩
      obtain ⟨y, hy⟩ : ∃ y, (ce k).2 = y := ⟨_, rfl⟩
      have hm : mayC ce k = mayK x y := by rw [← hx, ← hy]; rfl
      rw [hx] at c0 bd
      rw [hy] at c1 bd
      clear hx hy
      replace HB := Lib.hid HB
      cases hv : mayK x y
      · have hcal := kmay_calls x y
        rw [hv] at hm hcal
        clear hv
        replace hcal := Lib.hid hcal
        replace hm := Lib.hid hm
        go_wp2_with fail
        refine (hcal.out _ bd.1 bd.2.1 bd.2.2.1).mono ?_
        rintro e w1 ⟨rfl, hb⟩
        replace HB := Lib.hid (below_step HB.out hz hb)
        go_wp2_with fail
        go_ret
        exact ⟨ret_int (checkE_11 hlt hm.out).symm, HB.out⟩
      · have hcal := kmay_calls x y
        rw [hv] at hm hcal
        clear hv
        replace hcal := Lib.hid hcal
        replace hm := Lib.hid hm
        go_wp2_with fail
        refine (hcal.out _ bd.1 bd.2.1 bd.2.2.1).mono ?_
        rintro e w1 ⟨rfl, hb⟩
        replace HB := Lib.hid (below_step HB.out hz hb)
        go_wp2_with fail
        go_roundw
        case rel => exact ⟨k + 1, by omega, by go_num, fun j hj => by
          by_cases e : j = k
          · subst e; exact hm.out
          · exact hall.out j (by omega), HB.out⟩
        case measure => simp [intOf]; omega
    · obtain rfl : k = 4096 := by omega
      clear hlt hk
      replace HB := Lib.hid HB
      go_wp2_with fail
      go_loopw [22] (fun i W' => ∃ k : Nat, k ≤ 4096 ∧ i = .int .i64 k ∧ (∀ j, j < k → litC li j = true) ∧ W' = wr) (fun i _ => 4096 - (intOf i).toNat)
      case atStart => exact ⟨0, by omega, rfl, fun _ h => absurd h (Nat.not_lt_zero _), rfl⟩
      case round =>
        obtain ⟨k, hk, rfl, hlit, rfl⟩ := hrel
        replace hlit := Lib.hid hlit
        by_cases hlt : k < 4096
        · have c0 := hW.l0 hlt
          have c1 := hW.l1 hlt
          have hm : litC li k = decide ((li k).1 ≤ 15 ∧ (li k).2 ≤ 15) := rfl
          obtain ⟨x, hx⟩ : ∃ x, (li k).1 = x := ⟨_, rfl⟩
          obtain ⟨y, hy⟩ : ∃ y, (li k).2 = y := ⟨_, rfl⟩
          rw [hx] at c0 hm
          rw [hy] at c1 hm
          clear hx hy
          replace hm := Lib.hid hm
          by_cases hx : 15 < x
          · go_wp2_with fail
            go_ret
            exact ⟨ret_int (checkE_2 hall.out hlt (by rw [hm.out]; simp; omega)).symm, HB.out⟩
          · by_cases hy : 15 < y
            · go_wp2_with fail
              go_ret
              exact ⟨ret_int (checkE_2 hall.out hlt (by rw [hm.out]; simp; omega)).symm, HB.out⟩
            · go_wp2_with fail
              go_roundw
              case rel => exact ⟨k + 1, by omega, by go_num, fun j hj => by
                by_cases e : j = k
                · subst e; rw [hm.out]; simp; omega
                · exact hlit.out j (by omega), trivial⟩
              case measure => simp [intOf]; omega
        · obtain rfl : k = 4096 := by omega
          clear hlt hk
          obtain ⟨base, cap, rfl, hn, hc, hr⟩ := (ht.keep HB.out).open
          have ct := hW.tk
          obtain ⟨n, hnn⟩ : ∃ n, ts.length = n := ⟨_, rfl⟩
          rw [hnn] at ct hn
          replace hnn := Lib.hid hnn
          replace hr := Lib.hid hr
          unfold maxLen at hc
          go_wp2_with fail
          go_loopw [5, 49] (fun l i W' => ∃ (k : Nat) (last : Int), k ≤ n ∧ i = .int .i64 k ∧ l = .int .i64 last ∧ tOk (-1) ts = tOk last (ts.drop k) ∧ Below wr.heap.size wr W') (fun _ i _ => n - (intOf i).toNat)
          case atStart => exact ⟨0, -1, by omega, rfl, rfl, by rw [List.drop_zero], Below.refl _ _⟩
          case round =>
            obtain ⟨k, last, hk, rfl, rfl, hto, HB2⟩ := hrel
            replace hto := Lib.hid hto
            by_cases hlt : k < n
            · have hne : ts ≠ [] := fun e => by have := hnn.out; rw [e] at this; simp at this; omega
              obtain ⟨tb, off, rfl, hcell⟩ := hr.out hne
              obtain ⟨t, hkt⟩ : ∃ t, ts[k]? = some t := ⟨_, List.getElem?_eq_getElem (by rw [hnn.out]; exact hlt)⟩
              obtain ⟨d0', d1'⟩ := hcell k t hkt
              have d0 := (HB2.cell (World.block_lt_of_cell? _ _ d0')).trans d0'
              have d1 := (HB2.cell (World.block_lt_of_cell? _ _ d1')).trans d1'
              clear d0' d1'
              replace hcell := Lib.hid hcell
              have hst := hto.out.trans (tOk_step hkt)
              replace hst := Lib.hid hst
              replace hkt := Lib.hid hkt
              have hok : tickOk last t = decide (last < t.1 ∧ t.1 < 4096 ∧ 1 ≤ t.2 ∧ t.2 ≤ 2199023255552) := rfl
              obtain ⟨x, hx⟩ : ∃ x, t.1 = x := ⟨_, rfl⟩
              obtain ⟨y, hy⟩ : ∃ y, t.2 = y := ⟨_, rfl⟩
              have hst2 : tOk (-1) ts = (decide (last < x ∧ x < 4096 ∧ 1 ≤ y ∧ y ≤ 2199023255552) && tOk x (ts.drop (k + 1))) := by rw [hst.out, hok, hx, hy]
              rw [hx] at d0
              rw [hy] at d1
              clear hx hy hok
              replace hst2 := Lib.hid hst2
              have hz2 := HB2.size
              have Hend := HB.out.trans (HB2.mono HB.out.size)
              replace HB2 := Lib.hid HB2
              replace Hend := Lib.hid Hend
              by_cases q1 : x ≤ last
              · go_wp2_with fail
                go_ret
                exact ⟨ret_int (checkE_4 hall.out hlit.out (by rw [hst2.out]; simp; omega)).symm, Hend.out.alloc (by have := Hend.out.size; omega) _⟩
              by_cases q2 : 4096 ≤ x
              · go_wp2_with fail
                go_ret
                exact ⟨ret_int (checkE_4 hall.out hlit.out (by rw [hst2.out]; simp; omega)).symm, Hend.out.alloc (by have := Hend.out.size; omega) _⟩
              by_cases q3 : y < 1
              · go_wp2_with fail
                go_ret
                exact ⟨ret_int (checkE_4 hall.out hlit.out (by rw [hst2.out]; simp; omega)).symm, Hend.out.alloc (by have := Hend.out.size; omega) _⟩
              by_cases q4 : 2199023255552 < y
              · go_wp2_with fail
                go_ret
                exact ⟨ret_int (checkE_4 hall.out hlit.out (by rw [hst2.out]; simp; omega)).symm, Hend.out.alloc (by have := Hend.out.size; omega) _⟩
              go_wp2_with fail
              go_roundw
              case rel => exact ⟨k + 1, x, by omega, by go_num, rfl, by rw [hst2.out]; simp; omega, HB2.out.alloc (by omega) _⟩
              case measure => simp [intOf]; omega
            · obtain rfl : k = n := by omega
              have Hend := HB.out.trans (HB2.mono HB.out.size)
              replace Hend := Lib.hid Hend
              replace HB2 := Lib.hid HB2
              go_wp2_with fail
              go_ret
              exact ⟨ret_int (checkE_0 hall.out hlit.out (by rw [hto.out, List.drop_of_length_le (by rw [hnn.out]; omega)]; rfl)).symm, Hend.out⟩
end Go.Proofs.Ytlaodkolkoefgaa
