/-
  Whether a chunk may be: chunk.Check and the document's.
-/
import Derived.Test.YtpdckjbknphelaaMg3
namespace Go.Proofs.Ytpdckjbknphelaa
open Go.RowKit
set_option linter.unusedSimpArgs false
set_option linter.unusedVariables false

def allN (p : Nat → Bool) : Nat → Bool
  | 0 => true
  | n + 1 => allN p n && p n
theorem allN_iff (p : Nat → Bool) : ∀ n, allN p n = true ↔ ∀ i, i < n → p i = true
  | 0 => by simp [allN]
  | n + 1 => by
    unfold allN
    rw [Bool.and_eq_true, allN_iff p n]
    exact ⟨fun ⟨h1, h2⟩ i hi => by
      by_cases e : i = n
      · subst e; exact h2
      · exact h1 i (by omega), fun h => ⟨fun i hi => h i (by omega), h n (by omega)⟩⟩
theorem allN_no {p : Nat → Bool} {n i : Nat} (hi : i < n) (h : p i = false) : allN p n = false := by
  cases hh : allN p n with
  | false => rfl
  | true => rw [(allN_iff p n).1 hh i hi] at h; cases h

def tickOk (last : Int) (t : Int × Int) : Bool := decide (last < t.1 ∧ t.1 < 4096 ∧ 1 ≤ t.2 ∧ t.2 ≤ 2199023255552)
def tOk : Int → List (Int × Int) → Bool
  | _, [] => true
  | last, t :: r => tickOk last t && tOk t.1 r
def mayC (ce : Nat → Int × Int) (i : Nat) : Bool := mayK (ce i).1 (ce i).2
def litC (li : Nat → Int × Int) (i : Nat) : Bool := decide ((li i).1 ≤ 15 ∧ (li i).2 ≤ 15)
def checkE (ce li : Nat → Int × Int) (ts : List (Int × Int)) : Int :=
  if allN (mayC ce) 4096 then (if allN (litC li) 4096 then (if tOk (-1) ts then 0 else 4) else 2) else 11
theorem checkE_11 {ce li : Nat → Int × Int} {ts : List (Int × Int)} {i : Nat} (hi : i < 4096) (h : mayC ce i = false) : checkE ce li ts = 11 := by
  unfold checkE; rw [allN_no hi h]; rfl
theorem checkE_2 {ce li : Nat → Int × Int} {ts : List (Int × Int)} {i : Nat} (h0 : ∀ i, i < 4096 → mayC ce i = true) (hi : i < 4096) (h : litC li i = false) : checkE ce li ts = 2 := by
  unfold checkE; rw [(allN_iff _ _).2 h0, allN_no hi h]; rfl
theorem checkE_4 {ce li : Nat → Int × Int} {ts : List (Int × Int)} (h0 : ∀ i, i < 4096 → mayC ce i = true) (h1 : ∀ i, i < 4096 → litC li i = true) (h : tOk (-1) ts = false) : checkE ce li ts = 4 := by
  unfold checkE; rw [(allN_iff _ _).2 h0, (allN_iff _ _).2 h1, h]; rfl
theorem checkE_0 {ce li : Nat → Int × Int} {ts : List (Int × Int)} (h0 : ∀ i, i < 4096 → mayC ce i = true) (h1 : ∀ i, i < 4096 → litC li i = true) (h : tOk (-1) ts = true) : checkE ce li ts = 0 := by
  unfold checkE; rw [(allN_iff _ _).2 h0, (allN_iff _ _).2 h1, h]; rfl
theorem tOk_step {last : Int} {ts : List (Int × Int)} {k : Nat} {t : Int × Int} (ht : ts[k]? = some t) : tOk last (ts.drop k) = (tickOk last t && tOk t.1 (ts.drop (k + 1))) := by
  have hk := (List.getElem?_eq_some_iff.1 ht).1
  rw [List.drop_eq_getElem_cons hk]
  have : ts[k] = t := by rw [List.getElem?_eq_getElem hk] at ht; exact Option.some.inj ht
  rw [this]
  rfl

set_option maxRecDepth 100000 in
set_option maxHeartbeats 8000000 in
theorem check_calls (b : Nat) (ce li : Nat → Int × Int) (s : Value) (ts : List (Int × Int)) (w : World) (h : Ck w b ce li s) (ht : TRow w s ts) (hu : U8 ce) :
    Calls Try.prog 52 #[.pointer (some ⟨b, 0, none⟩)] w fun e w' => e = .returned (.int .i64 (checkE ce li ts)) ∧ Below w.heap.size w w' := by
  replace hu := Lib.hid hu
  go_enter Try.func52, Try.ntmps52
  go_wp2_with fail
  go_loopw [10] (fun i W => ∃ k : Nat, k ≤ 4096 ∧ i = .int .i64 k ∧ (∀ j, j < k → mayC ce j = true) ∧ Below w.heap.size w W) (fun i _ => 4096 - (intOf i).toNat)
  case atStart => exact ⟨0, by omega, rfl, fun _ h => absurd h (Nat.not_lt_zero _), Below.refl _ _⟩
  case round =>
    obtain ⟨k, hk, rfl, hall, HB⟩ := hrel
    have hW := h.below HB h.lt
    replace hall := Lib.hid hall
    by_cases hlt : k < 4096
    · have c0 := hW.c0 hlt
      have c1 := hW.c1 hlt
      have hz := HB.size
      have bd := hu.out k
      obtain ⟨x, hx⟩ : ∃ x, (ce k).1 = x := ⟨_, rfl⟩
      obtain ⟨y, hy⟩ : ∃ y, (ce k).2 = y := ⟨_, rfl⟩
      have hm : mayC ce k = mayK x y := by rw [← hx, ← hy]; rfl
      rw [hx] at c0 bd
      rw [hy] at c1 bd
      clear hx hy
      replace HB := Lib.hid HB
      cases hv : mayK x y
      · have hcal := kmay_calls x y
        rw [hv] at hm hcal
        clear hv
        replace hcal := Lib.hid hcal
        replace hm := Lib.hid hm
        go_wp2_with fail
        refine (hcal.out _ bd.1 bd.2.1 bd.2.2.1).mono ?_
        rintro e w1 ⟨rfl, hb⟩
        replace HB := Lib.hid (below_step HB.out hz hb)
        go_wp2_with fail
        go_ret
        exact ⟨ret_int (checkE_11 hlt hm.out).symm, HB.out⟩
      · have hcal := kmay_calls x y
        rw [hv] at hm hcal
        clear hv
        replace hcal := Lib.hid hcal
        replace hm := Lib.hid hm
        go_wp2_with fail
        refine (hcal.out _ bd.1 bd.2.1 bd.2.2.1).mono ?_
        rintro e w1 ⟨rfl, hb⟩
        replace HB := Lib.hid (below_step HB.out hz hb)
        go_wp2_with fail
        go_roundw
        case rel => exact ⟨k + 1, by omega, by go_num, fun j hj => by
          by_cases e : j = k
          · subst e; exact hm.out
          · exact hall.out j (by omega), HB.out⟩
        case measure => simp [intOf]; omega
    · obtain rfl : k = 4096 := by omega
      clear hlt hk
      replace HB := Lib.hid HB
      go_wp2_with fail
      go_loopw [22] (fun i W' => ∃ k : Nat, k ≤ 4096 ∧ i = .int .i64 k ∧ (∀ j, j < k → litC li j = true) ∧ W' = wr) (fun i _ => 4096 - (intOf i).toNat)
      case atStart => exact ⟨0, by omega, rfl, fun _ h => absurd h (Nat.not_lt_zero _), rfl⟩
      case round =>
        obtain ⟨k, hk, rfl, hlit, rfl⟩ := hrel
        replace hlit := Lib.hid hlit
        by_cases hlt : k < 4096
        · have c0 := hW.l0 hlt
          have c1 := hW.l1 hlt
          have hm : litC li k = decide ((li k).1 ≤ 15 ∧ (li k).2 ≤ 15) := rfl
          obtain ⟨x, hx⟩ : ∃ x, (li k).1 = x := ⟨_, rfl⟩
          obtain ⟨y, hy⟩ : ∃ y, (li k).2 = y := ⟨_, rfl⟩
          rw [hx] at c0 hm
          rw [hy] at c1 hm
          clear hx hy
          replace hm := Lib.hid hm
          by_cases hx : 15 < x
          · go_wp2_with fail
            go_ret
            exact ⟨ret_int (checkE_2 hall.out hlt (by rw [hm.out]; simp; omega)).symm, HB.out⟩
          · by_cases hy : 15 < y
            · go_wp2_with fail
              go_ret
              exact ⟨ret_int (checkE_2 hall.out hlt (by rw [hm.out]; simp; omega)).symm, HB.out⟩
            · go_wp2_with fail
              go_roundw
              case rel => exact ⟨k + 1, by omega, by go_num, fun j hj => by
                by_cases e : j = k
                · subst e; rw [hm.out]; simp; omega
                · exact hlit.out j (by omega), trivial⟩
              case measure => simp [intOf]; omega
        · obtain rfl : k = 4096 := by omega
          clear hlt hk
          obtain ⟨base, cap, rfl, hn, hc, hr⟩ := (ht.keep HB.out).open
          have ct := hW.tk
          obtain ⟨n, hnn⟩ : ∃ n, ts.length = n := ⟨_, rfl⟩
          rw [hnn] at ct hn
          replace hnn := Lib.hid hnn
          replace hr := Lib.hid hr
          unfold maxLen at hc
          go_wp2_with fail
          go_loopw [5, 49] (fun l i W' => ∃ (k : Nat) (last : Int), k ≤ n ∧ i = .int .i64 k ∧ l = .int .i64 last ∧ tOk (-1) ts = tOk last (ts.drop k) ∧ Below wr.heap.size wr W') (fun _ i _ => n - (intOf i).toNat)
          case atStart => exact ⟨0, -1, by omega, rfl, rfl, by rw [List.drop_zero], Below.refl _ _⟩
          case round =>
            obtain ⟨k, last, hk, rfl, rfl, hto, HB2⟩ := hrel
            replace hto := Lib.hid hto
            by_cases hlt : k < n
            · have hne : ts ≠ [] := fun e => by have := hnn.out; rw [e] at this; simp at this; omega
              obtain ⟨tb, off, rfl, hcell⟩ := hr.out hne
              obtain ⟨t, hkt⟩ : ∃ t, ts[k]? = some t := ⟨_, List.getElem?_eq_getElem (by rw [hnn.out]; exact hlt)⟩
              obtain ⟨d0', d1'⟩ := hcell k t hkt
              have d0 := (HB2.cell (World.block_lt_of_cell? _ _ d0')).trans d0'
              have d1 := (HB2.cell (World.block_lt_of_cell? _ _ d1')).trans d1'
              clear d0' d1'
              replace hcell := Lib.hid hcell
              have hst := hto.out.trans (tOk_step hkt)
              replace hst := Lib.hid hst
              replace hkt := Lib.hid hkt
              have hok : tickOk last t = decide (last < t.1 ∧ t.1 < 4096 ∧ 1 ≤ t.2 ∧ t.2 ≤ 2199023255552) := rfl
              obtain ⟨x, hx⟩ : ∃ x, t.1 = x := ⟨_, rfl⟩
              obtain ⟨y, hy⟩ : ∃ y, t.2 = y := ⟨_, rfl⟩
              have hst2 : tOk (-1) ts = (decide (last < x ∧ x < 4096 ∧ 1 ≤ y ∧ y ≤ 2199023255552) && tOk x (ts.drop (k + 1))) := by rw [hst.out, hok, hx, hy]
              rw [hx] at d0
              rw [hy] at d1
              clear hx hy hok
              replace hst2 := Lib.hid hst2
              have hz2 := HB2.size
              have Hend := HB.out.trans (HB2.mono HB.out.size)
              replace HB2 := Lib.hid HB2
              replace Hend := Lib.hid Hend
              by_cases q1 : x ≤ last
              · go_wp2_with fail
                go_ret
                exact ⟨ret_int (checkE_4 hall.out hlit.out (by rw [hst2.out]; simp; omega)).symm, Hend.out.alloc (by have := Hend.out.size; omega) _⟩
              by_cases q2 : 4096 ≤ x
              · go_wp2_with fail
                go_ret
                exact ⟨ret_int (checkE_4 hall.out hlit.out (by rw [hst2.out]; simp; omega)).symm, Hend.out.alloc (by have := Hend.out.size; omega) _⟩
              by_cases q3 : y < 1
              · go_wp2_with fail
                go_ret
                exact ⟨ret_int (checkE_4 hall.out hlit.out (by rw [hst2.out]; simp; omega)).symm, Hend.out.alloc (by have := Hend.out.size; omega) _⟩
              by_cases q4 : 2199023255552 < y
              · go_wp2_with fail
                go_ret
                exact ⟨ret_int (checkE_4 hall.out hlit.out (by rw [hst2.out]; simp; omega)).symm, Hend.out.alloc (by have := Hend.out.size; omega) _⟩
              go_wp2_with fail
              go_roundw
              case rel => exact ⟨k + 1, x, by omega, by go_num, rfl, by rw [hst2.out]; simp; omega, HB2.out.alloc (by omega) _⟩
              case measure => simp [intOf]; omega
            · obtain rfl : k = n := by omega
              have Hend := HB.out.trans (HB2.mono HB.out.size)
              replace Hend := Lib.hid Hend
              replace HB2 := Lib.hid HB2
              go_wp2_with fail
              go_ret
              exact ⟨ret_int (checkE_0 hall.out hlit.out (by rw [hto.out, List.drop_of_length_le (by rw [hnn.out]; omega)]; rfl)).symm, Hend.out⟩
end Go.Proofs.Ytpdckjbknphelaa
