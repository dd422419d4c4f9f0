/-
  The document's answers of layer 7 that read a list of ticks: place, Due, Least, Ticks.
-/
import Derived.Test.YtlaodkolkoefgaaMg10
import Derived.Test.YtlaodkolkoefgaaMg9
namespace Go.Proofs.Ytlaodkolkoefgaa
open Go.RowKit
set_option linter.unusedSimpArgs false
set_option linter.unusedVariables false

set_option maxRecDepth 100000 in
set_option maxHeartbeats 2000000 in
theorem rplace_calls (s : Value) (ts : List (Int × Int)) (x : Int) (w : World) (ht : TRow w s ts) :
    Calls Try.prog 67 #[s, .int .i64 x] w fun e w' => e = .returned (.int .i64 (optI (placeL ts x))) ∧ w' = w := by
  obtain ⟨base, cap, rfl, hn, hc, hr⟩ := ht.open
  obtain ⟨n, hnn⟩ : ∃ n, ts.length = n := ⟨_, rfl⟩
  rw [hnn] at hn ⊢
  replace hnn := Lib.hid hnn
  replace hr := Lib.hid hr
  unfold maxLen at hc
  go_enter Try.func67, Try.ntmps67
  go_wp2_with fail
  go_loop [5] (fun i => ∃ k : Nat, k ≤ n ∧ i = .int .i64 k ∧ (0 < k → 0 ≤ x ∧ x < 4096) ∧ (∀ (j : Nat) (t : Tk), j < k → ts[j]? = some t → t.1 ≠ x)) (fun i => n - (intOf i).toNat)
  case atStart => exact ⟨0, by omega, rfl, fun h => by omega, fun _ _ h => absurd h (Nat.not_lt_zero _)⟩
  case round =>
    obtain ⟨k, hk, rfl, hr1, hno⟩ := hrel
    replace hno := Lib.hid hno
    replace hr1 := Lib.hid hr1
    have hend : (¬ (0 ≤ x ∧ x < 4096)) → optI (placeL ts x) = -1 := fun h => by rw [placeL_out h]; rfl
    by_cases hlt : k < n
    · by_cases q1 : 0 ≤ x
      · by_cases q2 : x ≤ 4095
        · have hne : ts ≠ [] := fun e => by have := hnn.out; rw [e] at this; simp at this; omega
          obtain ⟨tb, off, rfl, hcell⟩ := hr.out hne
          obtain ⟨t, hkt⟩ : ∃ t, ts[k]? = some t := ⟨_, List.getElem?_eq_getElem (by rw [hnn.out]; exact hlt)⟩
          obtain ⟨d0, d1⟩ := hcell k t hkt
          replace hcell := Lib.hid hcell
          replace hkt := Lib.hid hkt
          replace hend := Lib.hid hend
          obtain ⟨u, hu⟩ : ∃ u, t.1 = u := ⟨_, rfl⟩
          rw [hu] at d0
          replace hu := Lib.hid hu
          by_cases q3 : u = x
          · have q3' : (u == x) = true := by simp [q3]
            replace q3 := Lib.hid q3
            go_wp2_with fail
            go_ret
            exact ⟨ret_int (by rw [placeL_some q1 (by omega) hkt.out (by rw [hu.out]; exact q3.out) hno.out]; rfl), rfl⟩
          · have q3' : (u == x) = false := by simp [q3]
            replace q3 := Lib.hid q3
            go_wp2_with fail
            go_round
            case rel => exact ⟨k + 1, by omega, by go_num, fun _ => by omega, fun j t' hj h' => by
              by_cases e : j = k
              · subst e
                rw [hkt.out] at h'
                obtain rfl := Option.some.inj h'
                rw [hu.out]; exact q3.out
              · exact hno.out j t' (by omega) h'⟩
            case measure => simp [intOf]; omega
        · replace hend := Lib.hid hend
          go_wp2_with fail
          go_ret
          exact ⟨ret_int (hend.out (by omega)).symm, rfl⟩
      · replace hend := Lib.hid hend
        go_wp2_with fail
        go_ret
        exact ⟨ret_int (hend.out (by omega)).symm, rfl⟩
    · obtain rfl : k = n := by omega
      replace hend := Lib.hid hend
      go_wp2_with fail
      go_ret
      exact ⟨ret_int (by rw [placeL_none (fun j t' h' => hno.out j t' (by have := (List.getElem?_eq_some_iff.1 h').1; rw [hnn.out] at this; exact this) h')]; rfl), rfl⟩

set_option maxRecDepth 100000 in
set_option maxHeartbeats 2000000 in
theorem rdue_calls (s : Value) (ts : List (Int × Int)) (x : Int) (w : World) (ht : TRow w s ts) :
    Calls Try.prog 50 #[s, .int .i64 x] w fun e w' => e = .returned (.int .i64 (dueL ts x)) ∧ w' = w := by
  have hcal := rplace_calls s ts x w ht
  obtain ⟨base, cap, rfl, hn, hc, hr⟩ := ht.open
  unfold maxLen at hc
  cases hp : placeL ts x with
  | none =>
    have hd := dueL_none hp
    rw [hp] at hcal
    rw [hd]
    replace hcal := Lib.hid hcal
    clear hp hd hr
    go_enter Try.func50, Try.ntmps50
    go_wp2_with fail
    refine hcal.out.mono ?_
    rintro e w1 ⟨rfl, rfl⟩
    unfold optI
    go_wp2_with fail
    go_ret
    exact ⟨rfl, rfl⟩
  | some k =>
    obtain ⟨h0, h1, hk, t, hkt, _⟩ := placeL_inv hp
    have hd := dueL_some hp hkt
    rw [hp] at hcal
    rw [hd]
    obtain ⟨tb, off, rfl, hcell⟩ := hr (fun e => by subst e; simp at hk)
    obtain ⟨d0, d1⟩ := hcell k t hkt
    replace hcal := Lib.hid hcal
    replace hkt := Lib.hid hkt
    clear hp hd hr hcell
    go_enter Try.func50, Try.ntmps50
    go_wp2_with fail
    refine hcal.out.mono ?_
    rintro e w1 ⟨rfl, rfl⟩
    unfold optI
    go_wp2_with fail
    go_ret
    exact ⟨rfl, rfl⟩

set_option maxRecDepth 100000 in
set_option maxHeartbeats 2000000 in
theorem rleast_calls (s : Value) (ts : List (Int × Int)) (w : World) (ht : TRow w s ts) :
    Calls Try.prog 54 #[s] w fun e w' => e = .returned (.int .i64 (leastL ts)) ∧ w' = w := by
  obtain ⟨base, cap, rfl, hn, hc, hr⟩ := ht.open
  obtain ⟨n, hnn⟩ : ∃ n, ts.length = n := ⟨_, rfl⟩
  rw [hnn] at hn ⊢
  replace hnn := Lib.hid hnn
  replace hr := Lib.hid hr
  unfold maxLen at hc
  go_enter Try.func54, Try.ntmps54
  go_wp2_with fail
  go_loop [3, 4] (fun m i => ∃ k : Nat, k ≤ n ∧ i = .int .i64 k ∧ m = .int .i64 (leastL (ts.take k))) (fun _ i => n - (intOf i).toNat)
  case atStart => exact ⟨0, by omega, rfl, rfl⟩
  case round =>
    obtain ⟨k, hk, rfl, rfl⟩ := hrel
    by_cases hlt : k < n
    · have hne : ts ≠ [] := fun e => by have := hnn.out; rw [e] at this; simp at this; omega
      obtain ⟨tb, off, rfl, hcell⟩ := hr.out hne
      obtain ⟨t, hkt⟩ : ∃ t, ts[k]? = some t := ⟨_, List.getElem?_eq_getElem (by rw [hnn.out]; exact hlt)⟩
      obtain ⟨d0, d1⟩ := hcell k t hkt
      have hst := leastL_step hkt
      replace hst := Lib.hid hst
      replace hcell := Lib.hid hcell
      replace hkt := Lib.hid hkt
      obtain ⟨L, hL⟩ : ∃ L, leastL (ts.take k) = L := ⟨_, rfl⟩
      obtain ⟨u, hu⟩ : ∃ u, t.2 = u := ⟨_, rfl⟩
      rw [hu] at d1
      rw [hL]
      replace hu := Lib.hid hu
      replace hL := Lib.hid hL
      by_cases k0 : k = 0
      · subst k0
        go_wp2_with fail
        go_round
        case rel => exact ⟨1, by omega, by go_num, by rw [hst.out, if_pos rfl, hu.out]⟩
        case measure => simp [intOf]; omega
      · by_cases q : u < L
        · go_wp2_with fail
          go_round
          case rel => exact ⟨k + 1, by omega, by go_num, by rw [hst.out, if_neg k0, hu.out, hL.out, if_pos q]⟩
          case measure => simp [intOf]; omega
        · go_wp2_with fail
          go_round
          case rel => exact ⟨k + 1, by omega, by go_num, by rw [hst.out, if_neg k0, hu.out, hL.out, if_neg q]⟩
          case measure => simp [intOf]; omega
    · obtain rfl : k = n := by omega
      go_wp2_with fail
      go_ret
      exact ⟨ret_int (by rw [List.take_of_length_le (by rw [hnn.out]; omega)]), rfl⟩
end Go.Proofs.Ytlaodkolkoefgaa

/-
  A frame's ticks, by indexes.
-/
namespace Go.Proofs.Ytlaodkolkoefgaa
open Go.RowKit
set_option linter.unusedSimpArgs false
set_option linter.unusedVariables false

/-- The ticks of the first k cells. -/
def tickD (g : Nat → Int) : Nat → List Tk
  | 0 => []
  | k + 1 => tickD g k ++ (if 0 < g k then [((k : Int), g k)] else [])
theorem tickD_len (g : Nat → Int) : ∀ k, (tickD g k).length ≤ k
  | 0 => Nat.le_refl _
  | k + 1 => by
    have := tickD_len g k
    unfold tickD
    rw [List.length_append]
    split <;> simp <;> omega

set_option maxRecDepth 100000 in
set_option maxHeartbeats 4000000 in
theorem pticks_in (pb sb tb n : Nat) (ce li : Nat → Int × Int) (du : Nat → Int) (tk : Nat → Bool) (f : Nat) (w : World) (h : Po w pb sb tb n ce li du tk) (hf : f < n) :
    Calls Try.prog 33 #[.pointer (some ⟨pb, 0, none⟩), .int .i64 f] w fun e w' => ∃ v, e = .returned v ∧ TOwn w' w.heap.size v (tickD (fun i => du (f * 4096 + i)) 4096) ∧ Below w.heap.size w w' := by
  have hc := frame_in pb sb tb n f w h.pool h.n64 hf
  have hn64 := h.n64
  obtain ⟨g, hg⟩ : ∃ g : Nat → Int, (fun i => du (f * 4096 + i)) = g := ⟨_, rfl⟩
  have hgb : ∀ i, 0 ≤ g i ∧ g i ≤ 2199023255552 := fun i => by rw [← hg]; exact h.dub _
  have hu : ∀ (W : World) (k C : Nat), Below w.heap.size w W → k < 4096 → 10 ≤ C → C ≤ 40960 → Calls Try.prog 35 #[.slice (some ⟨sb, f * 40960 + k * 10, none⟩) 10 C] W fun e w' => e = .returned (.int .i64 (g k)) ∧ w' = W := fun W k C hb hk h10 hC =>
    fdue_calls sb (f * 40960 + k * 10) 10 C (g k) W (hgb k).1 (by have := (hgb k).2; omega) (Nat.le_refl _) (by omega) h10 (fun b hb6 => by
      rw [(h.keep hb).slab.cell (by omega), show f * 40960 + k * 10 + (4 + b) = (f * 4096 + k) * 10 + (4 + b) by omega, slabF_4 _ hb6, ← hg])
  rw [hg]
  replace hc := Lib.hid hc
  replace hu := Lib.hid hu
  replace hgb := Lib.hid hgb
  clear h hg
  go_enter Try.func33, Try.ntmps33
  go_wp2_with fail
  refine hc.out.mono ?_
  rintro e w1 ⟨rfl, rfl⟩
  clear hc
  go_wp2_with fail
  go_loopw [4, 6] (fun v i W => ∃ k : Nat, k ≤ 4096 ∧ i = .int .i64 ((k : Int) * 10) ∧ TOwn W w1.heap.size v (tickD g k) ∧ Below w1.heap.size w1 W) (fun _ i _ => 40960 - (intOf i).toNat)
  case atStart => exact ⟨0, by omega, rfl, TOwn.nil _ _, Below.refl _ _⟩
  case round =>
    obtain ⟨k, hk, rfl, hown, HB⟩ := hrel
    have hz := HB.size
    have hlen := tickD_len g k
    have hwb : IntKind.i64.wrap ((k : Int) * 10 + 10) = (k : Int) * 10 + 10 := IntWalk.i64_in _ (by omega)
    by_cases hlt : k < 4096
    · have hcal := hu.out wr k (40960 - k * 10) HB hlt (by omega) (by omega)
      have hst : tickD g (k + 1) = tickD g k ++ (if 0 < g k then [((k : Int), g k)] else []) := rfl
      have hgk := hgb.out k
      obtain ⟨G, hG⟩ : ∃ G, g k = G := ⟨_, rfl⟩
      rw [hG] at hcal hst hgk
      have hkz : (k : Int) * 10 < 40960 := by omega
      have hkn : ((k : Int) * 10).toNat = k * 10 := by omega
      have hkn2 : ((k : Int) * 10 + 10).toNat = k * 10 + 10 := by omega
      replace hcal := Lib.hid hcal
      replace hst := Lib.hid hst
      replace hown := Lib.hid hown
      replace HB := Lib.hid HB
      clear hG
      go_wp2_with fail
      refine hcal.out.mono ?_
      rintro e W2 ⟨rfl, rfl⟩
      clear hcal
      have hq1 : (k : Int) * 10 / 10 = k := by omega
      have hq2 : ((k : Int) * 10).tdiv 10 = k := by rw [Int.tdiv_eq_ediv_of_nonneg (by omega)]; exact hq1
      by_cases hp : 0 < G
      · have hst2 := hst.out
        rw [if_pos hp] at hst2
        clear hst
        replace hst2 := Lib.hid hst2
        go_wp2_with (at_builtin; refine wpList_append_ticks rfl (.tmp 25) (.tmp 30) rfl rfl rfl (hown.out.alloc _) (trow_one (Blk.new_at _ _ (by simp))) (by simp; omega) (by simp; omega) ?_)
        intro v' w' h4 h5 h6
        have HB2 := below_own (HB.out.alloc hz _) (hown.out.alloc _) h5 (by simp; omega)
        rw [← hst2.out] at h4
        replace h4 := Lib.hid h4
        replace HB2 := Lib.hid HB2
        clear h5 h6
        go_wp2_with fail
        go_roundw
        case rel => exact ⟨k + 1, by omega, by go_num, h4.out, HB2.out⟩
        case measure => simp [intOf]; omega
      · have hst2 := hst.out
        rw [if_neg hp, List.append_nil] at hst2
        clear hst
        have hG0 : G = 0 := by omega
        have hpd : decide (0 < G) = false := by simp; omega
        replace hst2 := Lib.hid hst2
        replace hG0 := Lib.hid hG0
        go_wp2_with fail
        go_roundw
        case rel => exact ⟨k + 1, by omega, by go_num, by rw [hst2.out]; exact hown.out, HB.out⟩
        case measure => simp [intOf]; omega
    · obtain rfl : k = 4096 := by omega
      replace hown := Lib.hid hown
      replace HB := Lib.hid HB
      go_wp2_with fail
      go_ret
      exact ⟨_, rfl, hown.out, HB.out⟩
set_option maxRecDepth 100000 in
set_option maxHeartbeats 4000000 in
theorem pticks_none (p : Option Addr) (f : Int) (w : World) (hc : Calls Try.prog 29 #[.pointer p, .int .i64 f] w fun e w' => e = .returned (.slice none 0 0) ∧ w' = w) :
    Calls Try.prog 33 #[.pointer p, .int .i64 f] w fun e w' => e = .returned (.slice none 0 0) ∧ w' = w := by
  replace hc := Lib.hid hc
  go_enter Try.func33, Try.ntmps33
  go_wp2_with fail
  refine hc.out.mono ?_
  rintro e w1 ⟨rfl, rfl⟩
  clear hc
  go_wp2_with fail
  go_loop [4, 6] (fun v i => v = .slice none 0 0 ∧ i = .int .i64 0) (fun _ _ => 1)
  case atStart => exact ⟨rfl, rfl⟩
  case round =>
    obtain ⟨rfl, rfl⟩ := hrel
    go_wp2_with fail
    go_ret
    exact ⟨rfl, rfl⟩
/-- What a frame's ticks are. -/
def tickF (n : Nat) (du : Nat → Int) (f : Int) : List Tk := if 0 ≤ f ∧ f < n then tickD (fun i => du (f.toNat * 4096 + i)) 4096 else []
theorem pticks_calls (pb sb tb n : Nat) (ce li : Nat → Int × Int) (du : Nat → Int) (tk : Nat → Bool) (f : Int) (w : World) (h : Po w pb sb tb n ce li du tk) :
    Calls Try.prog 33 #[.pointer (some ⟨pb, 0, none⟩), .int .i64 f] w fun e w' => ∃ v, e = .returned v ∧ TOwn w' w.heap.size v (tickF n du f) ∧ Below w.heap.size w w' := by
  unfold tickF
  by_cases hf : 0 ≤ f ∧ f < n
  · rw [if_pos hf]
    obtain ⟨m, rfl⟩ : ∃ m : Nat, f = (m : Int) := ⟨f.toNat, by omega⟩
    simp only [Int.toNat_natCast]
    exact pticks_in pb sb tb n ce li du tk m w h (by omega)
  · rw [if_neg hf]
    exact (pticks_none _ f w (frame_out pb n n _ f w h.c1 (by have := h.n64; omega) (Nat.le_refl _) hf)).mono fun _ _ ⟨he, hw⟩ => ⟨_, he, TOwn.nil _ _, by rw [hw]; exact Below.refl _ _⟩
end Go.Proofs.Ytlaodkolkoefgaa
