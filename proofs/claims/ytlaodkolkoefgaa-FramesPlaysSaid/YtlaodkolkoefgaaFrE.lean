/-
  A cell of a frame is woken, dropped.
-/
import Derived.Test.YtlaodkolkoefgaaFrD
namespace Go.Proofs.Ytlaodkolkoefgaa
open Go.RowKit
set_option linter.unusedSimpArgs false
set_option linter.unusedVariables false

theorem Po.setDu {w W : World} {pb sb tb n : Nat} {ce li : Nat → Int × Int} {du : Nat → Int} {tk : Nat → Bool} (h : Po w pb sb tb n ce li du tk) (c : Nat) {d : Int} (hd : 0 ≤ d ∧ d ≤ 2199023255552) (hr : Row1 W sb 5 (n * 40960) (dueS (slabF ce li du) (c * 10) d)) (hb : But sb w W) : Po W pb sb tb n ce li (updD du c d) tk :=
  h.slabBut hb (hr.congr fun i _ => slab_due c d i) (fun k => by
    unfold updD
    split
    · exact hd
    · exact h.dub k) h.uc h.ul

set_option maxRecDepth 100000 in
set_option maxHeartbeats 4000000 in
theorem pdrop_in (pb sb tb n : Nat) (ce li : Nat → Int × Int) (du : Nat → Int) (tk : Nat → Bool) (m j : Nat) (w : World) (h : Po w pb sb tb n ce li du tk) (hm : m < n) (hj : j < 4096) :
    Calls Try.prog 23 #[.pointer (some ⟨pb, 0, none⟩), .int .i64 m, .int .i64 j] w fun e w' => e = .returned (.tuple #[]) ∧ Po w' pb sb tb n ce li (updD du (m * 4096 + j) 0) tk ∧ But sb w w' := by
  have hc := cell_in pb sb tb n m j w h.pool h.n64 hm hj
  have hs := fsetdue_calls sb ((m * 4096 + j) * 10) 10 10 (n * 40960) 0 5 _ w h.slab (by omega) (Int.le_refl _) (Nat.le_refl _) (by omega) (Nat.le_refl _)
  have hfin := fun W => h.setDu (W := W) (m * 4096 + j) (d := 0) (by omega)
  have hsn := fs_ne
  replace hc := Lib.hid hc
  replace hs := Lib.hid hs
  replace hfin := Lib.hid hfin
  clear h
  go_enter Try.func23, Try.ntmps23
  go_wp2_with fail
  refine hc.out.mono ?_
  rintro e w1 ⟨rfl, rfl⟩
  clear hc
  go_wp2_with fail
  refine hs.out.mono ?_
  rintro e W2 ⟨rfl, hr2, hb2⟩
  have hend := hfin.out W2 hr2 hb2
  replace hend := Lib.hid hend
  replace hb2 := Lib.hid hb2
  clear hs hfin hr2
  go_wp2_with fail
  refine bodyPost_end (results_none rfl _ _ _) rfl ?_
  exact ⟨rfl, hend.out, hb2.out⟩
set_option maxRecDepth 100000 in
set_option maxHeartbeats 4000000 in
theorem pdrop_none (p : Option Addr) (f i : Int) (w : World) (hc : Calls Try.prog 34 #[.pointer p, .int .i64 f, .int .i64 i] w fun e w' => e = .returned (.slice none 0 0) ∧ w' = w) :
    Calls Try.prog 23 #[.pointer p, .int .i64 f, .int .i64 i] w fun e w' => e = .returned (.tuple #[]) ∧ w' = w := by
  have hsn := fs_ne
  replace hc := Lib.hid hc
  go_enter Try.func23, Try.ntmps23
  go_wp2_with fail
  refine hc.out.mono ?_
  rintro e w1 ⟨rfl, rfl⟩
  clear hc
  go_wp2_with fail
  refine bodyPost_end (results_none rfl _ _ _) rfl ?_
  exact ⟨rfl, rfl⟩
set_option maxRecDepth 100000 in
set_option maxHeartbeats 4000000 in
theorem pwake_none (p : Option Addr) (f i d : Int) (w : World) (hc : Calls Try.prog 34 #[.pointer p, .int .i64 f, .int .i64 i] w fun e w' => e = .returned (.slice none 0 0) ∧ w' = w) :
    Calls Try.prog 15 #[.pointer p, .int .i64 f, .int .i64 i, .int .i64 d] w fun e w' => e = .returned (.tuple #[]) ∧ w' = w := by
  have hse := fs_eq
  replace hc := Lib.hid hc
  go_enter Try.func15, Try.ntmps15
  go_wp2_with fail
  refine hc.out.mono ?_
  rintro e w1 ⟨rfl, rfl⟩
  clear hc
  go_wp2_with fail
  refine bodyPost_ret (results_none rfl _ _ _) rfl ?_
  exact ⟨rfl, rfl⟩
set_option maxRecDepth 100000 in
set_option maxHeartbeats 4000000 in
theorem pwake_out (pb sb tb n : Nat) (m j : Nat) (d : Int) (w : World) (hp : Blk w pb (poolC sb tb n) 61) (hn : n ≤ 64) (hm : m < n) (hj : j < 4096) (hd : ¬ (1 ≤ d ∧ d ≤ 2199023255552)) :
    Calls Try.prog 15 #[.pointer (some ⟨pb, 0, none⟩), .int .i64 m, .int .i64 j, .int .i64 d] w fun e w' => e = .returned (.tuple #[]) ∧ w' = w := by
  have hc := cell_in pb sb tb n m j w hp hn hm hj
  have hse := fs_eq
  replace hc := Lib.hid hc
  clear hp
  by_cases q1 : d < 1
  · clear hd
    go_enter Try.func15, Try.ntmps15
    go_wp2_with fail
    refine hc.out.mono ?_
    rintro e w1 ⟨rfl, rfl⟩
    clear hc
    go_wp2_with fail
    refine bodyPost_ret (results_none rfl _ _ _) rfl ?_
    exact ⟨rfl, rfl⟩
  · have q1' : decide (d < 1) = false := by simp; omega
    have q2 : 2199023255552 < d := by omega
    clear hd
    go_enter Try.func15, Try.ntmps15
    go_wp2_with fail
    refine hc.out.mono ?_
    rintro e w1 ⟨rfl, rfl⟩
    clear hc
    go_wp2_with fail
    refine bodyPost_ret (results_none rfl _ _ _) rfl ?_
    exact ⟨rfl, rfl⟩
set_option maxRecDepth 100000 in
set_option maxHeartbeats 4000000 in
theorem pwake_in (pb sb tb n : Nat) (ce li : Nat → Int × Int) (du : Nat → Int) (tk : Nat → Bool) (m j : Nat) (d : Int) (w : World) (h : Po w pb sb tb n ce li du tk) (hm : m < n) (hj : j < 4096) (hd : 1 ≤ d ∧ d ≤ 2199023255552) :
    Calls Try.prog 15 #[.pointer (some ⟨pb, 0, none⟩), .int .i64 m, .int .i64 j, .int .i64 d] w fun e w' => e = .returned (.tuple #[]) ∧ Po w' pb sb tb n ce li (if du (m * 4096 + j) = 0 ∨ d < du (m * 4096 + j) then updD du (m * 4096 + j) d else du) tk ∧ But sb w w' := by
  have hc := cell_in pb sb tb n m j w h.pool h.n64 hm hj
  have hdu := h.dub (m * 4096 + j)
  have hu := fdue_calls sb ((m * 4096 + j) * 10) 10 10 (du (m * 4096 + j)) w hdu.1 (by omega) (Nat.le_refl _) (by omega) (Nat.le_refl _) (fun b hb => by rw [h.slab.cell (by omega), slabF_4 _ hb])
  have hs := fsetdue_calls sb ((m * 4096 + j) * 10) 10 10 (n * 40960) d 5 _ w h.slab (by omega) (by omega) (Nat.le_refl _) (by omega) (Nat.le_refl _)
  have hfin := fun W => h.setDu (W := W) (m * 4096 + j) (d := d) (by omega)
  obtain ⟨z, hz⟩ : ∃ z, du (m * 4096 + j) = z := ⟨_, rfl⟩
  rw [hz] at hu ⊢
  have hse := fs_eq
  have q1 : decide (d < 1) = false := by simp; omega
  have q2 : decide (2199023255552 < d) = false := by simp; omega
  replace hc := Lib.hid hc
  replace hs := Lib.hid hs
  replace hu := Lib.hid hu
  replace hfin := Lib.hid hfin
  replace h := Lib.hid h
  clear hz hdu
  by_cases p : z = 0 ∨ d < z
  · rw [if_pos p]
    by_cases p1 : z = 0
    · have p2 : (z == 0) = true := beq_iff_eq.2 p1
      replace p1 := Lib.hid p1
      clear p
      go_enter Try.func15, Try.ntmps15
      go_wp2_with fail
      refine hc.out.mono ?_
      rintro e w1 ⟨rfl, rfl⟩
      clear hc
      go_wp2_with fail
      refine hu.out.mono ?_
      rintro e w1 ⟨rfl, rfl⟩
      clear hu
      go_wp2_with fail
      refine hs.out.mono ?_
      rintro e W2 ⟨rfl, hr2, hb2⟩
      have hend := hfin.out W2 hr2 hb2
      replace hend := Lib.hid hend
      replace hb2 := Lib.hid hb2
      clear hs hfin hr2
      go_wp2_with fail
      refine bodyPost_end (results_none rfl _ _ _) rfl ?_
      exact ⟨rfl, hend.out, hb2.out⟩
    · have p2 : (z == 0) = false := beq_eq_false_iff_ne.2 p1
      have p3 : d < z := p.resolve_left p1
      replace p1 := Lib.hid p1
      clear p
      go_enter Try.func15, Try.ntmps15
      go_wp2_with fail
      refine hc.out.mono ?_
      rintro e w1 ⟨rfl, rfl⟩
      clear hc
      go_wp2_with fail
      refine hu.out.mono ?_
      rintro e w1 ⟨rfl, rfl⟩
      clear hu
      go_wp2_with fail
      refine hs.out.mono ?_
      rintro e W2 ⟨rfl, hr2, hb2⟩
      have hend := hfin.out W2 hr2 hb2
      replace hend := Lib.hid hend
      replace hb2 := Lib.hid hb2
      clear hs hfin hr2
      go_wp2_with fail
      refine bodyPost_end (results_none rfl _ _ _) rfl ?_
      exact ⟨rfl, hend.out, hb2.out⟩
  · rw [if_neg p]
    have p1 : (z == 0) = false := beq_eq_false_iff_ne.2 (fun e => p (Or.inl e))
    have p2 : decide (d < z) = false := by simp; omega
    replace p := Lib.hid p
    go_enter Try.func15, Try.ntmps15
    go_wp2_with fail
    refine hc.out.mono ?_
    rintro e w1 ⟨rfl, rfl⟩
    clear hc
    go_wp2_with fail
    refine hu.out.mono ?_
    rintro e w1 ⟨rfl, rfl⟩
    clear hu
    go_wp2_with fail
    refine bodyPost_end (results_none rfl _ _ _) rfl ?_
    exact ⟨rfl, h.out, But.refl _ _⟩

def wakeD (n : Nat) (du : Nat → Int) (f i d : Int) : Nat → Int := if inR n f i ∧ (1 ≤ d ∧ d ≤ 2199023255552) ∧ (du (f.toNat * 4096 + i.toNat) = 0 ∨ d < du (f.toNat * 4096 + i.toNat)) then updD du (f.toNat * 4096 + i.toNat) d else du
def dropD (n : Nat) (du : Nat → Int) (f i : Int) : Nat → Int := if inR n f i then updD du (f.toNat * 4096 + i.toNat) 0 else du
theorem pwake_calls (pb sb tb n : Nat) (ce li : Nat → Int × Int) (du : Nat → Int) (tk : Nat → Bool) (f i d : Int) (w : World) (h : Po w pb sb tb n ce li du tk) :
    Calls Try.prog 15 #[.pointer (some ⟨pb, 0, none⟩), .int .i64 f, .int .i64 i, .int .i64 d] w fun e w' => e = .returned (.tuple #[]) ∧ Po w' pb sb tb n ce li (wakeD n du f i d) tk ∧ But sb w w' := by
  unfold wakeD
  by_cases hr : inR n f i
  · obtain ⟨m, j, rfl, rfl, hm, hj⟩ := inR_nat hr
    simp only [Int.toNat_natCast]
    by_cases hd : 1 ≤ d ∧ d ≤ 2199023255552
    · have := pwake_in pb sb tb n ce li du tk m j d w h hm hj hd
      by_cases hq : du (m * 4096 + j) = 0 ∨ d < du (m * 4096 + j)
      · rw [if_pos hq] at this
        rw [if_pos ⟨hr, hd, hq⟩]
        exact this
      · rw [if_neg hq] at this
        rw [if_neg (fun h => hq h.2.2)]
        exact this
    · rw [if_neg (fun h => hd h.2.1)]
      exact (pwake_out pb sb tb n m j d w h.pool h.n64 hm hj hd).mono fun _ _ ⟨he, hw⟩ => ⟨he, by rw [hw]; exact h, by rw [hw]; exact But.refl _ _⟩
  · rw [if_neg (fun h => hr h.1)]
    exact (pwake_none _ f i d w (cell_no pb sb tb n f i w h.pool h.n64 hr)).mono fun _ _ ⟨he, hw⟩ => ⟨he, by rw [hw]; exact h, by rw [hw]; exact But.refl _ _⟩
theorem pdrop_calls (pb sb tb n : Nat) (ce li : Nat → Int × Int) (du : Nat → Int) (tk : Nat → Bool) (f i : Int) (w : World) (h : Po w pb sb tb n ce li du tk) :
    Calls Try.prog 23 #[.pointer (some ⟨pb, 0, none⟩), .int .i64 f, .int .i64 i] w fun e w' => e = .returned (.tuple #[]) ∧ Po w' pb sb tb n ce li (dropD n du f i) tk ∧ But sb w w' := by
  unfold dropD
  by_cases hr : inR n f i
  · rw [if_pos hr]
    obtain ⟨m, j, rfl, rfl, hm, hj⟩ := inR_nat hr
    simp only [Int.toNat_natCast]
    exact pdrop_in pb sb tb n ce li du tk m j w h hm hj
  · rw [if_neg hr]
    exact (pdrop_none _ f i w (cell_no pb sb tb n f i w h.pool h.n64 hr)).mono fun _ _ ⟨he, hw⟩ => ⟨he, by rw [hw]; exact h, by rw [hw]; exact But.refl _ _⟩
end Go.Proofs.Ytlaodkolkoefgaa
