/-
  The walk of FramesBack.
-/
import Derived.Test.YtlaodkolkoefgaaFrQ
namespace Go.Proofs.Ytlaodkolkoefgaa
open Go.RowKit
set_option linter.unusedSimpArgs false
set_option linter.unusedVariables false

set_option maxRecDepth 100000 in
set_option maxHeartbeats 8000000 in
theorem fback_walk (s : Value) (es : List Ed) (st : Value) (ts : List Tk) (at' x y : Int) (w : World) (he : ERow w s es) (ho : EdOk es) (ht : TRow w st ts) (hx : 0 ≤ x ∧ x ≤ 255) (hy : 0 ≤ y ∧ y ≤ 255) :
    Calls Try.prog 3 #[s, st, .int .i64 at', .agg #[.int .u8 x, .int .u8 y]] w fun e w' => e = .returned (.bool true) ∧ Below w.heap.size w w' := by
  have haw := fun W => fawake_calls W
  replace haw := Lib.hid haw
  obtain ⟨bs, cs, hs, _⟩ := he.open
  obtain ⟨bt, ct, hst, _⟩ := ht.open
  obtain ⟨n, hnn⟩ : ∃ n, es.length = n := ⟨_, rfl⟩
  obtain ⟨m, hmm⟩ : ∃ m, ts.length = m := ⟨_, rfl⟩
  rw [hnn] at hs
  rw [hmm] at hst
  subst hs hst
  have hA : Below w.heap.size w (w.alloc (.cells #[.int .u8 x, .int .u8 y] 25)) := (Below.refl _ _).alloc (Nat.le_refl _) _
  have hbx := Blk.new w #[.int .u8 x, .int .u8 y] 25
  have hz0 : (w.alloc (.cells #[.int .u8 x, .int .u8 y] 25)).heap.size = w.heap.size + 1 := by simp
  obtain ⟨W0, hW0⟩ : ∃ W0, w.alloc (.cells #[.int .u8 x, .int .u8 y] 25) = W0 := ⟨_, rfl⟩
  rw [hW0] at hA hbx hz0
  have he0 := he.keep hA
  have ht0 := ht.keep hA
  replace hA := Lib.hid hA
  clear he ht
  by_cases hn : 300 < n
  · clear he0 ht0 hbx
    go_enter Try.func3, Try.ntmps3
    go_wp2_with fail
    refine (haw.out _).mono ?_
    rintro e w1 ⟨rfl, hb⟩
    have hB := hA.out.trans (hb.mono hA.out.size)
    replace hB := Lib.hid hB
    clear hb
    go_wp2_with fail
    go_ret
    exact ⟨rfl, hB.out⟩
  have hn' : decide (300 < (n : Int)) = false := by simp; omega
  have hn : n ≤ 300 := by omega
  clear hn
  by_cases hn : 300 < m
  · clear he0 ht0 hbx
    go_enter Try.func3, Try.ntmps3
    go_wp2_with fail
    refine (haw.out _).mono ?_
    rintro e w1 ⟨rfl, hb⟩
    have hB := hA.out.trans (hb.mono hA.out.size)
    replace hB := Lib.hid hB
    clear hb
    go_wp2_with fail
    go_ret
    exact ⟨rfl, hB.out⟩
  have hm' : decide (300 < (m : Int)) = false := by simp; omega
  have hm : m ≤ 300 := by omega
  clear hn
  have hlen : ts.length ≤ 1000000 := by omega
  obtain ⟨u1, u2⟩ := ed_U8 ho
  have hn3 := fnew_calls 3 W0 (by omega) (by omega)
  rw [show ((3 : Nat) : Int) = 3 from rfl] at hn3
  replace hn3 := Lib.hid hn3
  replace he0 := Lib.hid he0
  replace ht0 := Lib.hid ht0
  replace hbx := Lib.hid hbx
  replace hlen := Lib.hid hlen
  clear ho
  go_enter Try.func3, Try.ntmps3
  go_wp2_with fail
  refine hn3.out.mono ?_
  rintro e W1 ⟨pb, sb, tb, rfl, hp, hf⟩
  clear hn3 hW0
  have F := Fp.start hp hf
  clear hp hf
  have hsb := F.lt
  have hc := ofe_calls _ _ es ts W1 (he0.out.keep F.below) (ht0.out.keep F.below) hlen.out
  have hof := fun W (hb : Below W0.heap.size W0 W) => ofe_calls _ _ es ts W (he0.out.keep hb) (ht0.out.keep hb) hlen.out
  obtain ⟨CE, hCE⟩ : ∃ C, edCe es = C := ⟨_, rfl⟩
  obtain ⟨LI, hLI⟩ : ∃ C, edLi es = C := ⟨_, rfl⟩
  rw [hCE, hLI] at hc hof
  rw [hCE] at u1
  rw [hLI] at u2
  clear hCE hLI
  replace hc := Lib.hid hc
  replace hof := Lib.hid hof
  replace F := Lib.hid F
  replace u1 := Lib.hid u1
  replace u2 := Lib.hid u2
  go_wp2_with fail
  refine hc.out.mono ?_
  rintro e W2 ⟨rfl, B2, z2, s2, k2, o2⟩
  clear hc
  have X : Sk sb W2 W1.heap.size CE LI ts := ⟨s2, k2, o2.row, by omega, o2.apart (by omega)⟩
  have F2 := F.out.keep B2
  clear F B2 k2 o2
  generalize W1.heap.size = xb at *
  obtain ⟨E, hE⟩ : ∃ E, checkE CE LI ts = E := ⟨_, rfl⟩
  by_cases hE0 : E = 0
  · subst hE0
    have hto := (checkE_inv hE).2.2
    have hdu := duF_ok hto
    have hbk := ticks_back hto
    have hc := F2.loadS (f := 1) (by omega) X u1.out u2.out hE
    rw [show ((1 : Nat) : Int) = 1 from rfl] at hc
    have hE2 : checkE (partP 4096 CE) (partP 4096 LI) ts = 0 := by rw [checkE_part]; exact hE
    replace hc := Lib.hid hc
    replace hE := Lib.hid hE
    replace X := Lib.hid X
    replace hdu := Lib.hid hdu
    replace hbk := Lib.hid hbk
    replace hE2 := Lib.hid hE2
    clear F2 hto
    go_wp2_with fail
    refine hc.out.mono ?_
    rintro e W3 ⟨rfl, F3, B3⟩
    clear hc
    have X3 := X.out.but B3
    have hc := X3.check u1.out
    rw [hE.out] at hc
    replace hc := Lib.hid hc
    replace F3 := Lib.hid F3
    replace X3 := Lib.hid X3
    clear X B3
    go_wp2_with fail
    refine hc.out.mono ?_
    rintro e W4 ⟨rfl, B4⟩
    clear hc
    have F4 := F3.out.keep B4
    have X4 := X3.out.keep B4
    have hsc : ∀ (W : World) (ce li : Nat → Int × Int) (du : Nat → Int), (∀ i, i < 4096 → shP 1 ce i = CE i) → (∀ i, i < 4096 → shP 1 li i = LI i) → (∀ i, i < 4096 → shD 1 du i = duF ts i) → Fp W0 W pb sb tb 3 ce li du (fun _ => false) →
        Calls Try.prog 12 #[.pointer (some ⟨pb, 0, none⟩), .int .i64 1] W fun e w' => ∃ b, e = .returned (.pointer (some ⟨b, 0, none⟩)) ∧ W.heap.size ≤ b ∧ Sk sb w' b (partP 4096 CE) (partP 4096 LI) ts ∧ Fp W0 w' pb sb tb 3 ce li du (fun _ => false) ∧ Below W.heap.size W w' := fun W ce li du h1 h2 h3 hF =>
      hF.storeS (f := 1) (by omega) (partP_congr h1) (partP_congr h2) ((tickD_congr h3).trans hbk.out)
    have p1 : ∀ i, i < 4096 → shP 1 (putP 1 CE zeroP) i = CE i := fun i hi => sh_putP _ _ _ hi
    have p2 : ∀ i, i < 4096 → shP 1 (putP 1 LI zeroP) i = LI i := fun i hi => sh_putP _ _ _ hi
    have p3 : ∀ i, i < 4096 → shD 1 (putD 1 (duF ts) (fun _ => 0)) i = duF ts i := fun i hi => sh_putD _ _ _ hi
    have hc := hsc W4 _ _ _ p1 p2 p3 F4
    replace hc := Lib.hid hc
    replace X4 := Lib.hid X4
    replace hsc := Lib.hid hsc
    replace p1 := Lib.hid p1
    replace p2 := Lib.hid p2
    replace p3 := Lib.hid p3
    clear F3 B4 F4 X3
    go_wp2_with fail
    refine hc.out.mono ?_
    rintro e W5 ⟨ab, rfl, _, A5, F5, B5⟩
    clear hc
    have X5 := X4.out.keep B5
    -- the cell of another frame
    have hb0 := (hbx.out.below F5.below hbx.out.lt).cell 0 rfl
    have hb1 := (hbx.out.below F5.below hbx.out.lt).cell 1 rfl
    have hc := F5.set 0 at' hx hy
    obtain ⟨C2, hC2⟩ : ∃ C, setP 3 (mayK x y) (putP 1 CE zeroP) 0 at' (x, y) = C := ⟨_, rfl⟩
    rw [hC2] at hc
    have p4 : ∀ i, i < 4096 → shP 1 C2 i = CE i := fun i hi => by rw [← hC2, sh_setP (by omega) hi]; exact p1.out i hi
    have p8 := back_8 CE (mayK x y) at' (x, y)
    rw [hC2] at p8
    clear hC2
    replace hc := Lib.hid hc
    replace A5 := Lib.hid A5
    replace X5 := Lib.hid X5
    replace p4 := Lib.hid p4
    replace p8 := Lib.hid p8
    clear B5 F5 X4
    go_wp2_with fail
    refine hc.out.mono ?_
    rintro e W6 ⟨rfl, F6, B6⟩
    clear hc hb0 hb1
    have A6 := A5.out.but B6
    have X6 := X5.out.but B6
    have hc := F6.wake 2 at' 9
    obtain ⟨D2, hD2⟩ : ∃ D, wakeD 3 (putD 1 (duF ts) (fun _ => 0)) 2 at' 9 = D := ⟨_, rfl⟩
    rw [hD2] at hc
    have p5 : ∀ i, i < 4096 → shD 1 D2 i = duF ts i := fun i hi => by rw [← hD2, sh_wakeD (by omega) hi]; exact p3.out i hi
    clear hD2
    replace hc := Lib.hid hc
    replace A6 := Lib.hid A6
    replace X6 := Lib.hid X6
    replace p5 := Lib.hid p5
    clear F6 B6 A5 X5
    go_wp2_with fail
    refine hc.out.mono ?_
    rintro e W7 ⟨rfl, F7, B7⟩
    clear hc
    have A7 := A6.out.but B7
    have X7 := X6.out.but B7
    have hc := hsc.out W7 _ _ _ p4.out p2.out p5.out F7
    replace hc := Lib.hid hc
    replace A7 := Lib.hid A7
    replace X7 := Lib.hid X7
    have hlp := F7.1.pool.lt
    have hls := F7.1.slab.lt
    have hlt := F7.1.take.lt
    have hlx := X7.out.lt
    clear F7 B7 A6 X6 hsc
    go_wp2_with fail
    refine hc.out.mono ?_
    rintro e W8 ⟨bb, rfl, hbb, Q8, F8, B8⟩
    clear hc
    have hbn : pb ≠ bb ∧ sb ≠ bb ∧ tb ≠ bb ∧ xb ≠ bb := by omega
    have hb0 : W0.heap.size ≤ bb := by have := F8.2.1; omega
    clear hlp hls hlt hlx hbb
    have A8 := A7.out.keep B8
    have X8 := X7.out.keep B8
    have hc := A8.same X8
    rw [sameB_part] at hc
    replace hc := Lib.hid hc
    replace A8 := Lib.hid A8
    replace X8 := Lib.hid X8
    replace Q8 := Lib.hid Q8
    replace F8 := Lib.hid F8
    clear A7 X7 B8
    go_wp2_with fail
    refine hc.out.mono ?_
    rintro e W9 ⟨rfl, B9⟩
    clear hc
    have A9 := A8.out.keep B9
    have X9 := X8.out.keep B9
    have Q9 := Q8.out.keep B9
    have F9 := F8.out.keep B9
    have hc := Q9.same X9
    rw [sameB_part] at hc
    replace hc := Lib.hid hc
    replace A9 := Lib.hid A9
    replace X9 := Lib.hid X9
    replace Q9 := Lib.hid Q9
    replace F9 := Lib.hid F9
    clear A8 X8 Q8 F8 B9
    go_wp2_with fail
    refine hc.out.mono ?_
    rintro e W8 ⟨rfl, B8⟩
    clear hc
    have A8 := A9.out.keep B8
    have X8 := X9.out.keep B8
    have Q8 := Q9.out.keep B8
    have F8 := F9.out.keep B8
    have hc := A8.check (u1.out.part 4096)
    rw [hE2.out] at hc
    replace hc := Lib.hid hc
    replace A8 := Lib.hid A8
    replace X8 := Lib.hid X8
    replace Q8 := Lib.hid Q8
    replace F8 := Lib.hid F8
    clear A9 X9 Q9 F9 B8
    go_wp2_with fail
    refine hc.out.mono ?_
    rintro e W9 ⟨rfl, B9⟩
    clear hc
    have A9 := A8.out.keep B9
    have X9 := X8.out.keep B9
    have Q9 := Q8.out.keep B9
    have F9 := F8.out.keep B9
    clear A8 X8 Q8 F8 B9
    -- the frame's own cell, light, due
    have hc := F9.set 1 7 (x := 2) (y := 0) (by omega) (by omega)
    replace hc := Lib.hid hc
    replace A9 := Lib.hid A9
    replace X9 := Lib.hid X9
    replace Q9 := Lib.hid Q9
    clear F9
    go_wp2_with fail
    refine hc.out.mono ?_
    rintro e W8 ⟨rfl, F8, B8⟩
    clear hc
    have A8 := A9.out.but B8
    have X8 := X9.out.but B8
    have Q8 := Q9.out.but B8
    clear A9 X9 Q9 B8
    have hc := F8.setL 1 4095 (x := 9) (y := 0) (by omega) (by omega)
    replace hc := Lib.hid hc
    replace A8 := Lib.hid A8
    replace X8 := Lib.hid X8
    replace Q8 := Lib.hid Q8
    clear F8
    go_wp2_with fail
    refine hc.out.mono ?_
    rintro e W9 ⟨rfl, F9, B9⟩
    clear hc
    have A9 := A8.out.but B9
    have X9 := X8.out.but B9
    have Q9 := Q8.out.but B9
    clear A8 X8 Q8 B9
    have hc := F9.wake 1 0 1
    replace hc := Lib.hid hc
    replace A9 := Lib.hid A9
    replace X9 := Lib.hid X9
    replace Q9 := Lib.hid Q9
    clear F9
    go_wp2_with fail
    refine hc.out.mono ?_
    rintro e W8 ⟨rfl, F8, B8⟩
    clear hc
    have A8 := A9.out.but B8
    have X8 := X9.out.but B8
    have Q8 := Q9.out.but B8
    clear A9 X9 Q9 B8
    have hc := A8.same Q8
    rw [sameB_refl] at hc
    replace hc := Lib.hid hc
    replace X8 := Lib.hid X8
    replace Q8 := Lib.hid Q8
    replace F8 := Lib.hid F8
    clear A8
    go_wp2_with fail
    refine hc.out.mono ?_
    rintro e W9 ⟨rfl, B9⟩
    clear hc
    have X9 := X8.out.keep B9
    have Q9 := Q8.out.keep B9
    have F9 := F8.out.keep B9
    have hc := hof.out W9 F9.below
    replace hc := Lib.hid hc
    replace X9 := Lib.hid X9
    replace Q9 := Lib.hid Q9
    replace F9 := Lib.hid F9
    clear X8 Q8 F8 B9 hof
    go_wp2_with fail
    refine hc.out.mono ?_
    rintro e W10 ⟨rfl, B10, z10, s10, k10, o10⟩
    clear hc
    have hs9 := F9.out.lt
    have Y10 : Sk sb W10 W9.heap.size CE LI ts := ⟨s10, k10, o10.row, by omega, o10.apart (by omega)⟩
    have X10 := X9.out.keep B10
    have Q10 := Q9.out.keep B10
    have F10 := F9.out.keep B10
    have hc := X10.same Y10
    rw [sameB_refl] at hc
    replace hc := Lib.hid hc
    replace X10 := Lib.hid X10
    replace Q10 := Lib.hid Q10
    replace F10 := Lib.hid F10
    clear X9 Q9 F9 B10 k10 o10 Y10 hs9
    go_wp2_with fail
    refine hc.out.mono ?_
    rintro e W11 ⟨rfl, B11⟩
    clear hc
    have X11 := X10.out.keep B11
    have Q11 := Q10.out.keep B11
    have F11 := F10.out.keep B11
    clear X10 Q10 F10 B11
    -- a stored chunk is changed
    obtain ⟨sq, kq, _, _, _⟩ := Q11
    have q0 := kq.c0 (i := 8) (by omega)
    have q1 := kq.c1 (i := 8) (by omega)
    have f0 := kq.frozen 16
    have f1 := kq.frozen 17
    have lq := kq.lt
    obtain ⟨sx, kx, _, _, _⟩ := X11
    have hbu : But bb W11 ((W11.setCell ⟨bb, 16, none⟩ (.int .u8 77)).setCell ⟨bb, 17, none⟩ (.int .u8 0)) := ((But.refl bb W11).setCell 16 _).setCell 17 _
    have k12 := kx.but hbu hbn.2.2.2
    have F12 : Fp W0 ((W11.setCell ⟨bb, 16, none⟩ (.int .u8 77)).setCell ⟨bb, 17, none⟩ (.int .u8 0)) pb sb tb 3 _ _ _ _ := ⟨F11.1.but hbu hbn.1 hbn.2.1 hbn.2.2.1, F11.2.1, F11.2.2.1, F11.2.2.2.1, But.step F11.below hbu hb0 F11.below.size⟩
    have x0 := k12.c0 (i := 8) (by omega)
    have x1 := k12.c1 (i := 8) (by omega)
    have lx := k12.lt
    have hdu0 : 0 ≤ D2 4096 := by
      have := p5.out 0 (by omega)
      rw [show D2 4096 = shD 1 D2 0 from rfl, this]
      exact (hdu.out 0).1
    have hd1 := back_due D2 hdu0
    have h7 := back_7 C2
    obtain ⟨a8, ha8⟩ : ∃ a, (CE 8).1 = a := ⟨_, rfl⟩
    obtain ⟨b8, hb8⟩ : ∃ a, (CE 8).2 = a := ⟨_, rfl⟩
    rw [ha8] at x0
    rw [hb8] at x1
    have e0 : ∀ p : Ext, (ext ((W11.setCell ⟨bb, 16, none⟩ (.int .u8 77)).setCell ⟨bb, 17, none⟩ (.int .u8 0)) p).cell? ⟨xb, 16, none⟩ = some (.int .u8 a8) := fun p => ((below_ext _ p).cell (p := ⟨xb, 16, none⟩) lx).trans x0
    have e1 : ∀ p : Ext, (ext ((W11.setCell ⟨bb, 16, none⟩ (.int .u8 77)).setCell ⟨bb, 17, none⟩ (.int .u8 0)) p).cell? ⟨xb, 17, none⟩ = some (.int .u8 b8) := fun p => ((below_ext _ p).cell (p := ⟨xb, 17, none⟩) lx).trans x1
    obtain ⟨P1, hP1⟩ : ∃ P : Int → Int, P = fun i => (atP 3 (setP 3 (mayK 2 0) C2 1 7 (2, 0)) 1 i).1 := ⟨_, rfl⟩
    obtain ⟨P2, hP2⟩ : ∃ P : Int → Int, P = fun i => (atP 3 (setP 3 (mayK 2 0) C2 1 7 (2, 0)) 1 i).2 := ⟨_, rfl⟩
    have g1 : (P1 8 == a8) = true := beq_iff_eq.2 (by rw [hP1, ← ha8, ← p8.out])
    have g2 : (P2 8 == b8) = true := beq_iff_eq.2 (by rw [hP2, ← hb8, ← p8.out])
    have g3 : (P1 7 == 2) = true := beq_iff_eq.2 (by rw [hP1]; exact congrArg Prod.fst h7)
    have g4 : (P2 7 == 0) = true := beq_iff_eq.2 (by rw [hP2]; exact congrArg Prod.snd h7)
    have hcA : ∀ (i : Int) (p : Ext), Calls Try.prog 17 #[.pointer (some ⟨pb, 0, none⟩), .int .i64 1, .int .i64 i] (ext ((W11.setCell ⟨bb, 16, none⟩ (.int .u8 77)).setCell ⟨bb, 17, none⟩ (.int .u8 0)) p) fun e w' => e = .returned (.agg #[.int .u8 (P1 i), .int .u8 (P2 i)]) ∧ Below (ext ((W11.setCell ⟨bb, 16, none⟩ (.int .u8 77)).setCell ⟨bb, 17, none⟩ (.int .u8 0)) p).heap.size (ext ((W11.setCell ⟨bb, 16, none⟩ (.int .u8 77)).setCell ⟨bb, 17, none⟩ (.int .u8 0)) p) w' := fun i p => by
      have := (F12.ext p).cell 1 i
      rw [hP1, hP2]
      exact this.mono fun _ _ ⟨he, _, hb⟩ => ⟨he, hb⟩
    have hcD : ∀ p : Ext, Calls Try.prog 18 #[.pointer (some ⟨pb, 0, none⟩), .int .i64 1, .int .i64 0] (ext ((W11.setCell ⟨bb, 16, none⟩ (.int .u8 77)).setCell ⟨bb, 17, none⟩ (.int .u8 0)) p) fun e w' => e = .returned (.int .i64 1) ∧ Below (ext ((W11.setCell ⟨bb, 16, none⟩ (.int .u8 77)).setCell ⟨bb, 17, none⟩ (.int .u8 0)) p).heap.size (ext ((W11.setCell ⟨bb, 16, none⟩ (.int .u8 77)).setCell ⟨bb, 17, none⟩ (.int .u8 0)) p) w' := fun p => by
      have := (F12.ext p).due 1 0
      rw [hd1] at this
      exact this.mono fun _ _ ⟨he, _, hb⟩ => ⟨he, hb⟩
    have hB12 := F12.below
    replace hcA := Lib.hid hcA
    replace hcD := Lib.hid hcD
    replace hB12 := Lib.hid hB12
    replace hbn := Lib.hid hbn
    clear kx k12 F11 F12 hbu h7 hP1 hP2 hd1 hdu0 ha8 hb8 x0 x1
    go_wp2_with fail
    clear q0 q1 f0 f1
    generalize (W11.setCell ⟨bb, 16, none⟩ (.int .u8 77)).setCell ⟨bb, 17, none⟩ (.int .u8 0) = W12 at *
    refine wp_region_ext (by kernel_rfl) (by kernel_rfl) ?_
    repeat (quiet_step ((go_at_call 17; exact calls_ext_of (hcA.out _ _))))
    repeat (quiet_step ((go_at_call 18; exact calls_ext_of (hcD.out _))))
    repeat (quiet_step ((go_at_call 6; exact calls_ext_of (haw.out _))))
    refine wpQuiet_nil ?_
    rintro _ ⟨pq, rfl⟩
    have hB := hA.out.trans ((hB12.out.trans ((below_ext W12 pq).mono hB12.out.size)).mono hA.out.size)
    replace hB := Lib.hid hB
    clear e0 e1 hcA hcD
    go_wp2_with fail
    go_ret
    exact ⟨rfl, hB.out⟩
  · have hEd : (E == 0) = false := beq_eq_false_iff_ne.2 hE0
    have hEE : (E == E) = true := by simp
    have hc := F2.loadBadS (f := 1) (by omega) X u1.out (by rw [hE]; exact hE0)
    rw [show ((1 : Nat) : Int) = 1 from rfl, hE] at hc
    replace hc := Lib.hid hc
    replace hE := Lib.hid hE
    replace hE0 := Lib.hid hE0
    replace X := Lib.hid X
    clear F2
    go_wp2_with fail
    refine hc.out.mono ?_
    rintro e W3 ⟨rfl, F3, B3⟩
    clear hc
    have X3 := X.out.keep B3
    have hc := X3.check u1.out
    rw [hE.out] at hc
    replace hc := Lib.hid hc
    replace F3 := Lib.hid F3
    clear X B3 X3
    go_wp2_with fail
    refine hc.out.mono ?_
    rintro e W4 ⟨rfl, B4⟩
    clear hc
    have F4 := F3.out.keep B4
    have hc := F4.storeS (f := 1) (by omega) (CE := zeroP) (LI := zeroP) (ts := []) (partP_zeroP _ _) (partP_zeroP _ _) (tickD_zero _)
    rw [show ((1 : Nat) : Int) = 1 from rfl] at hc
    replace hc := Lib.hid hc
    clear F3 B4 F4
    go_wp2_with fail
    refine hc.out.mono ?_
    rintro e W5 ⟨ab, rfl, _, A5, F5, _⟩
    clear hc
    have hnw := new_calls W5
    have k6 : Ck (W5.alloc (.cells chunkZ 46)) W5.heap.size zeroP zeroP (.slice none 0 0) := ck_new W5
    have hB6 : Below W5.heap.size W5 (W5.alloc (.cells chunkZ 46)) := (Below.refl _ _).alloc (Nat.le_refl _) _
    obtain ⟨W6, hW6⟩ : ∃ W6, W5.alloc (.cells chunkZ 46) = W6 := ⟨_, rfl⟩
    rw [hW6] at hnw k6 hB6
    clear hW6
    have hz5 := F5.lt
    have N6 : Sk sb W6 W5.heap.size zeroP zeroP [] := ⟨_, k6, TRow.nil _, by omega, fun a n c e => by cases e⟩
    have A6 := A5.keep hB6
    have F6 := F5.keep hB6
    have hc := A6.same N6
    rw [sameB_refl] at hc
    replace hc := Lib.hid hc
    replace hnw := Lib.hid hnw
    replace F6 := Lib.hid F6
    clear k6 hB6 N6 A6 A5 F5 hz5
    go_wp2_with fail
    refine hnw.out.mono ?_
    rintro e W7 ⟨rfl, rfl⟩
    clear hnw
    go_wp2_with fail
    refine hc.out.mono ?_
    rintro e W8 ⟨rfl, B8⟩
    clear hc
    have F8 := F6.out.keep B8
    replace F8 := Lib.hid F8
    clear F6 B8
    go_wp2_with fail
    refine (haw.out _).mono ?_
    rintro e W9 ⟨rfl, B9⟩
    have hB := hA.out.trans ((F8.out.keep B9).below.mono hA.out.size)
    replace hB := Lib.hid hB
    clear F8 B9
    go_wp2_with fail
    go_ret
    exact ⟨rfl, hB.out⟩
end Go.Proofs.Ytlaodkolkoefgaa
