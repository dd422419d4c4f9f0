/-
  The walk of ChunkTicks.
-/
import Derived.Test.YtmpnpanlabkkdaaOrderV
import Derived.Test.YtmpnpanlabkkdaaChunkRR
import Derived.Test.YtmpnpanlabkkdaaChunkRW2
namespace Go.Proofs.Ytmpnpanlabkkdaa
open Go.RowKit
set_option linter.unusedSimpArgs false
set_option linter.unusedVariables false

/-- The slice of ticks that the chunk holds. -/
theorem Kn.tk {w W : World} {ce li : Nat → Int × Int} {ts : List Tk} (h : Kn w W ce li ts) : ∃ s, W.cell? ⟨w.heap.size, 16384, none⟩ = some s ∧ TRow W s ts := h.elim fun s h => ⟨s, h.1.tk, h.2.1⟩
theorem Kn.ext {w W : World} {ce li : Nat → Int × Int} {ts : List Tk} (h : Kn w W ce li ts) (p : Ext) : Kn w (Go.Proofs.Ytmpnpanlabkkdaa.ext W p) ce li ts := h.keep (below_ext W p)
theorem wakeL_le {ts : List Tk} {x d : Int} {B : Nat} (h : ts.length ≤ B) : (wakeL ts x d).length ≤ B + 1 := Nat.le_trans (wakeL_len ts x d) (by omega)
theorem dropL_le {ts : List Tk} {x : Int} {B : Nat} (h : ts.length ≤ B) : (dropL ts x).length ≤ B + 1 := Nat.le_trans (dropL_len ts x) (by omega)

section
variable {w W W' : World} {ce li : Nat → Int × Int} {ts : List Tk}
/-- Wake and Drop touch no old block but the chunk's. -/
theorem Kn.wakeB (h : Kn w W ce li ts) (x d : Int) (hlen : ts.length ≤ 800000) :
    Calls Try.prog 25 #[.pointer (some ⟨w.heap.size, 0, none⟩), .int .i64 x, .int .i64 d] W fun e w' => e = .returned (.tuple #[]) ∧ Kn w w' ce li (wakeL ts x d) ∧ But w.heap.size W w' := by
  have h' := h
  obtain ⟨s, h1, h2, h3, h4⟩ := h
  exact (wake_calls _ ce li s ts x d W h1 h2 h3 hlen).mono fun _ _ ⟨he, hw⟩ => ⟨he, h'.woke hw, hw.elim fun _ h => h.2.2.2.1⟩
theorem Kn.dropB (h : Kn w W ce li ts) (x : Int) (hlen : ts.length ≤ 800000) :
    Calls Try.prog 23 #[.pointer (some ⟨w.heap.size, 0, none⟩), .int .i64 x] W fun e w' => e = .returned (.tuple #[]) ∧ Kn w w' ce li (dropL ts x) ∧ But w.heap.size W w' := by
  have h' := h
  obtain ⟨s, h1, h2, h3, h4⟩ := h
  exact (drop_calls _ ce li s ts x W h1 h2 h3 hlen).mono fun _ _ ⟨he, hw⟩ => ⟨he, h'.woke hw, hw.elim fun _ h => h.2.2.2.1⟩
theorem TOwn.apartL {B b : Nat} {v : Value} (h : TOwn W B v ts) (hb : W.heap.size ≤ b) : Apart v b := fun a n c e => by
  have := (h.blk a.block (by rw [e]; rfl)).2
  omega
end

set_option maxRecDepth 100000 in
set_option maxHeartbeats 8000000 in
theorem ticks_walk (st : Value) (ts : List Tk) (sa : Value) (xs : List Ac) (now : Int) (w : World) (ht : TRow w st ts) (hx : ARow w sa xs) :
    Calls Try.prog 5 #[st, sa, .int .i64 now] w fun e w' => e = .returned (.bool true) ∧ Below w.heap.size w w' := by
  have haw := fun W => awake_calls W
  replace haw := Lib.hid haw
  obtain ⟨bs, cs, hs, _, hcm, hrow⟩ := hx.open
  obtain ⟨bt, ct, hst, _⟩ := ht.open
  obtain ⟨n, hnn⟩ : ∃ n, ts.length = n := ⟨_, rfl⟩
  obtain ⟨m, hmm⟩ : ∃ m, xs.length = m := ⟨_, rfl⟩
  rw [hnn] at hst
  rw [hmm] at hs
  unfold maxLen at hcm
  replace hrow := Lib.hid hrow
  by_cases hn : 300 < n
  · subst hs hst
    clear hx ht
    go_enter Try.func5, Try.ntmps5
    go_wp2_with fail
    refine (haw.out _).mono ?_
    rintro e w1 ⟨rfl, hb⟩
    replace hb := Lib.hid hb
    go_wp2_with fail
    go_ret
    exact ⟨rfl, hb.out⟩
  have hn : n ≤ 300 := by omega
  have hn' : decide (300 < (n : Int)) = false := by simp; omega
  clear hn
  by_cases hn : 300 < m
  · subst hs hst
    clear hx ht
    go_enter Try.func5, Try.ntmps5
    go_wp2_with fail
    refine (haw.out _).mono ?_
    rintro e w1 ⟨rfl, hb⟩
    replace hb := Lib.hid hb
    go_wp2_with fail
    go_ret
    exact ⟨rfl, hb.out⟩
  have hm : m ≤ 300 := by omega
  have hm' : decide (300 < (m : Int)) = false := by simp; omega
  clear hn
  subst hs hst
  replace hnn := Lib.hid hnn
  replace hmm := Lib.hid hmm
  replace ht := Lib.hid ht
  replace hx := Lib.hid hx
  go_enter Try.func5, Try.ntmps5
  have ho0 : TOwn (w.alloc (.cells #[] 62)) w.heap.size (.slice (some ⟨w.heap.size, 0, none⟩) 0 0) [] := TOwn.of_blk (ts := []) (R := []) (Blk.new w #[] 62) (Nat.le_refl _) rfl (Nat.zero_le _) (Nat.zero_le _) rfl
  have hof : ∀ (W : World) (b : Nat) (T : TypeId) (st : Value) (ts : List Tk), Blk W b [.int .i64 7, .int .u8 2, .int .u8 0, .int .u8 3, .int .u8 0] T → TRow W st ts → ts.length ≤ 1000000 → Calls Try.prog 10 #[.slice (some ⟨b, 0, none⟩) 1 1, st] W fun e w' => e = .returned (.pointer (some ⟨W.heap.size, 0, none⟩)) ∧ Below W.heap.size W w' ∧ W.heap.size < w'.heap.size ∧ ∃ s', Ck w' W.heap.size (edCe [(7, (2, 0), (3, 0))]) (edLi [(7, (2, 0), (3, 0))]) s' ∧ TOwn w' (W.heap.size + 1) s' ts := fun W b T st ts hb h1 h2 => ofe_calls _ st [(7, (2, 0), (3, 0))] ts W (erow_one hb) h1 h2
  generalize edCe [(7, (2, 0), (3, 0))] = CE at hof
  generalize edLi [(7, (2, 0), (3, 0))] = LI at hof
  replace hof := Lib.hid hof
  replace ho0 := Lib.hid ho0
  go_wp2_with (at_builtin; refine wpList_append_ticks rfl (.tmp 22) (.tmp 23) rfl rfl rfl (B := w.heap.size) (ts := []) ho0.out (TRow.keep ht.out ((Below.refl _ _).alloc (Nat.le_refl _) _)) (by rw [hnn.out]; simp; omega) (by simp) ?_)
  intro vo W1 h4 h5 h6
  clear h6
  have B1 := below_own ((Below.refl w.heap.size w).alloc (Nat.le_refl _) _) ho0.out h5 (by simp)
  have T1 := TRow.keep ht.out B1
  have A1 := ARow.keep hx.out B1
  obtain ⟨ob, oc, e, _⟩ := h4.row.open
  subst e
  rw [hnn.out] at h4 ⊢
  have hb1 := Blk.new W1 #[.int .i64 7, .int .u8 2, .int .u8 0, .int .u8 3, .int .u8 0] 40
  have B12 : Below W1.heap.size W1 (W1.alloc (.cells #[.int .i64 7, .int .u8 2, .int .u8 0, .int .u8 3, .int .u8 0] 40)) := (Below.refl _ _).alloc (Nat.le_refl _) _
  have hz12 : (W1.alloc (.cells #[.int .i64 7, .int .u8 2, .int .u8 0, .int .u8 3, .int .u8 0] 40)).heap.size = W1.heap.size + 1 := by simp
  obtain ⟨W2, hW2⟩ : ∃ W2, W1.alloc (.cells #[.int .i64 7, .int .u8 2, .int .u8 0, .int .u8 3, .int .u8 0] 40) = W2 := ⟨_, rfl⟩
  rw [hW2] at hb1 B12 hz12
  have hc := hof.out W2 W1.heap.size _ (.slice none 0 0) [] hb1 (TRow.nil _) (by simp)
  have B2 := B1.trans (B12.mono B1.size)
  have O2 := h4.row.keep B12
  have T2 := T1.keep B12
  have A2 := A1.keep B12
  have hapo := h4.apartL (b := W2.heap.size) (by omega)
  replace hc := Lib.hid hc
  replace B2 := Lib.hid B2
  replace O2 := Lib.hid O2
  replace T2 := Lib.hid T2
  replace A2 := Lib.hid A2
  replace hapo := Lib.hid hapo
  clear h4 h5 B1 B12 T1 A1 hb1 hz12 ht hx ho0
  go_wp2_with fail
  refine hc.out.mono ?_
  rintro e W3 ⟨rfl, B3, z3, s3, k3, o3⟩
  clear hc hW2 o3
  have c3 := k3.tk
  have f3 := k3.frozen 16384
  have K4 : Kn W2 (W3.setCell ⟨W2.heap.size, 16384, none⟩ (.slice ob n oc)) CE LI ts :=
    ⟨_, k3.setTicks _, SRow.but (O2.out.keep B3) ((But.refl _ _).setCell _ _) (Or.inr hapo.out), hapo.out, B3.setCell (p := ⟨_, _, none⟩) (Nat.le_refl _) _⟩
  replace K4 := Lib.hid K4
  have hz4 : (W3.setCell ⟨W2.heap.size, 16384, none⟩ (.slice ob n oc)).heap.size = W3.heap.size := by simp [World.setCell]
  clear k3 B3
  replace hz4 := Lib.hid hz4
  go_wp2_with (at_builtin; refine wpList_append_ticks rfl (.tmp 34) (.tmp 35) rfl rfl rfl (TOwn.nil _ W3.heap.size) (T2.out.keep K4.out.below) (by rw [hnn.out]; simp; omega) (by rw [hz4.out]; exact Nat.le_refl _) ?_)
  intro vw W5 h4 h5 h6
  clear h6 c3 f3
  have B45 := below_own (Below.refl W3.heap.size _) (TOwn.nil _ W3.heap.size) h5 (by rw [hz4.out]; exact Nat.le_refl _)
  have K5 := K4.out.keep (by rw [hz4.out]; exact B45)
  have R5 := h4.row
  have ap5 := h4.apart (b := W2.heap.size) z3
  clear h5 B45 K4 hz4 h4
  replace K5 := Lib.hid K5
  replace R5 := Lib.hid R5
  replace ap5 := Lib.hid ap5
  go_wp2_with fail
  go_loopw [9, 10] (fun v i W => ∃ (k : Nat) (us : List Tk), k ≤ m ∧ i = .int .i64 k ∧ us.length ≤ 300 + k ∧ TRow W v us ∧ Apart v W2.heap.size ∧ Kn W2 W CE LI us) (fun _ i _ => m + 1 - (intOf i).toNat)
  case atStart => exact ⟨0, ts, by omega, rfl, by rw [hnn.out]; omega, R5.out, ap5.out, K5.out⟩
  case round =>
    obtain ⟨k, us, hk, rfl, hul, R, ap, K⟩ := hrel
    clear K5 R5 ap5
    obtain ⟨vb, vc, rfl, _⟩ := R.open
    obtain ⟨u, hu⟩ : ∃ u, us.length = u := ⟨_, rfl⟩
    rw [hu] at hul R ap ⊢
    obtain ⟨sc, ctk, Rc⟩ := K.tk
    obtain ⟨cb, cc, rfl, _⟩ := Rc.open
    rw [hu] at ctk Rc
    have hlc := K.lt
    have hq := ticks_calls _ _ us us wr Rc R
    rw [decide_eq_true rfl] at hq
    replace hq := Lib.hid hq
    replace hu := Lib.hid hu
    replace K := Lib.hid K
    replace R := Lib.hid R
    replace ap := Lib.hid ap
    clear Rc
    have hkm : decide ((k : Int) ≤ (m : Int)) = true := by simp; omega
    go_wp2_with fail
    refine hq.out.mono ?_
    rintro e W6 ⟨rfl, q6, rfl⟩
    clear hq ctk hlc
    have K6 := K.out.drewN q6
    have R6 := TRow.keep R.out (below_drewN (Below.refl _ _) q6)
    generalize wr.drewN q6 = W6 at *
    have hq := K6.least
    obtain ⟨L, hL⟩ : ∃ L, leastL us = L := ⟨_, rfl⟩
    rw [hL] at hq
    replace hL := Lib.hid hL
    replace hq := Lib.hid hq
    replace R6 := Lib.hid R6
    clear K R K6
    go_wp2_with fail
    refine hq.out.mono ?_
    rintro e W7 ⟨rfl, K7, B7⟩
    clear hq
    have R7 := R6.out.keep B7
    have hq := rleast_calls _ us W7 R7
    rw [hL.out] at hq
    have hLL : (L == L) = true := by simp
    replace hq := Lib.hid hq
    replace R7 := Lib.hid R7
    replace K7 := Lib.hid K7
    clear R6 B7
    go_wp2_with fail
    refine hq.out.mono ?_
    rintro e W8 ⟨rfl, rfl⟩
    clear hq
    have hq := K7.out.ready now (by rw [hu.out]; omega)
    replace hq := Lib.hid hq
    clear K7
    go_wp2_with fail
    refine hq.out.mono ?_
    rintro e W9 ⟨v9, r9, rfl, hr9, hp9, hs9, K9, B9⟩
    clear hq hLL
    have R9 := R7.out.keep B9
    have hq := rready_calls _ us now W9 R9 (by rw [hu.out]; omega)
    replace hq := Lib.hid hq
    replace R9 := Lib.hid R9
    replace K9 := Lib.hid K9
    replace hr9 := Lib.hid hr9
    replace hp9 := Lib.hid hp9
    replace hs9 := Lib.hid hs9
    clear R7 B9
    obtain ⟨rb9, rc9, rfl, _⟩ := hr9.out.open
    go_wp2_with fail
    refine hq.out.mono ?_
    rintro e W10 ⟨v10, r10, rfl, hr10, B10, hp10, hs10⟩
    clear hq
    obtain rfl : r9 = r10 := sorted_perm_eq ltR_eq r9 r10 hs9.out hs10 (hp9.out.trans hp10.symm)
    have R10 := R9.out.keep B10
    have K10 := K9.out.keep B10
    have hq := ticks_calls _ _ r9 r9 W10 (hr9.out.keep B10) hr10
    rw [decide_eq_true rfl] at hq
    obtain ⟨rb10, rc10, rfl, _⟩ := hr10.open
    replace hq := Lib.hid hq
    replace R10 := Lib.hid R10
    replace K10 := Lib.hid K10
    clear R9 K9 hr9 hp9 hs9 hr10 B10 hp10 hs10
    go_wp2_with fail
    refine hq.out.mono ?_
    rintro e W11 ⟨rfl, q11, rfl⟩
    clear hq
    have K11 := K10.out.drewN q11
    have R11 := TRow.keep R10.out (below_drewN (Below.refl _ _) q11)
    clear K10 R10
    generalize W10.drewN q11 = W11 at *
    by_cases hkm2 : k = m
    · subst hkm2
      have hb1 := Blk.new W11 #[.int .i64 7, .int .u8 2, .int .u8 0, .int .u8 3, .int .u8 0] 40
      have B12 : Below W11.heap.size W11 (W11.alloc (.cells #[.int .i64 7, .int .u8 2, .int .u8 0, .int .u8 3, .int .u8 0] 40)) := (Below.refl _ _).alloc (Nat.le_refl _) _
      have hz12 : (W11.alloc (.cells #[.int .i64 7, .int .u8 2, .int .u8 0, .int .u8 3, .int .u8 0] 40)).heap.size = W11.heap.size + 1 := by simp
      obtain ⟨W12, hW12⟩ : ∃ W12, W11.alloc (.cells #[.int .i64 7, .int .u8 2, .int .u8 0, .int .u8 3, .int .u8 0] 40) = W12 := ⟨_, rfl⟩
      rw [hW12] at hb1 B12 hz12
      have K12 := K11.keep B12
      have R12 := R11.keep B12
      have hc := hof.out W12 W11.heap.size _ _ us hb1 R12 (by rw [hu.out]; omega)
      have hkk : ((k : Int) == (k : Int)) = true := by simp
      replace hc := Lib.hid hc
      replace K12 := Lib.hid K12
      clear hb1 B12 hz12 R11 R12 K11
      go_wp2_with fail
      refine hc.out.mono ?_
      rintro e W13 ⟨rfl, B13, z13, s13, k13, o13⟩
      clear hc hW12
      have K13 := K12.out.keep B13
      obtain ⟨sq, kq, tq, _⟩ := K13
      have BB := K12.out.below.trans (B13.mono K12.out.below.size)
      have hq := rsame_calls _ _ _ _ _ _ _ _ _ _ W13 kq k13 tq o13.row
      rw [sameB_refl] at hq
      replace hq := Lib.hid hq
      replace BB := Lib.hid BB
      clear K12 B13 k13 o13 kq tq
      go_wp2_with fail
      refine hq.out.mono ?_
      rintro e W14 ⟨rfl, q14, rfl⟩
      clear hq
      have B14 := below_drewN BB.out q14
      generalize W13.drewN q14 = W14 at *
      have hq := ticks_calls _ _ ts ts W14 (O2.out.keep B14) (T2.out.keep B14)
      rw [decide_eq_true rfl] at hq
      replace hq := Lib.hid hq
      replace B14 := Lib.hid B14
      clear BB
      go_wp2_with fail
      refine hq.out.mono ?_
      rintro e W15 ⟨rfl, q15, rfl⟩
      clear hq
      have B15 := below_drewN B14.out q15
      generalize W14.drewN q15 = W15 at *
      replace B15 := Lib.hid B15
      clear B14
      go_wp2_with fail
      refine (haw.out _).mono ?_
      rintro e W16 ⟨rfl, hb⟩
      have B16 := B15.out.trans (hb.mono B15.out.size)
      replace B16 := Lib.hid B16
      clear hb B15
      go_wp2_with fail
      go_ret
      exact ⟨rfl, B2.out.trans (B16.out.mono B2.out.size)⟩
    · have hkme : ((k : Int) == (m : Int)) = false := beq_eq_false_iff_ne.2 (by omega)
      have hlt : k < m := by omega
      have hkz : (k : Int) < (m : Int) := by omega
      obtain ⟨_, _, ea, _, _, hrow2⟩ := A2.out.open
      injection ea with ea1 ea2 ea3
      clear ea2
      subst ea3
      subst ea1
      have hne : xs ≠ [] := fun e => by have := hmm.out; rw [e] at this; simp at this; omega
      obtain ⟨tb, off, rfl, hcell⟩ := hrow2 hne
      obtain ⟨a, hka⟩ : ∃ a, xs[k]? = some a := ⟨_, List.getElem?_eq_getElem (by rw [hmm.out]; exact hlt)⟩
      obtain ⟨d0, d1, d2⟩ := hcell k a hka
      obtain ⟨dr, ix, du⟩ := a
      simp only at d0 d1 d2
      replace d0 := (K11.below.cell (World.block_lt_of_cell? _ _ d0)).trans d0
      replace d1 := (K11.below.cell (World.block_lt_of_cell? _ _ d1)).trans d1
      replace d2 := (K11.below.cell (World.block_lt_of_cell? _ _ d2)).trans d2
      have hnb : W11.heap.size ≠ W2.heap.size := by have := K11.lt; omega
      have hab := Blk.new W11 #[.bool dr, .int .i64 ix, .int .i64 du] 51
      have hA : Below W11.heap.size W11 (W11.alloc (.cells #[.bool dr, .int .i64 ix, .int .i64 du] 51)) := (Below.refl _ _).alloc (Nat.le_refl _) _
      obtain ⟨W12, hW12⟩ : ∃ W12, W11.alloc (.cells #[.bool dr, .int .i64 ix, .int .i64 du] 51) = W12 := ⟨_, rfl⟩
      rw [hW12] at hab hA
      have K12 := K11.keep hA
      have R12 := R11.keep hA
      have hab0 := hab.cell 0 rfl
      have hab1 := hab.cell 1 rfl
      have hab2 := hab.cell 2 rfl
      clear hA K11 R11 hcell hka hne
      have hul2 : us.length ≤ 300 + k := by rw [hu.out]; exact hul
      cases dr
      case true =>
        have hc := K12.dropB ix (by omega)
        replace hc := Lib.hid hc
        replace hab := Lib.hid hab
        replace R12 := Lib.hid R12
        clear K12
        go_wp2_with fail
        refine hc.out.mono ?_
        rintro e W13 ⟨rfl, K13, B13⟩
        clear hc hW12 hab0 hab1 hab2 d0 d1 d2
        have hab13 := hab.out.but B13 hnb
        have R13 : TRow W13 _ us := SRow.but R12.out B13 (Or.inr ap.out)
        have hc := rdrop_calls _ us ix W13 R13 (by omega)
        have hl13 := K13.lt
        have g1 := hab13.cell 1 rfl
        have g2 := hab13.cell 2 rfl
        replace hc := Lib.hid hc
        replace hab13 := Lib.hid hab13
        replace K13 := Lib.hid K13
        clear R13 R12 B13 hab
        go_wp2_with fail
        refine hc.out.mono ?_
        rintro e W14 ⟨v14, rfl, h14, B14⟩
        clear hc g1 g2
        have K14 := K13.out.keep B14
        have hab14 := hab13.out.below B14 hab13.out.lt
        have ap14 := h14.apart (b := W2.heap.size) hl13
        have R14 := h14.row
        have hle : (dropL us ix).length ≤ 300 + k + 1 := dropL_le hul2
        obtain ⟨us2, h2⟩ : ∃ us2, dropL us ix = us2 := ⟨_, rfl⟩
        rw [h2] at K14 R14 hle
        clear h14 h2 B14 K13 hab13 hl13
        obtain ⟨vb2, vc2, rfl, _⟩ := R14.open
        obtain ⟨u2, hu2⟩ : ∃ u2, us2.length = u2 := ⟨_, rfl⟩
        rw [hu2] at R14 hle ap14 ⊢
        replace hu2 := Lib.hid hu2
        have hd : ∀ (x : Int) (p : Ext), Calls Try.prog 27 #[.pointer (some ⟨W2.heap.size, 0, none⟩), .int .i64 x] (ext W14 p) fun e w' => e = .returned (.int .i64 (dueL us2 x)) ∧ Below (ext W14 p).heap.size (ext W14 p) w' := fun x p => ((K14.ext p).due x).mono fun _ _ ⟨he, _, hb⟩ => ⟨he, hb⟩
        have hr : ∀ (x : Int) (p : Ext), Calls Try.prog 28 #[.slice vb2 u2 vc2, .int .i64 x] (ext W14 p) fun e w' => e = .returned (.int .i64 (dueL us2 x)) ∧ Below (ext W14 p).heap.size (ext W14 p) w' := fun x p => (rdue_calls _ us2 x _ (R14.keep (below_ext W14 p))).mono fun _ _ ⟨he, hw⟩ => ⟨he, by rw [hw]; exact Below.refl _ _⟩
        have e1 := hab14.cells_ext 1 rfl
        have e2 := hab14.cells_ext 2 rfl
        replace hd := Lib.hid hd
        replace hr := Lib.hid hr
        replace K14 := Lib.hid K14
        replace R14 := Lib.hid R14
        replace ap14 := Lib.hid ap14
        clear hab14
        go_wp2_with fail
        refine wp_region_ext (by kernel_rfl) (by kernel_rfl) ?_
        repeat (quiet_step ((go_at_call 27; exact calls_ext_of (hd.out _ _))))
        repeat (quiet_step ((go_at_call 28; exact calls_ext_of (hr.out _ _))))
        repeat (quiet_step ((go_at_call 27; exact calls_ext_of (hd.out _ _))))
        repeat (quiet_step ((go_at_call 28; exact calls_ext_of (hr.out _ _))))
        refine wpQuiet_nil ?_
        rintro _ ⟨pq, rfl⟩
        have K15 := K14.out.ext pq
        have R15 := R14.out.keep (below_ext W14 pq)
        replace K15 := Lib.hid K15
        replace R15 := Lib.hid R15
        clear K14 R14 e1 e2 hd hr
        generalize Go.Proofs.Ytmpnpanlabkkdaa.ext W14 pq = W15 at *
        go_wp2_with fail
        go_roundw
        case rel => exact ⟨k + 1, us2, by omega, by go_num, by rw [hu2.out]; omega, R15.out, ap14.out, K15.out⟩
        case measure => simp [intOf]; omega
      case false =>
        have hc := K12.wakeB ix du (by omega)
        replace hc := Lib.hid hc
        replace hab := Lib.hid hab
        replace R12 := Lib.hid R12
        clear K12
        go_wp2_with fail
        refine hc.out.mono ?_
        rintro e W13 ⟨rfl, K13, B13⟩
        clear hc hW12 hab0 hab1 hab2 d0 d1 d2
        have hab13 := hab.out.but B13 hnb
        have R13 : TRow W13 _ us := SRow.but R12.out B13 (Or.inr ap.out)
        have hc := rwake_calls _ us ix du W13 R13 (by omega)
        have hl13 := K13.lt
        have g1 := hab13.cell 1 rfl
        have g2 := hab13.cell 2 rfl
        replace hc := Lib.hid hc
        replace hab13 := Lib.hid hab13
        replace K13 := Lib.hid K13
        clear R13 R12 B13 hab
        go_wp2_with fail
        refine hc.out.mono ?_
        rintro e W14 ⟨v14, rfl, h14, B14⟩
        clear hc g1 g2
        have K14 := K13.out.keep B14
        have hab14 := hab13.out.below B14 hab13.out.lt
        have ap14 := h14.apart (b := W2.heap.size) hl13
        have R14 := h14.row
        have hle : (wakeL us ix du).length ≤ 300 + k + 1 := wakeL_le hul2
        obtain ⟨us2, h2⟩ : ∃ us2, wakeL us ix du = us2 := ⟨_, rfl⟩
        rw [h2] at K14 R14 hle
        clear h14 h2 B14 K13 hab13 hl13
        obtain ⟨vb2, vc2, rfl, _⟩ := R14.open
        obtain ⟨u2, hu2⟩ : ∃ u2, us2.length = u2 := ⟨_, rfl⟩
        rw [hu2] at R14 hle ap14 ⊢
        replace hu2 := Lib.hid hu2
        have hd : ∀ (x : Int) (p : Ext), Calls Try.prog 27 #[.pointer (some ⟨W2.heap.size, 0, none⟩), .int .i64 x] (ext W14 p) fun e w' => e = .returned (.int .i64 (dueL us2 x)) ∧ Below (ext W14 p).heap.size (ext W14 p) w' := fun x p => ((K14.ext p).due x).mono fun _ _ ⟨he, _, hb⟩ => ⟨he, hb⟩
        have hr : ∀ (x : Int) (p : Ext), Calls Try.prog 28 #[.slice vb2 u2 vc2, .int .i64 x] (ext W14 p) fun e w' => e = .returned (.int .i64 (dueL us2 x)) ∧ Below (ext W14 p).heap.size (ext W14 p) w' := fun x p => (rdue_calls _ us2 x _ (R14.keep (below_ext W14 p))).mono fun _ _ ⟨he, hw⟩ => ⟨he, by rw [hw]; exact Below.refl _ _⟩
        have e1 := hab14.cells_ext 1 rfl
        have e2 := hab14.cells_ext 2 rfl
        replace hd := Lib.hid hd
        replace hr := Lib.hid hr
        replace K14 := Lib.hid K14
        replace R14 := Lib.hid R14
        replace ap14 := Lib.hid ap14
        clear hab14
        go_wp2_with fail
        refine wp_region_ext (by kernel_rfl) (by kernel_rfl) ?_
        repeat (quiet_step ((go_at_call 27; exact calls_ext_of (hd.out _ _))))
        repeat (quiet_step ((go_at_call 28; exact calls_ext_of (hr.out _ _))))
        repeat (quiet_step ((go_at_call 27; exact calls_ext_of (hd.out _ _))))
        repeat (quiet_step ((go_at_call 28; exact calls_ext_of (hr.out _ _))))
        refine wpQuiet_nil ?_
        rintro _ ⟨pq, rfl⟩
        have K15 := K14.out.ext pq
        have R15 := R14.out.keep (below_ext W14 pq)
        replace K15 := Lib.hid K15
        replace R15 := Lib.hid R15
        clear K14 R14 e1 e2 hd hr
        generalize Go.Proofs.Ytmpnpanlabkkdaa.ext W14 pq = W15 at *
        go_wp2_with fail
        go_roundw
        case rel => exact ⟨k + 1, us2, by omega, by go_num, by rw [hu2.out]; omega, R15.out, ap14.out, K15.out⟩
        case measure => simp [intOf]; omega
end Go.Proofs.Ytmpnpanlabkkdaa
