/-
  The document's pool: Wake, Drop.
-/
import Derived.Test.YtlaodkolkoefgaaMg37
import Derived.Test.YtlaodkolkoefgaaStagU
namespace Go.Proofs.Ytlaodkolkoefgaa
open Go.RowKit
set_option linter.unusedSimpArgs false
set_option linter.unusedVariables false

theorem AnyStage.mono {C : Nat → World → Prop} {M N : Nat} (hMN : M ≤ N) {w : World} (h : AnyStage C M w) : AnyStage C N w := h.elim fun s h => ⟨s, by omega, h.2⟩
/-- The worlds of one call whose slice is then stored. -/
def oneC (w : World) (ts : List Tk) (End : World → Prop) (u : Nat → Value) (s : Nat) (W : World) : Prop := match s with
  | 0 => W = w.drew
  | 1 => TOwn W w.heap.size (u 0) ts ∧ Below w.heap.size w W
  | _ => End W
def oneV (s : Nat) (v : Value) : Prop := match s with
  | 0 => ∃ b l c, v = .slice b l c
  | _ => True
theorem oneV_some (s : Nat) : ∃ v, oneV s v := match s with
  | 0 => ⟨.slice none 0 0, none, 0, 0, rfl⟩
  | _ + 1 => ⟨undef, trivial⟩
theorem oneC_cong {w : World} {ts : List Tk} {End : World → Prop} (u u' : Nat → Value) (s : Nat) (W : World) (hu : ∀ j, j < s → u j = u' j) (h : oneC w ts End u s W) : oneC w ts End u' s W := match s, h with
  | 0, h => h
  | 1, h => by unfold oneC at *; rw [← hu 0 (by omega)]; exact h
  | _ + 2, h => h
section
variable {W : World} {qb kb kc ub n : Nat} {x : Nat → Nat} {CE LI : Nat → Nat → Int × Int} {T : Nat → List Tk} {tk : Nat → Bool}
/-- Stored in the chunk, the new ticks are the frame's. -/
theorem Rp.stored (h : Rp W qb kb kc ub n x CE LI T tk) {m : Nat} (hm : m < n) {W1 : World} {ts : List Tk} {v : Value} (hB : Below W.heap.size W W1) (ho : TOwn W1 W.heap.size v ts) (hl : ts.length ≤ 100000) :
    Rp (W1.setCell ⟨x m, 16384, none⟩ v) qb kb kc ub n x CE LI (atF T m ts) tk ∧ But (x m) W (W1.setCell ⟨x m, 16384, none⟩ v) := by
  obtain ⟨s, k, t⟩ := h.ch m hm
  have h1 := h.keep hB
  have k1 := k.keep hB
  have hb : But (x m) W1 (W1.setCell ⟨x m, 16384, none⟩ v) := (But.refl _ _).setCell _ _
  have hap := ho.apart k.lt
  have h2 := h1.chunk hm hb (k1.setTicks v) (SRow.but ho.row hb (Or.inr hap)) (h.u8 m) hl
  refine ⟨?_, (But.of_below hB).setCell _ _⟩
  have e1 : (fun g => if g = m then CE m else CE g) = CE := by funext g; by_cases e : g = m <;> simp [e]
  have e2 : (fun g => if g = m then LI m else LI g) = LI := by funext g; by_cases e : g = m <;> simp [e]
  rw [e1, e2] at h2
  exact h2
set_option maxRecDepth 100000 in
set_option maxHeartbeats 8000000 in
theorem prwake_in (h : Rp W qb kb kc ub n x CE LI T tk) (f i d : Int) (hr : inR n f i) (hd : d ≤ 2199023255552) (hl : (T f.toNat).length ≤ 90000) :
    Calls Try.prog 46 #[.pointer (some ⟨qb, 0, none⟩), .int .i64 f, .int .i64 i, .int .i64 d] W fun e w' => e = .returned (.tuple #[]) ∧ Rp w' qb kb kc ub n x CE LI (atF T f.toNat (wakeL (T f.toNat) i d)) tk ∧ But (x f.toNat) W w' := by
  obtain ⟨m, j, rfl, rfl, hm, hj⟩ := inR_nat hr
  rw [Int.toNat_natCast] at *
  have hc := in_calls qb kb kc n m j W h.c0 h.n64
  rw [decide_eq_true hr] at hc
  replace hc := Lib.hid hc
  have hd' : decide (d ≤ 2199023255552) = true := by simp; exact hd
  have hn64 := h.n64
  have hmz : (m : Int) < (n : Int) := by omega
  obtain ⟨s, kx, tr⟩ := h.ch m hm
  obtain ⟨tb, tc, rfl, _⟩ := tr.open
  have hwl : (wakeL (T m) j d).length ≤ 100000 := Nat.le_trans (wakeL_len _ _ _) (by omega)
  have hend := fun (W1 : World) (v : Value) (hB : Below W.heap.size W W1) (ho : TOwn W1 W.heap.size v (wakeL (T m) j d)) => h.stored hm hB ho hwl
  obtain ⟨End, hEnd⟩ : ∃ E : World → Prop, E = fun w' => Rp w' qb kb kc ub n x CE LI (atF T m (wakeL (T m) j d)) tk ∧ But (x m) W w' := ⟨_, rfl⟩
  have hwk := fun W' (hB : Below W.heap.size W W') => rwake_calls (.slice tb (T m).length tc) (T m) j d W' (tr.keep hB) (by omega)
  have hreads : ∀ u w', AnyStage (oneC W (wakeL (T m) j d) End u) 2 w' → w'.cell? ⟨qb, 0, none⟩ = some (.slice (some ⟨kb, 0, none⟩) n kc) ∧ w'.cell? ⟨kb, m, none⟩ = some (.pointer (some ⟨x m, 0, none⟩)) := by
    rintro u w' ⟨s, hs, hC⟩
    match s, hC with
    | 0, hC => cases hC; exact ⟨h.c0, h.ptr hm⟩
    | 1, hC => exact ⟨(h.keep hC.2).c0, (h.keep hC.2).ptr hm⟩
    | s + 2, hC =>
      have hC : End w' := hC
      rw [hEnd] at hC
      exact ⟨hC.1.c0, hC.1.ptr hm⟩
  have ktk := kx.tk
  generalize wakeL (T m) j d = TS at *
  generalize hTm : (T m).length = tl at *
  replace hTm := Lib.hid hTm
  replace h := Lib.hid h
  replace hend := Lib.hid hend
  replace hwk := Lib.hid hwk
  replace hreads := Lib.hid hreads
  replace kx := Lib.hid kx
  replace tr := Lib.hid tr
  clear hr hwl
  go_enter Try.func46, Try.ntmps46
  go_wp2_with fail
  refine hc.out.mono ?_
  rintro e w1 ⟨rfl, hw1⟩
  subst hw1
  clear hc
  go_upto_region 1 with fail
  refine wp_region_stageM [2, 2, 2, 2, 2, 2, 2, 2, 2, 2, 2, 2, 2, 2, 2, 2, 0, 0, 0, 2, 2, 2, 2] (C := oneC w1 TS End) (V := oneV) (N := 2) (by kernel_rfl) (by kernel_rfl) (by kernel_rfl) (by kernel_rfl) (by kernel_rfl) oneV_some (fun u u' s w h1 h2 => oneC_cong u u' s w h1 h2) (fun _ => rfl) ?_
  intro u hu
  have q2a : ∀ p : {w // AnyStage (oneC w1 TS End u) 2 w}, p.val.cell? ⟨qb, 0, none⟩ = some (.slice (some ⟨kb, 0, none⟩) n kc) := fun p => (hreads.out u p.val p.property).1
  have q2b : ∀ p : {w // AnyStage (oneC w1 TS End u) 2 w}, p.val.cell? ⟨kb, m, none⟩ = some (.pointer (some ⟨x m, 0, none⟩)) := fun p => (hreads.out u p.val p.property).2
  have q1a : ∀ p : {w // AnyStage (oneC w1 TS End u) 1 w}, p.val.cell? ⟨qb, 0, none⟩ = some (.slice (some ⟨kb, 0, none⟩) n kc) := fun p => (hreads.out u p.val (p.property.mono (by omega))).1
  have q1b : ∀ p : {w // AnyStage (oneC w1 TS End u) 1 w}, p.val.cell? ⟨kb, m, none⟩ = some (.pointer (some ⟨x m, 0, none⟩)) := fun p => (hreads.out u p.val (p.property.mono (by omega))).2
  have q0c : ∀ p : {w // AnyStage (oneC w1 TS End u) 0 w}, p.val.cell? ⟨x m, 16384, none⟩ = some (.slice tb tl tc) := fun p => by
    have hC : p.val = w1.drew := by
      obtain ⟨s, hs, hC⟩ := p.property
      obtain rfl : s = 0 := by omega
      exact hC
    rw [hC]
    exact ktk
  have n2 : Nonempty {w // AnyStage (oneC w1 TS End u) 2 w} := ⟨⟨w1.drew, 0, by omega, rfl⟩⟩
  have n1 : Nonempty {w // AnyStage (oneC w1 TS End u) 1 w} := ⟨⟨w1.drew, 0, by omega, rfl⟩⟩
  have n0 : Nonempty {w // AnyStage (oneC w1 TS End u) 0 w} := ⟨⟨w1.drew, 0, by omega, rfl⟩⟩
  have q0a : ∀ p : {w // AnyStage (oneC w1 TS End u) 0 w}, p.val.cell? ⟨qb, 0, none⟩ = some (.slice (some ⟨kb, 0, none⟩) n kc) := fun p => (hreads.out u p.val (p.property.mono (by omega))).1
  have q0b : ∀ p : {w // AnyStage (oneC w1 TS End u) 0 w}, p.val.cell? ⟨kb, m, none⟩ = some (.pointer (some ⟨x m, 0, none⟩)) := fun p => (hreads.out u p.val (p.property.mono (by omega))).2
  repeat (refine wpStageM_step rfl (fun K hK => ?_); go_simp; refine hK _ ?_; clear hK K)
  refine wpStageM_call rfl (fun w' hw' => ?_) ?_
  · have e : w' = w1.drew := hw'
    subst e
    unfold callAtU
    go_simp
    refine (hwk.out _ (Below.refl _ _).drew).mono ?_
    rintro e W2 ⟨v, rfl, ho, hb⟩
    have ho2 := ho
    obtain ⟨vb, vc, e, _⟩ := ho2.row.open
    subst e
    exact ⟨_, rfl, ⟨_, _, _, rfl⟩, ho, (Below.refl _ _).drew.trans hb⟩
  repeat (refine wpStageM_step rfl (fun K hK => ?_); go_simp; refine hK _ ?_; clear hK K)
  obtain ⟨vb, vl, vc, hu0⟩ := hu 0
  refine wpStageM_call rfl (fun w' hw' => ?_) ?_
  · obtain ⟨ho, hb⟩ := hw'
    rw [hu0] at ho
    have kk := kx.out.keep hb
    have c1 := kk.tk
    have f1 := kk.frozen 16384
    have E1 := hend.out _ _ hb ho
    replace ho := Lib.hid ho
    replace hb := Lib.hid hb
    clear kk
    unfold callAtU
    go_simp
    exact ⟨trivial, E1⟩
  refine wpStageM_nil ?_
  intro w' hw'
  have hw' : End w' := hw'
  rw [hEnd] at hw'
  replace hw' := Lib.hid hw'
  clear q2a q2b q1a q1b q0a q0b q0c n0 n1 n2
  go_wp2_with fail
  refine bodyPost_end (results_none rfl _ _ _) rfl ?_
  exact ⟨rfl, hw'.out⟩
set_option maxRecDepth 100000 in
set_option maxHeartbeats 8000000 in
theorem prdrop_in (h : Rp W qb kb kc ub n x CE LI T tk) (f i : Int) (hr : inR n f i) (hl : (T f.toNat).length ≤ 90000) :
    Calls Try.prog 47 #[.pointer (some ⟨qb, 0, none⟩), .int .i64 f, .int .i64 i] W fun e w' => e = .returned (.tuple #[]) ∧ Rp w' qb kb kc ub n x CE LI (atF T f.toNat (dropL (T f.toNat) i)) tk ∧ But (x f.toNat) W w' := by
  obtain ⟨m, j, rfl, rfl, hm, hj⟩ := inR_nat hr
  rw [Int.toNat_natCast] at *
  have hc := in_calls qb kb kc n m j W h.c0 h.n64
  rw [decide_eq_true hr] at hc
  replace hc := Lib.hid hc
  have hn64 := h.n64
  have hmz : (m : Int) < (n : Int) := by omega
  obtain ⟨s, kx, tr⟩ := h.ch m hm
  obtain ⟨tb, tc, rfl, _⟩ := tr.open
  have hwl : (dropL (T m) j).length ≤ 100000 := Nat.le_trans (dropL_len _ _) (by omega)
  have hend := fun (W1 : World) (v : Value) (hB : Below W.heap.size W W1) (ho : TOwn W1 W.heap.size v (dropL (T m) j)) => h.stored hm hB ho hwl
  obtain ⟨End, hEnd⟩ : ∃ E : World → Prop, E = fun w' => Rp w' qb kb kc ub n x CE LI (atF T m (dropL (T m) j)) tk ∧ But (x m) W w' := ⟨_, rfl⟩
  have hwk := fun W' (hB : Below W.heap.size W W') => rdrop_calls (.slice tb (T m).length tc) (T m) j W' (tr.keep hB) (by omega)
  have hreads : ∀ u w', AnyStage (oneC W (dropL (T m) j) End u) 2 w' → w'.cell? ⟨qb, 0, none⟩ = some (.slice (some ⟨kb, 0, none⟩) n kc) ∧ w'.cell? ⟨kb, m, none⟩ = some (.pointer (some ⟨x m, 0, none⟩)) := by
    rintro u w' ⟨s, hs, hC⟩
    match s, hC with
    | 0, hC => cases hC; exact ⟨h.c0, h.ptr hm⟩
    | 1, hC => exact ⟨(h.keep hC.2).c0, (h.keep hC.2).ptr hm⟩
    | s + 2, hC =>
      have hC : End w' := hC
      rw [hEnd] at hC
      exact ⟨hC.1.c0, hC.1.ptr hm⟩
  have ktk := kx.tk
  generalize dropL (T m) j = TS at *
  generalize hTm : (T m).length = tl at *
  replace hTm := Lib.hid hTm
  replace h := Lib.hid h
  replace hend := Lib.hid hend
  replace hwk := Lib.hid hwk
  replace hreads := Lib.hid hreads
  replace kx := Lib.hid kx
  replace tr := Lib.hid tr
  clear hr hwl
  go_enter Try.func47, Try.ntmps47
  go_wp2_with fail
  refine hc.out.mono ?_
  rintro e w1 ⟨rfl, hw1⟩
  subst hw1
  clear hc
  go_upto_region 1 with fail
  refine wp_region_stageM [2, 2, 2, 2, 2, 2, 2, 2, 2, 2, 2, 2, 2, 2, 2, 2, 0, 0, 2, 2, 2, 2] (C := oneC w1 TS End) (V := oneV) (N := 2) (by kernel_rfl) (by kernel_rfl) (by kernel_rfl) (by kernel_rfl) (by kernel_rfl) oneV_some (fun u u' s w h1 h2 => oneC_cong u u' s w h1 h2) (fun _ => rfl) ?_
  intro u hu
  have q2a : ∀ p : {w // AnyStage (oneC w1 TS End u) 2 w}, p.val.cell? ⟨qb, 0, none⟩ = some (.slice (some ⟨kb, 0, none⟩) n kc) := fun p => (hreads.out u p.val p.property).1
  have q2b : ∀ p : {w // AnyStage (oneC w1 TS End u) 2 w}, p.val.cell? ⟨kb, m, none⟩ = some (.pointer (some ⟨x m, 0, none⟩)) := fun p => (hreads.out u p.val p.property).2
  have q1a : ∀ p : {w // AnyStage (oneC w1 TS End u) 1 w}, p.val.cell? ⟨qb, 0, none⟩ = some (.slice (some ⟨kb, 0, none⟩) n kc) := fun p => (hreads.out u p.val (p.property.mono (by omega))).1
  have q1b : ∀ p : {w // AnyStage (oneC w1 TS End u) 1 w}, p.val.cell? ⟨kb, m, none⟩ = some (.pointer (some ⟨x m, 0, none⟩)) := fun p => (hreads.out u p.val (p.property.mono (by omega))).2
  have q0c : ∀ p : {w // AnyStage (oneC w1 TS End u) 0 w}, p.val.cell? ⟨x m, 16384, none⟩ = some (.slice tb tl tc) := fun p => by
    have hC : p.val = w1.drew := by
      obtain ⟨s, hs, hC⟩ := p.property
      obtain rfl : s = 0 := by omega
      exact hC
    rw [hC]
    exact ktk
  have n2 : Nonempty {w // AnyStage (oneC w1 TS End u) 2 w} := ⟨⟨w1.drew, 0, by omega, rfl⟩⟩
  have n1 : Nonempty {w // AnyStage (oneC w1 TS End u) 1 w} := ⟨⟨w1.drew, 0, by omega, rfl⟩⟩
  have n0 : Nonempty {w // AnyStage (oneC w1 TS End u) 0 w} := ⟨⟨w1.drew, 0, by omega, rfl⟩⟩
  have q0a : ∀ p : {w // AnyStage (oneC w1 TS End u) 0 w}, p.val.cell? ⟨qb, 0, none⟩ = some (.slice (some ⟨kb, 0, none⟩) n kc) := fun p => (hreads.out u p.val (p.property.mono (by omega))).1
  have q0b : ∀ p : {w // AnyStage (oneC w1 TS End u) 0 w}, p.val.cell? ⟨kb, m, none⟩ = some (.pointer (some ⟨x m, 0, none⟩)) := fun p => (hreads.out u p.val (p.property.mono (by omega))).2
  repeat (refine wpStageM_step rfl (fun K hK => ?_); go_simp; refine hK _ ?_; clear hK K)
  refine wpStageM_call rfl (fun w' hw' => ?_) ?_
  · have e : w' = w1.drew := hw'
    subst e
    unfold callAtU
    go_simp
    refine (hwk.out _ (Below.refl _ _).drew).mono ?_
    rintro e W2 ⟨v, rfl, ho, hb⟩
    have ho2 := ho
    obtain ⟨vb, vc, e, _⟩ := ho2.row.open
    subst e
    exact ⟨_, rfl, ⟨_, _, _, rfl⟩, ho, (Below.refl _ _).drew.trans hb⟩
  repeat (refine wpStageM_step rfl (fun K hK => ?_); go_simp; refine hK _ ?_; clear hK K)
  obtain ⟨vb, vl, vc, hu0⟩ := hu 0
  refine wpStageM_call rfl (fun w' hw' => ?_) ?_
  · obtain ⟨ho, hb⟩ := hw'
    rw [hu0] at ho
    have kk := kx.out.keep hb
    have c1 := kk.tk
    have f1 := kk.frozen 16384
    have E1 := hend.out _ _ hb ho
    replace ho := Lib.hid ho
    replace hb := Lib.hid hb
    clear kk
    unfold callAtU
    go_simp
    exact ⟨trivial, E1⟩
  refine wpStageM_nil ?_
  intro w' hw'
  have hw' : End w' := hw'
  rw [hEnd] at hw'
  replace hw' := Lib.hid hw'
  clear q2a q2b q1a q1b q0a q0b q0c n0 n1 n2
  go_wp2_with fail
  refine bodyPost_end (results_none rfl _ _ _) rfl ?_
  exact ⟨rfl, hw'.out⟩
set_option maxRecDepth 100000 in
set_option maxHeartbeats 4000000 in
theorem prwake_no (h : Rp W qb kb kc ub n x CE LI T tk) (f i d : Int) (hr : ¬ (inR n f i ∧ d ≤ 2199023255552)) :
    Calls Try.prog 46 #[.pointer (some ⟨qb, 0, none⟩), .int .i64 f, .int .i64 i, .int .i64 d] W fun e w' => e = .returned (.tuple #[]) ∧ w' = W := by
  have hc := in_calls qb kb kc n f i W h.c0 h.n64
  clear h
  by_cases hb : inR n f i
  · rw [decide_eq_true hb] at hc
    replace hc := Lib.hid hc
    have hd' : decide (d ≤ 2199023255552) = false := by simp; have : ¬ d ≤ 2199023255552 := fun h => hr ⟨hb, h⟩
                                                        omega
    clear hr hb
    go_enter Try.func46, Try.ntmps46
    go_wp2_with fail
    refine hc.out.mono ?_
    rintro e w1 ⟨rfl, hw1⟩
    subst hw1
    clear hc
    go_wp2_with fail
    refine bodyPost_end (results_none rfl _ _ _) rfl ?_
    exact ⟨rfl, rfl⟩
  · rw [decide_eq_false hb] at hc
    replace hc := Lib.hid hc
    clear hr hb
    go_enter Try.func46, Try.ntmps46
    go_wp2_with fail
    refine hc.out.mono ?_
    rintro e w1 ⟨rfl, hw1⟩
    subst hw1
    clear hc
    go_wp2_with fail
    refine bodyPost_end (results_none rfl _ _ _) rfl ?_
    exact ⟨rfl, rfl⟩
set_option maxRecDepth 100000 in
set_option maxHeartbeats 4000000 in
theorem prdrop_no (h : Rp W qb kb kc ub n x CE LI T tk) (f i : Int) (hr : ¬ inR n f i) :
    Calls Try.prog 47 #[.pointer (some ⟨qb, 0, none⟩), .int .i64 f, .int .i64 i] W fun e w' => e = .returned (.tuple #[]) ∧ w' = W := by
  have hc := in_calls qb kb kc n f i W h.c0 h.n64
  clear h
  rw [decide_eq_false hr] at hc
  replace hc := Lib.hid hc
  go_enter Try.func47, Try.ntmps47
  go_wp2_with fail
  refine hc.out.mono ?_
  rintro e w1 ⟨rfl, hw1⟩
  subst hw1
  clear hc
  go_wp2_with fail
  refine bodyPost_end (results_none rfl _ _ _) rfl ?_
  exact ⟨rfl, rfl⟩
end
end Go.Proofs.Ytlaodkolkoefgaa
