/-
  A new cache.
-/
import Derived.Test.YtpdckjbknphelaaCpK
namespace Go.Proofs.Ytpdckjbknphelaa
open Go.RowKit
set_option linter.unusedSimpArgs false
set_option linter.unusedVariables false
set_option linter.unusedSectionVars false

theorem info_slot : (Try.prog.info? 94).map (fun i => (i.zero, i.size, i.bytes)) = some (some (.agg #[.int .i64 0, .int .i64 0, .int .i64 0, .bool false, .bool false, .bool false, .int .i64 0]), 7, 40) := by kernel_rfl
theorem make_slots (n : Nat) (hn : n ≤ 1000) : ∀ u : World, (Instr.makeSlice 60 (.int .i64 (n : Int)) (.int .i64 (n : Int))).run Try.prog u = .ok (.slice (some ⟨u.heap.size, 0, none⟩) n n) (u.alloc (.cells (madeCells #[.int .i64 0, .int .i64 0, .int .i64 0, .bool false, .bool false, .bool false, .int .i64 0] (n * 7)) 94)) := fun u => by
  obtain ⟨i, hi, hz, h1, h2⟩ := info_parts info_slot
  have hr := run_make (P := Try.prog) u 60 94 i _ Try.underlying60 hi hz .i64 .i64 n n (by omega) (Int.le_refl _) (by rw [h2]; omega) (by omega)
  rw [h1] at hr
  exact hr
theorem slots_made (n : Nat) (u : World) : Row1 (u.alloc (.cells (madeCells #[.int .i64 0, .int .i64 0, .int .i64 0, .bool false, .bool false, .bool false, .int .i64 0] (n * 7)) 94)) u.heap.size 94 (n * 7) (slF fun _ => slZ) := by
  refine ⟨_, Blk.new u _ _, by simp [madeCells], fun i hi => ?_⟩
  have hm : i % 7 = 0 ∨ i % 7 = 1 ∨ i % 7 = 2 ∨ i % 7 = 3 ∨ i % 7 = 4 ∨ i % 7 = 5 ∨ i % 7 = 6 := by omega
  simp [madeCells, hi]
  unfold slF slZ slL
  rcases hm with hm | hm | hm | hm | hm | hm | hm <;> rw [hm] <;> rfl
def cs0 : Cs := ⟨fun _ => slZ, 0, fun _ => none, zeroP, [], []⟩
section
variable [Xs] {w W W' : World} {fail stop : Int}
set_option maxRecDepth 100000 in
set_option maxHeartbeats 8000000 in
theorem cnewG_calls (n wb : Nat) (fn : Fn) (caps : Array Value) (W : World) (h1 : 1 ≤ n) (h64 : n ≤ 64) (hw : Wv W w.heap.size wb [] [] fail stop) (hbw : Below w.heap.size w W) (e1 : ∀ V : World, (binOp .eql 34 (.func fn caps #[]) .nilFunc).run Try.prog V = .ok (.bool false) V) :
    Calls Try.prog 8 #[.int .i64 n, (.func fn caps #[]), saveF wb] W fun e w' => ∃ b : Bc, e = .returned (.tuple #[.pointer (some ⟨b.cb, 0, none⟩), .int .i64 0]) ∧ b.n = n ∧ b.wb = wb ∧ b.ld = .func fn caps #[] ∧ Cv w w' b cs0 fail stop ∧ Below W.heap.size W w' := by
  have hf := fnew_calls n W h1 h64
  have hmk := make_slots n (by omega)
  have hrow := slots_made n
  have hmm := @run_makeMap Try.prog
  have e2 : ∀ V : World, (binOp .eql 35 (.func (.func 10) #[.pointer (some ⟨wb, 0, none⟩)] #[]) .nilFunc).run Try.prog V = .ok (.bool false) V := fun V => by kernel_rfl
  have g1 : decide ((n : Int) < 1) = false := by simp; omega
  have g2 : decide (64 < (n : Int)) = false := by simp; omega
  generalize madeCells #[.int .i64 0, .int .i64 0, .int .i64 0, .bool false, .bool false, .bool false, .int .i64 0] (n * 7) = Z at *
  replace hf := Lib.hid hf
  replace hrow := Lib.hid hrow
  replace hw := Lib.hid hw
  unfold saveF
  go_enter Try.func8, Try.ntmps8
  go_wp2_with fail
  refine hf.out.mono ?_
  rintro e V ⟨pb, slab, tb, rfl, hP, hFr⟩
  have hB : Below W.heap.size W V := hFr.2.2.2
  have hFp : Fp w V pb slab tb n zeroP zeroP (fun _ => 0) (fun _ => false) := ⟨hP, Nat.le_trans hbw.size hFr.1, Nat.le_trans hbw.size hFr.2.1, Nat.le_trans hbw.size hFr.2.2.1, hbw.trans (hB.mono hbw.size)⟩
  have hwV := hw.out.keep hB
  have hA1 : Below V.heap.size V (V.alloc (.cells Z 94)) := (Below.refl _ _).alloc (Nat.le_refl _) _
  have hA2 := hA1.alloc (Nat.le_trans (Nat.le_refl _) hA1.size) (.map #[] 0)
  have hs1 := hrow.out V
  have hs2 := hs1.alloc (.map #[] 0)
  have hm2 := Mp.start (V.alloc (.cells Z 94))
  have hz1 : (V.alloc (.cells Z 94)).heap.size = V.heap.size + 1 := by simp
  have hz2 : ((V.alloc (.cells Z 94)).alloc (.map #[] 0)).heap.size = V.heap.size + 2 := by simp
  rw [hz1] at hm2
  have hA3 := hA2.alloc (by rw [hz2]; omega) (.cells #[.pointer (some ⟨pb, 0, none⟩), .slice (some ⟨V.heap.size, 0, none⟩) n n, .map (some (V.heap.size + 1)), .int .i64 0, (.func fn caps #[]), .func (.func 10) #[.pointer (some ⟨wb, 0, none⟩)] #[]] 63)
  have hc3 := Blk.new_at (w := (V.alloc (.cells Z 94)).alloc (.map #[] 0)) (n := V.heap.size + 2) #[.pointer (some ⟨pb, 0, none⟩), .slice (some ⟨V.heap.size, 0, none⟩) n n, .map (some (V.heap.size + 1)), .int .i64 0, (.func fn caps #[]), .func (.func 10) #[.pointer (some ⟨wb, 0, none⟩)] #[]] 63 (by rw [hz2])
  have hs3 := hs2.alloc (.cells #[.pointer (some ⟨pb, 0, none⟩), .slice (some ⟨V.heap.size, 0, none⟩) n n, .map (some (V.heap.size + 1)), .int .i64 0, (.func fn caps #[]), .func (.func 10) #[.pointer (some ⟨wb, 0, none⟩)] #[]] 63)
  have hm3 := hm2.keep (w' := ((V.alloc (.cells Z 94)).alloc (.map #[] 0)).alloc (.cells #[.pointer (some ⟨pb, 0, none⟩), .slice (some ⟨V.heap.size, 0, none⟩) n n, .map (some (V.heap.size + 1)), .int .i64 0, (.func fn caps #[]), .func (.func 10) #[.pointer (some ⟨wb, 0, none⟩)] #[]] 63)) ((Below.refl _ _).alloc (Nat.le_refl _) _)
  have hVs : w.heap.size ≤ V.heap.size := Nat.le_trans hbw.size hB.size
  have hnx : ∀ c, W.heap.size ≤ c → ¬ Xs.X c := fun c hc k => absurd (hw.out.1.lt c k) (by omega)
  have hBsz := hB.size
  have hE : Cv w _ ⟨V.heap.size + 2, V.heap.size, V.heap.size + 1, pb, slab, tb, wb, n, (.func fn caps #[])⟩ cs0 fail stop :=
    { cache := hc3, slots := hs3, map := ⟨0, Nat.le_refl _, hm3⟩, whOk := fun s i => ⟨fun k => (by cases k), fun k => (by cases k.2.1)⟩, spOk := fun i k => (by cases k), pool := ⟨_, _, _, hFp.keep hA3⟩, world := hwV.keep hA3, hand := (by show 0 < n; omega), vals := fun i _ => ⟨0, Int.le_refl _, by omega, rfl⟩, keptv := fun p hp => (by cases hp), n1 := h1, n64 := h64, lc := (by show w.heap.size ≤ V.heap.size + 2; omega), ls := hVs, lm := (by show w.heap.size ≤ V.heap.size + 1; omega), nx := ⟨hnx _ (by show W.heap.size ≤ V.heap.size + 2; omega), hnx _ hBsz, hnx _ (by show W.heap.size ≤ V.heap.size + 1; omega), hnx _ hFr.1, hnx _ hFr.2.1, hnx _ hFr.2.2.1⟩ }
  have hBE := hB.trans (hA3.mono hB.size)
  replace hE := Lib.hid hE
  replace hBE := Lib.hid hBE
  clear hnx hBsz hf hrow hw hP hFr hFp hwV hA1 hA2 hA3 hs1 hs2 hs3 hm2 hm3 hc3 hB
  go_wp2_with fail
  go_ret2
  exact ⟨⟨V.heap.size + 2, V.heap.size, V.heap.size + 1, pb, slab, tb, wb, n, (.func fn caps #[])⟩, rfl, rfl, rfl, rfl, hE.out, hBE.out⟩
theorem cnew_calls (n wb : Nat) (W : World) (h1 : 1 ≤ n) (h64 : n ≤ 64) (hw : Wv W w.heap.size wb [] [] fail stop) (hbw : Below w.heap.size w W) :
    Calls Try.prog 8 #[.int .i64 n, loadF wb, saveF wb] W fun e w' => ∃ b : Bc, e = .returned (.tuple #[.pointer (some ⟨b.cb, 0, none⟩), .int .i64 0]) ∧ b.n = n ∧ b.wb = wb ∧ b.ld = loadF b.wb ∧ Cv w w' b cs0 fail stop ∧ Below W.heap.size W w' :=
  (cnewG_calls n wb (.func 9) #[.pointer (some ⟨wb, 0, none⟩)] W h1 h64 hw hbw fun V => by kernel_rfl).mono fun e w' ⟨b, h2, h3, h4, h5, h6, h7⟩ => ⟨b, h2, h3, h4, by rw [h5, h4]; rfl, h6, h7⟩
end
end Go.Proofs.Ytpdckjbknphelaa
