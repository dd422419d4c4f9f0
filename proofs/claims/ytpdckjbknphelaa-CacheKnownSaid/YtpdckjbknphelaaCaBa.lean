/-
  A cache whose load gives no chunk.
-/
import Derived.Test.YtpdckjbknphelaaCaKp
namespace Go.Proofs.Ytpdckjbknphelaa
open Go.RowKit
set_option linter.unusedSimpArgs false
set_option linter.unusedVariables false

set_option maxRecDepth 100000 in
set_option maxHeartbeats 4000000 in
theorem badload_calls (sx sy sz : Int) (W : World) : Calls Try.prog 25 #[.agg #[.int .i64 sx, .int .i64 sy, .int .i64 sz]] W fun e w' => e = .returned (.tuple #[.pointer none, .int .i64 0]) ∧ Below W.heap.size W w' := by
  have hA : Below W.heap.size W (W.alloc (.cells #[.int .i64 sx, .int .i64 sy, .int .i64 sz] 23)) := (Below.refl _ _).alloc (Nat.le_refl _) _
  replace hA := Lib.hid hA
  go_enter Try.func25, Try.ntmps25
  go_wp2_with fail
  go_ret2
  exact ⟨rfl, hA.out⟩
theorem find_first {n : Nat} (hn : 1 ≤ n) : findS n cs0.sl cs0.hand = some (0, cs0.sl, cs0.hand) := by
  unfold findS
  rw [emptyAt_some (k := 0) (fun j hj => absurd hj (Nat.not_lt_zero _)) (by omega) rfl]
/-- A new cache's view, in a world that was used. -/
def csB (kept : List (Sp × Int)) (calls : List (Bool × Sp × Int)) : Cs := { cs0 with kept := kept, calls := calls }
section
variable {w W W' : World} {fail stop : Int}
set_option maxRecDepth 100000 in
set_option maxHeartbeats 8000000 in
theorem cnewB_calls (kept : List (Sp × Int)) (calls : List (Bool × Sp × Int)) (hkv : ∀ p ∈ kept, 0 ≤ p.2 ∧ p.2 ≤ 7) (n wb : Nat) (fn : Fn) (caps : Array Value) (W : World) (h1 : 1 ≤ n) (h64 : n ≤ 64) (hw : Wv W w.heap.size wb kept calls fail stop) (hbw : Below w.heap.size w W) (e1 : ∀ V : World, (binOp .eql 34 (.func fn caps #[]) .nilFunc).run Try.prog V = .ok (.bool false) V) :
    Calls Try.prog 8 #[.int .i64 n, (.func fn caps #[]), saveF wb] W fun e w' => ∃ b : Bc, e = .returned (.tuple #[.pointer (some ⟨b.cb, 0, none⟩), .int .i64 0]) ∧ b.n = n ∧ b.wb = wb ∧ b.ld = .func fn caps #[] ∧ Cv w w' b (csB kept calls) fail stop ∧ Below W.heap.size W w' := by
  have hf := fnew_calls n W h1 h64
  have hmk := make_slots n (by omega)
  have hrow := slots_made n
  have hmm := @run_makeMap Try.prog
  have e2 : ∀ V : World, (binOp .eql 35 (.func (.func 10) #[.pointer (some ⟨wb, 0, none⟩)] #[]) .nilFunc).run Try.prog V = .ok (.bool false) V := fun V => by kernel_rfl
  have g1 : decide ((n : Int) < 1) = false := by simp; omega
  have g2 : decide (64 < (n : Int)) = false := by simp; omega
  generalize madeCells #[.int .i64 0, .int .i64 0, .int .i64 0, .bool false, .bool false, .bool false, .int .i64 0] (n * 7) = Z at *
  replace hf := Lib.hid hf
  replace hrow := Lib.hid hrow
  replace hw := Lib.hid hw
  unfold saveF
  go_enter Try.func8, Try.ntmps8
  go_wp2_with fail
  refine hf.out.mono ?_
  rintro e V ⟨pb, slab, tb, rfl, hP, hFr⟩
  have hB : Below W.heap.size W V := hFr.2.2.2
  have hFp : Fp w V pb slab tb n zeroP zeroP (fun _ => 0) (fun _ => false) := ⟨hP, Nat.le_trans hbw.size hFr.1, Nat.le_trans hbw.size hFr.2.1, Nat.le_trans hbw.size hFr.2.2.1, hbw.trans (hB.mono hbw.size)⟩
  have hwV := hw.out.keep hB
  have hA1 : Below V.heap.size V (V.alloc (.cells Z 94)) := (Below.refl _ _).alloc (Nat.le_refl _) _
  have hA2 := hA1.alloc (Nat.le_trans (Nat.le_refl _) hA1.size) (.map #[] 0)
  have hs1 := hrow.out V
  have hs2 := hs1.alloc (.map #[] 0)
  have hm2 := Mp.start (V.alloc (.cells Z 94))
  have hz1 : (V.alloc (.cells Z 94)).heap.size = V.heap.size + 1 := by simp
  have hz2 : ((V.alloc (.cells Z 94)).alloc (.map #[] 0)).heap.size = V.heap.size + 2 := by simp
  rw [hz1] at hm2
  have hA3 := hA2.alloc (by rw [hz2]; omega) (.cells #[.pointer (some ⟨pb, 0, none⟩), .slice (some ⟨V.heap.size, 0, none⟩) n n, .map (some (V.heap.size + 1)), .int .i64 0, (.func fn caps #[]), .func (.func 10) #[.pointer (some ⟨wb, 0, none⟩)] #[]] 63)
  have hc3 := Blk.new_at (w := (V.alloc (.cells Z 94)).alloc (.map #[] 0)) (n := V.heap.size + 2) #[.pointer (some ⟨pb, 0, none⟩), .slice (some ⟨V.heap.size, 0, none⟩) n n, .map (some (V.heap.size + 1)), .int .i64 0, (.func fn caps #[]), .func (.func 10) #[.pointer (some ⟨wb, 0, none⟩)] #[]] 63 (by rw [hz2])
  have hs3 := hs2.alloc (.cells #[.pointer (some ⟨pb, 0, none⟩), .slice (some ⟨V.heap.size, 0, none⟩) n n, .map (some (V.heap.size + 1)), .int .i64 0, (.func fn caps #[]), .func (.func 10) #[.pointer (some ⟨wb, 0, none⟩)] #[]] 63)
  have hm3 := hm2.keep (w' := ((V.alloc (.cells Z 94)).alloc (.map #[] 0)).alloc (.cells #[.pointer (some ⟨pb, 0, none⟩), .slice (some ⟨V.heap.size, 0, none⟩) n n, .map (some (V.heap.size + 1)), .int .i64 0, (.func fn caps #[]), .func (.func 10) #[.pointer (some ⟨wb, 0, none⟩)] #[]] 63)) ((Below.refl _ _).alloc (Nat.le_refl _) _)
  have hVs : w.heap.size ≤ V.heap.size := Nat.le_trans hbw.size hB.size
  have hE : Cv w _ ⟨V.heap.size + 2, V.heap.size, V.heap.size + 1, pb, slab, tb, wb, n, (.func fn caps #[])⟩ (csB kept calls) fail stop :=
    { cache := hc3, slots := hs3, map := ⟨0, Nat.zero_le _, hm3⟩, whOk := fun s i => ⟨fun k => (by cases k), fun k => (by cases k.2.1)⟩, spOk := fun i k => (by cases k), pool := ⟨_, _, _, hFp.keep hA3⟩, world := hwV.keep hA3, hand := (by show 0 < n; omega), vals := fun i _ => ⟨0, Int.le_refl _, by omega, rfl⟩, keptv := hkv, n1 := h1, n64 := h64, lc := (by show w.heap.size ≤ V.heap.size + 2; omega), ls := hVs, lm := (by show w.heap.size ≤ V.heap.size + 1; omega) }
  have hBE := hB.trans (hA3.mono hB.size)
  replace hE := Lib.hid hE
  replace hBE := Lib.hid hBE
  clear hf hrow hw hP hFr hFp hwV hA1 hA2 hA3 hs1 hs2 hs3 hm2 hm3 hc3 hB
  go_wp2_with fail
  go_ret2
  exact ⟨⟨V.heap.size + 2, V.heap.size, V.heap.size + 1, pb, slab, tb, wb, n, (.func fn caps #[])⟩, rfl, rfl, rfl, rfl, hE.out, hBE.out⟩
end
section
variable {w W W' : World} {b : Bc} {c : Cs} {fail stop : Int}
set_option maxRecDepth 100000 in
set_option maxHeartbeats 20000000 in
theorem getbad_calls (kept : List (Sp × Int)) (calls : List (Bool × Sp × Int)) (hkl : kept.length ≤ 90000) (hcl0 : calls.length ≤ 90000) (W : World) (h : Cv w W b (csB kept calls) fail stop) (hLd : b.ld = .func (.func 25) #[] #[]) :
    Calls Try.prog 13 #[.pointer (some ⟨b.cb, 0, none⟩), .agg #[.int .i64 1, .int .i64 0, .int .i64 0]] W fun e w' => e = .returned (.tuple #[.int .i64 0, .int .i64 1]) ∧ Cv w w' b (csB kept calls) fail stop ∧ Chg w.heap.size chA W w' := by
  have hsk : spOk (1, 0, 0) := by refine ⟨?_, ?_, ?_⟩ <;> decide
  have hA : Below W.heap.size W (W.alloc (.cells #[.int .i64 1, .int .i64 0, .int .i64 0] 23)) := (Below.refl _ _).alloc (Nat.le_refl _) _
  have hs1 := Blk.new W #[.int .i64 1, .int .i64 0, .int .i64 0] 23
  obtain ⟨W1, hW1⟩ : ∃ W1, W.alloc (.cells #[.int .i64 1, .int .i64 0, .int .i64 0] 23) = W1 := ⟨_, rfl⟩
  rw [hW1] at hA hs1
  have hC1 := h.keep hA
  have hn64 := h.n64
  have hn1 := h.n1
  have his := is_calls b.cb b.pb W1 (hC1.cache.cell 0 rfl)
  have hms := mayspot_calls 1 0 0 W1
  rw [show mayS 1 0 0 = true from by kernel_rfl] at hms
  have z0 := hs1.cell 0 rfl
  have z1 := hs1.cell 1 rfl
  have z2 := hs1.cell 2 rfl
  have hG1 := Lib.hid (Chg.of_below (B := w.heap.size) (S := chA) hA)
  replace his := Lib.hid his
  replace hms := Lib.hid hms
  replace hs1 := Lib.hid hs1
  replace hC1 := Lib.hid hC1
  replace hLd := Lib.hid hLd
  clear h hA
  go_enter Try.func13, Try.ntmps13
  go_wp2_with fail
  refine his.out.mono ?_
  rintro e V ⟨rfl, rfl⟩
  clear hW1
  go_wp2_with fail
  refine hms.out.mono ?_
  rintro e V2 ⟨rfl, hb⟩
  have hbD : Below V.heap.size V V2.drew := hb.drew
  have hC2 := hC1.out.keep hbD
  have hG2 := Lib.hid (hG1.out.below hbD)
  have hs2 := hs1.out.below hbD hs1.out.lt
  clear z0 z1 z2 hb hbD his hms hC1 hG1 hs1
  have c2 := hC2.cache.cell 2 rfl
  obtain ⟨K0, hK0, hmp⟩ := hC2.map
  have hlk := hmp.look2 hsk
  rw [show (csB kept calls).wh (1, 0, 0) = none from rfl] at hlk
  unfold spV wI at hlk
  have z0 := hs2.cell 0 rfl
  have z1 := hs2.cell 1 rfl
  have z2 := hs2.cell 2 rfl
  replace hC2 := Lib.hid hC2
  replace hs2 := Lib.hid hs2
  clear hmp
  go_upto_region 5 with fail
  obtain ⟨CC, hCC⟩ : ∃ C, C = zeroE V2.drew := ⟨_, rfl⟩
  have hp0 : ∀ u (p : {w // AnyStage (CC u) 0 w}), p.val = V2.drew := by rw [hCC]; exact fun u => zeroE_all
  replace hCC := Lib.hid hCC
  refine wp_region_stageN [0, 0, 0, 0, 0, 0, 0, 0, 0, 0, 0] (C := CC) (V := fun _ _ => True) (N := 0) (by kernel_rfl) (by kernel_rfl) (by kernel_rfl) (by kernel_rfl) (by kernel_rfl) (fun _ => ⟨undef, trivial⟩) (fun u u' s w h1 h2 => by rw [hCC.out] at *; exact h2) (fun _ => by rw [hCC.out]; rfl) ?_
  intro u hu
  have n0 : Nonempty {w // AnyStage (CC u) 0 w} := ⟨⟨V2.drew, 0, by omega, by rw [hCC.out]; rfl⟩⟩
  have y2 : ∀ p : {w // AnyStage (CC u) 0 w}, p.val.cell? ⟨b.cb, 2, none⟩ = some (.map (some b.mb)) := fun p => by rw [hp0 u p]; exact c2
  have q0 : ∀ p : {w // AnyStage (CC u) 0 w}, p.val.cell? ⟨W.heap.size, 0, none⟩ = some (Value.int .i64 1) := fun p => by rw [hp0 u p]; exact z0
  have q1 : ∀ p : {w // AnyStage (CC u) 0 w}, p.val.cell? ⟨W.heap.size, 1, none⟩ = some (Value.int .i64 0) := fun p => by rw [hp0 u p]; exact z1
  have q2 : ∀ p : {w // AnyStage (CC u) 0 w}, p.val.cell? ⟨W.heap.size, 2, none⟩ = some (Value.int .i64 0) := fun p => by rw [hp0 u p]; exact z2
  have ql : ∀ p : {w // AnyStage (CC u) 0 w}, (Instr.lookup 61 (.map (some b.mb)) (.agg #[.int .i64 1, .int .i64 0, .int .i64 0]) true).run Try.prog p.val = .ok (.tuple #[.int .i64 0, .bool false]) p.val := fun p => by rw [hp0 u p]; exact hlk
  clear hp0 c2 hlk z0 z1 z2
  repeat (refine wpStageN_step rfl rfl (fun K hK => ?_); go_simp; refine hK _ ?_; clear hK K)
  refine wpStageN_nil ?_
  intro Wx hx
  rw [hCC.out] at hx
  obtain rfl : Wx = V2.drew := hx
  clear q0 q1 q2 ql y2 n0 hu hCC
  have hfd := find_calls _ hC2.out
  unfold findP at hfd
  rw [show findS b.n (csB kept calls).sl (csB kept calls).hand = some (0, (csB kept calls).sl, (csB kept calls).hand) from find_first hn1] at hfd
  simp only at hfd
  replace hfd := Lib.hid hfd
  have hi : 0 < b.n := by omega
  have hiz : (0 : Int) < (b.n : Int) := by omega
  go_wp2_with fail
  refine hfd.out.mono ?_
  rintro e V4 ⟨⟨rfl, hcv⟩, hch⟩
  have hG4 := Lib.hid (hG2.out.trans hch)
  have hs4 := Lib.hid (hch.blk hs2.out (by simp [chA]))
  replace hcv : Cv w V4 b (csB kept calls) fail stop := hcv
  obtain ⟨hv1, hv2, hv3⟩ := hcv.vOf hi
  have hcl := clean_calls 0 (vOf (csB kept calls) 0) V4 hcv hi hv1 ⟨hv2, hv3⟩ (show calls.length ≤ 100000 by omega) (show kept.length ≤ 100000 by omega)
  rw [show cleanS fail stop (csB kept calls) 0 (vOf (csB kept calls) 0) = (0, csB kept calls) from by unfold cleanS; rw [if_neg]; rintro ⟨h, _⟩; cases h] at hcl
  simp only at hcl
  clear hch hcv hv1 hv2 hv3 hG2 hs2 hC2
  replace hcl := Lib.hid hcl
  go_wp2_with fail
  refine hcl.out.mono ?_
  rintro e V5 ⟨rfl, hcv, hch⟩
  have hG5 := Lib.hid (hG4.out.trans hch)
  have hs5 := Lib.hid (hch.blk hs4.out (by simp [chA]))
  clear hch hcl hG4 hs4
  obtain ⟨a0, a1, a2, a3, a4, a5, a6⟩ := hcv.cells hi
  rw [show ((csB kept calls).sl 0).full = false from rfl] at a3
  have c1 := hcv.cache.cell 1 rfl
  have c4 := hcv.cache.cell 4 rfl
  have hs6 := hs5.out.drew
  have z0 := hs6.cell 0 rfl
  have z1 := hs6.cell 1 rfl
  have z2 := hs6.cell 2 rfl
  have hbl := badload_calls 1 0 0 V5.drew
  have hT := Lib.hid (hcv.keep (Below.refl V5.heap.size V5).drew)
  have hGT := Lib.hid (hG5.out.below (Below.refl V5.heap.size V5).drew)
  replace hbl := Lib.hid hbl
  replace hs6 := Lib.hid hs6
  clear a0 a1 a2 a4 a5 a6 hcv hs5 hG5
  go_upto_region 18 with fail
  obtain ⟨CC, hCC⟩ : ∃ C, C = callE V5.drew (fun _ V => Below V5.drew.heap.size V5.drew V) := ⟨_, rfl⟩
  have hp0 : ∀ u (p : {w // AnyStage (CC u) 0 w}), p.val = V5.drew := by rw [hCC]; exact fun u => callE_lo
  replace hCC := Lib.hid hCC
  refine wp_region_stageN [1, 1, 1, 0, 0, 1, 1, 1, 1, 1, 1] (C := CC) (V := callV (fun v => v = .tuple #[.pointer none, .int .i64 0])) (N := 1) (by kernel_rfl) (by kernel_rfl) (by kernel_rfl) (by kernel_rfl) (by kernel_rfl) (callV_some ⟨_, rfl⟩) (fun u u' s w h1 h2 => by rw [hCC.out] at *; exact callE_cong u u' s w h1 h2) (fun _ => by rw [hCC.out]; rfl) ?_
  intro u hu
  have e0 : u 0 = .tuple #[.pointer none, .int .i64 0] := hu 0
  have n0 : Nonempty {w // AnyStage (CC u) 0 w} := ⟨⟨V5.drew, 0, by omega, by rw [hCC.out]; rfl⟩⟩
  have n1 : Nonempty {w // AnyStage (CC u) 1 w} := ⟨⟨V5.drew, 0, by omega, by rw [hCC.out]; rfl⟩⟩
  have y4 : ∀ p : {w // AnyStage (CC u) 0 w}, p.val.cell? ⟨b.cb, 4, none⟩ = some (.func (.func 25) #[] #[]) := fun p => by rw [hp0 u p, ← hLd.out]; exact c4
  have q0 : ∀ p : {w // AnyStage (CC u) 0 w}, p.val.cell? ⟨W.heap.size, 0, none⟩ = some (Value.int .i64 1) := fun p => by rw [hp0 u p]; exact z0
  have q1 : ∀ p : {w // AnyStage (CC u) 0 w}, p.val.cell? ⟨W.heap.size, 1, none⟩ = some (Value.int .i64 0) := fun p => by rw [hp0 u p]; exact z1
  have q2 : ∀ p : {w // AnyStage (CC u) 0 w}, p.val.cell? ⟨W.heap.size, 2, none⟩ = some (Value.int .i64 0) := fun p => by rw [hp0 u p]; exact z2
  clear hp0 c4 z0 z1 z2
  repeat (refine wpStageN_step rfl rfl (fun K hK => ?_); go_simp; refine hK _ ?_; clear hK K)
  refine wpStageN_call rfl rfl (fun Wx hx => ?_) ?_
  · rw [hCC.out] at hx
    obtain rfl : Wx = V5.drew := hx
    unfold callAtU
    go_simp
    refine hbl.out.mono ?_
    rintro e V7 ⟨rfl, hb⟩
    rw [hCC.out]
    exact ⟨_, rfl, rfl, hb⟩
  rw [e0]
  repeat (refine wpStageN_step rfl rfl (fun K hK => ?_); go_simp; refine hK _ ?_; clear hK K)
  refine wpStageN_nil ?_
  intro V7 hx
  rw [hCC.out] at hx
  have hb : Below V5.drew.heap.size V5.drew V7 := hx
  have hC7 := hT.out.keep hb
  have hG7 := Lib.hid (hGT.out.below hb)
  obtain ⟨li, du, tk, hp⟩ := hC7.pool
  have hpl := pload_bad b.pb b.slab b.tb b.n 0 none 1 V7 hp.1.pool hp.1.n64 hi (by decide) (check_nil V7)
  have c0 := hC7.cache.cell 0 rfl
  replace hpl := Lib.hid hpl
  replace hC7 := Lib.hid hC7
  clear hx hb hp hT hGT q0 q1 q2 y4 n0 n1 e0 hu hCC hbl hs6
  go_wp2_with fail
  refine hpl.out.mono ?_
  rintro e V8 ⟨rfl, hb⟩
  have hC8 := Lib.hid (hC7.out.keep hb)
  have hG8 := Lib.hid (hG7.out.below hb)
  clear hb hpl hC7 hG7 c0
  go_wp2_with fail
  go_ret2
  exact ⟨rfl, hC8.out, hG8.out⟩
end
end Go.Proofs.Ytpdckjbknphelaa
