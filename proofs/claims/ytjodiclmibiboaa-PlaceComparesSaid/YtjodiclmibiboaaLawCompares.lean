/-
  Order and distance of places are as the document says: PlaceCompares gives true for every two places and two spots of numbers. No condition.
-/
import Derived.Test.YtjodiclmibiboaaCompares
import Derived.Test.YtjodiclmibiboaaFlat
namespace Go.Proofs.Ytjodiclmibiboaa
namespace placeCompares
open Go.ChangeShapes Go.WideShapes Go.ChangeAt Go.RowKit
set_option linter.unusedVariables false
theorem own : ownKnob Try.prog.godebug = none := by kernel_rfl
theorem laidOut : laidOutB Try.prog = true := by kernel_rfl
set_option maxRecDepth 100000 in
theorem lifted (os : Os) (started : os.Started) (H : Type) (enc : TypeId × Value → H) :
    ReturnsInHanded {} Try.checked os 10 .any (Rows.placeComparesSpec.pre6 enc Try.prog Try.f10 Rows.placeComparesRow.domain false) (Rows.placeComparesSpec.post enc Try.prog Try.f10 false true false false) := by
  refine returnsInHanded_of_change_sized (C := Try.checked) own started (by kernel_rfl) Try.func10
    (ChangeSpec.witness6 (enc := enc) (C := Try.checked) false ⟨#[], #[.agg #[.int .i64 0, .int .i64 0, .int .i64 0, .int .i64 0, .int .i64 0, .int .i64 0, .int .i64 0, .int .i64 0, .int .i64 0, .int .i64 0, .int .i64 0, .int .i64 0]], []⟩ 8 (by kernel_rfl) (by kernel_rfl) (by kernel_rfl) (by kernel_rfl)) ?_
  intro W base args ds gs before hval0 hW hcnd hsz0 _
  have hsz : (DataW.weightsEach Try.prog (Try.f10.params.toList ++ Rows.placeComparesSpec.plain.varTypes Try.prog) (ds ++ gs)).all (· ≤ reachBytes) = true := hsz0
  have hval : ∀ (j : Nat) t v, Try.f10.params[j]? = some t → args[j]? = some v → Value.okWide Try.prog W .any base t v := hval0
  have hW' := hW
  obtain ⟨p, q, hA0, hV, rfl, hfz, hnd⟩ := hW
  have hA : DataW.TrodAll enc Try.prog W 0 (fun _ => true) true Try.f10.params.toList args.toList ds p := hA0
  rw [Try.params10] at hA hval hsz
  obtain ⟨v0, vs0, d0, ds0, p0, q0, hargs, rfl, rfl, h0, r0⟩ := trodAll_cons hA
  obtain ⟨rfl, rfl, rfl⟩ := trodAll_nil r0
  obtain rfl : args = #[v0] := by cases args; simp_all
  obtain ⟨rfl, rfl⟩ := trodVars_none hV
  have k0 := h0
  have lt0 : ∀ x ∈ p0, x.block < W.heap.size := by obtain ⟨m, hm⟩ := k0; exact DataW.trod_lt m _ _ _ hm
  obtain ⟨cs0, rfl, hc0⟩ := flat_agg (f := 6) (ks := List.replicate 12 (.i .i64)) (by kernel_rfl) (hval 0 50 v0 rfl rfl) h0 (by kernel_rfl)
  simp only [List.replicate_succ, List.replicate_zero] at hc0
  obtain ⟨_, _, rfl, ⟨a0_0, rfl, wa0_0⟩, hc0_0⟩ := conf_cons hc0
  obtain ⟨_, _, rfl, ⟨a0_1, rfl, wa0_1⟩, hc0_1⟩ := conf_cons hc0_0
  obtain ⟨_, _, rfl, ⟨a0_2, rfl, wa0_2⟩, hc0_2⟩ := conf_cons hc0_1
  obtain ⟨_, _, rfl, ⟨a0_3, rfl, wa0_3⟩, hc0_3⟩ := conf_cons hc0_2
  obtain ⟨_, _, rfl, ⟨a0_4, rfl, wa0_4⟩, hc0_4⟩ := conf_cons hc0_3
  obtain ⟨_, _, rfl, ⟨a0_5, rfl, wa0_5⟩, hc0_5⟩ := conf_cons hc0_4
  obtain ⟨_, _, rfl, ⟨a0_6, rfl, wa0_6⟩, hc0_6⟩ := conf_cons hc0_5
  obtain ⟨_, _, rfl, ⟨a0_7, rfl, wa0_7⟩, hc0_7⟩ := conf_cons hc0_6
  obtain ⟨_, _, rfl, ⟨a0_8, rfl, wa0_8⟩, hc0_8⟩ := conf_cons hc0_7
  obtain ⟨_, _, rfl, ⟨a0_9, rfl, wa0_9⟩, hc0_9⟩ := conf_cons hc0_8
  obtain ⟨_, _, rfl, ⟨a0_10, rfl, wa0_10⟩, hc0_10⟩ := conf_cons hc0_9
  obtain ⟨_, _, rfl, ⟨a0_11, rfl, wa0_11⟩, hc0_11⟩ := conf_cons hc0_10
  obtain rfl := conf_nil hc0_11
  clear hA0 hval0 hsz0
  refine (compares_walk a0_0 a0_1 a0_2 a0_3 a0_4 a0_5 a0_6 a0_7 a0_8 a0_9 a0_10 a0_11 W).mono fun e W' ⟨he, bel⟩ => ?_
  subst he
  exact ⟨_, rfl, _, _, _, [], _, [], hW', trodAll_mk1 (shut_bool Try.underlying4 _), (trodAll_cons_mk (Below.trod laidOut (by kernel_rfl) (of_decide_eq_true (by kernel_rfl)) k0 bel lt0) trodAll_mk0), rfl, bel.frame _, fun h => by cases h⟩
theorem over : Rows.placeComparesRow.holds Try.pinned (OpenSpec.ofChange Rows.placeComparesSpec) :=
  OpenClaim.holds_of_wide 10 Try.f10 rfl rfl rfl rfl rfl rfl rfl ⟨rfl, rfl, rfl, rfl, rfl⟩ rfl rfl rfl rfl rfl (by kernel_rfl) Try.func10 (by kernel_rfl)
    (of_decide_eq_true (by kernel_rfl)) (by unfold Func.isWrapper; first | (rw [if_pos (by decide +kernel)]; kernel_rfl) | (rw [if_neg (by decide +kernel)]; exact ⟨rfl, rfl⟩))
    (fun os started H enc _ => lifted os started H enc)
theorem proved : Rows.PlaceComparesSaid := over
#print axioms proved
end placeCompares
/-- The row, under a short name, for the claim. -/
theorem placeCompares_holds : Rows.PlaceComparesSaid := placeCompares.proved
end Go.Proofs.Ytjodiclmibiboaa
