/-
  How rows of calls read.
-/
import Derived.Test.YtpdckjbknphelaaRfM
import Derived.Test.YtpdckjbknphelaaMg33
namespace Go.Proofs.Ytpdckjbknphelaa
set_option linter.unusedSimpArgs false
set_option linter.unusedVariables false
set_option linter.constructorNameAsVariable false
open Go.ChangeShapes Go.WideShapes Go.ChangeAt Go.RowKit
section
variable {H : Type} {enc : TypeId × Value → H} {w : World} {base : Nat} {held : Bool} {r : Reach} {b0 : Nat} {v : Value} {d : DataW H} {p : List MemPlace}
set_option maxRecDepth 100000 in
theorem open_dos (hv : Value.okWide Try.prog w r b0 64 v) (h : DataW.Trod enc Try.prog w base (fun _ => true) held 64 v d p) : ∃ l : List (Int × Sp × Int), SRow w 5 v (l.map doL) ∧ ∀ s ∈ l, doOk s := by
  obtain ⟨xs, hx, hc⟩ := open_rows (f := 8) (ks := [.i .i64, .i .i64, .i .i64, .i .i64, .i .u8]) Try.underlying64 (by kernel_rfl) (by kernel_rfl) (by decide) hv h
  obtain ⟨zs, rfl, hok⟩ := list_of (g := doL) (ok := doOk) (fun x hx => by
    obtain ⟨_, _, rfl, ⟨q, rfl, wq⟩, hx_0⟩ := conf_cons hx
    obtain ⟨_, _, rfl, ⟨a, rfl, wa⟩, hx_1⟩ := conf_cons hx_0
    obtain ⟨_, _, rfl, ⟨k, rfl, wk⟩, hx_2⟩ := conf_cons hx_1
    obtain ⟨_, _, rfl, ⟨m, rfl, wm⟩, hx_3⟩ := conf_cons hx_2
    obtain ⟨_, _, rfl, ⟨n, rfl, wn⟩, hx_4⟩ := conf_cons hx_3
    obtain rfl := conf_nil hx_4
    exact ⟨(q, (a, k, m), n), rfl, ⟨wa, wk, wm⟩, u8_of_wf wn⟩) xs hc
  exact ⟨zs, hx, hok⟩
end
end Go.Proofs.Ytpdckjbknphelaa
