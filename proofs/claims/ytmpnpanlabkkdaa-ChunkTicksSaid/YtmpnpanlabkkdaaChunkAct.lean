/-
  How the acts of the chunk's laws read.
-/
import Derived.Test.YtmpnpanlabkkdaaChunkRow
namespace Go.Proofs.Ytmpnpanlabkkdaa
set_option linter.unusedSimpArgs false
set_option linter.unusedVariables false
open Go.ChangeShapes Go.WideShapes Go.ChangeAt Go.RowKit

abbrev Ac := Bool × Int × Int
def actV (a : Ac) : List Value := [.bool a.1, .int .i64 a.2.1, .int .i64 a.2.2]
def ARow (w : World) (s : Value) (xs : List Ac) : Prop := SRow w 3 s (xs.map actV)
theorem ARow.keep {w w' : World} {s : Value} {xs : List Ac} (h : ARow w s xs) (hb : Below w.heap.size w w') : ARow w' s xs := SRow.keep h hb
section
variable {H : Type} {enc : TypeId × Value → H} {w : World} {base : Nat} {held : Bool} {r : Reach} {b0 : Nat} {v : Value} {d : DataW H} {p : List MemPlace}
theorem open_acts (hv : Value.okWide Try.prog w r b0 34 v) (h : DataW.Trod enc Try.prog w base (fun _ => true) held 34 v d p) : ∃ xs : List Ac, ARow w v xs ∧ ∀ a ∈ xs, (-9223372036854775808 ≤ a.2.1 ∧ a.2.1 ≤ 9223372036854775807) ∧ -9223372036854775808 ≤ a.2.2 ∧ a.2.2 ≤ 9223372036854775807 := by
  obtain ⟨xs, hx, hc⟩ := open_rows (f := 8) (ks := [.b, .i .i64, .i .i64]) Try.underlying34 (by kernel_rfl) (by kernel_rfl) (by decide) hv h
  obtain ⟨ts, rfl, hok⟩ := list_of (g := actV) (ok := fun a => (-9223372036854775808 ≤ a.2.1 ∧ a.2.1 ≤ 9223372036854775807) ∧ -9223372036854775808 ≤ a.2.2 ∧ a.2.2 ≤ 9223372036854775807) (fun x hx => by
    obtain ⟨_, _, rfl, ⟨c, rfl⟩, hx_0⟩ := conf_cons hx
    obtain ⟨_, _, rfl, ⟨a, rfl, wa⟩, hx_1⟩ := conf_cons hx_0
    obtain ⟨_, _, rfl, ⟨k, rfl, wk⟩, hx_2⟩ := conf_cons hx_1
    obtain rfl := conf_nil hx_2
    exact ⟨(c, a, k), rfl, i64_of_wf wa, i64_of_wf wk⟩) xs hc
  exact ⟨ts, hx, hok⟩
end
end Go.Proofs.Ytmpnpanlabkkdaa
