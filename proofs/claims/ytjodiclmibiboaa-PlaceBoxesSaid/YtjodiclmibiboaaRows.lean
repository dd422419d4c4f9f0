/-
  No cell of these rows narrows 'for every input' (looked for: loops, veiled, ifaces, maps, wideKeys, modest, calm, conditions, laid).
  DERIVED. THE GIVEN ROWS OF THIS SEAT. 10 by the template 'for every input the law returns true; each argument reads behind the call as it read before'; 0 by the template 'total and deterministic' (their statements: YtjodiclmibiboaaTotals.lean).
  GIVEN WITH THE SEED: the statements are not yours to turn. If you find one false, say at which input.
  Laid BY PROGRAM, IN A SANDBOX (cutbox-rows.mjs): the forced cells as the released guide's own fill.sh prints them over the translation 61c42ef1797fe9d2… (all of the seat's roots in one cut). By AI agents, Wed Nov 11 2026. No macro, syntax, notation, axiom, sorry.
-/
import Derived.Test.YtjodiclmibiboaaChecked
import GoSem.Claim
import GoSem.ClaimJoined
import GoSem.ClaimMapViews
import Derived.JoinedTies
import Derived.KernelRfl
namespace Go.Proofs.Ytjodiclmibiboaa
/- THE CELL 'sum', in the pinned program and in every row, IS THE sha256 OF THE DUMP (.gsa) THAT YtjodiclmibiboaaProg.lean LOADS. Nothing in Lean hashes anything: it is a label: what it is worth is what the hold of that sum in a sandbox is worth. -/
noncomputable def Try.pinned : Pinned := { name := "ytjodiclmibiboaa", sum := "61c42ef1797fe9d2e0663ce749be1e2b03572cb8f3df0ecbea48b1010205a664", checked := Try.checked }
namespace Rows
def none {H : Type} : Left H := { results := [], args := [] }

/-- 'bedrocklaw02.PlaceNear': WHATEVER THE INPUT: true; the input reads as it did. -/
def placeNearSpec : ChangeSpec := { name := "placeNear", fn := fun _ => fun
  | [d1, d2, d3] => { results := [.lit (.bool true)], args := [d1, d2, d3] }
  | _ => none }
def placeNearRow : OpenClaim := { program := "ytjodiclmibiboaa", sum := "61c42ef1797fe9d2e0663ce749be1e2b03572cb8f3df0ecbea48b1010205a664", func := "bedrock/bedrocklaw02.PlaceNear", spec := "placeNear", unfollowed := true, recurses := true, apart := false }
def PlaceNearSaid : Prop := placeNearRow.holds Try.pinned (OpenSpec.ofChange placeNearSpec)

/-- ITS FALSE NEIGHBOUR: 'it returns false'. Refute it at one input. -/
def placeNearWrong : ChangeSpec := { name := "placeNear", fn := fun _ => fun
  | [d1, d2, d3] => { results := [.lit (.bool false)], args := [d1, d2, d3] }
  | _ => none }
def PlaceNearWrongFalsely : Prop := placeNearRow.holds Try.pinned (OpenSpec.ofChange placeNearWrong)

/-- 'bedrocklaw02.PlaceTells': WHATEVER THE INPUT: true; the input reads as it did. -/
def placeTellsSpec : ChangeSpec := { name := "placeTells", fn := fun _ => fun
  | [d1, d2, d3] => { results := [.lit (.bool true)], args := [d1, d2, d3] }
  | _ => none }
def placeTellsRow : OpenClaim := { program := "ytjodiclmibiboaa", sum := "61c42ef1797fe9d2e0663ce749be1e2b03572cb8f3df0ecbea48b1010205a664", func := "bedrock/bedrocklaw02.PlaceTells", spec := "placeTells", apart := false }
def PlaceTellsSaid : Prop := placeTellsRow.holds Try.pinned (OpenSpec.ofChange placeTellsSpec)

/-- ITS FALSE NEIGHBOUR: 'it returns false'. Refute it at one input. -/
def placeTellsWrong : ChangeSpec := { name := "placeTells", fn := fun _ => fun
  | [d1, d2, d3] => { results := [.lit (.bool false)], args := [d1, d2, d3] }
  | _ => none }
def PlaceTellsWrongFalsely : Prop := placeTellsRow.holds Try.pinned (OpenSpec.ofChange placeTellsWrong)

/-- 'bedrocklaw02.PlaceBack': WHATEVER THE INPUT: true; the input reads as it did. -/
def placeBackSpec : ChangeSpec := { name := "placeBack", fn := fun _ => fun
  | [d1, d2, d3] => { results := [.lit (.bool true)], args := [d1, d2, d3] }
  | _ => none }
def placeBackRow : OpenClaim := { program := "ytjodiclmibiboaa", sum := "61c42ef1797fe9d2e0663ce749be1e2b03572cb8f3df0ecbea48b1010205a664", func := "bedrock/bedrocklaw02.PlaceBack", spec := "placeBack", apart := false }
def PlaceBackSaid : Prop := placeBackRow.holds Try.pinned (OpenSpec.ofChange placeBackSpec)

/-- ITS FALSE NEIGHBOUR: 'it returns false'. Refute it at one input. -/
def placeBackWrong : ChangeSpec := { name := "placeBack", fn := fun _ => fun
  | [d1, d2, d3] => { results := [.lit (.bool false)], args := [d1, d2, d3] }
  | _ => none }
def PlaceBackWrongFalsely : Prop := placeBackRow.holds Try.pinned (OpenSpec.ofChange placeBackWrong)

/-- 'bedrocklaw02.PlaceSteps': WHATEVER THE INPUT: true; the input reads as it did. -/
def placeStepsSpec : ChangeSpec := { name := "placeSteps", fn := fun _ => fun
  | [d1, d2] => { results := [.lit (.bool true)], args := [d1, d2] }
  | _ => none }
def placeStepsRow : OpenClaim := { program := "ytjodiclmibiboaa", sum := "61c42ef1797fe9d2e0663ce749be1e2b03572cb8f3df0ecbea48b1010205a664", func := "bedrock/bedrocklaw02.PlaceSteps", spec := "placeSteps", apart := false }
def PlaceStepsSaid : Prop := placeStepsRow.holds Try.pinned (OpenSpec.ofChange placeStepsSpec)

/-- ITS FALSE NEIGHBOUR: 'it returns false'. Refute it at one input. -/
def placeStepsWrong : ChangeSpec := { name := "placeSteps", fn := fun _ => fun
  | [d1, d2] => { results := [.lit (.bool false)], args := [d1, d2] }
  | _ => none }
def PlaceStepsWrongFalsely : Prop := placeStepsRow.holds Try.pinned (OpenSpec.ofChange placeStepsWrong)

/-- 'bedrocklaw02.PlaceBoxes': WHATEVER THE INPUT: true; the input reads as it did. -/
def placeBoxesSpec : ChangeSpec := { name := "placeBoxes", fn := fun _ => fun
  | [d1, d2, d3] => { results := [.lit (.bool true)], args := [d1, d2, d3] }
  | _ => none }
def placeBoxesRow : OpenClaim := { program := "ytjodiclmibiboaa", sum := "61c42ef1797fe9d2e0663ce749be1e2b03572cb8f3df0ecbea48b1010205a664", func := "bedrock/bedrocklaw02.PlaceBoxes", spec := "placeBoxes", unfollowed := true, recurses := true, apart := false }
def PlaceBoxesSaid : Prop := placeBoxesRow.holds Try.pinned (OpenSpec.ofChange placeBoxesSpec)

/-- ITS FALSE NEIGHBOUR: 'it returns false'. Refute it at one input. -/
def placeBoxesWrong : ChangeSpec := { name := "placeBoxes", fn := fun _ => fun
  | [d1, d2, d3] => { results := [.lit (.bool false)], args := [d1, d2, d3] }
  | _ => none }
def PlaceBoxesWrongFalsely : Prop := placeBoxesRow.holds Try.pinned (OpenSpec.ofChange placeBoxesWrong)

/-- 'bedrocklaw02.PlaceEach': WHATEVER THE INPUT: true; the input reads as it did. -/
def placeEachSpec : ChangeSpec := { name := "placeEach", fn := fun _ => fun
  | [d1, d2, d3] => { results := [.lit (.bool true)], args := [d1, d2, d3] }
  | _ => none }
def placeEachRow : OpenClaim := { program := "ytjodiclmibiboaa", sum := "61c42ef1797fe9d2e0663ce749be1e2b03572cb8f3df0ecbea48b1010205a664", func := "bedrock/bedrocklaw02.PlaceEach", spec := "placeEach", unfollowed := true, recurses := true, apart := false }
def PlaceEachSaid : Prop := placeEachRow.holds Try.pinned (OpenSpec.ofChange placeEachSpec)

/-- ITS FALSE NEIGHBOUR: 'it returns false'. Refute it at one input. -/
def placeEachWrong : ChangeSpec := { name := "placeEach", fn := fun _ => fun
  | [d1, d2, d3] => { results := [.lit (.bool false)], args := [d1, d2, d3] }
  | _ => none }
def PlaceEachWrongFalsely : Prop := placeEachRow.holds Try.pinned (OpenSpec.ofChange placeEachWrong)

/-- 'bedrocklaw02.PlaceOrder': WHATEVER THE INPUT: true; the input reads as it did. -/
def placeOrderSpec : ChangeSpec := { name := "placeOrder", fn := fun _ => fun
  | [d1, d2, d3] => { results := [.lit (.bool true)], args := [d1, d2, d3] }
  | _ => none }
def placeOrderRow : OpenClaim := { program := "ytjodiclmibiboaa", sum := "61c42ef1797fe9d2e0663ce749be1e2b03572cb8f3df0ecbea48b1010205a664", func := "bedrock/bedrocklaw02.PlaceOrder", spec := "placeOrder", apart := false }
def PlaceOrderSaid : Prop := placeOrderRow.holds Try.pinned (OpenSpec.ofChange placeOrderSpec)

/-- ITS FALSE NEIGHBOUR: 'it returns false'. Refute it at one input. -/
def placeOrderWrong : ChangeSpec := { name := "placeOrder", fn := fun _ => fun
  | [d1, d2, d3] => { results := [.lit (.bool false)], args := [d1, d2, d3] }
  | _ => none }
def PlaceOrderWrongFalsely : Prop := placeOrderRow.holds Try.pinned (OpenSpec.ofChange placeOrderWrong)

/-- 'bedrocklaw02.PlaceCompares': WHATEVER THE INPUT: true; the input reads as it did. -/
def placeComparesSpec : ChangeSpec := { name := "placeCompares", fn := fun _ => fun
  | [d] => { results := [.lit (.bool true)], args := [d] }
  | _ => none }
def placeComparesRow : OpenClaim := { program := "ytjodiclmibiboaa", sum := "61c42ef1797fe9d2e0663ce749be1e2b03572cb8f3df0ecbea48b1010205a664", func := "bedrock/bedrocklaw02.PlaceCompares", spec := "placeCompares", unfollowed := true, recurses := true, apart := false }
def PlaceComparesSaid : Prop := placeComparesRow.holds Try.pinned (OpenSpec.ofChange placeComparesSpec)

/-- ITS FALSE NEIGHBOUR: 'it returns false'. Refute it at one input. -/
def placeComparesWrong : ChangeSpec := { name := "placeCompares", fn := fun _ => fun
  | [d] => { results := [.lit (.bool false)], args := [d] }
  | _ => none }
def PlaceComparesWrongFalsely : Prop := placeComparesRow.holds Try.pinned (OpenSpec.ofChange placeComparesWrong)

/-- 'bedrocklaw02.PlaceThere': WHATEVER THE INPUT: true; the input reads as it did. -/
def placeThereSpec : ChangeSpec := { name := "placeThere", fn := fun _ => fun
  | [d1, d2] => { results := [.lit (.bool true)], args := [d1, d2] }
  | _ => none }
def placeThereRow : OpenClaim := { program := "ytjodiclmibiboaa", sum := "61c42ef1797fe9d2e0663ce749be1e2b03572cb8f3df0ecbea48b1010205a664", func := "bedrock/bedrocklaw02.PlaceThere", spec := "placeThere", unfollowed := true, recurses := true, apart := false }
def PlaceThereSaid : Prop := placeThereRow.holds Try.pinned (OpenSpec.ofChange placeThereSpec)

/-- ITS FALSE NEIGHBOUR: 'it returns false'. Refute it at one input. -/
def placeThereWrong : ChangeSpec := { name := "placeThere", fn := fun _ => fun
  | [d1, d2] => { results := [.lit (.bool false)], args := [d1, d2] }
  | _ => none }
def PlaceThereWrongFalsely : Prop := placeThereRow.holds Try.pinned (OpenSpec.ofChange placeThereWrong)

/-- 'bedrocklaw02.PlaceKnown': WHATEVER THE INPUT: true; the input reads as it did. -/
def placeKnownSpec : ChangeSpec := { name := "placeKnown", fn := fun _ => fun
  | [] => { results := [.lit (.bool true)], args := [] }
  | _ => none }
def placeKnownRow : OpenClaim := { program := "ytjodiclmibiboaa", sum := "61c42ef1797fe9d2e0663ce749be1e2b03572cb8f3df0ecbea48b1010205a664", func := "bedrock/bedrocklaw02.PlaceKnown", spec := "placeKnown", unfollowed := true, recurses := true, apart := false }
def PlaceKnownSaid : Prop := placeKnownRow.holds Try.pinned (OpenSpec.ofChange placeKnownSpec)

/-- ITS FALSE NEIGHBOUR: 'it returns false'. Refute it at one input. -/
def placeKnownWrong : ChangeSpec := { name := "placeKnown", fn := fun _ => fun
  | [] => { results := [.lit (.bool false)], args := [] }
  | _ => none }
def PlaceKnownWrongFalsely : Prop := placeKnownRow.holds Try.pinned (OpenSpec.ofChange placeKnownWrong)

/- THE SECOND FORM. 'bulk': how many values and letters a reading holds, each counted each time it is reached (what is shared counts as often as it is met; a slice's spare places count too). A statement '..UptoSaid' is the law's where the arguments, and the package variables that the reading takes, are together of bulk at most 1048576: NARROWER than '..Said'. Prove '..Said' where nothing that the law and all that it calls make is longer than what came in: it says more and counts as full. Else prove '..UptoSaid'. A law counts once. -/
mutual
def uptoBulk {H : Type} : DataW H → Nat
  | .lit (.string bytes) => bytes.length + 1
  | .lit _ => 1
  | .nil => 1
  | .ptr d => uptoBulk d + 1
  | .slice elems spare => uptoBulkAll elems + uptoBulkAll spare + 1
  | .agg parts => uptoBulkAll parts + 1
  | .iface _ d => uptoBulk d + 1
  | .map entries => uptoBulkEntries entries + 1
  | .held _ => 1
def uptoBulkAll {H : Type} : List (DataW H) → Nat
  | [] => 0
  | d :: r => uptoBulk d + uptoBulkAll r
def uptoBulkEntries {H : Type} : List (Lit × DataW H) → Nat
  | [] => 0
  | x :: r => uptoBulkEntry x + uptoBulkEntries r
def uptoBulkEntry {H : Type} : Lit × DataW H → Nat
  | (.string bytes, d) => bytes.length + uptoBulk d + 1
  | (_, d) => uptoBulk d + 1
 end
def uptoSmall : (H : Type) → List (DataW H) → Bool := fun _ ds => decide (uptoBulkAll ds ≤ 1048576)
def OpenSpec.upto (s : _root_.Go.ChangeSpec) : _root_.Go.OpenSpec := { _root_.Go.OpenSpec.ofChange s with cond := some uptoSmall }

/-- 'bedrocklaw02.PlaceNear', WHERE WHAT IT READS IS OF BULK AT MOST 1048576: true; the input reads as it did. -/
def placeNearUptoRow : OpenClaim := { program := "ytjodiclmibiboaa", sum := "61c42ef1797fe9d2e0663ce749be1e2b03572cb8f3df0ecbea48b1010205a664", func := "bedrock/bedrocklaw02.PlaceNear", spec := "placeNear", unfollowed := true, recurses := true, apart := false, narrowed := true }
def PlaceNearUptoSaid : Prop := placeNearUptoRow.holds Try.pinned (OpenSpec.upto placeNearSpec)

/-- 'bedrocklaw02.PlaceTells', WHERE WHAT IT READS IS OF BULK AT MOST 1048576: true; the input reads as it did. -/
def placeTellsUptoRow : OpenClaim := { program := "ytjodiclmibiboaa", sum := "61c42ef1797fe9d2e0663ce749be1e2b03572cb8f3df0ecbea48b1010205a664", func := "bedrock/bedrocklaw02.PlaceTells", spec := "placeTells", apart := false, narrowed := true }
def PlaceTellsUptoSaid : Prop := placeTellsUptoRow.holds Try.pinned (OpenSpec.upto placeTellsSpec)

/-- 'bedrocklaw02.PlaceBack', WHERE WHAT IT READS IS OF BULK AT MOST 1048576: true; the input reads as it did. -/
def placeBackUptoRow : OpenClaim := { program := "ytjodiclmibiboaa", sum := "61c42ef1797fe9d2e0663ce749be1e2b03572cb8f3df0ecbea48b1010205a664", func := "bedrock/bedrocklaw02.PlaceBack", spec := "placeBack", apart := false, narrowed := true }
def PlaceBackUptoSaid : Prop := placeBackUptoRow.holds Try.pinned (OpenSpec.upto placeBackSpec)

/-- 'bedrocklaw02.PlaceSteps', WHERE WHAT IT READS IS OF BULK AT MOST 1048576: true; the input reads as it did. -/
def placeStepsUptoRow : OpenClaim := { program := "ytjodiclmibiboaa", sum := "61c42ef1797fe9d2e0663ce749be1e2b03572cb8f3df0ecbea48b1010205a664", func := "bedrock/bedrocklaw02.PlaceSteps", spec := "placeSteps", apart := false, narrowed := true }
def PlaceStepsUptoSaid : Prop := placeStepsUptoRow.holds Try.pinned (OpenSpec.upto placeStepsSpec)

/-- 'bedrocklaw02.PlaceBoxes', WHERE WHAT IT READS IS OF BULK AT MOST 1048576: true; the input reads as it did. -/
def placeBoxesUptoRow : OpenClaim := { program := "ytjodiclmibiboaa", sum := "61c42ef1797fe9d2e0663ce749be1e2b03572cb8f3df0ecbea48b1010205a664", func := "bedrock/bedrocklaw02.PlaceBoxes", spec := "placeBoxes", unfollowed := true, recurses := true, apart := false, narrowed := true }
def PlaceBoxesUptoSaid : Prop := placeBoxesUptoRow.holds Try.pinned (OpenSpec.upto placeBoxesSpec)

/-- 'bedrocklaw02.PlaceEach', WHERE WHAT IT READS IS OF BULK AT MOST 1048576: true; the input reads as it did. -/
def placeEachUptoRow : OpenClaim := { program := "ytjodiclmibiboaa", sum := "61c42ef1797fe9d2e0663ce749be1e2b03572cb8f3df0ecbea48b1010205a664", func := "bedrock/bedrocklaw02.PlaceEach", spec := "placeEach", unfollowed := true, recurses := true, apart := false, narrowed := true }
def PlaceEachUptoSaid : Prop := placeEachUptoRow.holds Try.pinned (OpenSpec.upto placeEachSpec)

/-- 'bedrocklaw02.PlaceOrder', WHERE WHAT IT READS IS OF BULK AT MOST 1048576: true; the input reads as it did. -/
def placeOrderUptoRow : OpenClaim := { program := "ytjodiclmibiboaa", sum := "61c42ef1797fe9d2e0663ce749be1e2b03572cb8f3df0ecbea48b1010205a664", func := "bedrock/bedrocklaw02.PlaceOrder", spec := "placeOrder", apart := false, narrowed := true }
def PlaceOrderUptoSaid : Prop := placeOrderUptoRow.holds Try.pinned (OpenSpec.upto placeOrderSpec)

/-- 'bedrocklaw02.PlaceCompares', WHERE WHAT IT READS IS OF BULK AT MOST 1048576: true; the input reads as it did. -/
def placeComparesUptoRow : OpenClaim := { program := "ytjodiclmibiboaa", sum := "61c42ef1797fe9d2e0663ce749be1e2b03572cb8f3df0ecbea48b1010205a664", func := "bedrock/bedrocklaw02.PlaceCompares", spec := "placeCompares", unfollowed := true, recurses := true, apart := false, narrowed := true }
def PlaceComparesUptoSaid : Prop := placeComparesUptoRow.holds Try.pinned (OpenSpec.upto placeComparesSpec)

/-- 'bedrocklaw02.PlaceThere', WHERE WHAT IT READS IS OF BULK AT MOST 1048576: true; the input reads as it did. -/
def placeThereUptoRow : OpenClaim := { program := "ytjodiclmibiboaa", sum := "61c42ef1797fe9d2e0663ce749be1e2b03572cb8f3df0ecbea48b1010205a664", func := "bedrock/bedrocklaw02.PlaceThere", spec := "placeThere", unfollowed := true, recurses := true, apart := false, narrowed := true }
def PlaceThereUptoSaid : Prop := placeThereUptoRow.holds Try.pinned (OpenSpec.upto placeThereSpec)

/-- 'bedrocklaw02.PlaceKnown', WHERE WHAT IT READS IS OF BULK AT MOST 1048576: true; the input reads as it did. -/
def placeKnownUptoRow : OpenClaim := { program := "ytjodiclmibiboaa", sum := "61c42ef1797fe9d2e0663ce749be1e2b03572cb8f3df0ecbea48b1010205a664", func := "bedrock/bedrocklaw02.PlaceKnown", spec := "placeKnown", unfollowed := true, recurses := true, apart := false, narrowed := true }
def PlaceKnownUptoSaid : Prop := placeKnownUptoRow.holds Try.pinned (OpenSpec.upto placeKnownSpec)

end Rows
end Go.Proofs.Ytjodiclmibiboaa
