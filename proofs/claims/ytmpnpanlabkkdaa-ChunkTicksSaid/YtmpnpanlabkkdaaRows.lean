/-
  No cell of these rows narrows 'for every input' (looked for: loops, veiled, ifaces, maps, wideKeys, modest, calm, conditions, laid).
  DERIVED. THE GIVEN ROWS OF THIS SEAT. 6 by the template 'for every input the law returns true; each argument reads behind the call as it read before'; 0 by the template 'total and deterministic' (their statements: YtmpnpanlabkkdaaTotals.lean).
  GIVEN WITH THE SEED: the statements are not yours to turn. If you find one false, say at which input.
  Laid BY PROGRAM, IN A SANDBOX (cutbox-rows.mjs): the forced cells as the released guide's own fill.sh prints them over the translation 075d6137e99f38f3… (all of the seat's roots in one cut). By AI agents, Wed Nov 11 2026. No macro, syntax, notation, axiom, sorry.
-/
import Derived.Test.YtmpnpanlabkkdaaChecked
import GoSem.Claim
import GoSem.ClaimJoined
import GoSem.ClaimMapViews
import Derived.JoinedTies
import Derived.KernelRfl
namespace Go.Proofs.Ytmpnpanlabkkdaa
/- THE CELL 'sum', in the pinned program and in every row, IS THE sha256 OF THE DUMP (.gsa) THAT YtmpnpanlabkkdaaProg.lean LOADS. Nothing in Lean hashes anything: it is a label: what it is worth is what the hold of that sum in a sandbox is worth. -/
noncomputable def Try.pinned : Pinned := { name := "ytmpnpanlabkkdaa", sum := "075d6137e99f38f37be7e2b7617e71b5a50a9ff066084824aa9ee05dff68f86b", checked := Try.checked }
namespace Rows
def none {H : Type} : Left H := { results := [], args := [] }

/-- 'bedrocklaw07.ChunkChecks': WHATEVER THE INPUT: true; the input reads as it did. -/
def chunkChecksSpec : ChangeSpec := { name := "chunkChecks", fn := fun _ => fun
  | [d1, d2] => { results := [.lit (.bool true)], args := [d1, d2] }
  | _ => none }
def chunkChecksRow : OpenClaim := { program := "ytmpnpanlabkkdaa", sum := "075d6137e99f38f37be7e2b7617e71b5a50a9ff066084824aa9ee05dff68f86b", func := "bedrock/bedrocklaw07.ChunkChecks", spec := "chunkChecks", inPlace := ["slices.overlaps[bedrock/api.Tick]"], unfollowed := true, recurses := true, apart := false }
def ChunkChecksSaid : Prop := chunkChecksRow.holds Try.pinned (OpenSpec.ofChange chunkChecksSpec)

/-- ITS FALSE NEIGHBOUR: 'it returns false'. Refute it at one input. -/
def chunkChecksWrong : ChangeSpec := { name := "chunkChecks", fn := fun _ => fun
  | [d1, d2] => { results := [.lit (.bool false)], args := [d1, d2] }
  | _ => none }
def ChunkChecksWrongFalsely : Prop := chunkChecksRow.holds Try.pinned (OpenSpec.ofChange chunkChecksWrong)

/-- 'bedrocklaw07.ChunkSame': WHATEVER THE INPUT: true; the input reads as it did. -/
def chunkSameSpec : ChangeSpec := { name := "chunkSame", fn := fun _ => fun
  | [d1, d2, d3, d4] => { results := [.lit (.bool true)], args := [d1, d2, d3, d4] }
  | _ => none }
def chunkSameRow : OpenClaim := { program := "ytmpnpanlabkkdaa", sum := "075d6137e99f38f37be7e2b7617e71b5a50a9ff066084824aa9ee05dff68f86b", func := "bedrock/bedrocklaw07.ChunkSame", spec := "chunkSame", inPlace := ["slices.overlaps[bedrock/api.Tick]"], unfollowed := true, recurses := true, apart := false }
def ChunkSameSaid : Prop := chunkSameRow.holds Try.pinned (OpenSpec.ofChange chunkSameSpec)

/-- ITS FALSE NEIGHBOUR: 'it returns false'. Refute it at one input. -/
def chunkSameWrong : ChangeSpec := { name := "chunkSame", fn := fun _ => fun
  | [d1, d2, d3, d4] => { results := [.lit (.bool false)], args := [d1, d2, d3, d4] }
  | _ => none }
def ChunkSameWrongFalsely : Prop := chunkSameRow.holds Try.pinned (OpenSpec.ofChange chunkSameWrong)

/-- 'bedrocklaw07.ChunkTicks': WHATEVER THE INPUT: true; the input reads as it did. -/
def chunkTicksSpec : ChangeSpec := { name := "chunkTicks", fn := fun _ => fun
  | [d1, d2, d3] => { results := [.lit (.bool true)], args := [d1, d2, d3] }
  | _ => none }
def chunkTicksRow : OpenClaim := { program := "ytmpnpanlabkkdaa", sum := "075d6137e99f38f37be7e2b7617e71b5a50a9ff066084824aa9ee05dff68f86b", func := "bedrock/bedrocklaw07.ChunkTicks", spec := "chunkTicks", inPlace := ["slices.overlaps[bedrock/api.Tick]"], unfollowed := true, recurses := true, apart := false }
def ChunkTicksSaid : Prop := chunkTicksRow.holds Try.pinned (OpenSpec.ofChange chunkTicksSpec)

/-- ITS FALSE NEIGHBOUR: 'it returns false'. Refute it at one input. -/
def chunkTicksWrong : ChangeSpec := { name := "chunkTicks", fn := fun _ => fun
  | [d1, d2, d3] => { results := [.lit (.bool false)], args := [d1, d2, d3] }
  | _ => none }
def ChunkTicksWrongFalsely : Prop := chunkTicksRow.holds Try.pinned (OpenSpec.ofChange chunkTicksWrong)

/-- 'bedrocklaw07.ChunkOrder': WHATEVER THE INPUT: true; the input reads as it did. -/
def chunkOrderSpec : ChangeSpec := { name := "chunkOrder", fn := fun _ => fun
  | [d] => { results := [.lit (.bool true)], args := [d] }
  | _ => none }
def chunkOrderRow : OpenClaim := { program := "ytmpnpanlabkkdaa", sum := "075d6137e99f38f37be7e2b7617e71b5a50a9ff066084824aa9ee05dff68f86b", func := "bedrock/bedrocklaw07.ChunkOrder", spec := "chunkOrder", inPlace := ["slices.overlaps[bedrock/api.Tick]"], unfollowed := true, recurses := true, apart := false }
def ChunkOrderSaid : Prop := chunkOrderRow.holds Try.pinned (OpenSpec.ofChange chunkOrderSpec)

/-- ITS FALSE NEIGHBOUR: 'it returns false'. Refute it at one input. -/
def chunkOrderWrong : ChangeSpec := { name := "chunkOrder", fn := fun _ => fun
  | [d] => { results := [.lit (.bool false)], args := [d] }
  | _ => none }
def ChunkOrderWrongFalsely : Prop := chunkOrderRow.holds Try.pinned (OpenSpec.ofChange chunkOrderWrong)

/-- 'bedrocklaw07.ChunkCopies': WHATEVER THE INPUT: true; the input reads as it did. -/
def chunkCopiesSpec : ChangeSpec := { name := "chunkCopies", fn := fun _ => fun
  | [d1, d2] => { results := [.lit (.bool true)], args := [d1, d2] }
  | _ => none }
def chunkCopiesRow : OpenClaim := { program := "ytmpnpanlabkkdaa", sum := "075d6137e99f38f37be7e2b7617e71b5a50a9ff066084824aa9ee05dff68f86b", func := "bedrock/bedrocklaw07.ChunkCopies", spec := "chunkCopies", inPlace := ["slices.overlaps[bedrock/api.Tick]"], unfollowed := true, recurses := true, apart := false }
def ChunkCopiesSaid : Prop := chunkCopiesRow.holds Try.pinned (OpenSpec.ofChange chunkCopiesSpec)

/-- ITS FALSE NEIGHBOUR: 'it returns false'. Refute it at one input. -/
def chunkCopiesWrong : ChangeSpec := { name := "chunkCopies", fn := fun _ => fun
  | [d1, d2] => { results := [.lit (.bool false)], args := [d1, d2] }
  | _ => none }
def ChunkCopiesWrongFalsely : Prop := chunkCopiesRow.holds Try.pinned (OpenSpec.ofChange chunkCopiesWrong)

/-- 'bedrocklaw07.ChunkKnown': WHATEVER THE INPUT: true; the input reads as it did. -/
def chunkKnownSpec : ChangeSpec := { name := "chunkKnown", fn := fun _ => fun
  | [] => { results := [.lit (.bool true)], args := [] }
  | _ => none }
def chunkKnownRow : OpenClaim := { program := "ytmpnpanlabkkdaa", sum := "075d6137e99f38f37be7e2b7617e71b5a50a9ff066084824aa9ee05dff68f86b", func := "bedrock/bedrocklaw07.ChunkKnown", spec := "chunkKnown", inPlace := ["slices.overlaps[bedrock/api.Tick]"], unfollowed := true, recurses := true, apart := false }
def ChunkKnownSaid : Prop := chunkKnownRow.holds Try.pinned (OpenSpec.ofChange chunkKnownSpec)

/-- ITS FALSE NEIGHBOUR: 'it returns false'. Refute it at one input. -/
def chunkKnownWrong : ChangeSpec := { name := "chunkKnown", fn := fun _ => fun
  | [] => { results := [.lit (.bool false)], args := [] }
  | _ => none }
def ChunkKnownWrongFalsely : Prop := chunkKnownRow.holds Try.pinned (OpenSpec.ofChange chunkKnownWrong)

/- THE SECOND FORM. 'bulk': how many values and letters a reading holds, each counted each time it is reached (what is shared counts as often as it is met; a slice's spare places count too). A statement '..UptoSaid' is the law's where the arguments, and the package variables that the reading takes, are together of bulk at most 1048576: NARROWER than '..Said'. Prove '..Said' where nothing that the law and all that it calls make is longer than what came in: it says more and counts as full. Else prove '..UptoSaid'. A law counts once. -/
mutual
def uptoBulk {H : Type} : DataW H → Nat
  | .lit (.string bytes) => bytes.length + 1
  | .lit _ => 1
  | .nil => 1
  | .ptr d => uptoBulk d + 1
  | .slice elems spare => uptoBulkAll elems + uptoBulkAll spare + 1
  | .agg parts => uptoBulkAll parts + 1
  | .iface _ d => uptoBulk d + 1
  | .map entries => uptoBulkEntries entries + 1
  | .held _ => 1
def uptoBulkAll {H : Type} : List (DataW H) → Nat
  | [] => 0
  | d :: r => uptoBulk d + uptoBulkAll r
def uptoBulkEntries {H : Type} : List (Lit × DataW H) → Nat
  | [] => 0
  | x :: r => uptoBulkEntry x + uptoBulkEntries r
def uptoBulkEntry {H : Type} : Lit × DataW H → Nat
  | (.string bytes, d) => bytes.length + uptoBulk d + 1
  | (_, d) => uptoBulk d + 1
 end
def uptoSmall : (H : Type) → List (DataW H) → Bool := fun _ ds => decide (uptoBulkAll ds ≤ 1048576)
def OpenSpec.upto (s : _root_.Go.ChangeSpec) : _root_.Go.OpenSpec := { _root_.Go.OpenSpec.ofChange s with cond := some uptoSmall }

/-- 'bedrocklaw07.ChunkChecks', WHERE WHAT IT READS IS OF BULK AT MOST 1048576: true; the input reads as it did. -/
def chunkChecksUptoRow : OpenClaim := { program := "ytmpnpanlabkkdaa", sum := "075d6137e99f38f37be7e2b7617e71b5a50a9ff066084824aa9ee05dff68f86b", func := "bedrock/bedrocklaw07.ChunkChecks", spec := "chunkChecks", inPlace := ["slices.overlaps[bedrock/api.Tick]"], unfollowed := true, recurses := true, apart := false, narrowed := true }
def ChunkChecksUptoSaid : Prop := chunkChecksUptoRow.holds Try.pinned (OpenSpec.upto chunkChecksSpec)

/-- 'bedrocklaw07.ChunkSame', WHERE WHAT IT READS IS OF BULK AT MOST 1048576: true; the input reads as it did. -/
def chunkSameUptoRow : OpenClaim := { program := "ytmpnpanlabkkdaa", sum := "075d6137e99f38f37be7e2b7617e71b5a50a9ff066084824aa9ee05dff68f86b", func := "bedrock/bedrocklaw07.ChunkSame", spec := "chunkSame", inPlace := ["slices.overlaps[bedrock/api.Tick]"], unfollowed := true, recurses := true, apart := false, narrowed := true }
def ChunkSameUptoSaid : Prop := chunkSameUptoRow.holds Try.pinned (OpenSpec.upto chunkSameSpec)

/-- 'bedrocklaw07.ChunkTicks', WHERE WHAT IT READS IS OF BULK AT MOST 1048576: true; the input reads as it did. -/
def chunkTicksUptoRow : OpenClaim := { program := "ytmpnpanlabkkdaa", sum := "075d6137e99f38f37be7e2b7617e71b5a50a9ff066084824aa9ee05dff68f86b", func := "bedrock/bedrocklaw07.ChunkTicks", spec := "chunkTicks", inPlace := ["slices.overlaps[bedrock/api.Tick]"], unfollowed := true, recurses := true, apart := false, narrowed := true }
def ChunkTicksUptoSaid : Prop := chunkTicksUptoRow.holds Try.pinned (OpenSpec.upto chunkTicksSpec)

/-- 'bedrocklaw07.ChunkOrder', WHERE WHAT IT READS IS OF BULK AT MOST 1048576: true; the input reads as it did. -/
def chunkOrderUptoRow : OpenClaim := { program := "ytmpnpanlabkkdaa", sum := "075d6137e99f38f37be7e2b7617e71b5a50a9ff066084824aa9ee05dff68f86b", func := "bedrock/bedrocklaw07.ChunkOrder", spec := "chunkOrder", inPlace := ["slices.overlaps[bedrock/api.Tick]"], unfollowed := true, recurses := true, apart := false, narrowed := true }
def ChunkOrderUptoSaid : Prop := chunkOrderUptoRow.holds Try.pinned (OpenSpec.upto chunkOrderSpec)

/-- 'bedrocklaw07.ChunkCopies', WHERE WHAT IT READS IS OF BULK AT MOST 1048576: true; the input reads as it did. -/
def chunkCopiesUptoRow : OpenClaim := { program := "ytmpnpanlabkkdaa", sum := "075d6137e99f38f37be7e2b7617e71b5a50a9ff066084824aa9ee05dff68f86b", func := "bedrock/bedrocklaw07.ChunkCopies", spec := "chunkCopies", inPlace := ["slices.overlaps[bedrock/api.Tick]"], unfollowed := true, recurses := true, apart := false, narrowed := true }
def ChunkCopiesUptoSaid : Prop := chunkCopiesUptoRow.holds Try.pinned (OpenSpec.upto chunkCopiesSpec)

/-- 'bedrocklaw07.ChunkKnown', WHERE WHAT IT READS IS OF BULK AT MOST 1048576: true; the input reads as it did. -/
def chunkKnownUptoRow : OpenClaim := { program := "ytmpnpanlabkkdaa", sum := "075d6137e99f38f37be7e2b7617e71b5a50a9ff066084824aa9ee05dff68f86b", func := "bedrock/bedrocklaw07.ChunkKnown", spec := "chunkKnown", inPlace := ["slices.overlaps[bedrock/api.Tick]"], unfollowed := true, recurses := true, apart := false, narrowed := true }
def ChunkKnownUptoSaid : Prop := chunkKnownUptoRow.holds Try.pinned (OpenSpec.upto chunkKnownSpec)

end Rows
end Go.Proofs.Ytmpnpanlabkkdaa
