/-
  No cell of these rows narrows 'for every input' (looked for: loops, veiled, ifaces, maps, wideKeys, modest, calm, conditions, laid).
  DERIVED. THE GIVEN ROWS OF THIS SEAT. 5 by the template 'for every input the law returns true; each argument reads behind the call as it read before'; 0 by the template 'total and deterministic' (their statements: YtpdckjbknphelaaTotals.lean).
  GIVEN WITH THE SEED: the statements are not yours to turn. If you find one false, say at which input.
  Laid BY PROGRAM, IN A SANDBOX (cutbox-rows.mjs): the forced cells as the released guide's own fill.sh prints them over the translation 18d9d954d8950552… (all of the seat's roots in one cut). By AI agents, Wed Nov 11 2026. No macro, syntax, notation, axiom, sorry.
-/
import Derived.Test.YtpdckjbknphelaaChecked
import GoSem.Claim
import GoSem.ClaimJoined
import GoSem.ClaimMapViews
import Derived.JoinedTies
import Derived.KernelRfl
namespace Go.Proofs.Ytpdckjbknphelaa
/- THE CELL 'sum', in the pinned program and in every row, IS THE sha256 OF THE DUMP (.gsa) THAT YtpdckjbknphelaaProg.lean LOADS. Nothing in Lean hashes anything: it is a label: what it is worth is what the hold of that sum in a sandbox is worth. -/
noncomputable def Try.pinned : Pinned := { name := "ytpdckjbknphelaa", sum := "18d9d954d8950552ac99c94143042a8650e0c16a15935756c010ba715422bcd9", checked := Try.checked }
namespace Rows
def none {H : Type} : Left H := { results := [], args := [] }

/-- 'bedrocklaw26.CachePinned': WHATEVER THE INPUT: true; the input reads as it did. -/
def cachePinnedSpec : ChangeSpec := { name := "cachePinned", fn := fun _ => fun
  | [d1, d2, d3] => { results := [.lit (.bool true)], args := [d1, d2, d3] }
  | _ => none }
def cachePinnedRow : OpenClaim := { program := "ytpdckjbknphelaa", sum := "18d9d954d8950552ac99c94143042a8650e0c16a15935756c010ba715422bcd9", func := "bedrock/bedrocklaw26.CachePinned", spec := "cachePinned", unfollowed := true, recurses := true, plainKeys := false, apart := false }
def CachePinnedSaid : Prop := cachePinnedRow.holds Try.pinned (OpenSpec.ofChange cachePinnedSpec)

/-- ITS FALSE NEIGHBOUR: 'it returns false'. Refute it at one input. -/
def cachePinnedWrong : ChangeSpec := { name := "cachePinned", fn := fun _ => fun
  | [d1, d2, d3] => { results := [.lit (.bool false)], args := [d1, d2, d3] }
  | _ => none }
def CachePinnedWrongFalsely : Prop := cachePinnedRow.holds Try.pinned (OpenSpec.ofChange cachePinnedWrong)

/-- 'bedrocklaw26.CacheHolds': WHATEVER THE INPUT: true; the input reads as it did. -/
def cacheHoldsSpec : ChangeSpec := { name := "cacheHolds", fn := fun _ => fun
  | [d1, d2, d3] => { results := [.lit (.bool true)], args := [d1, d2, d3] }
  | _ => none }
def cacheHoldsRow : OpenClaim := { program := "ytpdckjbknphelaa", sum := "18d9d954d8950552ac99c94143042a8650e0c16a15935756c010ba715422bcd9", func := "bedrock/bedrocklaw26.CacheHolds", spec := "cacheHolds", unfollowed := true, recurses := true, plainKeys := false, apart := false }
def CacheHoldsSaid : Prop := cacheHoldsRow.holds Try.pinned (OpenSpec.ofChange cacheHoldsSpec)

/-- ITS FALSE NEIGHBOUR: 'it returns false'. Refute it at one input. -/
def cacheHoldsWrong : ChangeSpec := { name := "cacheHolds", fn := fun _ => fun
  | [d1, d2, d3] => { results := [.lit (.bool false)], args := [d1, d2, d3] }
  | _ => none }
def CacheHoldsWrongFalsely : Prop := cacheHoldsRow.holds Try.pinned (OpenSpec.ofChange cacheHoldsWrong)

/-- 'bedrocklaw26.CacheSaves': WHATEVER THE INPUT: true; the input reads as it did. -/
def cacheSavesSpec : ChangeSpec := { name := "cacheSaves", fn := fun _ => fun
  | [d1, d2, d3] => { results := [.lit (.bool true)], args := [d1, d2, d3] }
  | _ => none }
def cacheSavesRow : OpenClaim := { program := "ytpdckjbknphelaa", sum := "18d9d954d8950552ac99c94143042a8650e0c16a15935756c010ba715422bcd9", func := "bedrock/bedrocklaw26.CacheSaves", spec := "cacheSaves", unfollowed := true, recurses := true, plainKeys := false, apart := false }
def CacheSavesSaid : Prop := cacheSavesRow.holds Try.pinned (OpenSpec.ofChange cacheSavesSpec)

/-- ITS FALSE NEIGHBOUR: 'it returns false'. Refute it at one input. -/
def cacheSavesWrong : ChangeSpec := { name := "cacheSaves", fn := fun _ => fun
  | [d1, d2, d3] => { results := [.lit (.bool false)], args := [d1, d2, d3] }
  | _ => none }
def CacheSavesWrongFalsely : Prop := cacheSavesRow.holds Try.pinned (OpenSpec.ofChange cacheSavesWrong)

/-- 'bedrocklaw26.CacheKnown': WHATEVER THE INPUT: true; the input reads as it did. -/
def cacheKnownSpec : ChangeSpec := { name := "cacheKnown", fn := fun _ => fun
  | [] => { results := [.lit (.bool true)], args := [] }
  | _ => none }
def cacheKnownRow : OpenClaim := { program := "ytpdckjbknphelaa", sum := "18d9d954d8950552ac99c94143042a8650e0c16a15935756c010ba715422bcd9", func := "bedrock/bedrocklaw26.CacheKnown", spec := "cacheKnown", unfollowed := true, recurses := true, plainKeys := false, apart := false }
def CacheKnownSaid : Prop := cacheKnownRow.holds Try.pinned (OpenSpec.ofChange cacheKnownSpec)

/-- ITS FALSE NEIGHBOUR: 'it returns false'. Refute it at one input. -/
def cacheKnownWrong : ChangeSpec := { name := "cacheKnown", fn := fun _ => fun
  | [] => { results := [.lit (.bool false)], args := [] }
  | _ => none }
def CacheKnownWrongFalsely : Prop := cacheKnownRow.holds Try.pinned (OpenSpec.ofChange cacheKnownWrong)

/-- 'bedrocklaw26.CachePlays': WHATEVER THE INPUT: true; the input reads as it did. -/
def cachePlaysSpec : ChangeSpec := { name := "cachePlays", fn := fun _ => fun
  | [d1, d2, d3] => { results := [.lit (.bool true)], args := [d1, d2, d3] }
  | _ => none }
def cachePlaysRow : OpenClaim := { program := "ytpdckjbknphelaa", sum := "18d9d954d8950552ac99c94143042a8650e0c16a15935756c010ba715422bcd9", func := "bedrock/bedrocklaw26.CachePlays", spec := "cachePlays", unfollowed := true, recurses := true, plainKeys := false, apart := false }
def CachePlaysSaid : Prop := cachePlaysRow.holds Try.pinned (OpenSpec.ofChange cachePlaysSpec)

/-- ITS FALSE NEIGHBOUR: 'it returns false'. Refute it at one input. -/
def cachePlaysWrong : ChangeSpec := { name := "cachePlays", fn := fun _ => fun
  | [d1, d2, d3] => { results := [.lit (.bool false)], args := [d1, d2, d3] }
  | _ => none }
def CachePlaysWrongFalsely : Prop := cachePlaysRow.holds Try.pinned (OpenSpec.ofChange cachePlaysWrong)

/- THE SECOND FORM. 'bulk': how many values and letters a reading holds, each counted each time it is reached (what is shared counts as often as it is met; a slice's spare places count too). A statement '..UptoSaid' is the law's where the arguments, and the package variables that the reading takes, are together of bulk at most 1048576: NARROWER than '..Said'. Prove '..Said' where nothing that the law and all that it calls make is longer than what came in: it says more and counts as full. Else prove '..UptoSaid'. A law counts once. -/
mutual
def uptoBulk {H : Type} : DataW H → Nat
  | .lit (.string bytes) => bytes.length + 1
  | .lit _ => 1
  | .nil => 1
  | .ptr d => uptoBulk d + 1
  | .slice elems spare => uptoBulkAll elems + uptoBulkAll spare + 1
  | .agg parts => uptoBulkAll parts + 1
  | .iface _ d => uptoBulk d + 1
  | .map entries => uptoBulkEntries entries + 1
  | .held _ => 1
def uptoBulkAll {H : Type} : List (DataW H) → Nat
  | [] => 0
  | d :: r => uptoBulk d + uptoBulkAll r
def uptoBulkEntries {H : Type} : List (Lit × DataW H) → Nat
  | [] => 0
  | x :: r => uptoBulkEntry x + uptoBulkEntries r
def uptoBulkEntry {H : Type} : Lit × DataW H → Nat
  | (.string bytes, d) => bytes.length + uptoBulk d + 1
  | (_, d) => uptoBulk d + 1
 end
def uptoSmall : (H : Type) → List (DataW H) → Bool := fun _ ds => decide (uptoBulkAll ds ≤ 1048576)
def OpenSpec.upto (s : _root_.Go.ChangeSpec) : _root_.Go.OpenSpec := { _root_.Go.OpenSpec.ofChange s with cond := some uptoSmall }

/-- 'bedrocklaw26.CachePinned', WHERE WHAT IT READS IS OF BULK AT MOST 1048576: true; the input reads as it did. -/
def cachePinnedUptoRow : OpenClaim := { program := "ytpdckjbknphelaa", sum := "18d9d954d8950552ac99c94143042a8650e0c16a15935756c010ba715422bcd9", func := "bedrock/bedrocklaw26.CachePinned", spec := "cachePinned", unfollowed := true, recurses := true, plainKeys := false, apart := false, narrowed := true }
def CachePinnedUptoSaid : Prop := cachePinnedUptoRow.holds Try.pinned (OpenSpec.upto cachePinnedSpec)

/-- 'bedrocklaw26.CacheHolds', WHERE WHAT IT READS IS OF BULK AT MOST 1048576: true; the input reads as it did. -/
def cacheHoldsUptoRow : OpenClaim := { program := "ytpdckjbknphelaa", sum := "18d9d954d8950552ac99c94143042a8650e0c16a15935756c010ba715422bcd9", func := "bedrock/bedrocklaw26.CacheHolds", spec := "cacheHolds", unfollowed := true, recurses := true, plainKeys := false, apart := false, narrowed := true }
def CacheHoldsUptoSaid : Prop := cacheHoldsUptoRow.holds Try.pinned (OpenSpec.upto cacheHoldsSpec)

/-- 'bedrocklaw26.CacheSaves', WHERE WHAT IT READS IS OF BULK AT MOST 1048576: true; the input reads as it did. -/
def cacheSavesUptoRow : OpenClaim := { program := "ytpdckjbknphelaa", sum := "18d9d954d8950552ac99c94143042a8650e0c16a15935756c010ba715422bcd9", func := "bedrock/bedrocklaw26.CacheSaves", spec := "cacheSaves", unfollowed := true, recurses := true, plainKeys := false, apart := false, narrowed := true }
def CacheSavesUptoSaid : Prop := cacheSavesUptoRow.holds Try.pinned (OpenSpec.upto cacheSavesSpec)

/-- 'bedrocklaw26.CacheKnown', WHERE WHAT IT READS IS OF BULK AT MOST 1048576: true; the input reads as it did. -/
def cacheKnownUptoRow : OpenClaim := { program := "ytpdckjbknphelaa", sum := "18d9d954d8950552ac99c94143042a8650e0c16a15935756c010ba715422bcd9", func := "bedrock/bedrocklaw26.CacheKnown", spec := "cacheKnown", unfollowed := true, recurses := true, plainKeys := false, apart := false, narrowed := true }
def CacheKnownUptoSaid : Prop := cacheKnownUptoRow.holds Try.pinned (OpenSpec.upto cacheKnownSpec)

/-- 'bedrocklaw26.CachePlays', WHERE WHAT IT READS IS OF BULK AT MOST 1048576: true; the input reads as it did. -/
def cachePlaysUptoRow : OpenClaim := { program := "ytpdckjbknphelaa", sum := "18d9d954d8950552ac99c94143042a8650e0c16a15935756c010ba715422bcd9", func := "bedrock/bedrocklaw26.CachePlays", spec := "cachePlays", unfollowed := true, recurses := true, plainKeys := false, apart := false, narrowed := true }
def CachePlaysUptoSaid : Prop := cachePlaysUptoRow.holds Try.pinned (OpenSpec.upto cachePlaysSpec)

end Rows
end Go.Proofs.Ytpdckjbknphelaa
