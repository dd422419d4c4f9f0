/-
  No cell of these rows narrows 'for every input' (looked for: loops, veiled, ifaces, maps, wideKeys, modest, calm, conditions, laid).
  DERIVED. THE GIVEN ROWS OF THIS SEAT. 4 by the template 'for every input the law returns true; each argument reads behind the call as it read before'; 0 by the template 'total and deterministic' (their statements: YtdhanigngoniiaaTotals.lean).
  GIVEN WITH THE SEED: the statements are not yours to turn. If you find one false, say at which input.
  Laid BY PROGRAM, IN A SANDBOX (cutbox-rows.mjs): the forced cells as the released guide's own fill.sh prints them over the translation 1d75171226e0a52c… (all of the seat's roots in one cut). By AI agents, Wed Nov 11 2026. No macro, syntax, notation, axiom, sorry.
-/
import Derived.Test.YtdhanigngoniiaaChecked
import GoSem.Claim
import GoSem.ClaimJoined
import GoSem.ClaimMapViews
import Derived.JoinedTies
import Derived.KernelRfl
namespace Go.Proofs.Ytdhanigngoniiaa
/- THE CELL 'sum', in the pinned program and in every row, IS THE sha256 OF THE DUMP (.gsa) THAT YtdhanigngoniiaaProg.lean LOADS. Nothing in Lean hashes anything: it is a label: what it is worth is what the hold of that sum in a sandbox is worth. -/
noncomputable def Try.pinned : Pinned := { name := "ytdhanigngoniiaa", sum := "1d75171226e0a52c4dddab87a5825698e66428e0ec769d5dce3306dfc4c29af3", checked := Try.checked }
namespace Rows
def none {H : Type} : Left H := { results := [], args := [] }

/-- 'bedrocklaw09.RayWays': WHATEVER THE INPUT: true; the input reads as it did. -/
def rayWaysSpec : ChangeSpec := { name := "rayWays", fn := fun _ => fun
  | [d1, d2, d3] => { results := [.lit (.bool true)], args := [d1, d2, d3] }
  | _ => none }
def rayWaysRow : OpenClaim := { program := "ytdhanigngoniiaa", sum := "1d75171226e0a52c4dddab87a5825698e66428e0ec769d5dce3306dfc4c29af3", func := "bedrock/bedrocklaw09.RayWays", spec := "rayWays", apart := false }
def RayWaysSaid : Prop := rayWaysRow.holds Try.pinned (OpenSpec.ofChange rayWaysSpec)

/-- ITS FALSE NEIGHBOUR: 'it returns false'. Refute it at one input. -/
def rayWaysWrong : ChangeSpec := { name := "rayWays", fn := fun _ => fun
  | [d1, d2, d3] => { results := [.lit (.bool false)], args := [d1, d2, d3] }
  | _ => none }
def RayWaysWrongFalsely : Prop := rayWaysRow.holds Try.pinned (OpenSpec.ofChange rayWaysWrong)

/-- 'bedrocklaw09.RayKnown': WHATEVER THE INPUT: true; the input reads as it did. -/
def rayKnownSpec : ChangeSpec := { name := "rayKnown", fn := fun _ => fun
  | [] => { results := [.lit (.bool true)], args := [] }
  | _ => none }
def rayKnownRow : OpenClaim := { program := "ytdhanigngoniiaa", sum := "1d75171226e0a52c4dddab87a5825698e66428e0ec769d5dce3306dfc4c29af3", func := "bedrock/bedrocklaw09.RayKnown", spec := "rayKnown", apart := false }
def RayKnownSaid : Prop := rayKnownRow.holds Try.pinned (OpenSpec.ofChange rayKnownSpec)

/-- ITS FALSE NEIGHBOUR: 'it returns false'. Refute it at one input. -/
def rayKnownWrong : ChangeSpec := { name := "rayKnown", fn := fun _ => fun
  | [] => { results := [.lit (.bool false)], args := [] }
  | _ => none }
def RayKnownWrongFalsely : Prop := rayKnownRow.holds Try.pinned (OpenSpec.ofChange rayKnownWrong)

/-- 'bedrocklaw09.RayStraight': WHATEVER THE INPUT: true; the input reads as it did. -/
def rayStraightSpec : ChangeSpec := { name := "rayStraight", fn := fun _ => fun
  | [d1, d2, d3] => { results := [.lit (.bool true)], args := [d1, d2, d3] }
  | _ => none }
def rayStraightRow : OpenClaim := { program := "ytdhanigngoniiaa", sum := "1d75171226e0a52c4dddab87a5825698e66428e0ec769d5dce3306dfc4c29af3", func := "bedrock/bedrocklaw09.RayStraight", spec := "rayStraight", apart := false }
def RayStraightSaid : Prop := rayStraightRow.holds Try.pinned (OpenSpec.ofChange rayStraightSpec)

/-- ITS FALSE NEIGHBOUR: 'it returns false'. Refute it at one input. -/
def rayStraightWrong : ChangeSpec := { name := "rayStraight", fn := fun _ => fun
  | [d1, d2, d3] => { results := [.lit (.bool false)], args := [d1, d2, d3] }
  | _ => none }
def RayStraightWrongFalsely : Prop := rayStraightRow.holds Try.pinned (OpenSpec.ofChange rayStraightWrong)

/-- 'bedrocklaw09.RayFurther': WHATEVER THE INPUT: true; the input reads as it did. -/
def rayFurtherSpec : ChangeSpec := { name := "rayFurther", fn := fun _ => fun
  | [d1, d2, d3, d4] => { results := [.lit (.bool true)], args := [d1, d2, d3, d4] }
  | _ => none }
def rayFurtherRow : OpenClaim := { program := "ytdhanigngoniiaa", sum := "1d75171226e0a52c4dddab87a5825698e66428e0ec769d5dce3306dfc4c29af3", func := "bedrock/bedrocklaw09.RayFurther", spec := "rayFurther", apart := false }
def RayFurtherSaid : Prop := rayFurtherRow.holds Try.pinned (OpenSpec.ofChange rayFurtherSpec)

/-- ITS FALSE NEIGHBOUR: 'it returns false'. Refute it at one input. -/
def rayFurtherWrong : ChangeSpec := { name := "rayFurther", fn := fun _ => fun
  | [d1, d2, d3, d4] => { results := [.lit (.bool false)], args := [d1, d2, d3, d4] }
  | _ => none }
def RayFurtherWrongFalsely : Prop := rayFurtherRow.holds Try.pinned (OpenSpec.ofChange rayFurtherWrong)

/- THE SECOND FORM. 'bulk': how many values and letters a reading holds, each counted each time it is reached (what is shared counts as often as it is met; a slice's spare places count too). A statement '..UptoSaid' is the law's where the arguments, and the package variables that the reading takes, are together of bulk at most 1048576: NARROWER than '..Said'. Prove '..Said' where nothing that the law and all that it calls make is longer than what came in: it says more and counts as full. Else prove '..UptoSaid'. A law counts once. -/
mutual
def uptoBulk {H : Type} : DataW H → Nat
  | .lit (.string bytes) => bytes.length + 1
  | .lit _ => 1
  | .nil => 1
  | .ptr d => uptoBulk d + 1
  | .slice elems spare => uptoBulkAll elems + uptoBulkAll spare + 1
  | .agg parts => uptoBulkAll parts + 1
  | .iface _ d => uptoBulk d + 1
  | .map entries => uptoBulkEntries entries + 1
  | .held _ => 1
def uptoBulkAll {H : Type} : List (DataW H) → Nat
  | [] => 0
  | d :: r => uptoBulk d + uptoBulkAll r
def uptoBulkEntries {H : Type} : List (Lit × DataW H) → Nat
  | [] => 0
  | x :: r => uptoBulkEntry x + uptoBulkEntries r
def uptoBulkEntry {H : Type} : Lit × DataW H → Nat
  | (.string bytes, d) => bytes.length + uptoBulk d + 1
  | (_, d) => uptoBulk d + 1
 end
def uptoSmall : (H : Type) → List (DataW H) → Bool := fun _ ds => decide (uptoBulkAll ds ≤ 1048576)
def OpenSpec.upto (s : _root_.Go.ChangeSpec) : _root_.Go.OpenSpec := { _root_.Go.OpenSpec.ofChange s with cond := some uptoSmall }

/-- 'bedrocklaw09.RayWays', WHERE WHAT IT READS IS OF BULK AT MOST 1048576: true; the input reads as it did. -/
def rayWaysUptoRow : OpenClaim := { program := "ytdhanigngoniiaa", sum := "1d75171226e0a52c4dddab87a5825698e66428e0ec769d5dce3306dfc4c29af3", func := "bedrock/bedrocklaw09.RayWays", spec := "rayWays", apart := false, narrowed := true }
def RayWaysUptoSaid : Prop := rayWaysUptoRow.holds Try.pinned (OpenSpec.upto rayWaysSpec)

/-- 'bedrocklaw09.RayKnown', WHERE WHAT IT READS IS OF BULK AT MOST 1048576: true; the input reads as it did. -/
def rayKnownUptoRow : OpenClaim := { program := "ytdhanigngoniiaa", sum := "1d75171226e0a52c4dddab87a5825698e66428e0ec769d5dce3306dfc4c29af3", func := "bedrock/bedrocklaw09.RayKnown", spec := "rayKnown", apart := false, narrowed := true }
def RayKnownUptoSaid : Prop := rayKnownUptoRow.holds Try.pinned (OpenSpec.upto rayKnownSpec)

/-- 'bedrocklaw09.RayStraight', WHERE WHAT IT READS IS OF BULK AT MOST 1048576: true; the input reads as it did. -/
def rayStraightUptoRow : OpenClaim := { program := "ytdhanigngoniiaa", sum := "1d75171226e0a52c4dddab87a5825698e66428e0ec769d5dce3306dfc4c29af3", func := "bedrock/bedrocklaw09.RayStraight", spec := "rayStraight", apart := false, narrowed := true }
def RayStraightUptoSaid : Prop := rayStraightUptoRow.holds Try.pinned (OpenSpec.upto rayStraightSpec)

/-- 'bedrocklaw09.RayFurther', WHERE WHAT IT READS IS OF BULK AT MOST 1048576: true; the input reads as it did. -/
def rayFurtherUptoRow : OpenClaim := { program := "ytdhanigngoniiaa", sum := "1d75171226e0a52c4dddab87a5825698e66428e0ec769d5dce3306dfc4c29af3", func := "bedrock/bedrocklaw09.RayFurther", spec := "rayFurther", apart := false, narrowed := true }
def RayFurtherUptoSaid : Prop := rayFurtherUptoRow.holds Try.pinned (OpenSpec.upto rayFurtherSpec)

end Rows
end Go.Proofs.Ytdhanigngoniiaa
