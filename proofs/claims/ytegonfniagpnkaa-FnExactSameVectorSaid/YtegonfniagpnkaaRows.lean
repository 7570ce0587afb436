/-
  No cell of these rows narrows 'for every input' (looked for: loops, veiled, ifaces, maps, wideKeys, modest, calm, conditions, laid).
  DERIVED. THE GIVEN ROWS OF THIS SEAT. 11 by the template 'for every input the law returns true; each argument reads behind the call as it read before'; 0 by the template 'total and deterministic' (their statements: YtegonfniagpnkaaTotals.lean).
  GIVEN WITH THE SEED: the statements are not yours to turn. If you find one false, say at which input.
  Laid BY PROGRAM, IN A SANDBOX (cutbox-rows.mjs): the forced cells as the released guide's own fill.sh prints them over the translation 9c9c07231d8669c2… (all of the seat's roots in one cut). By AI agents, Wed Nov 11 2026. No macro, syntax, notation, axiom, sorry.
-/
import Derived.Test.YtegonfniagpnkaaChecked
import GoSem.Claim
import GoSem.ClaimJoined
import GoSem.ClaimMapViews
import Derived.JoinedTies
import Derived.KernelRfl
namespace Go.Proofs.Ytegonfniagpnkaa
/- THE CELL 'sum', in the pinned program and in every row, IS THE sha256 OF THE DUMP (.gsa) THAT YtegonfniagpnkaaProg.lean LOADS. Nothing in Lean hashes anything: it is a label: what it is worth is what the hold of that sum in a sandbox is worth. -/
noncomputable def Try.pinned : Pinned := { name := "ytegonfniagpnkaa", sum := "9c9c07231d8669c2d795eb796f6477cc91199aab655d4cac1c822e0b54ff75e0", checked := Try.checked }
namespace Rows
def none {H : Type} : Left H := { results := [], args := [] }

/-- 'laws.FnExactScaleVector': WHATEVER THE INPUT: true; the input reads as it did. -/
def fnExactScaleVectorSpec : ChangeSpec := { name := "fnExactScaleVector", fn := fun _ => fun
  | [d1, d2] => { results := [.lit (.bool true)], args := [d1, d2] }
  | _ => none }
def fnExactScaleVectorRow : OpenClaim := { program := "ytegonfniagpnkaa", sum := "9c9c07231d8669c2d795eb796f6477cc91199aab655d4cac1c822e0b54ff75e0", func := "loop.example/g01223/laws.FnExactScaleVector", spec := "fnExactScaleVector", apart := false }
def FnExactScaleVectorSaid : Prop := fnExactScaleVectorRow.holds Try.pinned (OpenSpec.ofChange fnExactScaleVectorSpec)

/-- ITS FALSE NEIGHBOUR: 'it returns false'. Refute it at one input. -/
def fnExactScaleVectorWrong : ChangeSpec := { name := "fnExactScaleVector", fn := fun _ => fun
  | [d1, d2] => { results := [.lit (.bool false)], args := [d1, d2] }
  | _ => none }
def FnExactScaleVectorWrongFalsely : Prop := fnExactScaleVectorRow.holds Try.pinned (OpenSpec.ofChange fnExactScaleVectorWrong)

/-- 'laws.FnExactCrossOf': WHATEVER THE INPUT: true; the input reads as it did. -/
def fnExactCrossOfSpec : ChangeSpec := { name := "fnExactCrossOf", fn := fun _ => fun
  | [d1, d2] => { results := [.lit (.bool true)], args := [d1, d2] }
  | _ => none }
def fnExactCrossOfRow : OpenClaim := { program := "ytegonfniagpnkaa", sum := "9c9c07231d8669c2d795eb796f6477cc91199aab655d4cac1c822e0b54ff75e0", func := "loop.example/g01223/laws.FnExactCrossOf", spec := "fnExactCrossOf", apart := false }
def FnExactCrossOfSaid : Prop := fnExactCrossOfRow.holds Try.pinned (OpenSpec.ofChange fnExactCrossOfSpec)

/-- ITS FALSE NEIGHBOUR: 'it returns false'. Refute it at one input. -/
def fnExactCrossOfWrong : ChangeSpec := { name := "fnExactCrossOf", fn := fun _ => fun
  | [d1, d2] => { results := [.lit (.bool false)], args := [d1, d2] }
  | _ => none }
def FnExactCrossOfWrongFalsely : Prop := fnExactCrossOfRow.holds Try.pinned (OpenSpec.ofChange fnExactCrossOfWrong)

/-- 'laws.FnExactFlushNumber': WHATEVER THE INPUT: true; the input reads as it did. -/
def fnExactFlushNumberSpec : ChangeSpec := { name := "fnExactFlushNumber", fn := fun _ => fun
  | [d] => { results := [.lit (.bool true)], args := [d] }
  | _ => none }
def fnExactFlushNumberRow : OpenClaim := { program := "ytegonfniagpnkaa", sum := "9c9c07231d8669c2d795eb796f6477cc91199aab655d4cac1c822e0b54ff75e0", func := "loop.example/g01223/laws.FnExactFlushNumber", spec := "fnExactFlushNumber", inPlace := ["math.Float32bits", "math.Float32frombits"], apart := false }
def FnExactFlushNumberSaid : Prop := fnExactFlushNumberRow.holds Try.pinned (OpenSpec.ofChange fnExactFlushNumberSpec)

/-- ITS FALSE NEIGHBOUR: 'it returns false'. Refute it at one input. -/
def fnExactFlushNumberWrong : ChangeSpec := { name := "fnExactFlushNumber", fn := fun _ => fun
  | [d] => { results := [.lit (.bool false)], args := [d] }
  | _ => none }
def FnExactFlushNumberWrongFalsely : Prop := fnExactFlushNumberRow.holds Try.pinned (OpenSpec.ofChange fnExactFlushNumberWrong)

/-- 'laws.FnExactRankDistance': WHATEVER THE INPUT: true; the input reads as it did. -/
def fnExactRankDistanceSpec : ChangeSpec := { name := "fnExactRankDistance", fn := fun _ => fun
  | [d1, d2] => { results := [.lit (.bool true)], args := [d1, d2] }
  | _ => none }
def fnExactRankDistanceRow : OpenClaim := { program := "ytegonfniagpnkaa", sum := "9c9c07231d8669c2d795eb796f6477cc91199aab655d4cac1c822e0b54ff75e0", func := "loop.example/g01223/laws.FnExactRankDistance", spec := "fnExactRankDistance", apart := false }
def FnExactRankDistanceSaid : Prop := fnExactRankDistanceRow.holds Try.pinned (OpenSpec.ofChange fnExactRankDistanceSpec)

/-- ITS FALSE NEIGHBOUR: 'it returns false'. Refute it at one input. -/
def fnExactRankDistanceWrong : ChangeSpec := { name := "fnExactRankDistance", fn := fun _ => fun
  | [d1, d2] => { results := [.lit (.bool false)], args := [d1, d2] }
  | _ => none }
def FnExactRankDistanceWrongFalsely : Prop := fnExactRankDistanceRow.holds Try.pinned (OpenSpec.ofChange fnExactRankDistanceWrong)

/-- 'laws.FnExactSameVector': WHATEVER THE INPUT: true; the input reads as it did. -/
def fnExactSameVectorSpec : ChangeSpec := { name := "fnExactSameVector", fn := fun _ => fun
  | [d1, d2] => { results := [.lit (.bool true)], args := [d1, d2] }
  | _ => none }
def fnExactSameVectorRow : OpenClaim := { program := "ytegonfniagpnkaa", sum := "9c9c07231d8669c2d795eb796f6477cc91199aab655d4cac1c822e0b54ff75e0", func := "loop.example/g01223/laws.FnExactSameVector", spec := "fnExactSameVector", inPlace := ["math.Float32bits"], unfollowed := true, recurses := true, apart := false }
def FnExactSameVectorSaid : Prop := fnExactSameVectorRow.holds Try.pinned (OpenSpec.ofChange fnExactSameVectorSpec)

/-- ITS FALSE NEIGHBOUR: 'it returns false'. Refute it at one input. -/
def fnExactSameVectorWrong : ChangeSpec := { name := "fnExactSameVector", fn := fun _ => fun
  | [d1, d2] => { results := [.lit (.bool false)], args := [d1, d2] }
  | _ => none }
def FnExactSameVectorWrongFalsely : Prop := fnExactSameVectorRow.holds Try.pinned (OpenSpec.ofChange fnExactSameVectorWrong)

/-- 'laws.FnExactNextUp': WHATEVER THE INPUT: true; the input reads as it did. -/
def fnExactNextUpSpec : ChangeSpec := { name := "fnExactNextUp", fn := fun _ => fun
  | [d] => { results := [.lit (.bool true)], args := [d] }
  | _ => none }
def fnExactNextUpRow : OpenClaim := { program := "ytegonfniagpnkaa", sum := "9c9c07231d8669c2d795eb796f6477cc91199aab655d4cac1c822e0b54ff75e0", func := "loop.example/g01223/laws.FnExactNextUp", spec := "fnExactNextUp", inPlace := ["math.Float32bits", "math.Float32frombits"], apart := false }
def FnExactNextUpSaid : Prop := fnExactNextUpRow.holds Try.pinned (OpenSpec.ofChange fnExactNextUpSpec)

/-- ITS FALSE NEIGHBOUR: 'it returns false'. Refute it at one input. -/
def fnExactNextUpWrong : ChangeSpec := { name := "fnExactNextUp", fn := fun _ => fun
  | [d] => { results := [.lit (.bool false)], args := [d] }
  | _ => none }
def FnExactNextUpWrongFalsely : Prop := fnExactNextUpRow.holds Try.pinned (OpenSpec.ofChange fnExactNextUpWrong)

/-- 'laws.FnExactNextDown': WHATEVER THE INPUT: true; the input reads as it did. -/
def fnExactNextDownSpec : ChangeSpec := { name := "fnExactNextDown", fn := fun _ => fun
  | [d] => { results := [.lit (.bool true)], args := [d] }
  | _ => none }
def fnExactNextDownRow : OpenClaim := { program := "ytegonfniagpnkaa", sum := "9c9c07231d8669c2d795eb796f6477cc91199aab655d4cac1c822e0b54ff75e0", func := "loop.example/g01223/laws.FnExactNextDown", spec := "fnExactNextDown", inPlace := ["math.Float32bits", "math.Float32frombits"], apart := false }
def FnExactNextDownSaid : Prop := fnExactNextDownRow.holds Try.pinned (OpenSpec.ofChange fnExactNextDownSpec)

/-- ITS FALSE NEIGHBOUR: 'it returns false'. Refute it at one input. -/
def fnExactNextDownWrong : ChangeSpec := { name := "fnExactNextDown", fn := fun _ => fun
  | [d] => { results := [.lit (.bool false)], args := [d] }
  | _ => none }
def FnExactNextDownWrongFalsely : Prop := fnExactNextDownRow.holds Try.pinned (OpenSpec.ofChange fnExactNextDownWrong)

/-- 'laws.FnExactBetweenVectors': WHATEVER THE INPUT: true; the input reads as it did. -/
def fnExactBetweenVectorsSpec : ChangeSpec := { name := "fnExactBetweenVectors", fn := fun _ => fun
  | [d1, d2, d3] => { results := [.lit (.bool true)], args := [d1, d2, d3] }
  | _ => none }
def fnExactBetweenVectorsRow : OpenClaim := { program := "ytegonfniagpnkaa", sum := "9c9c07231d8669c2d795eb796f6477cc91199aab655d4cac1c822e0b54ff75e0", func := "loop.example/g01223/laws.FnExactBetweenVectors", spec := "fnExactBetweenVectors", apart := false }
def FnExactBetweenVectorsSaid : Prop := fnExactBetweenVectorsRow.holds Try.pinned (OpenSpec.ofChange fnExactBetweenVectorsSpec)

/-- ITS FALSE NEIGHBOUR: 'it returns false'. Refute it at one input. -/
def fnExactBetweenVectorsWrong : ChangeSpec := { name := "fnExactBetweenVectors", fn := fun _ => fun
  | [d1, d2, d3] => { results := [.lit (.bool false)], args := [d1, d2, d3] }
  | _ => none }
def FnExactBetweenVectorsWrongFalsely : Prop := fnExactBetweenVectorsRow.holds Try.pinned (OpenSpec.ofChange fnExactBetweenVectorsWrong)

/-- 'laws.FnExactDotNumbers': WHATEVER THE INPUT: true; the input reads as it did. -/
def fnExactDotNumbersSpec : ChangeSpec := { name := "fnExactDotNumbers", fn := fun _ => fun
  | [d1, d2] => { results := [.lit (.bool true)], args := [d1, d2] }
  | _ => none }
def fnExactDotNumbersRow : OpenClaim := { program := "ytegonfniagpnkaa", sum := "9c9c07231d8669c2d795eb796f6477cc91199aab655d4cac1c822e0b54ff75e0", func := "loop.example/g01223/laws.FnExactDotNumbers", spec := "fnExactDotNumbers", apart := false }
def FnExactDotNumbersSaid : Prop := fnExactDotNumbersRow.holds Try.pinned (OpenSpec.ofChange fnExactDotNumbersSpec)

/-- ITS FALSE NEIGHBOUR: 'it returns false'. Refute it at one input. -/
def fnExactDotNumbersWrong : ChangeSpec := { name := "fnExactDotNumbers", fn := fun _ => fun
  | [d1, d2] => { results := [.lit (.bool false)], args := [d1, d2] }
  | _ => none }
def FnExactDotNumbersWrongFalsely : Prop := fnExactDotNumbersRow.holds Try.pinned (OpenSpec.ofChange fnExactDotNumbersWrong)

/-- 'laws.FnExactSumNumbers': WHATEVER THE INPUT: true; the input reads as it did. -/
def fnExactSumNumbersSpec : ChangeSpec := { name := "fnExactSumNumbers", fn := fun _ => fun
  | [d] => { results := [.lit (.bool true)], args := [d] }
  | _ => none }
def fnExactSumNumbersRow : OpenClaim := { program := "ytegonfniagpnkaa", sum := "9c9c07231d8669c2d795eb796f6477cc91199aab655d4cac1c822e0b54ff75e0", func := "loop.example/g01223/laws.FnExactSumNumbers", spec := "fnExactSumNumbers", apart := false }
def FnExactSumNumbersSaid : Prop := fnExactSumNumbersRow.holds Try.pinned (OpenSpec.ofChange fnExactSumNumbersSpec)

/-- ITS FALSE NEIGHBOUR: 'it returns false'. Refute it at one input. -/
def fnExactSumNumbersWrong : ChangeSpec := { name := "fnExactSumNumbers", fn := fun _ => fun
  | [d] => { results := [.lit (.bool false)], args := [d] }
  | _ => none }
def FnExactSumNumbersWrongFalsely : Prop := fnExactSumNumbersRow.holds Try.pinned (OpenSpec.ofChange fnExactSumNumbersWrong)

/-- 'laws.FnExactSumPairs': WHATEVER THE INPUT: true; the input reads as it did. -/
def fnExactSumPairsSpec : ChangeSpec := { name := "fnExactSumPairs", fn := fun _ => fun
  | [d] => { results := [.lit (.bool true)], args := [d] }
  | _ => none }
def fnExactSumPairsRow : OpenClaim := { program := "ytegonfniagpnkaa", sum := "9c9c07231d8669c2d795eb796f6477cc91199aab655d4cac1c822e0b54ff75e0", func := "loop.example/g01223/laws.FnExactSumPairs", spec := "fnExactSumPairs", recurses := true, apart := false }
def FnExactSumPairsSaid : Prop := fnExactSumPairsRow.holds Try.pinned (OpenSpec.ofChange fnExactSumPairsSpec)

/-- ITS FALSE NEIGHBOUR: 'it returns false'. Refute it at one input. -/
def fnExactSumPairsWrong : ChangeSpec := { name := "fnExactSumPairs", fn := fun _ => fun
  | [d] => { results := [.lit (.bool false)], args := [d] }
  | _ => none }
def FnExactSumPairsWrongFalsely : Prop := fnExactSumPairsRow.holds Try.pinned (OpenSpec.ofChange fnExactSumPairsWrong)

/- THE SECOND FORM. 'bulk': how many values and letters a reading holds, each counted each time it is reached (what is shared counts as often as it is met; a slice's spare places count too). A statement '..UptoSaid' is the law's where the arguments, and the package variables that the reading takes, are together of bulk at most 1048576: NARROWER than '..Said'. Prove '..Said' where nothing that the law and all that it calls make is longer than what came in: it says more and counts as full. Else prove '..UptoSaid'. A law counts once. -/
mutual
def uptoBulk {H : Type} : DataW H → Nat
  | .lit (.string bytes) => bytes.length + 1
  | .lit _ => 1
  | .nil => 1
  | .ptr d => uptoBulk d + 1
  | .slice elems spare => uptoBulkAll elems + uptoBulkAll spare + 1
  | .agg parts => uptoBulkAll parts + 1
  | .iface _ d => uptoBulk d + 1
  | .map entries => uptoBulkEntries entries + 1
  | .held _ => 1
def uptoBulkAll {H : Type} : List (DataW H) → Nat
  | [] => 0
  | d :: r => uptoBulk d + uptoBulkAll r
def uptoBulkEntries {H : Type} : List (Lit × DataW H) → Nat
  | [] => 0
  | x :: r => uptoBulkEntry x + uptoBulkEntries r
def uptoBulkEntry {H : Type} : Lit × DataW H → Nat
  | (.string bytes, d) => bytes.length + uptoBulk d + 1
  | (_, d) => uptoBulk d + 1
 end
def uptoSmall : (H : Type) → List (DataW H) → Bool := fun _ ds => decide (uptoBulkAll ds ≤ 1048576)
def OpenSpec.upto (s : _root_.Go.ChangeSpec) : _root_.Go.OpenSpec := { _root_.Go.OpenSpec.ofChange s with cond := some uptoSmall }

/-- 'laws.FnExactScaleVector', WHERE WHAT IT READS IS OF BULK AT MOST 1048576: true; the input reads as it did. -/
def fnExactScaleVectorUptoRow : OpenClaim := { program := "ytegonfniagpnkaa", sum := "9c9c07231d8669c2d795eb796f6477cc91199aab655d4cac1c822e0b54ff75e0", func := "loop.example/g01223/laws.FnExactScaleVector", spec := "fnExactScaleVector", apart := false, narrowed := true }
def FnExactScaleVectorUptoSaid : Prop := fnExactScaleVectorUptoRow.holds Try.pinned (OpenSpec.upto fnExactScaleVectorSpec)

/-- 'laws.FnExactCrossOf', WHERE WHAT IT READS IS OF BULK AT MOST 1048576: true; the input reads as it did. -/
def fnExactCrossOfUptoRow : OpenClaim := { program := "ytegonfniagpnkaa", sum := "9c9c07231d8669c2d795eb796f6477cc91199aab655d4cac1c822e0b54ff75e0", func := "loop.example/g01223/laws.FnExactCrossOf", spec := "fnExactCrossOf", apart := false, narrowed := true }
def FnExactCrossOfUptoSaid : Prop := fnExactCrossOfUptoRow.holds Try.pinned (OpenSpec.upto fnExactCrossOfSpec)

/-- 'laws.FnExactFlushNumber', WHERE WHAT IT READS IS OF BULK AT MOST 1048576: true; the input reads as it did. -/
def fnExactFlushNumberUptoRow : OpenClaim := { program := "ytegonfniagpnkaa", sum := "9c9c07231d8669c2d795eb796f6477cc91199aab655d4cac1c822e0b54ff75e0", func := "loop.example/g01223/laws.FnExactFlushNumber", spec := "fnExactFlushNumber", inPlace := ["math.Float32bits", "math.Float32frombits"], apart := false, narrowed := true }
def FnExactFlushNumberUptoSaid : Prop := fnExactFlushNumberUptoRow.holds Try.pinned (OpenSpec.upto fnExactFlushNumberSpec)

/-- 'laws.FnExactRankDistance', WHERE WHAT IT READS IS OF BULK AT MOST 1048576: true; the input reads as it did. -/
def fnExactRankDistanceUptoRow : OpenClaim := { program := "ytegonfniagpnkaa", sum := "9c9c07231d8669c2d795eb796f6477cc91199aab655d4cac1c822e0b54ff75e0", func := "loop.example/g01223/laws.FnExactRankDistance", spec := "fnExactRankDistance", apart := false, narrowed := true }
def FnExactRankDistanceUptoSaid : Prop := fnExactRankDistanceUptoRow.holds Try.pinned (OpenSpec.upto fnExactRankDistanceSpec)

/-- 'laws.FnExactSameVector', WHERE WHAT IT READS IS OF BULK AT MOST 1048576: true; the input reads as it did. -/
def fnExactSameVectorUptoRow : OpenClaim := { program := "ytegonfniagpnkaa", sum := "9c9c07231d8669c2d795eb796f6477cc91199aab655d4cac1c822e0b54ff75e0", func := "loop.example/g01223/laws.FnExactSameVector", spec := "fnExactSameVector", inPlace := ["math.Float32bits"], unfollowed := true, recurses := true, apart := false, narrowed := true }
def FnExactSameVectorUptoSaid : Prop := fnExactSameVectorUptoRow.holds Try.pinned (OpenSpec.upto fnExactSameVectorSpec)

/-- 'laws.FnExactNextUp', WHERE WHAT IT READS IS OF BULK AT MOST 1048576: true; the input reads as it did. -/
def fnExactNextUpUptoRow : OpenClaim := { program := "ytegonfniagpnkaa", sum := "9c9c07231d8669c2d795eb796f6477cc91199aab655d4cac1c822e0b54ff75e0", func := "loop.example/g01223/laws.FnExactNextUp", spec := "fnExactNextUp", inPlace := ["math.Float32bits", "math.Float32frombits"], apart := false, narrowed := true }
def FnExactNextUpUptoSaid : Prop := fnExactNextUpUptoRow.holds Try.pinned (OpenSpec.upto fnExactNextUpSpec)

/-- 'laws.FnExactNextDown', WHERE WHAT IT READS IS OF BULK AT MOST 1048576: true; the input reads as it did. -/
def fnExactNextDownUptoRow : OpenClaim := { program := "ytegonfniagpnkaa", sum := "9c9c07231d8669c2d795eb796f6477cc91199aab655d4cac1c822e0b54ff75e0", func := "loop.example/g01223/laws.FnExactNextDown", spec := "fnExactNextDown", inPlace := ["math.Float32bits", "math.Float32frombits"], apart := false, narrowed := true }
def FnExactNextDownUptoSaid : Prop := fnExactNextDownUptoRow.holds Try.pinned (OpenSpec.upto fnExactNextDownSpec)

/-- 'laws.FnExactBetweenVectors', WHERE WHAT IT READS IS OF BULK AT MOST 1048576: true; the input reads as it did. -/
def fnExactBetweenVectorsUptoRow : OpenClaim := { program := "ytegonfniagpnkaa", sum := "9c9c07231d8669c2d795eb796f6477cc91199aab655d4cac1c822e0b54ff75e0", func := "loop.example/g01223/laws.FnExactBetweenVectors", spec := "fnExactBetweenVectors", apart := false, narrowed := true }
def FnExactBetweenVectorsUptoSaid : Prop := fnExactBetweenVectorsUptoRow.holds Try.pinned (OpenSpec.upto fnExactBetweenVectorsSpec)

/-- 'laws.FnExactDotNumbers', WHERE WHAT IT READS IS OF BULK AT MOST 1048576: true; the input reads as it did. -/
def fnExactDotNumbersUptoRow : OpenClaim := { program := "ytegonfniagpnkaa", sum := "9c9c07231d8669c2d795eb796f6477cc91199aab655d4cac1c822e0b54ff75e0", func := "loop.example/g01223/laws.FnExactDotNumbers", spec := "fnExactDotNumbers", apart := false, narrowed := true }
def FnExactDotNumbersUptoSaid : Prop := fnExactDotNumbersUptoRow.holds Try.pinned (OpenSpec.upto fnExactDotNumbersSpec)

/-- 'laws.FnExactSumNumbers', WHERE WHAT IT READS IS OF BULK AT MOST 1048576: true; the input reads as it did. -/
def fnExactSumNumbersUptoRow : OpenClaim := { program := "ytegonfniagpnkaa", sum := "9c9c07231d8669c2d795eb796f6477cc91199aab655d4cac1c822e0b54ff75e0", func := "loop.example/g01223/laws.FnExactSumNumbers", spec := "fnExactSumNumbers", apart := false, narrowed := true }
def FnExactSumNumbersUptoSaid : Prop := fnExactSumNumbersUptoRow.holds Try.pinned (OpenSpec.upto fnExactSumNumbersSpec)

/-- 'laws.FnExactSumPairs', WHERE WHAT IT READS IS OF BULK AT MOST 1048576: true; the input reads as it did. -/
def fnExactSumPairsUptoRow : OpenClaim := { program := "ytegonfniagpnkaa", sum := "9c9c07231d8669c2d795eb796f6477cc91199aab655d4cac1c822e0b54ff75e0", func := "loop.example/g01223/laws.FnExactSumPairs", spec := "fnExactSumPairs", recurses := true, apart := false, narrowed := true }
def FnExactSumPairsUptoSaid : Prop := fnExactSumPairsUptoRow.holds Try.pinned (OpenSpec.upto fnExactSumPairsSpec)

end Rows
end Go.Proofs.Ytegonfniagpnkaa
