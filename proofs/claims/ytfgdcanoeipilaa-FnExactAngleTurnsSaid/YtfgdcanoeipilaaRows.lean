/-
  No cell of these rows narrows 'for every input' (looked for: loops, veiled, ifaces, maps, wideKeys, modest, calm, conditions, laid).
  DERIVED. THE GIVEN ROWS OF THIS SEAT. 5 by the template 'for every input the law returns true; each argument reads behind the call as it read before'; 0 by the template 'total and deterministic' (their statements: YtfgdcanoeipilaaTotals.lean).
  GIVEN WITH THE SEED: the statements are not yours to turn. If you find one false, say at which input.
  Laid BY PROGRAM, IN A SANDBOX (cutbox-rows.mjs): the forced cells as the released guide's own fill.sh prints them over the translation d6d63fe21e634980… (all of the seat's roots in one cut). By AI agents, Wed Nov 11 2026. No macro, syntax, notation, axiom, sorry.
-/
import Derived.Test.YtfgdcanoeipilaaChecked
import GoSem.Claim
import GoSem.ClaimJoined
import GoSem.ClaimMapViews
import Derived.JoinedTies
import Derived.KernelRfl
namespace Go.Proofs.Ytfgdcanoeipilaa
/- THE CELL 'sum', in the pinned program and in every row, IS THE sha256 OF THE DUMP (.gsa) THAT YtfgdcanoeipilaaProg.lean LOADS. Nothing in Lean hashes anything: it is a label: what it is worth is what the hold of that sum in a sandbox is worth. -/
noncomputable def Try.pinned : Pinned := { name := "ytfgdcanoeipilaa", sum := "d6d63fe21e634980f07c11f57b231badfb7a41469bdb67b9db730863246052be", checked := Try.checked }
namespace Rows
def none {H : Type} : Left H := { results := [], args := [] }

/-- 'laws.FnExactRootNumber': WHATEVER THE INPUT: true; the input reads as it did. -/
def fnExactRootNumberSpec : ChangeSpec := { name := "fnExactRootNumber", fn := fun _ => fun
  | [d] => { results := [.lit (.bool true)], args := [d] }
  | _ => none }
def fnExactRootNumberRow : OpenClaim := { program := "ytfgdcanoeipilaa", sum := "d6d63fe21e634980f07c11f57b231badfb7a41469bdb67b9db730863246052be", func := "loop.example/g01223/laws.FnExactRootNumber", spec := "fnExactRootNumber", inPlace := ["math.sqrt"], apart := false }
def FnExactRootNumberSaid : Prop := fnExactRootNumberRow.holds Try.pinned (OpenSpec.ofChange fnExactRootNumberSpec)

/-- ITS FALSE NEIGHBOUR: 'it returns false'. Refute it at one input. -/
def fnExactRootNumberWrong : ChangeSpec := { name := "fnExactRootNumber", fn := fun _ => fun
  | [d] => { results := [.lit (.bool false)], args := [d] }
  | _ => none }
def FnExactRootNumberWrongFalsely : Prop := fnExactRootNumberRow.holds Try.pinned (OpenSpec.ofChange fnExactRootNumberWrong)

/-- 'laws.FnExactLongOf': WHATEVER THE INPUT: true; the input reads as it did. -/
def fnExactLongOfSpec : ChangeSpec := { name := "fnExactLongOf", fn := fun _ => fun
  | [d] => { results := [.lit (.bool true)], args := [d] }
  | _ => none }
def fnExactLongOfRow : OpenClaim := { program := "ytfgdcanoeipilaa", sum := "d6d63fe21e634980f07c11f57b231badfb7a41469bdb67b9db730863246052be", func := "loop.example/g01223/laws.FnExactLongOf", spec := "fnExactLongOf", inPlace := ["math.sqrt"], apart := false }
def FnExactLongOfSaid : Prop := fnExactLongOfRow.holds Try.pinned (OpenSpec.ofChange fnExactLongOfSpec)

/-- ITS FALSE NEIGHBOUR: 'it returns false'. Refute it at one input. -/
def fnExactLongOfWrong : ChangeSpec := { name := "fnExactLongOf", fn := fun _ => fun
  | [d] => { results := [.lit (.bool false)], args := [d] }
  | _ => none }
def FnExactLongOfWrongFalsely : Prop := fnExactLongOfRow.holds Try.pinned (OpenSpec.ofChange fnExactLongOfWrong)

/-- 'laws.FnExactLogNumber': WHATEVER THE INPUT: true; the input reads as it did. -/
def fnExactLogNumberSpec : ChangeSpec := { name := "fnExactLogNumber", fn := fun _ => fun
  | [d] => { results := [.lit (.bool true)], args := [d] }
  | _ => none }
def fnExactLogNumberRow : OpenClaim := { program := "ytfgdcanoeipilaa", sum := "d6d63fe21e634980f07c11f57b231badfb7a41469bdb67b9db730863246052be", func := "loop.example/g01223/laws.FnExactLogNumber", spec := "fnExactLogNumber", inPlace := ["math.Float64frombits", "math.Float64bits"], apart := false }
def FnExactLogNumberSaid : Prop := fnExactLogNumberRow.holds Try.pinned (OpenSpec.ofChange fnExactLogNumberSpec)

/-- ITS FALSE NEIGHBOUR: 'it returns false'. Refute it at one input. -/
def fnExactLogNumberWrong : ChangeSpec := { name := "fnExactLogNumber", fn := fun _ => fun
  | [d] => { results := [.lit (.bool false)], args := [d] }
  | _ => none }
def FnExactLogNumberWrongFalsely : Prop := fnExactLogNumberRow.holds Try.pinned (OpenSpec.ofChange fnExactLogNumberWrong)

/-- 'laws.FnExactSineTurns': WHATEVER THE INPUT: true; the input reads as it did. -/
def fnExactSineTurnsSpec : ChangeSpec := { name := "fnExactSineTurns", fn := fun _ => fun
  | [d] => { results := [.lit (.bool true)], args := [d] }
  | _ => none }
def fnExactSineTurnsRow : OpenClaim := { program := "ytfgdcanoeipilaa", sum := "d6d63fe21e634980f07c11f57b231badfb7a41469bdb67b9db730863246052be", func := "loop.example/g01223/laws.FnExactSineTurns", spec := "fnExactSineTurns", inPlace := ["math.Float64frombits", "math.Float64bits", "math.archTrunc"], apart := false }
def FnExactSineTurnsSaid : Prop := fnExactSineTurnsRow.holds Try.pinned (OpenSpec.ofChange fnExactSineTurnsSpec)

/-- ITS FALSE NEIGHBOUR: 'it returns false'. Refute it at one input. -/
def fnExactSineTurnsWrong : ChangeSpec := { name := "fnExactSineTurns", fn := fun _ => fun
  | [d] => { results := [.lit (.bool false)], args := [d] }
  | _ => none }
def FnExactSineTurnsWrongFalsely : Prop := fnExactSineTurnsRow.holds Try.pinned (OpenSpec.ofChange fnExactSineTurnsWrong)

/-- 'laws.FnExactAngleTurns': WHATEVER THE INPUT: true; the input reads as it did. -/
def fnExactAngleTurnsSpec : ChangeSpec := { name := "fnExactAngleTurns", fn := fun _ => fun
  | [d1, d2] => { results := [.lit (.bool true)], args := [d1, d2] }
  | _ => none }
def fnExactAngleTurnsRow : OpenClaim := { program := "ytfgdcanoeipilaa", sum := "d6d63fe21e634980f07c11f57b231badfb7a41469bdb67b9db730863246052be", func := "loop.example/g01223/laws.FnExactAngleTurns", spec := "fnExactAngleTurns", inPlace := ["math.Float64frombits", "math.Float64bits", "math.sqrt"], unfollowed := true, recurses := true, apart := false }
def FnExactAngleTurnsSaid : Prop := fnExactAngleTurnsRow.holds Try.pinned (OpenSpec.ofChange fnExactAngleTurnsSpec)

/-- ITS FALSE NEIGHBOUR: 'it returns false'. Refute it at one input. -/
def fnExactAngleTurnsWrong : ChangeSpec := { name := "fnExactAngleTurns", fn := fun _ => fun
  | [d1, d2] => { results := [.lit (.bool false)], args := [d1, d2] }
  | _ => none }
def FnExactAngleTurnsWrongFalsely : Prop := fnExactAngleTurnsRow.holds Try.pinned (OpenSpec.ofChange fnExactAngleTurnsWrong)

/- THE SECOND FORM. 'bulk': how many values and letters a reading holds, each counted each time it is reached (what is shared counts as often as it is met; a slice's spare places count too). A statement '..UptoSaid' is the law's where the arguments, and the package variables that the reading takes, are together of bulk at most 1048576: NARROWER than '..Said'. Prove '..Said' where nothing that the law and all that it calls make is longer than what came in: it says more and counts as full. Else prove '..UptoSaid'. A law counts once. -/
mutual
def uptoBulk {H : Type} : DataW H → Nat
  | .lit (.string bytes) => bytes.length + 1
  | .lit _ => 1
  | .nil => 1
  | .ptr d => uptoBulk d + 1
  | .slice elems spare => uptoBulkAll elems + uptoBulkAll spare + 1
  | .agg parts => uptoBulkAll parts + 1
  | .iface _ d => uptoBulk d + 1
  | .map entries => uptoBulkEntries entries + 1
  | .held _ => 1
def uptoBulkAll {H : Type} : List (DataW H) → Nat
  | [] => 0
  | d :: r => uptoBulk d + uptoBulkAll r
def uptoBulkEntries {H : Type} : List (Lit × DataW H) → Nat
  | [] => 0
  | x :: r => uptoBulkEntry x + uptoBulkEntries r
def uptoBulkEntry {H : Type} : Lit × DataW H → Nat
  | (.string bytes, d) => bytes.length + uptoBulk d + 1
  | (_, d) => uptoBulk d + 1
 end
def uptoSmall : (H : Type) → List (DataW H) → Bool := fun _ ds => decide (uptoBulkAll ds ≤ 1048576)
def OpenSpec.upto (s : _root_.Go.ChangeSpec) : _root_.Go.OpenSpec := { _root_.Go.OpenSpec.ofChange s with cond := some uptoSmall }

/-- 'laws.FnExactRootNumber', WHERE WHAT IT READS IS OF BULK AT MOST 1048576: true; the input reads as it did. -/
def fnExactRootNumberUptoRow : OpenClaim := { program := "ytfgdcanoeipilaa", sum := "d6d63fe21e634980f07c11f57b231badfb7a41469bdb67b9db730863246052be", func := "loop.example/g01223/laws.FnExactRootNumber", spec := "fnExactRootNumber", inPlace := ["math.sqrt"], apart := false, narrowed := true }
def FnExactRootNumberUptoSaid : Prop := fnExactRootNumberUptoRow.holds Try.pinned (OpenSpec.upto fnExactRootNumberSpec)

/-- 'laws.FnExactLongOf', WHERE WHAT IT READS IS OF BULK AT MOST 1048576: true; the input reads as it did. -/
def fnExactLongOfUptoRow : OpenClaim := { program := "ytfgdcanoeipilaa", sum := "d6d63fe21e634980f07c11f57b231badfb7a41469bdb67b9db730863246052be", func := "loop.example/g01223/laws.FnExactLongOf", spec := "fnExactLongOf", inPlace := ["math.sqrt"], apart := false, narrowed := true }
def FnExactLongOfUptoSaid : Prop := fnExactLongOfUptoRow.holds Try.pinned (OpenSpec.upto fnExactLongOfSpec)

/-- 'laws.FnExactLogNumber', WHERE WHAT IT READS IS OF BULK AT MOST 1048576: true; the input reads as it did. -/
def fnExactLogNumberUptoRow : OpenClaim := { program := "ytfgdcanoeipilaa", sum := "d6d63fe21e634980f07c11f57b231badfb7a41469bdb67b9db730863246052be", func := "loop.example/g01223/laws.FnExactLogNumber", spec := "fnExactLogNumber", inPlace := ["math.Float64frombits", "math.Float64bits"], apart := false, narrowed := true }
def FnExactLogNumberUptoSaid : Prop := fnExactLogNumberUptoRow.holds Try.pinned (OpenSpec.upto fnExactLogNumberSpec)

/-- 'laws.FnExactSineTurns', WHERE WHAT IT READS IS OF BULK AT MOST 1048576: true; the input reads as it did. -/
def fnExactSineTurnsUptoRow : OpenClaim := { program := "ytfgdcanoeipilaa", sum := "d6d63fe21e634980f07c11f57b231badfb7a41469bdb67b9db730863246052be", func := "loop.example/g01223/laws.FnExactSineTurns", spec := "fnExactSineTurns", inPlace := ["math.Float64frombits", "math.Float64bits", "math.archTrunc"], apart := false, narrowed := true }
def FnExactSineTurnsUptoSaid : Prop := fnExactSineTurnsUptoRow.holds Try.pinned (OpenSpec.upto fnExactSineTurnsSpec)

/-- 'laws.FnExactAngleTurns', WHERE WHAT IT READS IS OF BULK AT MOST 1048576: true; the input reads as it did. -/
def fnExactAngleTurnsUptoRow : OpenClaim := { program := "ytfgdcanoeipilaa", sum := "d6d63fe21e634980f07c11f57b231badfb7a41469bdb67b9db730863246052be", func := "loop.example/g01223/laws.FnExactAngleTurns", spec := "fnExactAngleTurns", inPlace := ["math.Float64frombits", "math.Float64bits", "math.sqrt"], unfollowed := true, recurses := true, apart := false, narrowed := true }
def FnExactAngleTurnsUptoSaid : Prop := fnExactAngleTurnsUptoRow.holds Try.pinned (OpenSpec.upto fnExactAngleTurnsSpec)

end Rows
end Go.Proofs.Ytfgdcanoeipilaa
