/-
  No cell of these rows narrows 'for every input' (looked for: loops, veiled, ifaces, maps, wideKeys, modest, calm, conditions, laid).
  DERIVED. THE GIVEN ROWS OF THIS SEAT. 10 by the template 'for every input the law returns true; each argument reads behind the call as it read before'; 0 by the template 'total and deterministic' (their statements: YtacdnkpadloheaaTotals.lean).
  GIVEN WITH THE SEED: the statements are not yours to turn. If you find one false, say at which input.
  Laid BY PROGRAM, IN A SANDBOX (cutbox-rows.mjs): the forced cells as the released guide's own fill.sh prints them over the translation c2b4da3194640428… (all of the seat's roots in one cut). By AI agents, Wed Nov 11 2026. No macro, syntax, notation, axiom, sorry.
-/
import Derived.Test.YtacdnkpadloheaaChecked
import GoSem.Claim
import GoSem.ClaimJoined
import GoSem.ClaimMapViews
import Derived.JoinedTies
import Derived.KernelRfl
namespace Go.Proofs.Ytacdnkpadloheaa
/- THE CELL 'sum', in the pinned program and in every row, IS THE sha256 OF THE DUMP (.gsa) THAT YtacdnkpadloheaaProg.lean LOADS. Nothing in Lean hashes anything: it is a label: what it is worth is what the hold of that sum in a sandbox is worth. -/
noncomputable def Try.pinned : Pinned := { name := "ytacdnkpadloheaa", sum := "c2b4da31946404286e108e31104aa49ac7a615691798b084506e015d3e6cfd51", checked := Try.checked }
namespace Rows
def none {H : Type} : Left H := { results := [], args := [] }

/-- 'laws.FnExactDoublePicture': WHATEVER THE INPUT: true; the input reads as it did. -/
def fnExactDoublePictureSpec : ChangeSpec := { name := "fnExactDoublePicture", fn := fun _ => fun
  | [d1, d2, d3] => { results := [.lit (.bool true)], args := [d1, d2, d3] }
  | _ => none }
def fnExactDoublePictureRow : OpenClaim := { program := "ytacdnkpadloheaa", sum := "c2b4da31946404286e108e31104aa49ac7a615691798b084506e015d3e6cfd51", func := "loop.example/g01223/laws.FnExactDoublePicture", spec := "fnExactDoublePicture", unfollowed := true, recurses := true, apart := false }
def FnExactDoublePictureSaid : Prop := fnExactDoublePictureRow.holds Try.pinned (OpenSpec.ofChange fnExactDoublePictureSpec)

/-- ITS FALSE NEIGHBOUR: 'it returns false'. Refute it at one input. -/
def fnExactDoublePictureWrong : ChangeSpec := { name := "fnExactDoublePicture", fn := fun _ => fun
  | [d1, d2, d3] => { results := [.lit (.bool false)], args := [d1, d2, d3] }
  | _ => none }
def FnExactDoublePictureWrongFalsely : Prop := fnExactDoublePictureRow.holds Try.pinned (OpenSpec.ofChange fnExactDoublePictureWrong)

/-- 'laws.FnExactSwapPicture': WHATEVER THE INPUT: true; the input reads as it did. -/
def fnExactSwapPictureSpec : ChangeSpec := { name := "fnExactSwapPicture", fn := fun _ => fun
  | [d] => { results := [.lit (.bool true)], args := [d] }
  | _ => none }
def fnExactSwapPictureRow : OpenClaim := { program := "ytacdnkpadloheaa", sum := "c2b4da31946404286e108e31104aa49ac7a615691798b084506e015d3e6cfd51", func := "loop.example/g01223/laws.FnExactSwapPicture", spec := "fnExactSwapPicture", unfollowed := true, recurses := true, apart := false }
def FnExactSwapPictureSaid : Prop := fnExactSwapPictureRow.holds Try.pinned (OpenSpec.ofChange fnExactSwapPictureSpec)

/-- ITS FALSE NEIGHBOUR: 'it returns false'. Refute it at one input. -/
def fnExactSwapPictureWrong : ChangeSpec := { name := "fnExactSwapPicture", fn := fun _ => fun
  | [d] => { results := [.lit (.bool false)], args := [d] }
  | _ => none }
def FnExactSwapPictureWrongFalsely : Prop := fnExactSwapPictureRow.holds Try.pinned (OpenSpec.ofChange fnExactSwapPictureWrong)

/-- 'laws.FnExactFlipPicture': WHATEVER THE INPUT: true; the input reads as it did. -/
def fnExactFlipPictureSpec : ChangeSpec := { name := "fnExactFlipPicture", fn := fun _ => fun
  | [d] => { results := [.lit (.bool true)], args := [d] }
  | _ => none }
def fnExactFlipPictureRow : OpenClaim := { program := "ytacdnkpadloheaa", sum := "c2b4da31946404286e108e31104aa49ac7a615691798b084506e015d3e6cfd51", func := "loop.example/g01223/laws.FnExactFlipPicture", spec := "fnExactFlipPicture", unfollowed := true, recurses := true, apart := false }
def FnExactFlipPictureSaid : Prop := fnExactFlipPictureRow.holds Try.pinned (OpenSpec.ofChange fnExactFlipPictureSpec)

/-- ITS FALSE NEIGHBOUR: 'it returns false'. Refute it at one input. -/
def fnExactFlipPictureWrong : ChangeSpec := { name := "fnExactFlipPicture", fn := fun _ => fun
  | [d] => { results := [.lit (.bool false)], args := [d] }
  | _ => none }
def FnExactFlipPictureWrongFalsely : Prop := fnExactFlipPictureRow.holds Try.pinned (OpenSpec.ofChange fnExactFlipPictureWrong)

/-- 'laws.FnExactMirrorPicture': WHATEVER THE INPUT: true; the input reads as it did. -/
def fnExactMirrorPictureSpec : ChangeSpec := { name := "fnExactMirrorPicture", fn := fun _ => fun
  | [d] => { results := [.lit (.bool true)], args := [d] }
  | _ => none }
def fnExactMirrorPictureRow : OpenClaim := { program := "ytacdnkpadloheaa", sum := "c2b4da31946404286e108e31104aa49ac7a615691798b084506e015d3e6cfd51", func := "loop.example/g01223/laws.FnExactMirrorPicture", spec := "fnExactMirrorPicture", unfollowed := true, recurses := true, apart := false }
def FnExactMirrorPictureSaid : Prop := fnExactMirrorPictureRow.holds Try.pinned (OpenSpec.ofChange fnExactMirrorPictureSpec)

/-- ITS FALSE NEIGHBOUR: 'it returns false'. Refute it at one input. -/
def fnExactMirrorPictureWrong : ChangeSpec := { name := "fnExactMirrorPicture", fn := fun _ => fun
  | [d] => { results := [.lit (.bool false)], args := [d] }
  | _ => none }
def FnExactMirrorPictureWrongFalsely : Prop := fnExactMirrorPictureRow.holds Try.pinned (OpenSpec.ofChange fnExactMirrorPictureWrong)

/-- 'laws.FnExactShiftPicture': WHATEVER THE INPUT: true; the input reads as it did. -/
def fnExactShiftPictureSpec : ChangeSpec := { name := "fnExactShiftPicture", fn := fun _ => fun
  | [d1, d2] => { results := [.lit (.bool true)], args := [d1, d2] }
  | _ => none }
def fnExactShiftPictureRow : OpenClaim := { program := "ytacdnkpadloheaa", sum := "c2b4da31946404286e108e31104aa49ac7a615691798b084506e015d3e6cfd51", func := "loop.example/g01223/laws.FnExactShiftPicture", spec := "fnExactShiftPicture", unfollowed := true, recurses := true, apart := false }
def FnExactShiftPictureSaid : Prop := fnExactShiftPictureRow.holds Try.pinned (OpenSpec.ofChange fnExactShiftPictureSpec)

/-- ITS FALSE NEIGHBOUR: 'it returns false'. Refute it at one input. -/
def fnExactShiftPictureWrong : ChangeSpec := { name := "fnExactShiftPicture", fn := fun _ => fun
  | [d1, d2] => { results := [.lit (.bool false)], args := [d1, d2] }
  | _ => none }
def FnExactShiftPictureWrongFalsely : Prop := fnExactShiftPictureRow.holds Try.pinned (OpenSpec.ofChange fnExactShiftPictureWrong)

/-- 'laws.FnExactHalvePicture': WHATEVER THE INPUT: true; the input reads as it did. -/
def fnExactHalvePictureSpec : ChangeSpec := { name := "fnExactHalvePicture", fn := fun _ => fun
  | [d] => { results := [.lit (.bool true)], args := [d] }
  | _ => none }
def fnExactHalvePictureRow : OpenClaim := { program := "ytacdnkpadloheaa", sum := "c2b4da31946404286e108e31104aa49ac7a615691798b084506e015d3e6cfd51", func := "loop.example/g01223/laws.FnExactHalvePicture", spec := "fnExactHalvePicture", unfollowed := true, recurses := true, apart := false }
def FnExactHalvePictureSaid : Prop := fnExactHalvePictureRow.holds Try.pinned (OpenSpec.ofChange fnExactHalvePictureSpec)

/-- ITS FALSE NEIGHBOUR: 'it returns false'. Refute it at one input. -/
def fnExactHalvePictureWrong : ChangeSpec := { name := "fnExactHalvePicture", fn := fun _ => fun
  | [d] => { results := [.lit (.bool false)], args := [d] }
  | _ => none }
def FnExactHalvePictureWrongFalsely : Prop := fnExactHalvePictureRow.holds Try.pinned (OpenSpec.ofChange fnExactHalvePictureWrong)

/-- 'laws.FnExactBoxPicture': WHATEVER THE INPUT: true; the input reads as it did. -/
def fnExactBoxPictureSpec : ChangeSpec := { name := "fnExactBoxPicture", fn := fun _ => fun
  | [d1, d2] => { results := [.lit (.bool true)], args := [d1, d2] }
  | _ => none }
def fnExactBoxPictureRow : OpenClaim := { program := "ytacdnkpadloheaa", sum := "c2b4da31946404286e108e31104aa49ac7a615691798b084506e015d3e6cfd51", func := "loop.example/g01223/laws.FnExactBoxPicture", spec := "fnExactBoxPicture", unfollowed := true, recurses := true, apart := false }
def FnExactBoxPictureSaid : Prop := fnExactBoxPictureRow.holds Try.pinned (OpenSpec.ofChange fnExactBoxPictureSpec)

/-- ITS FALSE NEIGHBOUR: 'it returns false'. Refute it at one input. -/
def fnExactBoxPictureWrong : ChangeSpec := { name := "fnExactBoxPicture", fn := fun _ => fun
  | [d1, d2] => { results := [.lit (.bool false)], args := [d1, d2] }
  | _ => none }
def FnExactBoxPictureWrongFalsely : Prop := fnExactBoxPictureRow.holds Try.pinned (OpenSpec.ofChange fnExactBoxPictureWrong)

/-- 'laws.FnExactBlurPicture': WHATEVER THE INPUT: true; the input reads as it did. -/
def fnExactBlurPictureSpec : ChangeSpec := { name := "fnExactBlurPicture", fn := fun _ => fun
  | [d1, d2] => { results := [.lit (.bool true)], args := [d1, d2] }
  | _ => none }
def fnExactBlurPictureRow : OpenClaim := { program := "ytacdnkpadloheaa", sum := "c2b4da31946404286e108e31104aa49ac7a615691798b084506e015d3e6cfd51", func := "loop.example/g01223/laws.FnExactBlurPicture", spec := "fnExactBlurPicture", unfollowed := true, recurses := true, apart := false }
def FnExactBlurPictureSaid : Prop := fnExactBlurPictureRow.holds Try.pinned (OpenSpec.ofChange fnExactBlurPictureSpec)

/-- ITS FALSE NEIGHBOUR: 'it returns false'. Refute it at one input. -/
def fnExactBlurPictureWrong : ChangeSpec := { name := "fnExactBlurPicture", fn := fun _ => fun
  | [d1, d2] => { results := [.lit (.bool false)], args := [d1, d2] }
  | _ => none }
def FnExactBlurPictureWrongFalsely : Prop := fnExactBlurPictureRow.holds Try.pinned (OpenSpec.ofChange fnExactBlurPictureWrong)

/-- 'laws.FnExactRanksOf': WHATEVER THE INPUT: true; the input reads as it did. -/
def fnExactRanksOfSpec : ChangeSpec := { name := "fnExactRanksOf", fn := fun _ => fun
  | [d1, d2] => { results := [.lit (.bool true)], args := [d1, d2] }
  | _ => none }
def fnExactRanksOfRow : OpenClaim := { program := "ytacdnkpadloheaa", sum := "c2b4da31946404286e108e31104aa49ac7a615691798b084506e015d3e6cfd51", func := "loop.example/g01223/laws.FnExactRanksOf", spec := "fnExactRanksOf", apart := false }
def FnExactRanksOfSaid : Prop := fnExactRanksOfRow.holds Try.pinned (OpenSpec.ofChange fnExactRanksOfSpec)

/-- ITS FALSE NEIGHBOUR: 'it returns false'. Refute it at one input. -/
def fnExactRanksOfWrong : ChangeSpec := { name := "fnExactRanksOf", fn := fun _ => fun
  | [d1, d2] => { results := [.lit (.bool false)], args := [d1, d2] }
  | _ => none }
def FnExactRanksOfWrongFalsely : Prop := fnExactRanksOfRow.holds Try.pinned (OpenSpec.ofChange fnExactRanksOfWrong)

/-- 'laws.FnExactPyramidOf': WHATEVER THE INPUT: true; the input reads as it did. -/
def fnExactPyramidOfSpec : ChangeSpec := { name := "fnExactPyramidOf", fn := fun _ => fun
  | [d1, d2] => { results := [.lit (.bool true)], args := [d1, d2] }
  | _ => none }
def fnExactPyramidOfRow : OpenClaim := { program := "ytacdnkpadloheaa", sum := "c2b4da31946404286e108e31104aa49ac7a615691798b084506e015d3e6cfd51", func := "loop.example/g01223/laws.FnExactPyramidOf", spec := "fnExactPyramidOf", unfollowed := true, recurses := true, apart := false }
def FnExactPyramidOfSaid : Prop := fnExactPyramidOfRow.holds Try.pinned (OpenSpec.ofChange fnExactPyramidOfSpec)

/-- ITS FALSE NEIGHBOUR: 'it returns false'. Refute it at one input. -/
def fnExactPyramidOfWrong : ChangeSpec := { name := "fnExactPyramidOf", fn := fun _ => fun
  | [d1, d2] => { results := [.lit (.bool false)], args := [d1, d2] }
  | _ => none }
def FnExactPyramidOfWrongFalsely : Prop := fnExactPyramidOfRow.holds Try.pinned (OpenSpec.ofChange fnExactPyramidOfWrong)

/- THE SECOND FORM. 'bulk': how many values and letters a reading holds, each counted each time it is reached (what is shared counts as often as it is met; a slice's spare places count too). A statement '..UptoSaid' is the law's where the arguments, and the package variables that the reading takes, are together of bulk at most 1048576: NARROWER than '..Said'. Prove '..Said' where nothing that the law and all that it calls make is longer than what came in: it says more and counts as full. Else prove '..UptoSaid'. A law counts once. -/
mutual
def uptoBulk {H : Type} : DataW H → Nat
  | .lit (.string bytes) => bytes.length + 1
  | .lit _ => 1
  | .nil => 1
  | .ptr d => uptoBulk d + 1
  | .slice elems spare => uptoBulkAll elems + uptoBulkAll spare + 1
  | .agg parts => uptoBulkAll parts + 1
  | .iface _ d => uptoBulk d + 1
  | .map entries => uptoBulkEntries entries + 1
  | .held _ => 1
def uptoBulkAll {H : Type} : List (DataW H) → Nat
  | [] => 0
  | d :: r => uptoBulk d + uptoBulkAll r
def uptoBulkEntries {H : Type} : List (Lit × DataW H) → Nat
  | [] => 0
  | x :: r => uptoBulkEntry x + uptoBulkEntries r
def uptoBulkEntry {H : Type} : Lit × DataW H → Nat
  | (.string bytes, d) => bytes.length + uptoBulk d + 1
  | (_, d) => uptoBulk d + 1
 end
def uptoSmall : (H : Type) → List (DataW H) → Bool := fun _ ds => decide (uptoBulkAll ds ≤ 1048576)
def OpenSpec.upto (s : _root_.Go.ChangeSpec) : _root_.Go.OpenSpec := { _root_.Go.OpenSpec.ofChange s with cond := some uptoSmall }

/-- 'laws.FnExactDoublePicture', WHERE WHAT IT READS IS OF BULK AT MOST 1048576: true; the input reads as it did. -/
def fnExactDoublePictureUptoRow : OpenClaim := { program := "ytacdnkpadloheaa", sum := "c2b4da31946404286e108e31104aa49ac7a615691798b084506e015d3e6cfd51", func := "loop.example/g01223/laws.FnExactDoublePicture", spec := "fnExactDoublePicture", unfollowed := true, recurses := true, apart := false, narrowed := true }
def FnExactDoublePictureUptoSaid : Prop := fnExactDoublePictureUptoRow.holds Try.pinned (OpenSpec.upto fnExactDoublePictureSpec)

/-- 'laws.FnExactSwapPicture', WHERE WHAT IT READS IS OF BULK AT MOST 1048576: true; the input reads as it did. -/
def fnExactSwapPictureUptoRow : OpenClaim := { program := "ytacdnkpadloheaa", sum := "c2b4da31946404286e108e31104aa49ac7a615691798b084506e015d3e6cfd51", func := "loop.example/g01223/laws.FnExactSwapPicture", spec := "fnExactSwapPicture", unfollowed := true, recurses := true, apart := false, narrowed := true }
def FnExactSwapPictureUptoSaid : Prop := fnExactSwapPictureUptoRow.holds Try.pinned (OpenSpec.upto fnExactSwapPictureSpec)

/-- 'laws.FnExactFlipPicture', WHERE WHAT IT READS IS OF BULK AT MOST 1048576: true; the input reads as it did. -/
def fnExactFlipPictureUptoRow : OpenClaim := { program := "ytacdnkpadloheaa", sum := "c2b4da31946404286e108e31104aa49ac7a615691798b084506e015d3e6cfd51", func := "loop.example/g01223/laws.FnExactFlipPicture", spec := "fnExactFlipPicture", unfollowed := true, recurses := true, apart := false, narrowed := true }
def FnExactFlipPictureUptoSaid : Prop := fnExactFlipPictureUptoRow.holds Try.pinned (OpenSpec.upto fnExactFlipPictureSpec)

/-- 'laws.FnExactMirrorPicture', WHERE WHAT IT READS IS OF BULK AT MOST 1048576: true; the input reads as it did. -/
def fnExactMirrorPictureUptoRow : OpenClaim := { program := "ytacdnkpadloheaa", sum := "c2b4da31946404286e108e31104aa49ac7a615691798b084506e015d3e6cfd51", func := "loop.example/g01223/laws.FnExactMirrorPicture", spec := "fnExactMirrorPicture", unfollowed := true, recurses := true, apart := false, narrowed := true }
def FnExactMirrorPictureUptoSaid : Prop := fnExactMirrorPictureUptoRow.holds Try.pinned (OpenSpec.upto fnExactMirrorPictureSpec)

/-- 'laws.FnExactShiftPicture', WHERE WHAT IT READS IS OF BULK AT MOST 1048576: true; the input reads as it did. -/
def fnExactShiftPictureUptoRow : OpenClaim := { program := "ytacdnkpadloheaa", sum := "c2b4da31946404286e108e31104aa49ac7a615691798b084506e015d3e6cfd51", func := "loop.example/g01223/laws.FnExactShiftPicture", spec := "fnExactShiftPicture", unfollowed := true, recurses := true, apart := false, narrowed := true }
def FnExactShiftPictureUptoSaid : Prop := fnExactShiftPictureUptoRow.holds Try.pinned (OpenSpec.upto fnExactShiftPictureSpec)

/-- 'laws.FnExactHalvePicture', WHERE WHAT IT READS IS OF BULK AT MOST 1048576: true; the input reads as it did. -/
def fnExactHalvePictureUptoRow : OpenClaim := { program := "ytacdnkpadloheaa", sum := "c2b4da31946404286e108e31104aa49ac7a615691798b084506e015d3e6cfd51", func := "loop.example/g01223/laws.FnExactHalvePicture", spec := "fnExactHalvePicture", unfollowed := true, recurses := true, apart := false, narrowed := true }
def FnExactHalvePictureUptoSaid : Prop := fnExactHalvePictureUptoRow.holds Try.pinned (OpenSpec.upto fnExactHalvePictureSpec)

/-- 'laws.FnExactBoxPicture', WHERE WHAT IT READS IS OF BULK AT MOST 1048576: true; the input reads as it did. -/
def fnExactBoxPictureUptoRow : OpenClaim := { program := "ytacdnkpadloheaa", sum := "c2b4da31946404286e108e31104aa49ac7a615691798b084506e015d3e6cfd51", func := "loop.example/g01223/laws.FnExactBoxPicture", spec := "fnExactBoxPicture", unfollowed := true, recurses := true, apart := false, narrowed := true }
def FnExactBoxPictureUptoSaid : Prop := fnExactBoxPictureUptoRow.holds Try.pinned (OpenSpec.upto fnExactBoxPictureSpec)

/-- 'laws.FnExactBlurPicture', WHERE WHAT IT READS IS OF BULK AT MOST 1048576: true; the input reads as it did. -/
def fnExactBlurPictureUptoRow : OpenClaim := { program := "ytacdnkpadloheaa", sum := "c2b4da31946404286e108e31104aa49ac7a615691798b084506e015d3e6cfd51", func := "loop.example/g01223/laws.FnExactBlurPicture", spec := "fnExactBlurPicture", unfollowed := true, recurses := true, apart := false, narrowed := true }
def FnExactBlurPictureUptoSaid : Prop := fnExactBlurPictureUptoRow.holds Try.pinned (OpenSpec.upto fnExactBlurPictureSpec)

/-- 'laws.FnExactRanksOf', WHERE WHAT IT READS IS OF BULK AT MOST 1048576: true; the input reads as it did. -/
def fnExactRanksOfUptoRow : OpenClaim := { program := "ytacdnkpadloheaa", sum := "c2b4da31946404286e108e31104aa49ac7a615691798b084506e015d3e6cfd51", func := "loop.example/g01223/laws.FnExactRanksOf", spec := "fnExactRanksOf", apart := false, narrowed := true }
def FnExactRanksOfUptoSaid : Prop := fnExactRanksOfUptoRow.holds Try.pinned (OpenSpec.upto fnExactRanksOfSpec)

/-- 'laws.FnExactPyramidOf', WHERE WHAT IT READS IS OF BULK AT MOST 1048576: true; the input reads as it did. -/
def fnExactPyramidOfUptoRow : OpenClaim := { program := "ytacdnkpadloheaa", sum := "c2b4da31946404286e108e31104aa49ac7a615691798b084506e015d3e6cfd51", func := "loop.example/g01223/laws.FnExactPyramidOf", spec := "fnExactPyramidOf", unfollowed := true, recurses := true, apart := false, narrowed := true }
def FnExactPyramidOfUptoSaid : Prop := fnExactPyramidOfUptoRow.holds Try.pinned (OpenSpec.upto fnExactPyramidOfSpec)

end Rows
end Go.Proofs.Ytacdnkpadloheaa
