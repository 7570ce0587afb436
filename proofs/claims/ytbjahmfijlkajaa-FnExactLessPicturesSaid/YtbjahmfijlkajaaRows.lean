/-
  No cell of these rows narrows 'for every input' (looked for: loops, veiled, ifaces, maps, wideKeys, modest, calm, conditions, laid).
  DERIVED. THE GIVEN ROWS OF THIS SEAT. 9 by the template 'for every input the law returns true; each argument reads behind the call as it read before'; 0 by the template 'total and deterministic' (their statements: YtbjahmfijlkajaaTotals.lean).
  GIVEN WITH THE SEED: the statements are not yours to turn. If you find one false, say at which input.
  Laid BY PROGRAM, IN A SANDBOX (cutbox-rows.mjs): the forced cells as the released guide's own fill.sh prints them over the translation 01452060bd9427f3… (all of the seat's roots in one cut). By AI agents, Wed Nov 11 2026. No macro, syntax, notation, axiom, sorry.
-/
import Derived.Test.YtbjahmfijlkajaaChecked
import GoSem.Claim
import GoSem.ClaimJoined
import GoSem.ClaimMapViews
import Derived.JoinedTies
import Derived.KernelRfl
namespace Go.Proofs.Ytbjahmfijlkajaa
/- THE CELL 'sum', in the pinned program and in every row, IS THE sha256 OF THE DUMP (.gsa) THAT YtbjahmfijlkajaaProg.lean LOADS. Nothing in Lean hashes anything: it is a label: what it is worth is what the hold of that sum in a sandbox is worth. -/
noncomputable def Try.pinned : Pinned := { name := "ytbjahmfijlkajaa", sum := "01452060bd9427f3daa0e4d870e658d0166981a55547bf074e2ac3c179395bd5", checked := Try.checked }
namespace Rows
def none {H : Type} : Left H := { results := [], args := [] }

/-- 'laws.FnExactValidPicture': WHATEVER THE INPUT: true; the input reads as it did. -/
def fnExactValidPictureSpec : ChangeSpec := { name := "fnExactValidPicture", fn := fun _ => fun
  | [d] => { results := [.lit (.bool true)], args := [d] }
  | _ => none }
def fnExactValidPictureRow : OpenClaim := { program := "ytbjahmfijlkajaa", sum := "01452060bd9427f3daa0e4d870e658d0166981a55547bf074e2ac3c179395bd5", func := "loop.example/g01223/laws.FnExactValidPicture", spec := "fnExactValidPicture", apart := false }
def FnExactValidPictureSaid : Prop := fnExactValidPictureRow.holds Try.pinned (OpenSpec.ofChange fnExactValidPictureSpec)

/-- ITS FALSE NEIGHBOUR: 'it returns false'. Refute it at one input. -/
def fnExactValidPictureWrong : ChangeSpec := { name := "fnExactValidPicture", fn := fun _ => fun
  | [d] => { results := [.lit (.bool false)], args := [d] }
  | _ => none }
def FnExactValidPictureWrongFalsely : Prop := fnExactValidPictureRow.holds Try.pinned (OpenSpec.ofChange fnExactValidPictureWrong)

/-- 'laws.FnExactFlatPicture': WHATEVER THE INPUT: true; the input reads as it did. -/
def fnExactFlatPictureSpec : ChangeSpec := { name := "fnExactFlatPicture", fn := fun _ => fun
  | [d1, d2, d3] => { results := [.lit (.bool true)], args := [d1, d2, d3] }
  | _ => none }
def fnExactFlatPictureRow : OpenClaim := { program := "ytbjahmfijlkajaa", sum := "01452060bd9427f3daa0e4d870e658d0166981a55547bf074e2ac3c179395bd5", func := "loop.example/g01223/laws.FnExactFlatPicture", spec := "fnExactFlatPicture", unfollowed := true, recurses := true, apart := false }
def FnExactFlatPictureSaid : Prop := fnExactFlatPictureRow.holds Try.pinned (OpenSpec.ofChange fnExactFlatPictureSpec)

/-- ITS FALSE NEIGHBOUR: 'it returns false'. Refute it at one input. -/
def fnExactFlatPictureWrong : ChangeSpec := { name := "fnExactFlatPicture", fn := fun _ => fun
  | [d1, d2, d3] => { results := [.lit (.bool false)], args := [d1, d2, d3] }
  | _ => none }
def FnExactFlatPictureWrongFalsely : Prop := fnExactFlatPictureRow.holds Try.pinned (OpenSpec.ofChange fnExactFlatPictureWrong)

/-- 'laws.FnExactSamePicture': WHATEVER THE INPUT: true; the input reads as it did. -/
def fnExactSamePictureSpec : ChangeSpec := { name := "fnExactSamePicture", fn := fun _ => fun
  | [d1, d2] => { results := [.lit (.bool true)], args := [d1, d2] }
  | _ => none }
def fnExactSamePictureRow : OpenClaim := { program := "ytbjahmfijlkajaa", sum := "01452060bd9427f3daa0e4d870e658d0166981a55547bf074e2ac3c179395bd5", func := "loop.example/g01223/laws.FnExactSamePicture", spec := "fnExactSamePicture", inPlace := ["math.Float32bits"], unfollowed := true, recurses := true, apart := false }
def FnExactSamePictureSaid : Prop := fnExactSamePictureRow.holds Try.pinned (OpenSpec.ofChange fnExactSamePictureSpec)

/-- ITS FALSE NEIGHBOUR: 'it returns false'. Refute it at one input. -/
def fnExactSamePictureWrong : ChangeSpec := { name := "fnExactSamePicture", fn := fun _ => fun
  | [d1, d2] => { results := [.lit (.bool false)], args := [d1, d2] }
  | _ => none }
def FnExactSamePictureWrongFalsely : Prop := fnExactSamePictureRow.holds Try.pinned (OpenSpec.ofChange fnExactSamePictureWrong)

/-- 'laws.FnExactCountUnlike': WHATEVER THE INPUT: true; the input reads as it did. -/
def fnExactCountUnlikeSpec : ChangeSpec := { name := "fnExactCountUnlike", fn := fun _ => fun
  | [d1, d2, d3] => { results := [.lit (.bool true)], args := [d1, d2, d3] }
  | _ => none }
def fnExactCountUnlikeRow : OpenClaim := { program := "ytbjahmfijlkajaa", sum := "01452060bd9427f3daa0e4d870e658d0166981a55547bf074e2ac3c179395bd5", func := "loop.example/g01223/laws.FnExactCountUnlike", spec := "fnExactCountUnlike", inPlace := ["math.Float32bits", "math.Float32frombits"], apart := false }
def FnExactCountUnlikeSaid : Prop := fnExactCountUnlikeRow.holds Try.pinned (OpenSpec.ofChange fnExactCountUnlikeSpec)

/-- ITS FALSE NEIGHBOUR: 'it returns false'. Refute it at one input. -/
def fnExactCountUnlikeWrong : ChangeSpec := { name := "fnExactCountUnlike", fn := fun _ => fun
  | [d1, d2, d3] => { results := [.lit (.bool false)], args := [d1, d2, d3] }
  | _ => none }
def FnExactCountUnlikeWrongFalsely : Prop := fnExactCountUnlikeRow.holds Try.pinned (OpenSpec.ofChange fnExactCountUnlikeWrong)

/-- 'laws.FnExactRangeOf': WHATEVER THE INPUT: true; the input reads as it did. -/
def fnExactRangeOfSpec : ChangeSpec := { name := "fnExactRangeOf", fn := fun _ => fun
  | [d] => { results := [.lit (.bool true)], args := [d] }
  | _ => none }
def fnExactRangeOfRow : OpenClaim := { program := "ytbjahmfijlkajaa", sum := "01452060bd9427f3daa0e4d870e658d0166981a55547bf074e2ac3c179395bd5", func := "loop.example/g01223/laws.FnExactRangeOf", spec := "fnExactRangeOf", unfollowed := true, recurses := true, apart := false }
def FnExactRangeOfSaid : Prop := fnExactRangeOfRow.holds Try.pinned (OpenSpec.ofChange fnExactRangeOfSpec)

/-- ITS FALSE NEIGHBOUR: 'it returns false'. Refute it at one input. -/
def fnExactRangeOfWrong : ChangeSpec := { name := "fnExactRangeOf", fn := fun _ => fun
  | [d] => { results := [.lit (.bool false)], args := [d] }
  | _ => none }
def FnExactRangeOfWrongFalsely : Prop := fnExactRangeOfRow.holds Try.pinned (OpenSpec.ofChange fnExactRangeOfWrong)

/-- 'laws.FnExactScalePicture': WHATEVER THE INPUT: true; the input reads as it did. -/
def fnExactScalePictureSpec : ChangeSpec := { name := "fnExactScalePicture", fn := fun _ => fun
  | [d1, d2, d3] => { results := [.lit (.bool true)], args := [d1, d2, d3] }
  | _ => none }
def fnExactScalePictureRow : OpenClaim := { program := "ytbjahmfijlkajaa", sum := "01452060bd9427f3daa0e4d870e658d0166981a55547bf074e2ac3c179395bd5", func := "loop.example/g01223/laws.FnExactScalePicture", spec := "fnExactScalePicture", unfollowed := true, recurses := true, apart := false }
def FnExactScalePictureSaid : Prop := fnExactScalePictureRow.holds Try.pinned (OpenSpec.ofChange fnExactScalePictureSpec)

/-- ITS FALSE NEIGHBOUR: 'it returns false'. Refute it at one input. -/
def fnExactScalePictureWrong : ChangeSpec := { name := "fnExactScalePicture", fn := fun _ => fun
  | [d1, d2, d3] => { results := [.lit (.bool false)], args := [d1, d2, d3] }
  | _ => none }
def FnExactScalePictureWrongFalsely : Prop := fnExactScalePictureRow.holds Try.pinned (OpenSpec.ofChange fnExactScalePictureWrong)

/-- 'laws.FnExactLessPictures': WHATEVER THE INPUT: true; the input reads as it did. -/
def fnExactLessPicturesSpec : ChangeSpec := { name := "fnExactLessPictures", fn := fun _ => fun
  | [d1, d2] => { results := [.lit (.bool true)], args := [d1, d2] }
  | _ => none }
def fnExactLessPicturesRow : OpenClaim := { program := "ytbjahmfijlkajaa", sum := "01452060bd9427f3daa0e4d870e658d0166981a55547bf074e2ac3c179395bd5", func := "loop.example/g01223/laws.FnExactLessPictures", spec := "fnExactLessPictures", unfollowed := true, recurses := true, apart := false }
def FnExactLessPicturesSaid : Prop := fnExactLessPicturesRow.holds Try.pinned (OpenSpec.ofChange fnExactLessPicturesSpec)

/-- ITS FALSE NEIGHBOUR: 'it returns false'. Refute it at one input. -/
def fnExactLessPicturesWrong : ChangeSpec := { name := "fnExactLessPictures", fn := fun _ => fun
  | [d1, d2] => { results := [.lit (.bool false)], args := [d1, d2] }
  | _ => none }
def FnExactLessPicturesWrongFalsely : Prop := fnExactLessPicturesRow.holds Try.pinned (OpenSpec.ofChange fnExactLessPicturesWrong)

/-- 'laws.FnExactNormPicture': WHATEVER THE INPUT: true; the input reads as it did. -/
def fnExactNormPictureSpec : ChangeSpec := { name := "fnExactNormPicture", fn := fun _ => fun
  | [d] => { results := [.lit (.bool true)], args := [d] }
  | _ => none }
def fnExactNormPictureRow : OpenClaim := { program := "ytbjahmfijlkajaa", sum := "01452060bd9427f3daa0e4d870e658d0166981a55547bf074e2ac3c179395bd5", func := "loop.example/g01223/laws.FnExactNormPicture", spec := "fnExactNormPicture", unfollowed := true, recurses := true, apart := false }
def FnExactNormPictureSaid : Prop := fnExactNormPictureRow.holds Try.pinned (OpenSpec.ofChange fnExactNormPictureSpec)

/-- ITS FALSE NEIGHBOUR: 'it returns false'. Refute it at one input. -/
def fnExactNormPictureWrong : ChangeSpec := { name := "fnExactNormPicture", fn := fun _ => fun
  | [d] => { results := [.lit (.bool false)], args := [d] }
  | _ => none }
def FnExactNormPictureWrongFalsely : Prop := fnExactNormPictureRow.holds Try.pinned (OpenSpec.ofChange fnExactNormPictureWrong)

/-- 'laws.FnExactSlopePicture': WHATEVER THE INPUT: true; the input reads as it did. -/
def fnExactSlopePictureSpec : ChangeSpec := { name := "fnExactSlopePicture", fn := fun _ => fun
  | [d] => { results := [.lit (.bool true)], args := [d] }
  | _ => none }
def fnExactSlopePictureRow : OpenClaim := { program := "ytbjahmfijlkajaa", sum := "01452060bd9427f3daa0e4d870e658d0166981a55547bf074e2ac3c179395bd5", func := "loop.example/g01223/laws.FnExactSlopePicture", spec := "fnExactSlopePicture", unfollowed := true, recurses := true, apart := false }
def FnExactSlopePictureSaid : Prop := fnExactSlopePictureRow.holds Try.pinned (OpenSpec.ofChange fnExactSlopePictureSpec)

/-- ITS FALSE NEIGHBOUR: 'it returns false'. Refute it at one input. -/
def fnExactSlopePictureWrong : ChangeSpec := { name := "fnExactSlopePicture", fn := fun _ => fun
  | [d] => { results := [.lit (.bool false)], args := [d] }
  | _ => none }
def FnExactSlopePictureWrongFalsely : Prop := fnExactSlopePictureRow.holds Try.pinned (OpenSpec.ofChange fnExactSlopePictureWrong)

/- THE SECOND FORM. 'bulk': how many values and letters a reading holds, each counted each time it is reached (what is shared counts as often as it is met; a slice's spare places count too). A statement '..UptoSaid' is the law's where the arguments, and the package variables that the reading takes, are together of bulk at most 1048576: NARROWER than '..Said'. Prove '..Said' where nothing that the law and all that it calls make is longer than what came in: it says more and counts as full. Else prove '..UptoSaid'. A law counts once. -/
mutual
def uptoBulk {H : Type} : DataW H → Nat
  | .lit (.string bytes) => bytes.length + 1
  | .lit _ => 1
  | .nil => 1
  | .ptr d => uptoBulk d + 1
  | .slice elems spare => uptoBulkAll elems + uptoBulkAll spare + 1
  | .agg parts => uptoBulkAll parts + 1
  | .iface _ d => uptoBulk d + 1
  | .map entries => uptoBulkEntries entries + 1
  | .held _ => 1
def uptoBulkAll {H : Type} : List (DataW H) → Nat
  | [] => 0
  | d :: r => uptoBulk d + uptoBulkAll r
def uptoBulkEntries {H : Type} : List (Lit × DataW H) → Nat
  | [] => 0
  | x :: r => uptoBulkEntry x + uptoBulkEntries r
def uptoBulkEntry {H : Type} : Lit × DataW H → Nat
  | (.string bytes, d) => bytes.length + uptoBulk d + 1
  | (_, d) => uptoBulk d + 1
 end
def uptoSmall : (H : Type) → List (DataW H) → Bool := fun _ ds => decide (uptoBulkAll ds ≤ 1048576)
def OpenSpec.upto (s : _root_.Go.ChangeSpec) : _root_.Go.OpenSpec := { _root_.Go.OpenSpec.ofChange s with cond := some uptoSmall }

/-- 'laws.FnExactValidPicture', WHERE WHAT IT READS IS OF BULK AT MOST 1048576: true; the input reads as it did. -/
def fnExactValidPictureUptoRow : OpenClaim := { program := "ytbjahmfijlkajaa", sum := "01452060bd9427f3daa0e4d870e658d0166981a55547bf074e2ac3c179395bd5", func := "loop.example/g01223/laws.FnExactValidPicture", spec := "fnExactValidPicture", apart := false, narrowed := true }
def FnExactValidPictureUptoSaid : Prop := fnExactValidPictureUptoRow.holds Try.pinned (OpenSpec.upto fnExactValidPictureSpec)

/-- 'laws.FnExactFlatPicture', WHERE WHAT IT READS IS OF BULK AT MOST 1048576: true; the input reads as it did. -/
def fnExactFlatPictureUptoRow : OpenClaim := { program := "ytbjahmfijlkajaa", sum := "01452060bd9427f3daa0e4d870e658d0166981a55547bf074e2ac3c179395bd5", func := "loop.example/g01223/laws.FnExactFlatPicture", spec := "fnExactFlatPicture", unfollowed := true, recurses := true, apart := false, narrowed := true }
def FnExactFlatPictureUptoSaid : Prop := fnExactFlatPictureUptoRow.holds Try.pinned (OpenSpec.upto fnExactFlatPictureSpec)

/-- 'laws.FnExactSamePicture', WHERE WHAT IT READS IS OF BULK AT MOST 1048576: true; the input reads as it did. -/
def fnExactSamePictureUptoRow : OpenClaim := { program := "ytbjahmfijlkajaa", sum := "01452060bd9427f3daa0e4d870e658d0166981a55547bf074e2ac3c179395bd5", func := "loop.example/g01223/laws.FnExactSamePicture", spec := "fnExactSamePicture", inPlace := ["math.Float32bits"], unfollowed := true, recurses := true, apart := false, narrowed := true }
def FnExactSamePictureUptoSaid : Prop := fnExactSamePictureUptoRow.holds Try.pinned (OpenSpec.upto fnExactSamePictureSpec)

/-- 'laws.FnExactCountUnlike', WHERE WHAT IT READS IS OF BULK AT MOST 1048576: true; the input reads as it did. -/
def fnExactCountUnlikeUptoRow : OpenClaim := { program := "ytbjahmfijlkajaa", sum := "01452060bd9427f3daa0e4d870e658d0166981a55547bf074e2ac3c179395bd5", func := "loop.example/g01223/laws.FnExactCountUnlike", spec := "fnExactCountUnlike", inPlace := ["math.Float32bits", "math.Float32frombits"], apart := false, narrowed := true }
def FnExactCountUnlikeUptoSaid : Prop := fnExactCountUnlikeUptoRow.holds Try.pinned (OpenSpec.upto fnExactCountUnlikeSpec)

/-- 'laws.FnExactRangeOf', WHERE WHAT IT READS IS OF BULK AT MOST 1048576: true; the input reads as it did. -/
def fnExactRangeOfUptoRow : OpenClaim := { program := "ytbjahmfijlkajaa", sum := "01452060bd9427f3daa0e4d870e658d0166981a55547bf074e2ac3c179395bd5", func := "loop.example/g01223/laws.FnExactRangeOf", spec := "fnExactRangeOf", unfollowed := true, recurses := true, apart := false, narrowed := true }
def FnExactRangeOfUptoSaid : Prop := fnExactRangeOfUptoRow.holds Try.pinned (OpenSpec.upto fnExactRangeOfSpec)

/-- 'laws.FnExactScalePicture', WHERE WHAT IT READS IS OF BULK AT MOST 1048576: true; the input reads as it did. -/
def fnExactScalePictureUptoRow : OpenClaim := { program := "ytbjahmfijlkajaa", sum := "01452060bd9427f3daa0e4d870e658d0166981a55547bf074e2ac3c179395bd5", func := "loop.example/g01223/laws.FnExactScalePicture", spec := "fnExactScalePicture", unfollowed := true, recurses := true, apart := false, narrowed := true }
def FnExactScalePictureUptoSaid : Prop := fnExactScalePictureUptoRow.holds Try.pinned (OpenSpec.upto fnExactScalePictureSpec)

/-- 'laws.FnExactLessPictures', WHERE WHAT IT READS IS OF BULK AT MOST 1048576: true; the input reads as it did. -/
def fnExactLessPicturesUptoRow : OpenClaim := { program := "ytbjahmfijlkajaa", sum := "01452060bd9427f3daa0e4d870e658d0166981a55547bf074e2ac3c179395bd5", func := "loop.example/g01223/laws.FnExactLessPictures", spec := "fnExactLessPictures", unfollowed := true, recurses := true, apart := false, narrowed := true }
def FnExactLessPicturesUptoSaid : Prop := fnExactLessPicturesUptoRow.holds Try.pinned (OpenSpec.upto fnExactLessPicturesSpec)

/-- 'laws.FnExactNormPicture', WHERE WHAT IT READS IS OF BULK AT MOST 1048576: true; the input reads as it did. -/
def fnExactNormPictureUptoRow : OpenClaim := { program := "ytbjahmfijlkajaa", sum := "01452060bd9427f3daa0e4d870e658d0166981a55547bf074e2ac3c179395bd5", func := "loop.example/g01223/laws.FnExactNormPicture", spec := "fnExactNormPicture", unfollowed := true, recurses := true, apart := false, narrowed := true }
def FnExactNormPictureUptoSaid : Prop := fnExactNormPictureUptoRow.holds Try.pinned (OpenSpec.upto fnExactNormPictureSpec)

/-- 'laws.FnExactSlopePicture', WHERE WHAT IT READS IS OF BULK AT MOST 1048576: true; the input reads as it did. -/
def fnExactSlopePictureUptoRow : OpenClaim := { program := "ytbjahmfijlkajaa", sum := "01452060bd9427f3daa0e4d870e658d0166981a55547bf074e2ac3c179395bd5", func := "loop.example/g01223/laws.FnExactSlopePicture", spec := "fnExactSlopePicture", unfollowed := true, recurses := true, apart := false, narrowed := true }
def FnExactSlopePictureUptoSaid : Prop := fnExactSlopePictureUptoRow.holds Try.pinned (OpenSpec.upto fnExactSlopePictureSpec)

end Rows
end Go.Proofs.Ytbjahmfijlkajaa
