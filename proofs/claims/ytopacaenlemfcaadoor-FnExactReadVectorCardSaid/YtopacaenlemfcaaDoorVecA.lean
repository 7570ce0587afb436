/-
  The walks of the functions on vectors, and of the laws over them.
-/
import Derived.Test.YtopacaenlemfcaaDoorOne
import Derived.ProofKit
import Derived.Deep.RegionHeld3
import Derived.Deep.DrawnRows
import Derived.Deep.DeepCutAuto
import Derived.Lib.Hide
import Derived.Carry
namespace Go.Proofs.YtopacaenlemfcaaDoor
open Go.RowKit Go.FL

/-- a vector, its three floats up to which NaN they are -/
def RetVec (o p q : Option Nat) (w : World) (e : Ending) (w' : World) : Prop := ∃ x y z, Is .f32 x o ∧ Is .f32 y p ∧ Is .f32 z q ∧ e = .returned (.agg #[.float .f32 x, .float .f32 y, .float .f32 z]) ∧ Below w.heap.size w w'
/-- a float, new blocks besides -/
def RetFB (o : Option Nat) (w : World) (e : Ending) (w' : World) : Prop := ∃ x, Is .f32 x o ∧ e = .returned (.float .f32 x) ∧ Below w.heap.size w w'
/-- a vector's floats, up to which NaN they are -/
def IsVec (o p q : Option Nat) (s : Value) : Prop := ∃ r0 r1 r2 : Nat, s = .agg #[.float .f32 r0, .float .f32 r1, .float .f32 r2] ∧ Is .f32 r0 o ∧ Is .f32 r1 p ∧ Is .f32 r2 q


theorem eqVector (x y z x1 y1 z1 : Nat) (w : World) (h0 : ab .f32 x = ab .f32 x1) (h1 : ab .f32 y = ab .f32 y1) (h2 : ab .f32 z = ab .f32 z1) :
    Calls Tryd.prog 28 #[.agg #[.float .f32 x, .float .f32 y, .float .f32 z], .agg #[.float .f32 x1, .float .f32 y1, .float .f32 z1]] w fun e w' => e = .returned (.bool true) ∧ Below w.heap.size w w' := by
  have H0 := Lib.hid h0
  have H1 := Lib.hid h1
  have H2 := Lib.hid h2
  clear h0 h1 h2
  go_enter Tryd.func28, Tryd.ntmps28
  go_wp2_with (first | (refine wpList_widen _ _ _ rfl rfl _ rfl (by rw [Tryd.underlying41]; rfl) Tryd.underlying52 ?_; intro r n hr; have er := hr.ab) | (go_at_call 32; refine (sameFloat _ _ _ ?_).mono ?_; (simp only [*]; first | rw [H0.out] | rw [H1.out] | rw [H2.out]); rintro e w' ⟨n, rfl, rfl⟩))
  go_ret
  exact ⟨rfl, (by repeat (first | exact Below.refl _ _ | refine Below.setCell ?_ (by first | (simp; done) | (simp; omega)) _ | refine Below.trans ?_ (Below.mono (by assumption) (by first | (simp; done) | (simp; omega))) | refine Below.alloc ?_ (by first | (simp; done) | (simp; omega)) _ | refine Below.alloc ?_ (Nat.le_refl _) _ | refine below_drewN ?_ _))⟩


















end Go.Proofs.YtopacaenlemfcaaDoor
