/-
  The walks of the functions on vectors, and of the laws over them.
-/
import Derived.Test.YtopacaenlemfcaaOne
import Derived.ProofKit
import Derived.Deep.RegionHeld3
import Derived.Deep.DrawnRows
import Derived.Deep.DeepCutAuto
import Derived.Lib.Hide
import Derived.Carry
namespace Go.Proofs.Ytopacaenlemfcaa
open Go.RowKit Go.FL

/-- a vector, its three floats up to which NaN they are -/
def RetVec (o p q : Option Nat) (w : World) (e : Ending) (w' : World) : Prop := ∃ x y z, Is .f32 x o ∧ Is .f32 y p ∧ Is .f32 z q ∧ e = .returned (.agg #[.float .f32 x, .float .f32 y, .float .f32 z]) ∧ Below w.heap.size w w'
/-- a float, new blocks besides -/
def RetFB (o : Option Nat) (w : World) (e : Ending) (w' : World) : Prop := ∃ x, Is .f32 x o ∧ e = .returned (.float .f32 x) ∧ Below w.heap.size w w'
/-- a vector's floats, up to which NaN they are -/
def IsVec (o p q : Option Nat) (s : Value) : Prop := ∃ r0 r1 r2 : Nat, s = .agg #[.float .f32 r0, .float .f32 r1, .float .f32 r2] ∧ Is .f32 r0 o ∧ Is .f32 r1 p ∧ Is .f32 r2 q

theorem toVector (x y z : Nat) (w : World) : Calls Try.prog 10 #[.agg #[.float .f32 x, .float .f32 y, .float .f32 z]] w fun e w' =>
    e = .returned (.agg #[.float .f32 x, .float .f32 y, .float .f32 z]) ∧ Below w.heap.size w w' := by
  go_enter Try.func10, Try.ntmps10
  go_wp2
  exact bodyPost_ret (v := .agg #[.float .f32 x, .float .f32 y, .float .f32 z]) (by simp [results, Try.results10, go_sem]) rfl ⟨rfl, (by repeat (first | exact Below.refl _ _ | refine Below.setCell ?_ (by first | (simp; done) | (simp; omega)) _ | refine Below.trans ?_ (Below.mono (by assumption) (by first | (simp; done) | (simp; omega))) | refine Below.alloc ?_ (by first | (simp; done) | (simp; omega)) _ | refine Below.alloc ?_ (Nat.le_refl _) _ | refine below_drewN ?_ _))⟩



















end Go.Proofs.Ytopacaenlemfcaa
