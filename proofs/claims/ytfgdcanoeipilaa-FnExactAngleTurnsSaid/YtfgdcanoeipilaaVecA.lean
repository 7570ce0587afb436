/-
  The walks of the functions on vectors, and of the laws over them.
-/
import Derived.Test.YtfgdcanoeipilaaOne
import Derived.ProofKit
import Derived.Deep.RegionHeld3
import Derived.Deep.DrawnRows
import Derived.Deep.DeepCutAuto
import Derived.Lib.Hide
import Derived.Carry
namespace Go.Proofs.Ytfgdcanoeipilaa
open Go.RowKit Go.FL

/-- a vector, its three floats up to which NaN they are -/
def RetVec (o p q : Option Nat) (w : World) (e : Ending) (w' : World) : Prop := ∃ x y z, Is .f32 x o ∧ Is .f32 y p ∧ Is .f32 z q ∧ e = .returned (.agg #[.float .f32 x, .float .f32 y, .float .f32 z]) ∧ Below w.heap.size w w'
/-- a float, new blocks besides -/
def RetFB (o : Option Nat) (w : World) (e : Ending) (w' : World) : Prop := ∃ x, Is .f32 x o ∧ e = .returned (.float .f32 x) ∧ Below w.heap.size w w'
/-- a vector's floats, up to which NaN they are -/
def IsVec (o p q : Option Nat) (s : Value) : Prop := ∃ r0 r1 r2 : Nat, s = .agg #[.float .f32 r0, .float .f32 r1, .float .f32 r2] ∧ Is .f32 r0 o ∧ Is .f32 r1 p ∧ Is .f32 r2 q

theorem toVector (x y z : Nat) (w : World) : Calls Try.prog 12 #[.agg #[.float .f32 x, .float .f32 y, .float .f32 z]] w fun e w' =>
    e = .returned (.agg #[.float .f32 x, .float .f32 y, .float .f32 z]) ∧ Below w.heap.size w w' := by
  go_enter Try.func12, Try.ntmps12
  go_wp2
  exact bodyPost_ret (v := .agg #[.float .f32 x, .float .f32 y, .float .f32 z]) (by simp [results, Try.results12, go_sem]) rfl ⟨rfl, (by repeat (first | exact Below.refl _ _ | refine Below.setCell ?_ (by first | (simp; done) | (simp; omega)) _ | refine Below.trans ?_ (Below.mono (by assumption) (by first | (simp; done) | (simp; omega))) | refine Below.alloc ?_ (by first | (simp; done) | (simp; omega)) _ | refine Below.alloc ?_ (Nat.le_refl _) _ | refine below_drewN ?_ _))⟩

















theorem InnerOf (x y z x1 y1 z1 : Nat) (w : World) : Calls Try.prog 23 #[.agg #[.float .f32 x, .float .f32 y, .float .f32 z], .agg #[.float .f32 x1, .float .f32 y1, .float .f32 z1]] w (RetFB (oop .add .f32 (oop .add .f32 (oop .mul .f32 (ab .f32 x) (ab .f32 x1)) (oop .mul .f32 (ab .f32 y) (ab .f32 y1))) (oop .mul .f32 (ab .f32 z) (ab .f32 z1))) w) := by
  go_enter Try.func23, Try.ntmps23
  go_wp2_with (refine wpList_arith _ _ _ _ _ rfl rfl _ _ _ rfl rfl rfl ?_; intro r n hr; have er := hr.ab)
  go_ret
  exact ⟨_, ⟨er.trans (by simp only [*]), hr.lt⟩, rfl, (by repeat (first | exact Below.refl _ _ | refine Below.setCell ?_ (by first | (simp; done) | (simp; omega)) _ | refine Below.trans ?_ (Below.mono (by assumption) (by first | (simp; done) | (simp; omega))) | refine Below.alloc ?_ (by first | (simp; done) | (simp; omega)) _ | refine Below.alloc ?_ (Nat.le_refl _) _ | refine below_drewN ?_ _))⟩

theorem l01Inner (x y z x1 y1 z1 : Nat) (w : World) : Calls Try.prog 35 #[.agg #[.float .f32 x, .float .f32 y, .float .f32 z], .agg #[.float .f32 x1, .float .f32 y1, .float .f32 z1]] w (RetFB (oop .add .f32 (oop .add .f32 (oop .mul .f32 (ab .f32 x) (ab .f32 x1)) (oop .mul .f32 (ab .f32 y) (ab .f32 y1))) (oop .mul .f32 (ab .f32 z) (ab .f32 z1))) w) := by
  go_enter Try.func35, Try.ntmps35
  go_wp2_with (refine wpList_arith _ _ _ _ _ rfl rfl _ _ _ rfl rfl rfl ?_; intro r n hr; have er := hr.ab)
  go_ret
  exact ⟨_, ⟨er.trans (by simp only [*]), hr.lt⟩, rfl, (by repeat (first | exact Below.refl _ _ | refine Below.setCell ?_ (by first | (simp; done) | (simp; omega)) _ | refine Below.trans ?_ (Below.mono (by assumption) (by first | (simp; done) | (simp; omega))) | refine Below.alloc ?_ (by first | (simp; done) | (simp; omega)) _ | refine Below.alloc ?_ (Nat.le_refl _) _ | refine below_drewN ?_ _))⟩

end Go.Proofs.Ytfgdcanoeipilaa
