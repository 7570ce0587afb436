/-
  The walks of the functions on vectors, and of the laws over them.
-/
import Derived.Test.YtegonfniagpnkaaOne
import Derived.ProofKit
import Derived.Deep.RegionHeld3
import Derived.Deep.DrawnRows
import Derived.Deep.DeepCutAuto
import Derived.Lib.Hide
import Derived.Carry
namespace Go.Proofs.Ytegonfniagpnkaa
open Go.RowKit Go.FL

/-- a vector, its three floats up to which NaN they are -/
def RetVec (o p q : Option Nat) (w : World) (e : Ending) (w' : World) : Prop := ∃ x y z, Is .f32 x o ∧ Is .f32 y p ∧ Is .f32 z q ∧ e = .returned (.agg #[.float .f32 x, .float .f32 y, .float .f32 z]) ∧ Below w.heap.size w w'
/-- a float, new blocks besides -/
def RetFB (o : Option Nat) (w : World) (e : Ending) (w' : World) : Prop := ∃ x, Is .f32 x o ∧ e = .returned (.float .f32 x) ∧ Below w.heap.size w w'
/-- a vector's floats, up to which NaN they are -/
def IsVec (o p q : Option Nat) (s : Value) : Prop := ∃ r0 r1 r2 : Nat, s = .agg #[.float .f32 r0, .float .f32 r1, .float .f32 r2] ∧ Is .f32 r0 o ∧ Is .f32 r1 p ∧ Is .f32 r2 q

theorem toVector (x y z : Nat) (w : World) : Calls Try.prog 15 #[.agg #[.float .f32 x, .float .f32 y, .float .f32 z]] w fun e w' =>
    e = .returned (.agg #[.float .f32 x, .float .f32 y, .float .f32 z]) ∧ Below w.heap.size w w' := by
  go_enter Try.func15, Try.ntmps15
  go_wp2
  exact bodyPost_ret (v := .agg #[.float .f32 x, .float .f32 y, .float .f32 z]) (by simp [results, Try.results15, go_sem]) rfl ⟨rfl, (by repeat (first | exact Below.refl _ _ | refine Below.setCell ?_ (by first | (simp; done) | (simp; omega)) _ | refine Below.trans ?_ (Below.mono (by assumption) (by first | (simp; done) | (simp; omega))) | refine Below.alloc ?_ (by first | (simp; done) | (simp; omega)) _ | refine Below.alloc ?_ (Nat.le_refl _) _ | refine below_drewN ?_ _))⟩

theorem eqVector (x y z x1 y1 z1 : Nat) (w : World) (h0 : ab .f32 x = ab .f32 x1) (h1 : ab .f32 y = ab .f32 y1) (h2 : ab .f32 z = ab .f32 z1) :
    Calls Try.prog 17 #[.agg #[.float .f32 x, .float .f32 y, .float .f32 z], .agg #[.float .f32 x1, .float .f32 y1, .float .f32 z1]] w fun e w' => e = .returned (.bool true) ∧ Below w.heap.size w w' := by
  have H0 := Lib.hid h0
  have H1 := Lib.hid h1
  have H2 := Lib.hid h2
  clear h0 h1 h2
  go_enter Try.func17, Try.ntmps17
  go_wp2_with (first | (refine wpList_widen _ _ _ rfl rfl _ rfl (by rw [Try.underlying22]; rfl) Try.underlying34 ?_; intro r n hr; have er := hr.ab) | (go_at_call 22; refine (sameFloat _ _ _ ?_).mono ?_; (simp only [*]; first | rw [H0.out] | rw [H1.out] | rw [H2.out]); rintro e w' ⟨n, rfl, rfl⟩))
  go_ret
  exact ⟨rfl, (by repeat (first | exact Below.refl _ _ | refine Below.setCell ?_ (by first | (simp; done) | (simp; omega)) _ | refine Below.trans ?_ (Below.mono (by assumption) (by first | (simp; done) | (simp; omega))) | refine Below.alloc ?_ (by first | (simp; done) | (simp; omega)) _ | refine Below.alloc ?_ (Nat.le_refl _) _ | refine below_drewN ?_ _))⟩


theorem AddVectors (x y z x1 y1 z1 : Nat) (w : World) : Calls Try.prog 55 #[.agg #[.float .f32 x, .float .f32 y, .float .f32 z], .agg #[.float .f32 x1, .float .f32 y1, .float .f32 z1]] w (RetVec (oop .add .f32 (ab .f32 x) (ab .f32 x1)) (oop .add .f32 (ab .f32 y) (ab .f32 y1)) (oop .add .f32 (ab .f32 z) (ab .f32 z1)) w) := by
  go_enter Try.func55, Try.ntmps55
  go_wp2_with (refine wpList_arith _ _ _ _ _ rfl rfl _ _ _ rfl rfl rfl ?_; intro r n hr; have er := hr.ab)
  rename_i r0 n0 k0 e0 r1 n1 k1 e1
  exact bodyPost_ret (v := .agg #[.float .f32 r0, .float .f32 r1, .float .f32 r]) (by simp [results, Try.results55, go_sem]) rfl ⟨_, _, _, k0, k1, hr, rfl, (by repeat (first | exact Below.refl _ _ | refine Below.setCell ?_ (by first | (simp; done) | (simp; omega)) _ | refine Below.trans ?_ (Below.mono (by assumption) (by first | (simp; done) | (simp; omega))) | refine Below.alloc ?_ (by first | (simp; done) | (simp; omega)) _ | refine Below.alloc ?_ (Nat.le_refl _) _ | refine below_drewN ?_ _))⟩

theorem l01Add (x y z x1 y1 z1 : Nat) (w : World) : Calls Try.prog 71 #[.agg #[.float .f32 x, .float .f32 y, .float .f32 z], .agg #[.float .f32 x1, .float .f32 y1, .float .f32 z1]] w (RetVec (oop .add .f32 (ab .f32 x) (ab .f32 x1)) (oop .add .f32 (ab .f32 y) (ab .f32 y1)) (oop .add .f32 (ab .f32 z) (ab .f32 z1)) w) := by
  go_enter Try.func71, Try.ntmps71
  go_wp2_with (refine wpList_arith _ _ _ _ _ rfl rfl _ _ _ rfl rfl rfl ?_; intro r n hr; have er := hr.ab)
  rename_i r0 n0 k0 e0 r1 n1 k1 e1
  exact bodyPost_ret (v := .agg #[.float .f32 r0, .float .f32 r1, .float .f32 r]) (by simp [results, Try.results71, go_sem]) rfl ⟨_, _, _, k0, k1, hr, rfl, (by repeat (first | exact Below.refl _ _ | refine Below.setCell ?_ (by first | (simp; done) | (simp; omega)) _ | refine Below.trans ?_ (Below.mono (by assumption) (by first | (simp; done) | (simp; omega))) | refine Below.alloc ?_ (by first | (simp; done) | (simp; omega)) _ | refine Below.alloc ?_ (Nat.le_refl _) _ | refine below_drewN ?_ _))⟩



theorem LessVectors (x y z x1 y1 z1 : Nat) (w : World) : Calls Try.prog 56 #[.agg #[.float .f32 x, .float .f32 y, .float .f32 z], .agg #[.float .f32 x1, .float .f32 y1, .float .f32 z1]] w (RetVec (oop .sub .f32 (ab .f32 x) (ab .f32 x1)) (oop .sub .f32 (ab .f32 y) (ab .f32 y1)) (oop .sub .f32 (ab .f32 z) (ab .f32 z1)) w) := by
  go_enter Try.func56, Try.ntmps56
  go_wp2_with (refine wpList_arith _ _ _ _ _ rfl rfl _ _ _ rfl rfl rfl ?_; intro r n hr; have er := hr.ab)
  rename_i r0 n0 k0 e0 r1 n1 k1 e1
  exact bodyPost_ret (v := .agg #[.float .f32 r0, .float .f32 r1, .float .f32 r]) (by simp [results, Try.results56, go_sem]) rfl ⟨_, _, _, k0, k1, hr, rfl, (by repeat (first | exact Below.refl _ _ | refine Below.setCell ?_ (by first | (simp; done) | (simp; omega)) _ | refine Below.trans ?_ (Below.mono (by assumption) (by first | (simp; done) | (simp; omega))) | refine Below.alloc ?_ (by first | (simp; done) | (simp; omega)) _ | refine Below.alloc ?_ (Nat.le_refl _) _ | refine below_drewN ?_ _))⟩

theorem l01Less (x y z x1 y1 z1 : Nat) (w : World) : Calls Try.prog 72 #[.agg #[.float .f32 x, .float .f32 y, .float .f32 z], .agg #[.float .f32 x1, .float .f32 y1, .float .f32 z1]] w (RetVec (oop .sub .f32 (ab .f32 x) (ab .f32 x1)) (oop .sub .f32 (ab .f32 y) (ab .f32 y1)) (oop .sub .f32 (ab .f32 z) (ab .f32 z1)) w) := by
  go_enter Try.func72, Try.ntmps72
  go_wp2_with (refine wpList_arith _ _ _ _ _ rfl rfl _ _ _ rfl rfl rfl ?_; intro r n hr; have er := hr.ab)
  rename_i r0 n0 k0 e0 r1 n1 k1 e1
  exact bodyPost_ret (v := .agg #[.float .f32 r0, .float .f32 r1, .float .f32 r]) (by simp [results, Try.results72, go_sem]) rfl ⟨_, _, _, k0, k1, hr, rfl, (by repeat (first | exact Below.refl _ _ | refine Below.setCell ?_ (by first | (simp; done) | (simp; omega)) _ | refine Below.trans ?_ (Below.mono (by assumption) (by first | (simp; done) | (simp; omega))) | refine Below.alloc ?_ (by first | (simp; done) | (simp; omega)) _ | refine Below.alloc ?_ (Nat.le_refl _) _ | refine below_drewN ?_ _))⟩



theorem ScaleVector (x y z by_ : Nat) (w : World) : Calls Try.prog 16 #[.agg #[.float .f32 x, .float .f32 y, .float .f32 z], .float .f32 by_] w (RetVec (oop .mul .f32 (ab .f32 x) (ab .f32 by_)) (oop .mul .f32 (ab .f32 y) (ab .f32 by_)) (oop .mul .f32 (ab .f32 z) (ab .f32 by_)) w) := by
  go_enter Try.func16, Try.ntmps16
  go_wp2_with (refine wpList_arith _ _ _ _ _ rfl rfl _ _ _ rfl rfl rfl ?_; intro r n hr; have er := hr.ab)
  rename_i r0 n0 k0 e0 r1 n1 k1 e1
  exact bodyPost_ret (v := .agg #[.float .f32 r0, .float .f32 r1, .float .f32 r]) (by simp [results, Try.results16, go_sem]) rfl ⟨_, _, _, k0, k1, hr, rfl, (by repeat (first | exact Below.refl _ _ | refine Below.setCell ?_ (by first | (simp; done) | (simp; omega)) _ | refine Below.trans ?_ (Below.mono (by assumption) (by first | (simp; done) | (simp; omega))) | refine Below.alloc ?_ (by first | (simp; done) | (simp; omega)) _ | refine Below.alloc ?_ (Nat.le_refl _) _ | refine below_drewN ?_ _))⟩

theorem l01Scale (x y z by_ : Nat) (w : World) : Calls Try.prog 41 #[.agg #[.float .f32 x, .float .f32 y, .float .f32 z], .float .f32 by_] w (RetVec (oop .mul .f32 (ab .f32 x) (ab .f32 by_)) (oop .mul .f32 (ab .f32 y) (ab .f32 by_)) (oop .mul .f32 (ab .f32 z) (ab .f32 by_)) w) := by
  go_enter Try.func41, Try.ntmps41
  go_wp2_with (refine wpList_arith _ _ _ _ _ rfl rfl _ _ _ rfl rfl rfl ?_; intro r n hr; have er := hr.ab)
  rename_i r0 n0 k0 e0 r1 n1 k1 e1
  exact bodyPost_ret (v := .agg #[.float .f32 r0, .float .f32 r1, .float .f32 r]) (by simp [results, Try.results41, go_sem]) rfl ⟨_, _, _, k0, k1, hr, rfl, (by repeat (first | exact Below.refl _ _ | refine Below.setCell ?_ (by first | (simp; done) | (simp; omega)) _ | refine Below.trans ?_ (Below.mono (by assumption) (by first | (simp; done) | (simp; omega))) | refine Below.alloc ?_ (by first | (simp; done) | (simp; omega)) _ | refine Below.alloc ?_ (Nat.le_refl _) _ | refine below_drewN ?_ _))⟩

theorem spec_ScaleVector (x y z by_ : Nat) (w : World) : Calls Try.prog 14 #[.agg #[.float .f32 x, .float .f32 y, .float .f32 z], .float .f32 by_] w (RetVec (oop .mul .f32 (ab .f32 x) (ab .f32 by_)) (oop .mul .f32 (ab .f32 y) (ab .f32 by_)) (oop .mul .f32 (ab .f32 z) (ab .f32 by_)) w) := by
  go_enter Try.func14, Try.ntmps14
  go_wp2_with fail
  refine (l01Scale _ _ _ _ _).mono ?_
  rintro e w1 ⟨r0, r1, r2, k0, k1, k2, rfl, hb⟩
  obtain ⟨hc, hf⟩ := bcell hb
  go_wp2_with fail
  exact bodyPost_ret (v := .agg #[.float .f32 r0, .float .f32 r1, .float .f32 r2]) (by simp [results, Try.results14, go_sem, hc]) rfl ⟨_, _, _, k0, k1, k2, rfl, (by repeat (first | exact Below.refl _ _ | refine Below.setCell ?_ (by first | (simp; done) | (simp; omega)) _ | refine Below.trans ?_ (Below.mono (by assumption) (by first | (simp; done) | (simp; omega))) | refine Below.alloc ?_ (by first | (simp; done) | (simp; omega)) _ | refine Below.alloc ?_ (Nat.le_refl _) _ | refine below_drewN ?_ _))⟩






end Go.Proofs.Ytegonfniagpnkaa
