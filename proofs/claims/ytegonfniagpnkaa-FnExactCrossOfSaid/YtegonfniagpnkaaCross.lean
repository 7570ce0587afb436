/-
  The walks of the functions that give the vector across two others.
-/
import Derived.Test.YtegonfniagpnkaaVecA
import Derived.ProofKit
import Derived.Deep.RegionHeld3
import Derived.Deep.DrawnRows
import Derived.Deep.DeepCutAuto
import Derived.Lib.Hide
import Derived.Carry
namespace Go.Proofs.Ytegonfniagpnkaa
open Go.RowKit Go.FL

theorem crossed (a b c d : Nat) (w : World) : Calls Try.prog 43 #[.float .f32 a, .float .f32 b, .float .f32 c, .float .f32 d] w (RetF .f32 (oop .sub .f32 (oop .mul .f32 (ab .f32 a) (ab .f32 b)) (oop .mul .f32 (ab .f32 c) (ab .f32 d))) w) := by
  go_enter Try.func43, Try.ntmps43
  go_wp2_with (refine wpList_arith _ _ _ _ _ rfl rfl _ _ _ rfl rfl rfl ?_; intro r n hr; have er := hr.ab)
  go_ret
  exact RetF.mk _ ⟨er.trans (by simp only [*]), hr.lt⟩

set_option maxHeartbeats 800000 in
theorem CrossOf (x y z x1 y1 z1 : Nat) (w : World) : Calls Try.prog 19 #[.agg #[.float .f32 x, .float .f32 y, .float .f32 z], .agg #[.float .f32 x1, .float .f32 y1, .float .f32 z1]] w (RetVec (oop .sub .f32 (oop .mul .f32 (ab .f32 y) (ab .f32 z1)) (oop .mul .f32 (ab .f32 z) (ab .f32 y1))) (oop .sub .f32 (oop .mul .f32 (ab .f32 z) (ab .f32 x1)) (oop .mul .f32 (ab .f32 x) (ab .f32 z1))) (oop .sub .f32 (oop .mul .f32 (ab .f32 x) (ab .f32 y1)) (oop .mul .f32 (ab .f32 y) (ab .f32 x1))) w) := by
  go_enter Try.func19, Try.ntmps19
  go_wp2_with fail
  go_region_held3 (fun w' => (w'.cell? ⟨w.heap.size, 0, none⟩ = some (.float .f32 x) ∧ w'.cell? ⟨w.heap.size, 1, none⟩ = some (.float .f32 y) ∧ w'.cell? ⟨w.heap.size, 2, none⟩ = some (.float .f32 z)) ∧
        (w'.cell? ⟨w.heap.size + 1, 0, none⟩ = some (.float .f32 x1) ∧ w'.cell? ⟨w.heap.size + 1, 1, none⟩ = some (.float .f32 y1) ∧ w'.cell? ⟨w.heap.size + 1, 2, none⟩ = some (.float .f32 z1))) (go_keep)
    (first | (go_at_call 43; refine (crossed _ _ _ _ _).mono ?_; rintro e w' ⟨r, n, k, rfl, rfl⟩))
  go_wp2_with fail
  refine bodyPost_ret (v := .agg #[.float .f32 _, .float .f32 _, .float .f32 _]) ?_ rfl ⟨_, _, _, (by assumption : Is .f32 _ (oop .sub .f32 (oop .mul .f32 (ab .f32 y) (ab .f32 z1)) (oop .mul .f32 (ab .f32 z) (ab .f32 y1)))), (by assumption : Is .f32 _ (oop .sub .f32 (oop .mul .f32 (ab .f32 z) (ab .f32 x1)) (oop .mul .f32 (ab .f32 x) (ab .f32 z1)))), (by assumption : Is .f32 _ (oop .sub .f32 (oop .mul .f32 (ab .f32 x) (ab .f32 y1)) (oop .mul .f32 (ab .f32 y) (ab .f32 x1)))), rfl, (by repeat (first | exact Below.refl _ _ | refine Below.setCell ?_ (by first | (simp; done) | (simp; omega)) _ | refine Below.trans ?_ (Below.mono (by assumption) (by first | (simp; done) | (simp; omega))) | refine Below.alloc ?_ (by first | (simp; done) | (simp; omega)) _ | refine Below.alloc ?_ (Nat.le_refl _) _ | refine below_drewN ?_ _))⟩
  simp [results, Try.results19, go_sem]

theorem l01Cross (x y z x1 y1 z1 : Nat) (w : World) : Calls Try.prog 42 #[.agg #[.float .f32 x, .float .f32 y, .float .f32 z], .agg #[.float .f32 x1, .float .f32 y1, .float .f32 z1]] w (RetVec (oop .sub .f32 (oop .mul .f32 (ab .f32 y) (ab .f32 z1)) (oop .mul .f32 (ab .f32 z) (ab .f32 y1))) (oop .sub .f32 (oop .mul .f32 (ab .f32 z) (ab .f32 x1)) (oop .mul .f32 (ab .f32 x) (ab .f32 z1))) (oop .sub .f32 (oop .mul .f32 (ab .f32 x) (ab .f32 y1)) (oop .mul .f32 (ab .f32 y) (ab .f32 x1))) w) := by
  go_enter Try.func42, Try.ntmps42
  go_wp2_with (refine wpList_arith _ _ _ _ _ rfl rfl _ _ _ rfl rfl rfl ?_; intro r n hr; have er := hr.ab)
  rename_i a0 b0 c0 d0 a1 b1 c1 d1 a2 b2 c2 d2 a3 b3 c3 d3 a4 b4 c4 d4 a5 b5 c5 d5 a6 b6 c6 d6 a7 b7 c7 d7
  exact bodyPost_ret (v := .agg #[.float .f32 a2, .float .f32 a5, .float .f32 r]) (by simp [results, Try.results42, go_sem]) rfl ⟨_, _, _, ⟨d2.trans (by simp only [*]), c2.lt⟩, ⟨d5.trans (by simp only [*]), c5.lt⟩, ⟨er.trans (by simp only [*]), hr.lt⟩, rfl, (by repeat (first | exact Below.refl _ _ | refine Below.setCell ?_ (by first | (simp; done) | (simp; omega)) _ | refine Below.trans ?_ (Below.mono (by assumption) (by first | (simp; done) | (simp; omega))) | refine Below.alloc ?_ (by first | (simp; done) | (simp; omega)) _ | refine Below.alloc ?_ (Nat.le_refl _) _ | refine below_drewN ?_ _))⟩

theorem spec_CrossOf (x y z x1 y1 z1 : Nat) (w : World) : Calls Try.prog 18 #[.agg #[.float .f32 x, .float .f32 y, .float .f32 z], .agg #[.float .f32 x1, .float .f32 y1, .float .f32 z1]] w (RetVec (oop .sub .f32 (oop .mul .f32 (ab .f32 y) (ab .f32 z1)) (oop .mul .f32 (ab .f32 z) (ab .f32 y1))) (oop .sub .f32 (oop .mul .f32 (ab .f32 z) (ab .f32 x1)) (oop .mul .f32 (ab .f32 x) (ab .f32 z1))) (oop .sub .f32 (oop .mul .f32 (ab .f32 x) (ab .f32 y1)) (oop .mul .f32 (ab .f32 y) (ab .f32 x1))) w) := by
  go_enter Try.func18, Try.ntmps18
  go_wp2_with fail
  refine (l01Cross _ _ _ _ _ _ _).mono ?_
  rintro e w1 ⟨r0, r1, r2, k0, k1, k2, rfl, hb⟩
  obtain ⟨hc, hf⟩ := bcell hb
  go_wp2_with fail
  exact bodyPost_ret (v := .agg #[.float .f32 r0, .float .f32 r1, .float .f32 r2]) (by simp [results, Try.results18, go_sem, hc]) rfl ⟨_, _, _, k0, k1, k2, rfl, (by repeat (first | exact Below.refl _ _ | refine Below.setCell ?_ (by first | (simp; done) | (simp; omega)) _ | refine Below.trans ?_ (Below.mono (by assumption) (by first | (simp; done) | (simp; omega))) | refine Below.alloc ?_ (by first | (simp; done) | (simp; omega)) _ | refine Below.alloc ?_ (Nat.le_refl _) _ | refine below_drewN ?_ _))⟩
end Go.Proofs.Ytegonfniagpnkaa
