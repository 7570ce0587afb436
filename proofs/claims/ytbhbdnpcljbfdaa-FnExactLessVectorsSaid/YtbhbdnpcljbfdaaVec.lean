/-
  The walks of the functions on vectors, and of the laws over them.
-/
import Derived.Test.YtbhbdnpcljbfdaaOne
import Derived.ProofKit
import Derived.Deep.RegionHeld3
import Derived.Deep.DrawnRows
import Derived.Deep.DeepCutAuto
import Derived.Lib.Hide
import Derived.Carry
namespace Go.Proofs.Ytbhbdnpcljbfdaa
open Go.RowKit Go.FL

/-- a vector, its three floats up to which NaN they are -/
def RetVec (o p q : Option Nat) (w : World) (e : Ending) (w' : World) : Prop := ∃ x y z, Is .f32 x o ∧ Is .f32 y p ∧ Is .f32 z q ∧ e = .returned (.agg #[.float .f32 x, .float .f32 y, .float .f32 z]) ∧ Below w.heap.size w w'
/-- a float, new blocks besides -/
def RetFB (o : Option Nat) (w : World) (e : Ending) (w' : World) : Prop := ∃ x, Is .f32 x o ∧ e = .returned (.float .f32 x) ∧ Below w.heap.size w w'
/-- a vector's floats, up to which NaN they are -/
def IsVec (o p q : Option Nat) (s : Value) : Prop := ∃ r0 r1 r2 : Nat, s = .agg #[.float .f32 r0, .float .f32 r1, .float .f32 r2] ∧ Is .f32 r0 o ∧ Is .f32 r1 p ∧ Is .f32 r2 q

theorem toVector (x y z : Nat) (w : World) : Calls Try.prog 31 #[.agg #[.float .f32 x, .float .f32 y, .float .f32 z]] w fun e w' =>
    e = .returned (.agg #[.float .f32 x, .float .f32 y, .float .f32 z]) ∧ Below w.heap.size w w' := by
  go_enter Try.func31, Try.ntmps31
  go_wp2
  exact bodyPost_ret (v := .agg #[.float .f32 x, .float .f32 y, .float .f32 z]) (by simp [results, Try.results31, go_sem]) rfl ⟨rfl, (by repeat (first | exact Below.refl _ _ | refine Below.setCell ?_ (by first | (simp; done) | (simp; omega)) _ | refine Below.trans ?_ (Below.mono (by assumption) (by first | (simp; done) | (simp; omega))) | refine Below.alloc ?_ (by first | (simp; done) | (simp; omega)) _ | refine Below.alloc ?_ (Nat.le_refl _) _ | refine below_drewN ?_ _))⟩

theorem eqVector (x y z x1 y1 z1 : Nat) (w : World) (h0 : ab .f32 x = ab .f32 x1) (h1 : ab .f32 y = ab .f32 y1) (h2 : ab .f32 z = ab .f32 z1) :
    Calls Try.prog 37 #[.agg #[.float .f32 x, .float .f32 y, .float .f32 z], .agg #[.float .f32 x1, .float .f32 y1, .float .f32 z1]] w fun e w' => e = .returned (.bool true) ∧ Below w.heap.size w w' := by
  have H0 := Lib.hid h0
  have H1 := Lib.hid h1
  have H2 := Lib.hid h2
  clear h0 h1 h2
  go_enter Try.func37, Try.ntmps37
  go_wp2_with (first | (refine wpList_widen _ _ _ rfl rfl _ rfl (by rw [Try.underlying23]; rfl) Try.underlying25 ?_; intro r n hr; have er := hr.ab) | (go_at_call 19; refine (sameFloat _ _ _ ?_).mono ?_; (simp only [*]; first | rw [H0.out] | rw [H1.out] | rw [H2.out]); rintro e w' ⟨n, rfl, rfl⟩))
  go_ret
  exact ⟨rfl, (by repeat (first | exact Below.refl _ _ | refine Below.setCell ?_ (by first | (simp; done) | (simp; omega)) _ | refine Below.trans ?_ (Below.mono (by assumption) (by first | (simp; done) | (simp; omega))) | refine Below.alloc ?_ (by first | (simp; done) | (simp; omega)) _ | refine Below.alloc ?_ (Nat.le_refl _) _ | refine below_drewN ?_ _))⟩


theorem AddVectors (x y z x1 y1 z1 : Nat) (w : World) : Calls Try.prog 36 #[.agg #[.float .f32 x, .float .f32 y, .float .f32 z], .agg #[.float .f32 x1, .float .f32 y1, .float .f32 z1]] w (RetVec (oop .add .f32 (ab .f32 x) (ab .f32 x1)) (oop .add .f32 (ab .f32 y) (ab .f32 y1)) (oop .add .f32 (ab .f32 z) (ab .f32 z1)) w) := by
  go_enter Try.func36, Try.ntmps36
  go_wp2_with (refine wpList_arith _ _ _ _ _ rfl rfl _ _ _ rfl rfl rfl ?_; intro r n hr; have er := hr.ab)
  rename_i r0 n0 k0 e0 r1 n1 k1 e1
  exact bodyPost_ret (v := .agg #[.float .f32 r0, .float .f32 r1, .float .f32 r]) (by simp [results, Try.results36, go_sem]) rfl ⟨_, _, _, k0, k1, hr, rfl, (by repeat (first | exact Below.refl _ _ | refine Below.setCell ?_ (by first | (simp; done) | (simp; omega)) _ | refine Below.trans ?_ (Below.mono (by assumption) (by first | (simp; done) | (simp; omega))) | refine Below.alloc ?_ (by first | (simp; done) | (simp; omega)) _ | refine Below.alloc ?_ (Nat.le_refl _) _ | refine below_drewN ?_ _))⟩

theorem l01Add (x y z x1 y1 z1 : Nat) (w : World) : Calls Try.prog 53 #[.agg #[.float .f32 x, .float .f32 y, .float .f32 z], .agg #[.float .f32 x1, .float .f32 y1, .float .f32 z1]] w (RetVec (oop .add .f32 (ab .f32 x) (ab .f32 x1)) (oop .add .f32 (ab .f32 y) (ab .f32 y1)) (oop .add .f32 (ab .f32 z) (ab .f32 z1)) w) := by
  go_enter Try.func53, Try.ntmps53
  go_wp2_with (refine wpList_arith _ _ _ _ _ rfl rfl _ _ _ rfl rfl rfl ?_; intro r n hr; have er := hr.ab)
  rename_i r0 n0 k0 e0 r1 n1 k1 e1
  exact bodyPost_ret (v := .agg #[.float .f32 r0, .float .f32 r1, .float .f32 r]) (by simp [results, Try.results53, go_sem]) rfl ⟨_, _, _, k0, k1, hr, rfl, (by repeat (first | exact Below.refl _ _ | refine Below.setCell ?_ (by first | (simp; done) | (simp; omega)) _ | refine Below.trans ?_ (Below.mono (by assumption) (by first | (simp; done) | (simp; omega))) | refine Below.alloc ?_ (by first | (simp; done) | (simp; omega)) _ | refine Below.alloc ?_ (Nat.le_refl _) _ | refine below_drewN ?_ _))⟩

theorem spec_AddVectors (x y z x1 y1 z1 : Nat) (w : World) : Calls Try.prog 35 #[.agg #[.float .f32 x, .float .f32 y, .float .f32 z], .agg #[.float .f32 x1, .float .f32 y1, .float .f32 z1]] w (RetVec (oop .add .f32 (ab .f32 x) (ab .f32 x1)) (oop .add .f32 (ab .f32 y) (ab .f32 y1)) (oop .add .f32 (ab .f32 z) (ab .f32 z1)) w) := by
  go_enter Try.func35, Try.ntmps35
  go_wp2_with fail
  refine (l01Add _ _ _ _ _ _ _).mono ?_
  rintro e w1 ⟨r0, r1, r2, k0, k1, k2, rfl, hb⟩
  obtain ⟨hc, hf⟩ := bcell hb
  go_wp2_with fail
  exact bodyPost_ret (v := .agg #[.float .f32 r0, .float .f32 r1, .float .f32 r2]) (by simp [results, Try.results35, go_sem, hc]) rfl ⟨_, _, _, k0, k1, k2, rfl, (by repeat (first | exact Below.refl _ _ | refine Below.setCell ?_ (by first | (simp; done) | (simp; omega)) _ | refine Below.trans ?_ (Below.mono (by assumption) (by first | (simp; done) | (simp; omega))) | refine Below.alloc ?_ (by first | (simp; done) | (simp; omega)) _ | refine Below.alloc ?_ (Nat.le_refl _) _ | refine below_drewN ?_ _))⟩


theorem LessVectors (x y z x1 y1 z1 : Nat) (w : World) : Calls Try.prog 39 #[.agg #[.float .f32 x, .float .f32 y, .float .f32 z], .agg #[.float .f32 x1, .float .f32 y1, .float .f32 z1]] w (RetVec (oop .sub .f32 (ab .f32 x) (ab .f32 x1)) (oop .sub .f32 (ab .f32 y) (ab .f32 y1)) (oop .sub .f32 (ab .f32 z) (ab .f32 z1)) w) := by
  go_enter Try.func39, Try.ntmps39
  go_wp2_with (refine wpList_arith _ _ _ _ _ rfl rfl _ _ _ rfl rfl rfl ?_; intro r n hr; have er := hr.ab)
  rename_i r0 n0 k0 e0 r1 n1 k1 e1
  exact bodyPost_ret (v := .agg #[.float .f32 r0, .float .f32 r1, .float .f32 r]) (by simp [results, Try.results39, go_sem]) rfl ⟨_, _, _, k0, k1, hr, rfl, (by repeat (first | exact Below.refl _ _ | refine Below.setCell ?_ (by first | (simp; done) | (simp; omega)) _ | refine Below.trans ?_ (Below.mono (by assumption) (by first | (simp; done) | (simp; omega))) | refine Below.alloc ?_ (by first | (simp; done) | (simp; omega)) _ | refine Below.alloc ?_ (Nat.le_refl _) _ | refine below_drewN ?_ _))⟩

theorem l01Less (x y z x1 y1 z1 : Nat) (w : World) : Calls Try.prog 54 #[.agg #[.float .f32 x, .float .f32 y, .float .f32 z], .agg #[.float .f32 x1, .float .f32 y1, .float .f32 z1]] w (RetVec (oop .sub .f32 (ab .f32 x) (ab .f32 x1)) (oop .sub .f32 (ab .f32 y) (ab .f32 y1)) (oop .sub .f32 (ab .f32 z) (ab .f32 z1)) w) := by
  go_enter Try.func54, Try.ntmps54
  go_wp2_with (refine wpList_arith _ _ _ _ _ rfl rfl _ _ _ rfl rfl rfl ?_; intro r n hr; have er := hr.ab)
  rename_i r0 n0 k0 e0 r1 n1 k1 e1
  exact bodyPost_ret (v := .agg #[.float .f32 r0, .float .f32 r1, .float .f32 r]) (by simp [results, Try.results54, go_sem]) rfl ⟨_, _, _, k0, k1, hr, rfl, (by repeat (first | exact Below.refl _ _ | refine Below.setCell ?_ (by first | (simp; done) | (simp; omega)) _ | refine Below.trans ?_ (Below.mono (by assumption) (by first | (simp; done) | (simp; omega))) | refine Below.alloc ?_ (by first | (simp; done) | (simp; omega)) _ | refine Below.alloc ?_ (Nat.le_refl _) _ | refine below_drewN ?_ _))⟩

theorem spec_LessVectors (x y z x1 y1 z1 : Nat) (w : World) : Calls Try.prog 38 #[.agg #[.float .f32 x, .float .f32 y, .float .f32 z], .agg #[.float .f32 x1, .float .f32 y1, .float .f32 z1]] w (RetVec (oop .sub .f32 (ab .f32 x) (ab .f32 x1)) (oop .sub .f32 (ab .f32 y) (ab .f32 y1)) (oop .sub .f32 (ab .f32 z) (ab .f32 z1)) w) := by
  go_enter Try.func38, Try.ntmps38
  go_wp2_with fail
  refine (l01Less _ _ _ _ _ _ _).mono ?_
  rintro e w1 ⟨r0, r1, r2, k0, k1, k2, rfl, hb⟩
  obtain ⟨hc, hf⟩ := bcell hb
  go_wp2_with fail
  exact bodyPost_ret (v := .agg #[.float .f32 r0, .float .f32 r1, .float .f32 r2]) (by simp [results, Try.results38, go_sem, hc]) rfl ⟨_, _, _, k0, k1, k2, rfl, (by repeat (first | exact Below.refl _ _ | refine Below.setCell ?_ (by first | (simp; done) | (simp; omega)) _ | refine Below.trans ?_ (Below.mono (by assumption) (by first | (simp; done) | (simp; omega))) | refine Below.alloc ?_ (by first | (simp; done) | (simp; omega)) _ | refine Below.alloc ?_ (Nat.le_refl _) _ | refine below_drewN ?_ _))⟩






theorem InnerOf (x y z x1 y1 z1 : Nat) (w : World) : Calls Try.prog 32 #[.agg #[.float .f32 x, .float .f32 y, .float .f32 z], .agg #[.float .f32 x1, .float .f32 y1, .float .f32 z1]] w (RetFB (oop .add .f32 (oop .add .f32 (oop .mul .f32 (ab .f32 x) (ab .f32 x1)) (oop .mul .f32 (ab .f32 y) (ab .f32 y1))) (oop .mul .f32 (ab .f32 z) (ab .f32 z1))) w) := by
  go_enter Try.func32, Try.ntmps32
  go_wp2_with (refine wpList_arith _ _ _ _ _ rfl rfl _ _ _ rfl rfl rfl ?_; intro r n hr; have er := hr.ab)
  go_ret
  exact ⟨_, ⟨er.trans (by simp only [*]), hr.lt⟩, rfl, (by repeat (first | exact Below.refl _ _ | refine Below.setCell ?_ (by first | (simp; done) | (simp; omega)) _ | refine Below.trans ?_ (Below.mono (by assumption) (by first | (simp; done) | (simp; omega))) | refine Below.alloc ?_ (by first | (simp; done) | (simp; omega)) _ | refine Below.alloc ?_ (Nat.le_refl _) _ | refine below_drewN ?_ _))⟩

theorem l01Inner (x y z x1 y1 z1 : Nat) (w : World) : Calls Try.prog 50 #[.agg #[.float .f32 x, .float .f32 y, .float .f32 z], .agg #[.float .f32 x1, .float .f32 y1, .float .f32 z1]] w (RetFB (oop .add .f32 (oop .add .f32 (oop .mul .f32 (ab .f32 x) (ab .f32 x1)) (oop .mul .f32 (ab .f32 y) (ab .f32 y1))) (oop .mul .f32 (ab .f32 z) (ab .f32 z1))) w) := by
  go_enter Try.func50, Try.ntmps50
  go_wp2_with (refine wpList_arith _ _ _ _ _ rfl rfl _ _ _ rfl rfl rfl ?_; intro r n hr; have er := hr.ab)
  go_ret
  exact ⟨_, ⟨er.trans (by simp only [*]), hr.lt⟩, rfl, (by repeat (first | exact Below.refl _ _ | refine Below.setCell ?_ (by first | (simp; done) | (simp; omega)) _ | refine Below.trans ?_ (Below.mono (by assumption) (by first | (simp; done) | (simp; omega))) | refine Below.alloc ?_ (by first | (simp; done) | (simp; omega)) _ | refine Below.alloc ?_ (Nat.le_refl _) _ | refine below_drewN ?_ _))⟩

theorem spec_InnerOf (x y z x1 y1 z1 : Nat) (w : World) : Calls Try.prog 30 #[.agg #[.float .f32 x, .float .f32 y, .float .f32 z], .agg #[.float .f32 x1, .float .f32 y1, .float .f32 z1]] w (RetFB (oop .add .f32 (oop .add .f32 (oop .mul .f32 (ab .f32 x) (ab .f32 x1)) (oop .mul .f32 (ab .f32 y) (ab .f32 y1))) (oop .mul .f32 (ab .f32 z) (ab .f32 z1))) w) := by
  go_enter Try.func30, Try.ntmps30
  go_wp2_with fail
  refine (l01Inner _ _ _ _ _ _ _).mono ?_
  rintro e w1 ⟨r0, k0, rfl, hb⟩
  go_wp2_with fail
  go_ret
  exact ⟨_, k0, rfl, (by repeat (first | exact Below.refl _ _ | refine Below.setCell ?_ (by first | (simp; done) | (simp; omega)) _ | refine Below.trans ?_ (Below.mono (by assumption) (by first | (simp; done) | (simp; omega))) | refine Below.alloc ?_ (by first | (simp; done) | (simp; omega)) _ | refine Below.alloc ?_ (Nat.le_refl _) _ | refine below_drewN ?_ _))⟩
attribute [local irreducible] Oper.wp


/-- the law's own variables -/
abbrev FnExactAddVectors_boxes (w : World) (x y z : Nat) (x1 y1 z1 : Nat) : List (Nat × Nat × Value) := [((w.heap.size), 0, Value.float .f32 x), ((w.heap.size), 1, Value.float .f32 y), ((w.heap.size), 2, Value.float .f32 z), ((w.heap.size + 1), 0, Value.float .f32 x1), ((w.heap.size + 1), 1, Value.float .f32 y1), ((w.heap.size + 1), 2, Value.float .f32 z1)]
theorem FnExactAddVectors_start (w : World) (x y z : Nat) (x1 y1 z1 : Nat) : GG (FnExactAddVectors_boxes w x y z x1 y1 z1) (w.heap.size + 2) w.heap.size w ((w.alloc (.cells #[.float .f32 x, .float .f32 y, .float .f32 z] 36)).alloc (.cells #[.float .f32 x1, .float .f32 y1, .float .f32 z1] 36)) := by
  refine ⟨?_, by simp [FnExactAddVectors_boxes], by omega, by simp, Below.alloc (Below.alloc (Below.refl _ _) (Nat.le_refl _) _) (by simp) _⟩
  simp only [FnExactAddVectors_boxes, List.forall_mem_cons]
  go_simp
set_option maxHeartbeats 1600000 in
theorem FnExactAddVectors_walk (x y z : Nat) (x1 y1 z1 : Nat) (w : World) (_ : VecOk x y z) (_ : VecOk x1 y1 z1) : Calls Try.prog 13 #[.agg #[.float .f32 x, .float .f32 y, .float .f32 z], .agg #[.float .f32 x1, .float .f32 y1, .float .f32 z1]] w fun e w' => e = .returned (.bool true) ∧ Below w.heap.size w w' := by
  go_enter Try.func13, Try.ntmps13
  go_upto_region 1 with fail
  have hG0 := FnExactAddVectors_start w x y z x1 y1 z1
  go_cut [5] (fun s5 wx => ∃ (g r0 r1 r2 N : Nat), s5 = .pointer (some ⟨g, 0, none⟩) ∧ Is .f32 r0 (oop .add .f32 (ab .f32 x) (ab .f32 x1)) ∧ Is .f32 r1 (oop .add .f32 (ab .f32 y) (ab .f32 y1)) ∧ Is .f32 r2 (oop .add .f32 (ab .f32 z) (ab .f32 z1)) ∧ GG ([(g, 0, Value.float .f32 r0), (g, 1, .float .f32 r1), (g, 2, .float .f32 r2)] ++ FnExactAddVectors_boxes w x y z x1 y1 z1) N w.heap.size w wx)
  case first =>
    refine wp_region_steps (by kernel_rfl) (by kernel_rfl) 6 (by kernel_rfl) (fun _ v => ⟨#[.agg #[.float .f32 x, .float .f32 y, .float .f32 z], .agg #[.float .f32 x1, .float .f32 y1, .float .f32 z1], .pointer (some ⟨w.heap.size, 0, none⟩), .pointer (some ⟨w.heap.size + 1, 0, none⟩), .bool false, v 5, undef, v 0, v 1, v 2, v 3, v 4, undef, undef, undef, undef, undef, undef, undef, undef, undef], []⟩) (GG (FnExactAddVectors_boxes w x y z x1 y1 z1) (w.heap.size + 2) w.heap.size w) (fun j W s => match j with | 0 => s = .agg #[.float .f32 x, .float .f32 y, .float .f32 z] | 1 => s = .agg #[.float .f32 x, .float .f32 y, .float .f32 z] | 2 => s = .agg #[.float .f32 x1, .float .f32 y1, .float .f32 z1] | 3 => s = .agg #[.float .f32 x1, .float .f32 y1, .float .f32 z1] | 4 => IsVec (oop .add .f32 (ab .f32 x) (ab .f32 x1)) (oop .add .f32 (ab .f32 y) (ab .f32 y1)) (oop .add .f32 (ab .f32 z) (ab .f32 z1)) s | 5 => New3 (w.heap.size + 2) W s | _ => True) ?_ ⟨fun j => match j with | 0 => undef | 1 => undef | 2 => undef | 3 => undef | 4 => undef | 5 => undef | _ => undef, rfl⟩ hG0.drew ?_ ?_
    · intro j W W' v hb
      rcases j with _ | _ | _ | _ | _ | _ | j <;> first | exact id | exact New3.call hb
    · intro i o ho hlt vals W hG hd
      rcases i with _ | _ | _ | _ | _ | _ | i
      · refine wpOp_run ho (by cases Option.some.inj ho; rfl) ?_
        cases Option.some.inj ho
        have c0 := hG.at (b := w.heap.size) (o := 0) (v := .float .f32 x) (by simp [FnExactAddVectors_boxes])
        have c1 := hG.at (b := w.heap.size) (o := 1) (v := .float .f32 y) (by simp [FnExactAddVectors_boxes])
        have c2 := hG.at (b := w.heap.size) (o := 2) (v := .float .f32 z) (by simp [FnExactAddVectors_boxes])
        go_simp
        exact ⟨_, rfl, Below.refl _ _, hG, rfl⟩
      · refine wpOp_run ho (by cases Option.some.inj ho; rfl) ?_
        cases Option.some.inj ho
        have hc := toVector x y z W
        rw [← (show vals 0 = .agg #[.float .f32 x, .float .f32 y, .float .f32 z] from hd ⟨0, .data⟩ (by simp) rfl)] at hc
        go_simp
        refine hc.mono ?_
        rintro e w' ⟨rfl, hb⟩
        exact ⟨_, rfl, hb, hG.call hb, hd ⟨0, .data⟩ (by simp) rfl⟩
      · refine wpOp_run ho (by cases Option.some.inj ho; rfl) ?_
        cases Option.some.inj ho
        have c0 := hG.at (b := w.heap.size + 1) (o := 0) (v := .float .f32 x1) (by simp [FnExactAddVectors_boxes])
        have c1 := hG.at (b := w.heap.size + 1) (o := 1) (v := .float .f32 y1) (by simp [FnExactAddVectors_boxes])
        have c2 := hG.at (b := w.heap.size + 1) (o := 2) (v := .float .f32 z1) (by simp [FnExactAddVectors_boxes])
        go_simp
        exact ⟨_, rfl, Below.refl _ _, hG, rfl⟩
      · refine wpOp_run ho (by cases Option.some.inj ho; rfl) ?_
        cases Option.some.inj ho
        have hc := toVector x1 y1 z1 W
        rw [← (show vals 2 = .agg #[.float .f32 x1, .float .f32 y1, .float .f32 z1] from hd ⟨2, .data⟩ (by simp) rfl)] at hc
        go_simp
        refine hc.mono ?_
        rintro e w' ⟨rfl, hb⟩
        exact ⟨_, rfl, hb, hG.call hb, hd ⟨2, .data⟩ (by simp) rfl⟩
      · refine wpOp_run ho (by cases Option.some.inj ho; rfl) ?_
        cases Option.some.inj ho
        have hc := spec_AddVectors x y z x1 y1 z1 W
        rw [← (show vals 1 = .agg #[.float .f32 x, .float .f32 y, .float .f32 z] from hd ⟨1, .data⟩ (by simp) rfl), ← (show vals 3 = .agg #[.float .f32 x1, .float .f32 y1, .float .f32 z1] from hd ⟨3, .data⟩ (by simp) rfl)] at hc
        go_simp
        refine hc.mono ?_
        rintro e w' ⟨r0, r1, r2, k0, k1, k2, rfl, hb⟩
        exact ⟨_, rfl, hb, hG.call hb, ⟨r0, r1, r2, rfl, k0, k1, k2⟩⟩
      · refine wpOp_run ho (by cases Option.some.inj ho; rfl) ?_
        cases Option.some.inj ho
        go_simp
        have hb : Below W.heap.size W (W.alloc (.cells #[.float .f32 0, .float .f32 0, .float .f32 0] 38)) := (Below.refl _ _).alloc (Nat.le_refl _) _
        exact ⟨_, rfl, hb, hG.call hb, New3.mk hG.size _ _ _ _⟩
      · omega
    · intro vals W hG hR
      refine wpOp_run rfl rfl ?_
      obtain ⟨r0, r1, r2, e4, k0, k1, k2⟩ := hR 4 (by omega)
      obtain ⟨g, e5, hg1, hg2, hf, c0, c1, c2, d0, d1, d2⟩ := hR 5 (by omega)
      have h3 := at3_set W g (.float .f32 r0) (.float .f32 r1) (.float .f32 r2) _ _ _ ⟨d0, d1, d2⟩
      have hG' := ((hG.set hg1 (o := 0) (.float .f32 r0)).set hg1 (o := 1) (.float .f32 r1)).set hg1 (o := 2) (.float .f32 r2)
      have hm := hG'.more [(g, 0, .float .f32 r0), (g, 1, .float .f32 r1), (g, 2, .float .f32 r2)] (by simp only [List.forall_mem_cons]; exact ⟨h3.1, h3.2.1, h3.2.2, by simp⟩)
      clear h3 hG'
      go_simp
      go_wp2_with fail
      go_meet
      exact ⟨g, r0, r1, r2, _, rfl, k0, k1, k2, hm⟩
  case rest =>
    obtain ⟨g, r0, r1, r2, N, rfl, k0, k1, k2, hG⟩ := hcut
    go_upto_region 2 with fail
    go_cut [6] (fun s6 wx => ∃ (g' q0 q1 q2 N' : Nat), s6 = .pointer (some ⟨g', 0, none⟩) ∧ Is .f32 q0 (oop .add .f32 (ab .f32 x) (ab .f32 x1)) ∧ Is .f32 q1 (oop .add .f32 (ab .f32 y) (ab .f32 y1)) ∧ Is .f32 q2 (oop .add .f32 (ab .f32 z) (ab .f32 z1)) ∧ GG ([(g', 0, Value.float .f32 q0), (g', 1, .float .f32 q1), (g', 2, .float .f32 q2)] ++ ([(g, 0, Value.float .f32 r0), (g, 1, .float .f32 r1), (g, 2, .float .f32 r2)] ++ FnExactAddVectors_boxes w x y z x1 y1 z1)) N' w.heap.size w wx)
    case first =>
      refine wp_region_steps (by kernel_rfl) (by kernel_rfl) 6 (by kernel_rfl) (fun _ v => ⟨#[.agg #[.float .f32 x, .float .f32 y, .float .f32 z], .agg #[.float .f32 x1, .float .f32 y1, .float .f32 z1], .pointer (some ⟨w.heap.size, 0, none⟩), .pointer (some ⟨w.heap.size + 1, 0, none⟩), .bool false, .pointer (some ⟨g, 0, none⟩), v 5, u7, u8, u9, u10, u11, v 0, v 1, v 2, v 3, v 4, u17, u18, u19, u20], []⟩) (GG ([(g, 0, Value.float .f32 r0), (g, 1, .float .f32 r1), (g, 2, .float .f32 r2)] ++ FnExactAddVectors_boxes w x y z x1 y1 z1) N w.heap.size w) (fun j W s => match j with | 0 => s = .agg #[.float .f32 x, .float .f32 y, .float .f32 z] | 1 => s = .agg #[.float .f32 x, .float .f32 y, .float .f32 z] | 2 => s = .agg #[.float .f32 x1, .float .f32 y1, .float .f32 z1] | 3 => s = .agg #[.float .f32 x1, .float .f32 y1, .float .f32 z1] | 4 => IsVec (oop .add .f32 (ab .f32 x) (ab .f32 x1)) (oop .add .f32 (ab .f32 y) (ab .f32 y1)) (oop .add .f32 (ab .f32 z) (ab .f32 z1)) s | 5 => New3 N W s | _ => True) ?_ ⟨fun j => match j with | 0 => u12 | 1 => u13 | 2 => u14 | 3 => u15 | 4 => u16 | 5 => undef | _ => undef, rfl⟩ hG.drew ?_ ?_
      · intro j W W' v hb
        rcases j with _ | _ | _ | _ | _ | _ | j <;> first | exact id | exact New3.call hb
      · intro i o ho hlt vals W hG hd
        rcases i with _ | _ | _ | _ | _ | _ | i
        · refine wpOp_run ho (by cases Option.some.inj ho; rfl) ?_
          cases Option.some.inj ho
          have c0 := hG.at (b := w.heap.size) (o := 0) (v := .float .f32 x) (by simp [FnExactAddVectors_boxes])
          have c1 := hG.at (b := w.heap.size) (o := 1) (v := .float .f32 y) (by simp [FnExactAddVectors_boxes])
          have c2 := hG.at (b := w.heap.size) (o := 2) (v := .float .f32 z) (by simp [FnExactAddVectors_boxes])
          go_simp
          exact ⟨_, rfl, Below.refl _ _, hG, rfl⟩
        · refine wpOp_run ho (by cases Option.some.inj ho; rfl) ?_
          cases Option.some.inj ho
          have hc := toVector x y z W
          rw [← (show vals 0 = .agg #[.float .f32 x, .float .f32 y, .float .f32 z] from hd ⟨0, .data⟩ (by simp) rfl)] at hc
          go_simp
          refine hc.mono ?_
          rintro e w' ⟨rfl, hb⟩
          exact ⟨_, rfl, hb, hG.call hb, hd ⟨0, .data⟩ (by simp) rfl⟩
        · refine wpOp_run ho (by cases Option.some.inj ho; rfl) ?_
          cases Option.some.inj ho
          have c0 := hG.at (b := w.heap.size + 1) (o := 0) (v := .float .f32 x1) (by simp [FnExactAddVectors_boxes])
          have c1 := hG.at (b := w.heap.size + 1) (o := 1) (v := .float .f32 y1) (by simp [FnExactAddVectors_boxes])
          have c2 := hG.at (b := w.heap.size + 1) (o := 2) (v := .float .f32 z1) (by simp [FnExactAddVectors_boxes])
          go_simp
          exact ⟨_, rfl, Below.refl _ _, hG, rfl⟩
        · refine wpOp_run ho (by cases Option.some.inj ho; rfl) ?_
          cases Option.some.inj ho
          have hc := toVector x1 y1 z1 W
          rw [← (show vals 2 = .agg #[.float .f32 x1, .float .f32 y1, .float .f32 z1] from hd ⟨2, .data⟩ (by simp) rfl)] at hc
          go_simp
          refine hc.mono ?_
          rintro e w' ⟨rfl, hb⟩
          exact ⟨_, rfl, hb, hG.call hb, hd ⟨2, .data⟩ (by simp) rfl⟩
        · refine wpOp_run ho (by cases Option.some.inj ho; rfl) ?_
          cases Option.some.inj ho
          have hc := AddVectors x y z x1 y1 z1 W
          rw [← (show vals 1 = .agg #[.float .f32 x, .float .f32 y, .float .f32 z] from hd ⟨1, .data⟩ (by simp) rfl), ← (show vals 3 = .agg #[.float .f32 x1, .float .f32 y1, .float .f32 z1] from hd ⟨3, .data⟩ (by simp) rfl)] at hc
          go_simp
          refine hc.mono ?_
          rintro e w' ⟨r0, r1, r2, k0, k1, k2, rfl, hb⟩
          exact ⟨_, rfl, hb, hG.call hb, ⟨r0, r1, r2, rfl, k0, k1, k2⟩⟩
        · refine wpOp_run ho (by cases Option.some.inj ho; rfl) ?_
          cases Option.some.inj ho
          go_simp
          have hb : Below W.heap.size W (W.alloc (.cells #[.float .f32 0, .float .f32 0, .float .f32 0] 38)) := (Below.refl _ _).alloc (Nat.le_refl _) _
          exact ⟨_, rfl, hb, hG.call hb, New3.mk hG.size _ _ _ _⟩
        · omega
      · intro vals W hG hR
        refine wpOp_run rfl rfl ?_
        obtain ⟨r0, r1, r2, e4, k0, k1, k2⟩ := hR 4 (by omega)
        obtain ⟨g, e5, hg1, hg2, hf, c0, c1, c2, d0, d1, d2⟩ := hR 5 (by omega)
        have h3 := at3_set W g (.float .f32 r0) (.float .f32 r1) (.float .f32 r2) _ _ _ ⟨d0, d1, d2⟩
        have hG' := ((hG.set hg1 (o := 0) (.float .f32 r0)).set hg1 (o := 1) (.float .f32 r1)).set hg1 (o := 2) (.float .f32 r2)
        have hm := hG'.more [(g, 0, .float .f32 r0), (g, 1, .float .f32 r1), (g, 2, .float .f32 r2)] (by simp only [List.forall_mem_cons]; exact ⟨h3.1, h3.2.1, h3.2.2, by simp⟩)
        clear h3 hG'
        go_simp
        go_wp2_with fail
        go_meet
        exact ⟨g, r0, r1, r2, _, rfl, k0, k1, k2, hm⟩
    case rest =>
      obtain ⟨g', q0, q1, q2, N', rfl, j0, j1, j2, hH⟩ := hcut
      have a0 := hH.at (b := g') (o := 0) (v := .float .f32 q0) (by simp)
      have a1 := hH.at (b := g') (o := 1) (v := .float .f32 q1) (by simp)
      have a2 := hH.at (b := g') (o := 2) (v := .float .f32 q2) (by simp)
      have b0 := hH.at (b := g) (o := 0) (v := .float .f32 r0) (by simp)
      have b1 := hH.at (b := g) (o := 1) (v := .float .f32 r1) (by simp)
      have b2 := hH.at (b := g) (o := 2) (v := .float .f32 r2) (by simp)
      have hc := fun w => eqVector q0 q1 q2 r0 r1 r2 w (j0.ab.trans k0.ab.symm) (j1.ab.trans k1.ab.symm) (j2.ab.trans k2.ab.symm)
      clear hG hG0
      go_wp2_with (go_at_call 37; refine (hc _).mono ?_; rintro e w' ⟨rfl, hb⟩)
      go_ret
      exact ⟨rfl, hH.below.trans (hb.mono (Nat.le_trans hH.base hH.size))⟩



/-- the law's own variables -/
abbrev FnExactLessVectors_boxes (w : World) (x y z : Nat) (x1 y1 z1 : Nat) : List (Nat × Nat × Value) := [((w.heap.size), 0, Value.float .f32 x), ((w.heap.size), 1, Value.float .f32 y), ((w.heap.size), 2, Value.float .f32 z), ((w.heap.size + 1), 0, Value.float .f32 x1), ((w.heap.size + 1), 1, Value.float .f32 y1), ((w.heap.size + 1), 2, Value.float .f32 z1)]
theorem FnExactLessVectors_start (w : World) (x y z : Nat) (x1 y1 z1 : Nat) : GG (FnExactLessVectors_boxes w x y z x1 y1 z1) (w.heap.size + 2) w.heap.size w ((w.alloc (.cells #[.float .f32 x, .float .f32 y, .float .f32 z] 36)).alloc (.cells #[.float .f32 x1, .float .f32 y1, .float .f32 z1] 36)) := by
  refine ⟨?_, by simp [FnExactLessVectors_boxes], by omega, by simp, Below.alloc (Below.alloc (Below.refl _ _) (Nat.le_refl _) _) (by simp) _⟩
  simp only [FnExactLessVectors_boxes, List.forall_mem_cons]
  go_simp
set_option maxHeartbeats 1600000 in
theorem FnExactLessVectors_walk (x y z : Nat) (x1 y1 z1 : Nat) (w : World) (_ : VecOk x y z) (_ : VecOk x1 y1 z1) : Calls Try.prog 14 #[.agg #[.float .f32 x, .float .f32 y, .float .f32 z], .agg #[.float .f32 x1, .float .f32 y1, .float .f32 z1]] w fun e w' => e = .returned (.bool true) ∧ Below w.heap.size w w' := by
  go_enter Try.func14, Try.ntmps14
  go_upto_region 1 with fail
  have hG0 := FnExactLessVectors_start w x y z x1 y1 z1
  go_cut [5] (fun s5 wx => ∃ (g r0 r1 r2 N : Nat), s5 = .pointer (some ⟨g, 0, none⟩) ∧ Is .f32 r0 (oop .sub .f32 (ab .f32 x) (ab .f32 x1)) ∧ Is .f32 r1 (oop .sub .f32 (ab .f32 y) (ab .f32 y1)) ∧ Is .f32 r2 (oop .sub .f32 (ab .f32 z) (ab .f32 z1)) ∧ GG ([(g, 0, Value.float .f32 r0), (g, 1, .float .f32 r1), (g, 2, .float .f32 r2)] ++ FnExactLessVectors_boxes w x y z x1 y1 z1) N w.heap.size w wx)
  case first =>
    refine wp_region_steps (by kernel_rfl) (by kernel_rfl) 6 (by kernel_rfl) (fun _ v => ⟨#[.agg #[.float .f32 x, .float .f32 y, .float .f32 z], .agg #[.float .f32 x1, .float .f32 y1, .float .f32 z1], .pointer (some ⟨w.heap.size, 0, none⟩), .pointer (some ⟨w.heap.size + 1, 0, none⟩), .bool false, v 5, undef, v 0, v 1, v 2, v 3, v 4, undef, undef, undef, undef, undef, undef, undef, undef, undef], []⟩) (GG (FnExactLessVectors_boxes w x y z x1 y1 z1) (w.heap.size + 2) w.heap.size w) (fun j W s => match j with | 0 => s = .agg #[.float .f32 x, .float .f32 y, .float .f32 z] | 1 => s = .agg #[.float .f32 x, .float .f32 y, .float .f32 z] | 2 => s = .agg #[.float .f32 x1, .float .f32 y1, .float .f32 z1] | 3 => s = .agg #[.float .f32 x1, .float .f32 y1, .float .f32 z1] | 4 => IsVec (oop .sub .f32 (ab .f32 x) (ab .f32 x1)) (oop .sub .f32 (ab .f32 y) (ab .f32 y1)) (oop .sub .f32 (ab .f32 z) (ab .f32 z1)) s | 5 => New3 (w.heap.size + 2) W s | _ => True) ?_ ⟨fun j => match j with | 0 => undef | 1 => undef | 2 => undef | 3 => undef | 4 => undef | 5 => undef | _ => undef, rfl⟩ hG0.drew ?_ ?_
    · intro j W W' v hb
      rcases j with _ | _ | _ | _ | _ | _ | j <;> first | exact id | exact New3.call hb
    · intro i o ho hlt vals W hG hd
      rcases i with _ | _ | _ | _ | _ | _ | i
      · refine wpOp_run ho (by cases Option.some.inj ho; rfl) ?_
        cases Option.some.inj ho
        have c0 := hG.at (b := w.heap.size) (o := 0) (v := .float .f32 x) (by simp [FnExactLessVectors_boxes])
        have c1 := hG.at (b := w.heap.size) (o := 1) (v := .float .f32 y) (by simp [FnExactLessVectors_boxes])
        have c2 := hG.at (b := w.heap.size) (o := 2) (v := .float .f32 z) (by simp [FnExactLessVectors_boxes])
        go_simp
        exact ⟨_, rfl, Below.refl _ _, hG, rfl⟩
      · refine wpOp_run ho (by cases Option.some.inj ho; rfl) ?_
        cases Option.some.inj ho
        have hc := toVector x y z W
        rw [← (show vals 0 = .agg #[.float .f32 x, .float .f32 y, .float .f32 z] from hd ⟨0, .data⟩ (by simp) rfl)] at hc
        go_simp
        refine hc.mono ?_
        rintro e w' ⟨rfl, hb⟩
        exact ⟨_, rfl, hb, hG.call hb, hd ⟨0, .data⟩ (by simp) rfl⟩
      · refine wpOp_run ho (by cases Option.some.inj ho; rfl) ?_
        cases Option.some.inj ho
        have c0 := hG.at (b := w.heap.size + 1) (o := 0) (v := .float .f32 x1) (by simp [FnExactLessVectors_boxes])
        have c1 := hG.at (b := w.heap.size + 1) (o := 1) (v := .float .f32 y1) (by simp [FnExactLessVectors_boxes])
        have c2 := hG.at (b := w.heap.size + 1) (o := 2) (v := .float .f32 z1) (by simp [FnExactLessVectors_boxes])
        go_simp
        exact ⟨_, rfl, Below.refl _ _, hG, rfl⟩
      · refine wpOp_run ho (by cases Option.some.inj ho; rfl) ?_
        cases Option.some.inj ho
        have hc := toVector x1 y1 z1 W
        rw [← (show vals 2 = .agg #[.float .f32 x1, .float .f32 y1, .float .f32 z1] from hd ⟨2, .data⟩ (by simp) rfl)] at hc
        go_simp
        refine hc.mono ?_
        rintro e w' ⟨rfl, hb⟩
        exact ⟨_, rfl, hb, hG.call hb, hd ⟨2, .data⟩ (by simp) rfl⟩
      · refine wpOp_run ho (by cases Option.some.inj ho; rfl) ?_
        cases Option.some.inj ho
        have hc := spec_LessVectors x y z x1 y1 z1 W
        rw [← (show vals 1 = .agg #[.float .f32 x, .float .f32 y, .float .f32 z] from hd ⟨1, .data⟩ (by simp) rfl), ← (show vals 3 = .agg #[.float .f32 x1, .float .f32 y1, .float .f32 z1] from hd ⟨3, .data⟩ (by simp) rfl)] at hc
        go_simp
        refine hc.mono ?_
        rintro e w' ⟨r0, r1, r2, k0, k1, k2, rfl, hb⟩
        exact ⟨_, rfl, hb, hG.call hb, ⟨r0, r1, r2, rfl, k0, k1, k2⟩⟩
      · refine wpOp_run ho (by cases Option.some.inj ho; rfl) ?_
        cases Option.some.inj ho
        go_simp
        have hb : Below W.heap.size W (W.alloc (.cells #[.float .f32 0, .float .f32 0, .float .f32 0] 38)) := (Below.refl _ _).alloc (Nat.le_refl _) _
        exact ⟨_, rfl, hb, hG.call hb, New3.mk hG.size _ _ _ _⟩
      · omega
    · intro vals W hG hR
      refine wpOp_run rfl rfl ?_
      obtain ⟨r0, r1, r2, e4, k0, k1, k2⟩ := hR 4 (by omega)
      obtain ⟨g, e5, hg1, hg2, hf, c0, c1, c2, d0, d1, d2⟩ := hR 5 (by omega)
      have h3 := at3_set W g (.float .f32 r0) (.float .f32 r1) (.float .f32 r2) _ _ _ ⟨d0, d1, d2⟩
      have hG' := ((hG.set hg1 (o := 0) (.float .f32 r0)).set hg1 (o := 1) (.float .f32 r1)).set hg1 (o := 2) (.float .f32 r2)
      have hm := hG'.more [(g, 0, .float .f32 r0), (g, 1, .float .f32 r1), (g, 2, .float .f32 r2)] (by simp only [List.forall_mem_cons]; exact ⟨h3.1, h3.2.1, h3.2.2, by simp⟩)
      clear h3 hG'
      go_simp
      go_wp2_with fail
      go_meet
      exact ⟨g, r0, r1, r2, _, rfl, k0, k1, k2, hm⟩
  case rest =>
    obtain ⟨g, r0, r1, r2, N, rfl, k0, k1, k2, hG⟩ := hcut
    go_upto_region 2 with fail
    go_cut [6] (fun s6 wx => ∃ (g' q0 q1 q2 N' : Nat), s6 = .pointer (some ⟨g', 0, none⟩) ∧ Is .f32 q0 (oop .sub .f32 (ab .f32 x) (ab .f32 x1)) ∧ Is .f32 q1 (oop .sub .f32 (ab .f32 y) (ab .f32 y1)) ∧ Is .f32 q2 (oop .sub .f32 (ab .f32 z) (ab .f32 z1)) ∧ GG ([(g', 0, Value.float .f32 q0), (g', 1, .float .f32 q1), (g', 2, .float .f32 q2)] ++ ([(g, 0, Value.float .f32 r0), (g, 1, .float .f32 r1), (g, 2, .float .f32 r2)] ++ FnExactLessVectors_boxes w x y z x1 y1 z1)) N' w.heap.size w wx)
    case first =>
      refine wp_region_steps (by kernel_rfl) (by kernel_rfl) 6 (by kernel_rfl) (fun _ v => ⟨#[.agg #[.float .f32 x, .float .f32 y, .float .f32 z], .agg #[.float .f32 x1, .float .f32 y1, .float .f32 z1], .pointer (some ⟨w.heap.size, 0, none⟩), .pointer (some ⟨w.heap.size + 1, 0, none⟩), .bool false, .pointer (some ⟨g, 0, none⟩), v 5, u7, u8, u9, u10, u11, v 0, v 1, v 2, v 3, v 4, u17, u18, u19, u20], []⟩) (GG ([(g, 0, Value.float .f32 r0), (g, 1, .float .f32 r1), (g, 2, .float .f32 r2)] ++ FnExactLessVectors_boxes w x y z x1 y1 z1) N w.heap.size w) (fun j W s => match j with | 0 => s = .agg #[.float .f32 x, .float .f32 y, .float .f32 z] | 1 => s = .agg #[.float .f32 x, .float .f32 y, .float .f32 z] | 2 => s = .agg #[.float .f32 x1, .float .f32 y1, .float .f32 z1] | 3 => s = .agg #[.float .f32 x1, .float .f32 y1, .float .f32 z1] | 4 => IsVec (oop .sub .f32 (ab .f32 x) (ab .f32 x1)) (oop .sub .f32 (ab .f32 y) (ab .f32 y1)) (oop .sub .f32 (ab .f32 z) (ab .f32 z1)) s | 5 => New3 N W s | _ => True) ?_ ⟨fun j => match j with | 0 => u12 | 1 => u13 | 2 => u14 | 3 => u15 | 4 => u16 | 5 => undef | _ => undef, rfl⟩ hG.drew ?_ ?_
      · intro j W W' v hb
        rcases j with _ | _ | _ | _ | _ | _ | j <;> first | exact id | exact New3.call hb
      · intro i o ho hlt vals W hG hd
        rcases i with _ | _ | _ | _ | _ | _ | i
        · refine wpOp_run ho (by cases Option.some.inj ho; rfl) ?_
          cases Option.some.inj ho
          have c0 := hG.at (b := w.heap.size) (o := 0) (v := .float .f32 x) (by simp [FnExactLessVectors_boxes])
          have c1 := hG.at (b := w.heap.size) (o := 1) (v := .float .f32 y) (by simp [FnExactLessVectors_boxes])
          have c2 := hG.at (b := w.heap.size) (o := 2) (v := .float .f32 z) (by simp [FnExactLessVectors_boxes])
          go_simp
          exact ⟨_, rfl, Below.refl _ _, hG, rfl⟩
        · refine wpOp_run ho (by cases Option.some.inj ho; rfl) ?_
          cases Option.some.inj ho
          have hc := toVector x y z W
          rw [← (show vals 0 = .agg #[.float .f32 x, .float .f32 y, .float .f32 z] from hd ⟨0, .data⟩ (by simp) rfl)] at hc
          go_simp
          refine hc.mono ?_
          rintro e w' ⟨rfl, hb⟩
          exact ⟨_, rfl, hb, hG.call hb, hd ⟨0, .data⟩ (by simp) rfl⟩
        · refine wpOp_run ho (by cases Option.some.inj ho; rfl) ?_
          cases Option.some.inj ho
          have c0 := hG.at (b := w.heap.size + 1) (o := 0) (v := .float .f32 x1) (by simp [FnExactLessVectors_boxes])
          have c1 := hG.at (b := w.heap.size + 1) (o := 1) (v := .float .f32 y1) (by simp [FnExactLessVectors_boxes])
          have c2 := hG.at (b := w.heap.size + 1) (o := 2) (v := .float .f32 z1) (by simp [FnExactLessVectors_boxes])
          go_simp
          exact ⟨_, rfl, Below.refl _ _, hG, rfl⟩
        · refine wpOp_run ho (by cases Option.some.inj ho; rfl) ?_
          cases Option.some.inj ho
          have hc := toVector x1 y1 z1 W
          rw [← (show vals 2 = .agg #[.float .f32 x1, .float .f32 y1, .float .f32 z1] from hd ⟨2, .data⟩ (by simp) rfl)] at hc
          go_simp
          refine hc.mono ?_
          rintro e w' ⟨rfl, hb⟩
          exact ⟨_, rfl, hb, hG.call hb, hd ⟨2, .data⟩ (by simp) rfl⟩
        · refine wpOp_run ho (by cases Option.some.inj ho; rfl) ?_
          cases Option.some.inj ho
          have hc := LessVectors x y z x1 y1 z1 W
          rw [← (show vals 1 = .agg #[.float .f32 x, .float .f32 y, .float .f32 z] from hd ⟨1, .data⟩ (by simp) rfl), ← (show vals 3 = .agg #[.float .f32 x1, .float .f32 y1, .float .f32 z1] from hd ⟨3, .data⟩ (by simp) rfl)] at hc
          go_simp
          refine hc.mono ?_
          rintro e w' ⟨r0, r1, r2, k0, k1, k2, rfl, hb⟩
          exact ⟨_, rfl, hb, hG.call hb, ⟨r0, r1, r2, rfl, k0, k1, k2⟩⟩
        · refine wpOp_run ho (by cases Option.some.inj ho; rfl) ?_
          cases Option.some.inj ho
          go_simp
          have hb : Below W.heap.size W (W.alloc (.cells #[.float .f32 0, .float .f32 0, .float .f32 0] 38)) := (Below.refl _ _).alloc (Nat.le_refl _) _
          exact ⟨_, rfl, hb, hG.call hb, New3.mk hG.size _ _ _ _⟩
        · omega
      · intro vals W hG hR
        refine wpOp_run rfl rfl ?_
        obtain ⟨r0, r1, r2, e4, k0, k1, k2⟩ := hR 4 (by omega)
        obtain ⟨g, e5, hg1, hg2, hf, c0, c1, c2, d0, d1, d2⟩ := hR 5 (by omega)
        have h3 := at3_set W g (.float .f32 r0) (.float .f32 r1) (.float .f32 r2) _ _ _ ⟨d0, d1, d2⟩
        have hG' := ((hG.set hg1 (o := 0) (.float .f32 r0)).set hg1 (o := 1) (.float .f32 r1)).set hg1 (o := 2) (.float .f32 r2)
        have hm := hG'.more [(g, 0, .float .f32 r0), (g, 1, .float .f32 r1), (g, 2, .float .f32 r2)] (by simp only [List.forall_mem_cons]; exact ⟨h3.1, h3.2.1, h3.2.2, by simp⟩)
        clear h3 hG'
        go_simp
        go_wp2_with fail
        go_meet
        exact ⟨g, r0, r1, r2, _, rfl, k0, k1, k2, hm⟩
    case rest =>
      obtain ⟨g', q0, q1, q2, N', rfl, j0, j1, j2, hH⟩ := hcut
      have a0 := hH.at (b := g') (o := 0) (v := .float .f32 q0) (by simp)
      have a1 := hH.at (b := g') (o := 1) (v := .float .f32 q1) (by simp)
      have a2 := hH.at (b := g') (o := 2) (v := .float .f32 q2) (by simp)
      have b0 := hH.at (b := g) (o := 0) (v := .float .f32 r0) (by simp)
      have b1 := hH.at (b := g) (o := 1) (v := .float .f32 r1) (by simp)
      have b2 := hH.at (b := g) (o := 2) (v := .float .f32 r2) (by simp)
      have hc := fun w => eqVector q0 q1 q2 r0 r1 r2 w (j0.ab.trans k0.ab.symm) (j1.ab.trans k1.ab.symm) (j2.ab.trans k2.ab.symm)
      clear hG hG0
      go_wp2_with (go_at_call 37; refine (hc _).mono ?_; rintro e w' ⟨rfl, hb⟩)
      go_ret
      exact ⟨rfl, hH.below.trans (hb.mono (Nat.le_trans hH.base hH.size))⟩




/-- the law's own variables -/
abbrev FnExactInnerOf_boxes (w : World) (x y z : Nat) (x1 y1 z1 : Nat) : List (Nat × Nat × Value) := [((w.heap.size), 0, Value.float .f32 x), ((w.heap.size), 1, Value.float .f32 y), ((w.heap.size), 2, Value.float .f32 z), ((w.heap.size + 1), 0, Value.float .f32 x1), ((w.heap.size + 1), 1, Value.float .f32 y1), ((w.heap.size + 1), 2, Value.float .f32 z1)]
theorem FnExactInnerOf_start (w : World) (x y z : Nat) (x1 y1 z1 : Nat) : GG (FnExactInnerOf_boxes w x y z x1 y1 z1) (w.heap.size + 2) w.heap.size w ((w.alloc (.cells #[.float .f32 x, .float .f32 y, .float .f32 z] 36)).alloc (.cells #[.float .f32 x1, .float .f32 y1, .float .f32 z1] 36)) := by
  refine ⟨?_, by simp [FnExactInnerOf_boxes], by omega, by simp, Below.alloc (Below.alloc (Below.refl _ _) (Nat.le_refl _) _) (by simp) _⟩
  simp only [FnExactInnerOf_boxes, List.forall_mem_cons]
  go_simp
set_option maxHeartbeats 1600000 in
theorem FnExactInnerOf_walk (x y z : Nat) (x1 y1 z1 : Nat) (w : World) (_ : VecOk x y z) (_ : VecOk x1 y1 z1) : Calls Try.prog 11 #[.agg #[.float .f32 x, .float .f32 y, .float .f32 z], .agg #[.float .f32 x1, .float .f32 y1, .float .f32 z1]] w fun e w' => e = .returned (.bool true) ∧ Below w.heap.size w w' := by
  go_enter Try.func11, Try.ntmps11
  go_upto_region 1 with fail
  have hG0 := FnExactInnerOf_start w x y z x1 y1 z1
  go_cut [5] (fun s5 wx => ∃ (r0 : Nat), s5 = .float .f32 r0 ∧ Is .f32 r0 (oop .add .f32 (oop .add .f32 (oop .mul .f32 (ab .f32 x) (ab .f32 x1)) (oop .mul .f32 (ab .f32 y) (ab .f32 y1))) (oop .mul .f32 (ab .f32 z) (ab .f32 z1))) ∧ GG (FnExactInnerOf_boxes w x y z x1 y1 z1) (w.heap.size + 2) w.heap.size w wx)
  case first =>
    refine wp_region_steps (by kernel_rfl) (by kernel_rfl) 5 (by kernel_rfl) (fun _ v => ⟨#[.agg #[.float .f32 x, .float .f32 y, .float .f32 z], .agg #[.float .f32 x1, .float .f32 y1, .float .f32 z1], .pointer (some ⟨w.heap.size, 0, none⟩), .pointer (some ⟨w.heap.size + 1, 0, none⟩), .bool false, undef, undef, v 0, v 1, v 2, v 3, v 4, undef, undef, undef, undef, undef, undef, undef, undef, undef, undef, undef], []⟩) (GG (FnExactInnerOf_boxes w x y z x1 y1 z1) (w.heap.size + 2) w.heap.size w) (fun j W s => match j with | 0 => s = .agg #[.float .f32 x, .float .f32 y, .float .f32 z] | 1 => s = .agg #[.float .f32 x, .float .f32 y, .float .f32 z] | 2 => s = .agg #[.float .f32 x1, .float .f32 y1, .float .f32 z1] | 3 => s = .agg #[.float .f32 x1, .float .f32 y1, .float .f32 z1] | 4 => ∃ r : Nat, s = .float .f32 r ∧ Is .f32 r (oop .add .f32 (oop .add .f32 (oop .mul .f32 (ab .f32 x) (ab .f32 x1)) (oop .mul .f32 (ab .f32 y) (ab .f32 y1))) (oop .mul .f32 (ab .f32 z) (ab .f32 z1))) | _ => True) ?_ ⟨fun j => match j with | 0 => undef | 1 => undef | 2 => undef | 3 => undef | 4 => undef | _ => undef, rfl⟩ hG0.drew ?_ ?_
    · intro j W W' v hb
      rcases j with _ | _ | _ | _ | _ | j <;> first | exact id | exact New3.call hb
    · intro i o ho hlt vals W hG hd
      rcases i with _ | _ | _ | _ | _ | i
      · refine wpOp_run ho (by cases Option.some.inj ho; rfl) ?_
        cases Option.some.inj ho
        have c0 := hG.at (b := w.heap.size) (o := 0) (v := .float .f32 x) (by simp [FnExactInnerOf_boxes])
        have c1 := hG.at (b := w.heap.size) (o := 1) (v := .float .f32 y) (by simp [FnExactInnerOf_boxes])
        have c2 := hG.at (b := w.heap.size) (o := 2) (v := .float .f32 z) (by simp [FnExactInnerOf_boxes])
        go_simp
        exact ⟨_, rfl, Below.refl _ _, hG, rfl⟩
      · refine wpOp_run ho (by cases Option.some.inj ho; rfl) ?_
        cases Option.some.inj ho
        have hc := toVector x y z W
        rw [← (show vals 0 = .agg #[.float .f32 x, .float .f32 y, .float .f32 z] from hd ⟨0, .data⟩ (by simp) rfl)] at hc
        go_simp
        refine hc.mono ?_
        rintro e w' ⟨rfl, hb⟩
        exact ⟨_, rfl, hb, hG.call hb, hd ⟨0, .data⟩ (by simp) rfl⟩
      · refine wpOp_run ho (by cases Option.some.inj ho; rfl) ?_
        cases Option.some.inj ho
        have c0 := hG.at (b := w.heap.size + 1) (o := 0) (v := .float .f32 x1) (by simp [FnExactInnerOf_boxes])
        have c1 := hG.at (b := w.heap.size + 1) (o := 1) (v := .float .f32 y1) (by simp [FnExactInnerOf_boxes])
        have c2 := hG.at (b := w.heap.size + 1) (o := 2) (v := .float .f32 z1) (by simp [FnExactInnerOf_boxes])
        go_simp
        exact ⟨_, rfl, Below.refl _ _, hG, rfl⟩
      · refine wpOp_run ho (by cases Option.some.inj ho; rfl) ?_
        cases Option.some.inj ho
        have hc := toVector x1 y1 z1 W
        rw [← (show vals 2 = .agg #[.float .f32 x1, .float .f32 y1, .float .f32 z1] from hd ⟨2, .data⟩ (by simp) rfl)] at hc
        go_simp
        refine hc.mono ?_
        rintro e w' ⟨rfl, hb⟩
        exact ⟨_, rfl, hb, hG.call hb, hd ⟨2, .data⟩ (by simp) rfl⟩
      · refine wpOp_run ho (by cases Option.some.inj ho; rfl) ?_
        cases Option.some.inj ho
        have hc := spec_InnerOf x y z x1 y1 z1 W
        rw [← (show vals 1 = .agg #[.float .f32 x, .float .f32 y, .float .f32 z] from hd ⟨1, .data⟩ (by simp) rfl), ← (show vals 3 = .agg #[.float .f32 x1, .float .f32 y1, .float .f32 z1] from hd ⟨3, .data⟩ (by simp) rfl)] at hc
        go_simp
        refine hc.mono ?_
        rintro e w' ⟨r0, k0, rfl, hb⟩
        exact ⟨_, rfl, hb, hG.call hb, ⟨r0, rfl, k0⟩⟩
      · omega
    · intro vals W hG hR
      refine wpOp_run rfl rfl ?_
      obtain ⟨r0, e4, k0⟩ := hR 4 (by omega)
      go_simp
      go_wp2_with fail
      go_meet
      exact ⟨r0, rfl, k0, hG⟩
  case rest =>
    obtain ⟨q0, rfl, k0, hG⟩ := hcut
    go_upto_region 2 with fail
    go_cut [6] (fun s6 wx => ∃ (r0 : Nat), s6 = .float .f32 r0 ∧ Is .f32 r0 (oop .add .f32 (oop .add .f32 (oop .mul .f32 (ab .f32 x) (ab .f32 x1)) (oop .mul .f32 (ab .f32 y) (ab .f32 y1))) (oop .mul .f32 (ab .f32 z) (ab .f32 z1))) ∧ GG (FnExactInnerOf_boxes w x y z x1 y1 z1) (w.heap.size + 2) w.heap.size w wx)
    case first =>
      refine wp_region_steps (by kernel_rfl) (by kernel_rfl) 5 (by kernel_rfl) (fun _ v => ⟨#[.agg #[.float .f32 x, .float .f32 y, .float .f32 z], .agg #[.float .f32 x1, .float .f32 y1, .float .f32 z1], .pointer (some ⟨w.heap.size, 0, none⟩), .pointer (some ⟨w.heap.size + 1, 0, none⟩), .bool false, .float .f32 q0, undef, u7, u8, u9, u10, u11, v 0, v 1, v 2, v 3, v 4, u17, u18, u19, u20, u21, u22], []⟩) (GG (FnExactInnerOf_boxes w x y z x1 y1 z1) (w.heap.size + 2) w.heap.size w) (fun j W s => match j with | 0 => s = .agg #[.float .f32 x, .float .f32 y, .float .f32 z] | 1 => s = .agg #[.float .f32 x, .float .f32 y, .float .f32 z] | 2 => s = .agg #[.float .f32 x1, .float .f32 y1, .float .f32 z1] | 3 => s = .agg #[.float .f32 x1, .float .f32 y1, .float .f32 z1] | 4 => ∃ r : Nat, s = .float .f32 r ∧ Is .f32 r (oop .add .f32 (oop .add .f32 (oop .mul .f32 (ab .f32 x) (ab .f32 x1)) (oop .mul .f32 (ab .f32 y) (ab .f32 y1))) (oop .mul .f32 (ab .f32 z) (ab .f32 z1))) | _ => True) ?_ ⟨fun j => match j with | 0 => u12 | 1 => u13 | 2 => u14 | 3 => u15 | 4 => u16 | _ => undef, rfl⟩ hG.drew ?_ ?_
      · intro j W W' v hb
        rcases j with _ | _ | _ | _ | _ | j <;> first | exact id | exact New3.call hb
      · intro i o ho hlt vals W hG hd
        rcases i with _ | _ | _ | _ | _ | i
        · refine wpOp_run ho (by cases Option.some.inj ho; rfl) ?_
          cases Option.some.inj ho
          have c0 := hG.at (b := w.heap.size) (o := 0) (v := .float .f32 x) (by simp [FnExactInnerOf_boxes])
          have c1 := hG.at (b := w.heap.size) (o := 1) (v := .float .f32 y) (by simp [FnExactInnerOf_boxes])
          have c2 := hG.at (b := w.heap.size) (o := 2) (v := .float .f32 z) (by simp [FnExactInnerOf_boxes])
          go_simp
          exact ⟨_, rfl, Below.refl _ _, hG, rfl⟩
        · refine wpOp_run ho (by cases Option.some.inj ho; rfl) ?_
          cases Option.some.inj ho
          have hc := toVector x y z W
          rw [← (show vals 0 = .agg #[.float .f32 x, .float .f32 y, .float .f32 z] from hd ⟨0, .data⟩ (by simp) rfl)] at hc
          go_simp
          refine hc.mono ?_
          rintro e w' ⟨rfl, hb⟩
          exact ⟨_, rfl, hb, hG.call hb, hd ⟨0, .data⟩ (by simp) rfl⟩
        · refine wpOp_run ho (by cases Option.some.inj ho; rfl) ?_
          cases Option.some.inj ho
          have c0 := hG.at (b := w.heap.size + 1) (o := 0) (v := .float .f32 x1) (by simp [FnExactInnerOf_boxes])
          have c1 := hG.at (b := w.heap.size + 1) (o := 1) (v := .float .f32 y1) (by simp [FnExactInnerOf_boxes])
          have c2 := hG.at (b := w.heap.size + 1) (o := 2) (v := .float .f32 z1) (by simp [FnExactInnerOf_boxes])
          go_simp
          exact ⟨_, rfl, Below.refl _ _, hG, rfl⟩
        · refine wpOp_run ho (by cases Option.some.inj ho; rfl) ?_
          cases Option.some.inj ho
          have hc := toVector x1 y1 z1 W
          rw [← (show vals 2 = .agg #[.float .f32 x1, .float .f32 y1, .float .f32 z1] from hd ⟨2, .data⟩ (by simp) rfl)] at hc
          go_simp
          refine hc.mono ?_
          rintro e w' ⟨rfl, hb⟩
          exact ⟨_, rfl, hb, hG.call hb, hd ⟨2, .data⟩ (by simp) rfl⟩
        · refine wpOp_run ho (by cases Option.some.inj ho; rfl) ?_
          cases Option.some.inj ho
          have hc := InnerOf x y z x1 y1 z1 W
          rw [← (show vals 1 = .agg #[.float .f32 x, .float .f32 y, .float .f32 z] from hd ⟨1, .data⟩ (by simp) rfl), ← (show vals 3 = .agg #[.float .f32 x1, .float .f32 y1, .float .f32 z1] from hd ⟨3, .data⟩ (by simp) rfl)] at hc
          go_simp
          refine hc.mono ?_
          rintro e w' ⟨r0, k0, rfl, hb⟩
          exact ⟨_, rfl, hb, hG.call hb, ⟨r0, rfl, k0⟩⟩
        · omega
      · intro vals W hG hR
        refine wpOp_run rfl rfl ?_
        obtain ⟨r0, e4, k0⟩ := hR 4 (by omega)
        go_simp
        go_wp2_with fail
        go_meet
        exact ⟨r0, rfl, k0, hG⟩
    case rest =>
      obtain ⟨p0, rfl, j0, hH⟩ := hcut
      have hE := Lib.hid (j0.ab.trans k0.ab.symm)
      go_wp2_with (first | (refine wpList_widen _ _ _ rfl rfl _ rfl (by rw [Try.underlying23]; rfl) Try.underlying25 ?_; intro r n hr; have er := hr.ab) | (go_at_call 19; refine (sameFloat _ _ _ ?_).mono ?_; (simp only [*]; rw [hE.out]); rintro e w' ⟨n, rfl, rfl⟩))
      go_ret
      exact ⟨rfl, below_drewN hH.below _⟩


end Go.Proofs.Ytbhbdnpcljbfdaa
