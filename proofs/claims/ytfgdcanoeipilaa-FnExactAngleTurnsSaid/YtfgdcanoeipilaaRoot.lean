/-
  The walks of the functions on roots.
-/
import Derived.Test.YtfgdcanoeipilaaOne
import Derived.Test.YtfgdcanoeipilaaVecA
import Derived.WalkKit
import Derived.WalkSpells
import Derived.WalkLawsBesides
import Derived.ProofKit
import Derived.Deep.RegionHeld3
import Derived.Deep.DrawnRows
import Derived.Deep.DeepCutAuto
import Derived.Lib.Hide
import Derived.Carry
namespace Go.Proofs.Ytfgdcanoeipilaa
open Go.RowKit Go.FL

/-- the root of a float32 -/
def oroot (o : Option Nat) : Option Nat := (osqrt (o.map wide)).map nar

theorem run_sqrt_call (v : Value) (w : World) : (callFunc 34 #[v]).run Try.prog w = ((Extern.MathSqrt.sqrt #[v]).run Try.prog w).andThen fun u w' => .ok (.value u) w' := by
  have h : (callFunc 34 #[v]).run Try.prog w = (do pure (Next.value (← Extern.MathSqrt.sqrt #[v])) : Sem Next).run Try.prog w := by kernel_rfl
  rw [h]
  simp

theorem math_Sqrt (x : Nat) (w : World) : Calls Try.prog 21 #[.float .f64 x] w (RetF .f64 (osqrt (ab .f64 x)) w) := by
  go_enter Try.func21, Try.ntmps21
  go_wp2_with (refine wpList_sqrt _ _ _ rfl rfl _ rfl (fun v w => run_sqrt_call v w) ?_; intro r n hr)
  go_ret
  exact RetF.mk _ hr

theorem spec_l01Narrow (x : Nat) (w : World) (h : ∀ v, ab .f64 x = some v → Fits v) : Calls Try.prog 33 #[.float .f64 x] w (RetF .f32 ((ab .f64 x).map nar) w) := by
  have H := Lib.hid h
  clear h
  go_enter Try.func33, Try.ntmps33
  go_wp2_with (refine wpList_narrow _ _ _ rfl rfl _ rfl (by rw [Try.underlying25]; rfl) Try.underlying22 H.out ?_; intro r n hr)
  go_ret
  exact RetF.mk _ hr

theorem impl_RootNumber (x : Nat) (w : World) : Calls Try.prog 9 #[.float .f32 x] w (RetF .f32 (oroot (ab .f32 x)) w) := by
  go_enter Try.func9, Try.ntmps9
  go_wp2_with (first | (refine wpList_widen _ _ _ rfl rfl _ rfl (by rw [Try.underlying22]; rfl) Try.underlying25 ?_; intro r n hr; have er := hr.ab) | (go_at_call 21; refine (math_Sqrt _ _).mono ?_; rintro e w' ⟨s, m, hs, rfl, rfl⟩) | (refine wpList_narrow _ _ _ rfl rfl _ rfl (by rw [Try.underlying25]; rfl) Try.underlying22 ?_ ?_; (intro v hv; rw [hs.ab, er] at hv; exact root_fits hv); intro q m2 hq))
  go_ret
  rw [hs.ab, er] at hq
  exact RetF.mk _ hq

theorem spec_l01Sqrt (x : Nat) (w : World) : Calls Try.prog 20 #[.float .f32 x] w (RetF .f32 (oroot (ab .f32 x)) w) := by
  go_enter Try.func20, Try.ntmps20
  go_wp2_with (first | (refine wpList_widen _ _ _ rfl rfl _ rfl (by rw [Try.underlying22]; rfl) Try.underlying25 ?_; intro r n hr; have er := hr.ab) | (go_at_call 21; refine (math_Sqrt _ _).mono ?_; rintro e w' ⟨s, m, hs, rfl, rfl⟩) | (go_at_call 33; refine (spec_l01Narrow _ _ ?_).mono ?_; (intro v hv; rw [hs.ab, er] at hv; exact root_fits hv); rintro e w' ⟨q, m2, hq, rfl, rfl⟩))
  go_ret
  rw [hs.ab, er] at hq
  exact RetF.mk _ hq

theorem spec_RootNumber (x : Nat) (w : World) : Calls Try.prog 8 #[.float .f32 x] w (RetF .f32 (oroot (ab .f32 x)) w) := by
  go_enter Try.func8, Try.ntmps8
  go_wp2_with (go_at_call 20; refine (spec_l01Sqrt _ _).mono ?_; rintro e w' ⟨q, m2, hq, rfl, rfl⟩)
  go_ret
  exact RetF.mk _ hq

theorem FnExactRootNumber_walk (x : Nat) (w : World) (_ : (Lit.float .f32 x).wf = true) : Calls Try.prog 3 #[.float .f32 x] w fun e w' => e = .returned (.bool true) ∧ Below w.heap.size w w' := by
  go_enter Try.func3, Try.ntmps3
  go_wp2_with (first | (go_at_call 8; refine (spec_RootNumber _ _).mono ?_; rintro e w' ⟨s, m, hs, rfl, rfl⟩; have es := hs.ab) | (go_at_call 9; refine (impl_RootNumber _ _).mono ?_; rintro e w' ⟨q, m2, hq, rfl, rfl⟩; have eq := hq.ab) | (refine wpList_widen _ _ _ rfl rfl _ rfl (by rw [Try.underlying22]; rfl) Try.underlying25 ?_; intro r n hr; have er := hr.ab) | (go_at_call 10; refine (sameFloat _ _ _ ?_).mono ?_; (simp only [*]); rintro e w' ⟨n, rfl, rfl⟩))
  go_ret
  exact ⟨rfl, (by repeat (first | exact Below.refl _ _ | refine Below.setCell ?_ (by first | (simp; done) | (simp; omega)) _ | refine Below.trans ?_ (Below.mono (by assumption) (by first | (simp; done) | (simp; omega))) | refine Below.alloc ?_ (by first | (simp; done) | (simp; omega)) _ | refine Below.alloc ?_ (Nat.le_refl _) _ | refine below_drewN ?_ _))⟩

theorem LongOf (x y z : Nat) (w : World) : Calls Try.prog 13 #[.agg #[.float .f32 x, .float .f32 y, .float .f32 z]] w (RetFB (oroot (oop .add .f32 (oop .add .f32 (oop .mul .f32 (ab .f32 x) (ab .f32 x)) (oop .mul .f32 (ab .f32 y) (ab .f32 y))) (oop .mul .f32 (ab .f32 z) (ab .f32 z)))) w) := by
  go_enter Try.func13, Try.ntmps13
  go_wp2_with fail
  refine (InnerOf _ _ _ _ _ _ _).mono ?_
  rintro e w1 ⟨r0, k0, rfl, hb⟩
  go_wp2_with fail
  refine (impl_RootNumber _ _).mono ?_
  rintro e w' ⟨q, m2, hq, rfl, rfl⟩
  go_wp2_with fail
  go_ret
  rw [k0.ab] at hq
  exact ⟨_, hq, rfl, (by repeat (first | exact Below.refl _ _ | refine Below.setCell ?_ (by first | (simp; done) | (simp; omega)) _ | refine Below.trans ?_ (Below.mono (by assumption) (by first | (simp; done) | (simp; omega))) | refine Below.alloc ?_ (by first | (simp; done) | (simp; omega)) _ | refine Below.alloc ?_ (Nat.le_refl _) _ | refine below_drewN ?_ _))⟩

theorem spec_l01Long (x y z : Nat) (w : World) : Calls Try.prog 22 #[.agg #[.float .f32 x, .float .f32 y, .float .f32 z]] w (RetFB (oroot (oop .add .f32 (oop .add .f32 (oop .mul .f32 (ab .f32 x) (ab .f32 x)) (oop .mul .f32 (ab .f32 y) (ab .f32 y))) (oop .mul .f32 (ab .f32 z) (ab .f32 z)))) w) := by
  go_enter Try.func22, Try.ntmps22
  go_wp2_with fail
  refine (l01Inner _ _ _ _ _ _ _).mono ?_
  rintro e w1 ⟨r0, k0, rfl, hb⟩
  go_wp2_with fail
  refine (spec_l01Sqrt _ _).mono ?_
  rintro e w' ⟨q, m2, hq, rfl, rfl⟩
  go_wp2_with fail
  go_ret
  rw [k0.ab] at hq
  exact ⟨_, hq, rfl, (by repeat (first | exact Below.refl _ _ | refine Below.setCell ?_ (by first | (simp; done) | (simp; omega)) _ | refine Below.trans ?_ (Below.mono (by assumption) (by first | (simp; done) | (simp; omega))) | refine Below.alloc ?_ (by first | (simp; done) | (simp; omega)) _ | refine Below.alloc ?_ (Nat.le_refl _) _ | refine below_drewN ?_ _))⟩

theorem spec_LongOf (x y z : Nat) (w : World) : Calls Try.prog 11 #[.agg #[.float .f32 x, .float .f32 y, .float .f32 z]] w (RetFB (oroot (oop .add .f32 (oop .add .f32 (oop .mul .f32 (ab .f32 x) (ab .f32 x)) (oop .mul .f32 (ab .f32 y) (ab .f32 y))) (oop .mul .f32 (ab .f32 z) (ab .f32 z)))) w) := by
  go_enter Try.func11, Try.ntmps11
  go_wp2_with fail
  refine (spec_l01Long _ _ _ _).mono ?_
  rintro e w1 ⟨r0, k0, rfl, hb⟩
  go_wp2_with fail
  go_ret
  exact ⟨_, k0, rfl, (by repeat (first | exact Below.refl _ _ | refine Below.setCell ?_ (by first | (simp; done) | (simp; omega)) _ | refine Below.trans ?_ (Below.mono (by assumption) (by first | (simp; done) | (simp; omega))) | refine Below.alloc ?_ (by first | (simp; done) | (simp; omega)) _ | refine Below.alloc ?_ (Nat.le_refl _) _ | refine below_drewN ?_ _))⟩

/-- the law's own variables -/
abbrev FnExactLongOf_boxes (w : World) (x y z : Nat) : List (Nat × Nat × Value) := [((w.heap.size), 0, Value.float .f32 x), ((w.heap.size), 1, Value.float .f32 y), ((w.heap.size), 2, Value.float .f32 z)]
theorem FnExactLongOf_start (w : World) (x y z : Nat) : GG (FnExactLongOf_boxes w x y z) (w.heap.size + 1) w.heap.size w (w.alloc (.cells #[.float .f32 x, .float .f32 y, .float .f32 z] 28)) := by
  refine ⟨?_, by simp [FnExactLongOf_boxes], by omega, by simp, Below.alloc (Below.refl _ _) (Nat.le_refl _) _⟩
  simp only [FnExactLongOf_boxes, List.forall_mem_cons]
  go_simp
set_option maxHeartbeats 1600000 in
theorem FnExactLongOf_walk (x y z : Nat) (w : World) (_ : VecOk x y z) : Calls Try.prog 4 #[.agg #[.float .f32 x, .float .f32 y, .float .f32 z]] w fun e w' => e = .returned (.bool true) ∧ Below w.heap.size w w' := by
  go_enter Try.func4, Try.ntmps4
  go_upto_region 1 with fail
  have hG0 := FnExactLongOf_start w x y z
  go_cut [3] (fun s3 wx => ∃ (r0 : Nat), s3 = .float .f32 r0 ∧ Is .f32 r0 (oroot (oop .add .f32 (oop .add .f32 (oop .mul .f32 (ab .f32 x) (ab .f32 x)) (oop .mul .f32 (ab .f32 y) (ab .f32 y))) (oop .mul .f32 (ab .f32 z) (ab .f32 z)))) ∧ GG (FnExactLongOf_boxes w x y z) (w.heap.size + 1) w.heap.size w wx)
  case first =>
    refine wp_region_steps_seq (by kernel_rfl) 3 (by kernel_rfl) (fun _ v => ⟨#[.agg #[.float .f32 x, .float .f32 y, .float .f32 z], .pointer (some ⟨w.heap.size, 0, none⟩), .bool false, undef, undef, v 0, v 1, v 2, undef, undef, undef, undef, undef, undef, undef, undef, undef], []⟩) (GG (FnExactLongOf_boxes w x y z) (w.heap.size + 1) w.heap.size w) (fun j W s => match j with | 0 => s = .agg #[.float .f32 x, .float .f32 y, .float .f32 z] | 1 => s = .agg #[.float .f32 x, .float .f32 y, .float .f32 z] | 2 => ∃ r : Nat, s = .float .f32 r ∧ Is .f32 r (oroot (oop .add .f32 (oop .add .f32 (oop .mul .f32 (ab .f32 x) (ab .f32 x)) (oop .mul .f32 (ab .f32 y) (ab .f32 y))) (oop .mul .f32 (ab .f32 z) (ab .f32 z)))) | _ => True) ?_ ?_ hG0 ?_ ?_
    · intro j W W' v hb
      rcases j with _ | _ | _ | j <;> first | exact id | exact New3.call hb
    · exact ⟨fun j => match j with | 0 => undef | 1 => undef | 2 => undef | _ => undef, rfl⟩
    · intro i o ho hlt vals W hG hd
      rcases i with _ | _ | _ | i
      · refine wpOp_run ho (by cases Option.some.inj ho; rfl) ?_
        cases Option.some.inj ho
        have c0 := hG.at (b := w.heap.size) (o := 0) (v := .float .f32 x) (by simp [FnExactLongOf_boxes])
        have c1 := hG.at (b := w.heap.size) (o := 1) (v := .float .f32 y) (by simp [FnExactLongOf_boxes])
        have c2 := hG.at (b := w.heap.size) (o := 2) (v := .float .f32 z) (by simp [FnExactLongOf_boxes])
        go_simp
        exact ⟨_, rfl, Below.refl _ _, hG, rfl⟩
      · refine wpOp_run ho (by cases Option.some.inj ho; rfl) ?_
        cases Option.some.inj ho
        have hc := toVector x y z W
        rw [← (show vals 0 = .agg #[.float .f32 x, .float .f32 y, .float .f32 z] from hd ⟨0, .data⟩ (by simp) rfl)] at hc
        go_simp
        refine hc.mono ?_
        rintro e w' ⟨rfl, hb⟩
        exact ⟨_, rfl, hb, hG.call hb, hd ⟨0, .data⟩ (by simp) rfl⟩
      · refine wpOp_run ho (by cases Option.some.inj ho; rfl) ?_
        cases Option.some.inj ho
        have hc := spec_LongOf x y z W
        rw [← (show vals 1 = .agg #[.float .f32 x, .float .f32 y, .float .f32 z] from hd ⟨1, .data⟩ (by simp) rfl)] at hc
        go_simp
        refine hc.mono ?_
        rintro e w' ⟨r0, k0, rfl, hb⟩
        exact ⟨_, rfl, hb, hG.call hb, ⟨r0, rfl, k0⟩⟩
      · omega
    · intro vals W hG hR
      refine wpOp_run rfl rfl ?_
      obtain ⟨r0, e4, k0⟩ := hR 2 (by omega)
      go_simp
      go_wp2_with fail
      go_meet
      exact ⟨r0, rfl, k0, hG⟩
  case rest =>
    obtain ⟨q0, rfl, k0, hG⟩ := hcut
    go_upto_region 2 with fail
    go_cut [4] (fun s4 wx => ∃ (r0 : Nat), s4 = .float .f32 r0 ∧ Is .f32 r0 (oroot (oop .add .f32 (oop .add .f32 (oop .mul .f32 (ab .f32 x) (ab .f32 x)) (oop .mul .f32 (ab .f32 y) (ab .f32 y))) (oop .mul .f32 (ab .f32 z) (ab .f32 z)))) ∧ GG (FnExactLongOf_boxes w x y z) (w.heap.size + 1) w.heap.size w wx)
    case first =>
      refine wp_region_steps_seq (by kernel_rfl) 3 (by kernel_rfl) (fun _ v => ⟨#[.agg #[.float .f32 x, .float .f32 y, .float .f32 z], .pointer (some ⟨w.heap.size, 0, none⟩), .bool false, .float .f32 q0, undef, u5, u6, u7, v 0, v 1, v 2, u11, u12, u13, u14, u15, u16], []⟩) (GG (FnExactLongOf_boxes w x y z) (w.heap.size + 1) w.heap.size w) (fun j W s => match j with | 0 => s = .agg #[.float .f32 x, .float .f32 y, .float .f32 z] | 1 => s = .agg #[.float .f32 x, .float .f32 y, .float .f32 z] | 2 => ∃ r : Nat, s = .float .f32 r ∧ Is .f32 r (oroot (oop .add .f32 (oop .add .f32 (oop .mul .f32 (ab .f32 x) (ab .f32 x)) (oop .mul .f32 (ab .f32 y) (ab .f32 y))) (oop .mul .f32 (ab .f32 z) (ab .f32 z)))) | _ => True) ?_ ?_ hG ?_ ?_
      · intro j W W' v hb
        rcases j with _ | _ | _ | j <;> first | exact id | exact New3.call hb
      · exact ⟨fun j => match j with | 0 => u8 | 1 => u9 | 2 => u10 | _ => undef, rfl⟩
      · intro i o ho hlt vals W hG hd
        rcases i with _ | _ | _ | i
        · refine wpOp_run ho (by cases Option.some.inj ho; rfl) ?_
          cases Option.some.inj ho
          have c0 := hG.at (b := w.heap.size) (o := 0) (v := .float .f32 x) (by simp [FnExactLongOf_boxes])
          have c1 := hG.at (b := w.heap.size) (o := 1) (v := .float .f32 y) (by simp [FnExactLongOf_boxes])
          have c2 := hG.at (b := w.heap.size) (o := 2) (v := .float .f32 z) (by simp [FnExactLongOf_boxes])
          go_simp
          exact ⟨_, rfl, Below.refl _ _, hG, rfl⟩
        · refine wpOp_run ho (by cases Option.some.inj ho; rfl) ?_
          cases Option.some.inj ho
          have hc := toVector x y z W
          rw [← (show vals 0 = .agg #[.float .f32 x, .float .f32 y, .float .f32 z] from hd ⟨0, .data⟩ (by simp) rfl)] at hc
          go_simp
          refine hc.mono ?_
          rintro e w' ⟨rfl, hb⟩
          exact ⟨_, rfl, hb, hG.call hb, hd ⟨0, .data⟩ (by simp) rfl⟩
        · refine wpOp_run ho (by cases Option.some.inj ho; rfl) ?_
          cases Option.some.inj ho
          have hc := LongOf x y z W
          rw [← (show vals 1 = .agg #[.float .f32 x, .float .f32 y, .float .f32 z] from hd ⟨1, .data⟩ (by simp) rfl)] at hc
          go_simp
          refine hc.mono ?_
          rintro e w' ⟨r0, k0, rfl, hb⟩
          exact ⟨_, rfl, hb, hG.call hb, ⟨r0, rfl, k0⟩⟩
        · omega
      · intro vals W hG hR
        refine wpOp_run rfl rfl ?_
        obtain ⟨r0, e4, k0⟩ := hR 2 (by omega)
        go_simp
        go_wp2_with fail
        go_meet
        exact ⟨r0, rfl, k0, hG⟩
    case rest =>
      obtain ⟨p0, rfl, j0, hH⟩ := hcut
      have hE := Lib.hid (j0.ab.trans k0.ab.symm)
      go_wp2_with (first | (refine wpList_widen _ _ _ rfl rfl _ rfl (by rw [Try.underlying22]; rfl) Try.underlying25 ?_; intro r n hr; have er := hr.ab) | (go_at_call 10; refine (sameFloat _ _ _ ?_).mono ?_; (simp only [*]; rw [hE.out]); rintro e w' ⟨n, rfl, rfl⟩))
      go_ret
      exact ⟨rfl, below_drewN hH.below _⟩


end Go.Proofs.Ytfgdcanoeipilaa
