/-
  The program's angle of a point that is no nought, way by way.
-/
import Derived.Test.YtfgdcanoeipilaaAngle
namespace Go.Proofs.Ytfgdcanoeipilaa
open Go.RowKit Go.FL
set_option maxHeartbeats 4000000 in
theorem impl_angle_0000 (y x : Nat) (hlY : wide y < 18446744073709551616) (hlX : wide x < 18446744073709551616) (g : Nat)
    (hfin : (fin .f32 (ab .f32 y) && fin .f32 (ab .f32 x)) = true)
    (hcy : ∀ w, (convert 22 25 (.float .f32 y)).run Try.prog w = .ok (.float .f64 (wide y)) w)
    (hcx : ∀ w, (convert 22 25 (.float .f32 x)).run Try.prog w = .ok (.float .f64 (wide x)) w)
    (hgt : (FloatKind.f64.format.order (rg Ieee.double (wide y)) (rg Ieee.double (wide x)) == some .gt) = false)
    (HA : Hid (ab .f64 (rg Ieee.double (wide y)) = some (rg Ieee.double (wide y)))) (HB : Hid (ab .f64 (rg Ieee.double (wide x)) = some (rg Ieee.double (wide x))))
    (hzx : (FloatKind.f32.format.order x 0 == some .eq) = false)
    (hlx : (FloatKind.f32.format.order x 0 == some .lt) = false) (hly : (FloatKind.f32.format.order y 0 == some .lt) = false)
    (HW : Hid (AngWay (wide y) (wide x) false false false g)) (w : World) :
    Calls Try.prog 19 #[.float .f32 y, .float .f32 x] w (RetFB ((wangle (ab .f64 (wide y)) (ab .f64 (wide x))).map nar) w) := by
  go_enter Try.func19, Try.ntmps19
  have k1 : True := trivial
  go_wp2_with (first | (go_at_call 32; refine (finite2 _ y x _ (by simp) (by simp)).mono ?_; rintro e w' ⟨n, rfl, rfl⟩) | (go_at_call 29; refine (math_Abs _ (by assumption) _).mono ?_; rintro e w' ⟨rfl, rfl⟩) | (have t := k1; (refine wpList_arith _ _ _ _ _ rfl rfl _ _ _ rfl rfl rfl ?_); intro r1 m1 h1; have H1 := Lib.hid h1; clear h1 k1 t))
  go_loopw [42, 7] (fun s42 s7 wr => ∃ (j t n : Nat), j ≤ 3 ∧ s42 = .int .i64 j ∧ s7 = .float .f64 t ∧ Is .f64 t (tN (angT (rg Ieee.double (wide y)) (rg Ieee.double (wide x))) j) ∧ wr = (w.alloc (.cells #[.float .f32 y, .float .f32 x] 22)).drewN n) (fun s42 _ _ => 3 - (intOf s42).toNat)
  case atStart => exact ⟨0, _, _, by omega, rfl, rfl, angle_under hgt HA.out HB.out H1.out, rfl⟩
  case round =>
    obtain ⟨j, t, n, hj, rfl, rfl, ht, rfl⟩ := hrel
    have HC := Lib.hid ht
    clear ht
    by_cases hlt : j < 3
    · have k1 : True := trivial
      have k2 : True := trivial
      have k3 : True := trivial
      have k4 : True := trivial
      go_wp2_with (first | (have t := k1; (refine wpList_arith _ _ _ _ _ rfl rfl _ _ _ rfl rfl rfl ?_); intro q m1 h1; have H1 := Lib.hid h1; clear h1 k1 t) | (have t := k2; (refine wpList_arith _ _ _ _ _ rfl rfl _ _ _ rfl rfl rfl ?_); intro r m2 h2; have H2 := Lib.hid h2; clear h2 k2 t) | (have t := k3; (refine wpList_arith _ _ _ _ _ rfl rfl _ _ _ rfl rfl rfl ?_); intro z m3 h3; have H3 := Lib.hid h3; clear h3 k3 t) | (have t := k4; (refine wpList_arith _ _ _ _ _ rfl rfl _ _ _ rfl rfl rfl ?_); intro t' m4 h4; have H4 := Lib.hid h4; clear h4 k4 t) | (go_at_call 21; refine (math_Sqrt _ _).mono ?_; rintro e w' ⟨s, ms, hs, rfl, rfl⟩; have HS := Lib.hid hs; clear hs))
      go_roundw
      case rel =>
        have h4 := H4.out
        rw [H3.out.ab, HS.out.ab, H2.out.ab, H1.out.ab, HC.out.ab, sine_one] at h4
        exact ⟨j + 1, t', _, by omega, by go_num, rfl, h4, rfl⟩
      case measure => simp [intOf]; omega
    · obtain rfl : j = 3 := by omega
      have k1 : True := trivial
      go_wp2_with (first | (have t := k1; (refine wpList_arith _ _ _ _ _ rfl rfl _ _ _ rfl rfl rfl ?_); intro u m1 h1; have H1 := Lib.hid h1; clear h1 k1 t))
      have hu : ab .f64 u = oop .mul .f64 (tN (angT (rg Ieee.double (wide y)) (rg Ieee.double (wide x))) 3) (tN (angT (rg Ieee.double (wide y)) (rg Ieee.double (wide x))) 3) := by rw [H1.out.ab, HC.out.ab]
      have HU := Lib.hid hu
      clear hu H1
      go_loopw [9, 10] (fun s9 s10 wr => ∃ (j q n : Nat), j ≤ 8 ∧ s10 = .int .i64 (15 - 2 * (j : Int)) ∧ s9 = .float .f64 q ∧ Is .f64 q (pA (oop .mul .f64 (tN (angT (rg Ieee.double (wide y)) (rg Ieee.double (wide x))) 3) (tN (angT (rg Ieee.double (wide y)) (rg Ieee.double (wide x))) 3)) j) ∧ wr = (w.alloc (.cells #[.float .f32 y, .float .f32 x] 22)).drewN n) (fun _ s10 _ => (intOf s10 + 1).toNat)
      case atStart => exact ⟨0, 0, _, by omega, rfl, rfl, ⟨rfl, by decide⟩, rfl⟩
      case round =>
        obtain ⟨j, q, n, hj, rfl, rfl, hq, rfl⟩ := hrel
        have HQ := Lib.hid hq
        clear hq
        by_cases hlt : j < 8
        · have k1 : True := trivial
          have k2 : True := trivial
          have k3 : True := trivial
          go_wp2_with (first | (have t := k1; (refine wpList_arith _ _ _ _ _ rfl rfl _ _ _ rfl rfl rfl ?_); intro r1 m1 h1; have H1 := Lib.hid h1; clear h1 k1 t) | (have t := k2; (refine wpList_arith _ _ _ _ _ rfl rfl _ _ _ rfl rfl rfl ?_); intro r2 m2 h2; have H2 := Lib.hid h2; clear h2 k2 t) | (have t := k3; (refine wpList_arith _ _ _ _ _ rfl rfl _ _ _ rfl rfl rfl ?_); intro q' m3 h3; have H3 := Lib.hid h3; clear h3 k3 t))
          go_roundw
          case rel =>
            have h3 := H3.out
            rw [H1.out.ab, H2.out.ab, HU.out, HQ.out.ab, sine_one, show floatOfInt .f64 (15 - 2 * (j : Int)) = flJ (15 - 2 * (j : Int)) from rfl, ab_flJ] at h3
            exact ⟨j + 1, q', _, by omega, by simp; omega, rfl, h3, rfl⟩
          case measure => simp [intOf]; omega
        · obtain rfl : j = 8 := by omega
          have k1 : True := trivial
          have k2 : True := trivial
          have k3 : True := trivial
          go_wp2_with (first | (have t := k1; (refine wpList_arith _ _ _ _ _ rfl rfl _ _ _ rfl rfl rfl ?_); intro r1 m1 h1; have H1 := Lib.hid h1; clear h1 k1 t) | (have t := k2; (refine wpList_arith _ _ _ _ _ rfl rfl _ _ _ rfl rfl rfl ?_); intro r2 m2 h2; have H2 := Lib.hid h2; clear h2 k2 t) | (have t := k3; (refine wpList_arith _ _ _ _ _ rfl rfl _ _ _ rfl rfl rfl ?_); intro r3 m3 h3; have H3 := Lib.hid h3; clear h3 k3 t) | (refine wpList_narrow _ _ _ rfl rfl _ rfl (by rw [Try.underlying25]; rfl) Try.underlying22 ?_ ?_; (intro v hv; exact sine_fits false HW.out.lt HW.out.bd (ang_eq HW (by have h := H3.out; rw [H2.out.ab, H1.out.ab, HQ.out.ab, HC.out.ab, ang_eight, ang_turn] at h; exact h)) v hv); intro r' n' hr'))
          go_ret
          have ha := (ang_eq HW (by have h := H3.out; rw [H2.out.ab, H1.out.ab, HQ.out.ab, HC.out.ab, ang_eight, ang_turn] at h; exact h))
          refine ⟨_, ang_end false HW ha hr', rfl, ?_⟩
          exact (by repeat (first | exact Below.refl _ _ | refine Below.setCell ?_ (by first | (simp; done) | (simp; omega)) _ | refine Below.trans ?_ (Below.mono (by assumption) (by first | (simp; done) | (simp; omega))) | refine Below.alloc ?_ (by first | (simp; done) | (simp; omega)) _ | refine Below.alloc ?_ (Nat.le_refl _) _ | refine below_drewN ?_ _))

set_option maxHeartbeats 4000000 in
theorem impl_angle_0010 (y x : Nat) (hlY : wide y < 18446744073709551616) (hlX : wide x < 18446744073709551616) (g : Nat)
    (hfin : (fin .f32 (ab .f32 y) && fin .f32 (ab .f32 x)) = true)
    (hcy : ∀ w, (convert 22 25 (.float .f32 y)).run Try.prog w = .ok (.float .f64 (wide y)) w)
    (hcx : ∀ w, (convert 22 25 (.float .f32 x)).run Try.prog w = .ok (.float .f64 (wide x)) w)
    (hgt : (FloatKind.f64.format.order (rg Ieee.double (wide y)) (rg Ieee.double (wide x)) == some .gt) = false)
    (HA : Hid (ab .f64 (rg Ieee.double (wide y)) = some (rg Ieee.double (wide y)))) (HB : Hid (ab .f64 (rg Ieee.double (wide x)) = some (rg Ieee.double (wide x))))
    (hzx : (FloatKind.f32.format.order x 0 == some .eq) = false)
    (hlx : (FloatKind.f32.format.order x 0 == some .lt) = false) (hly : (FloatKind.f32.format.order y 0 == some .lt) = true)
    (HW : Hid (AngWay (wide y) (wide x) false false true g)) (w : World) :
    Calls Try.prog 19 #[.float .f32 y, .float .f32 x] w (RetFB ((wangle (ab .f64 (wide y)) (ab .f64 (wide x))).map nar) w) := by
  go_enter Try.func19, Try.ntmps19
  have k1 : True := trivial
  go_wp2_with (first | (go_at_call 32; refine (finite2 _ y x _ (by simp) (by simp)).mono ?_; rintro e w' ⟨n, rfl, rfl⟩) | (go_at_call 29; refine (math_Abs _ (by assumption) _).mono ?_; rintro e w' ⟨rfl, rfl⟩) | (have t := k1; (refine wpList_arith _ _ _ _ _ rfl rfl _ _ _ rfl rfl rfl ?_); intro r1 m1 h1; have H1 := Lib.hid h1; clear h1 k1 t))
  go_loopw [42, 7] (fun s42 s7 wr => ∃ (j t n : Nat), j ≤ 3 ∧ s42 = .int .i64 j ∧ s7 = .float .f64 t ∧ Is .f64 t (tN (angT (rg Ieee.double (wide y)) (rg Ieee.double (wide x))) j) ∧ wr = (w.alloc (.cells #[.float .f32 y, .float .f32 x] 22)).drewN n) (fun s42 _ _ => 3 - (intOf s42).toNat)
  case atStart => exact ⟨0, _, _, by omega, rfl, rfl, angle_under hgt HA.out HB.out H1.out, rfl⟩
  case round =>
    obtain ⟨j, t, n, hj, rfl, rfl, ht, rfl⟩ := hrel
    have HC := Lib.hid ht
    clear ht
    by_cases hlt : j < 3
    · have k1 : True := trivial
      have k2 : True := trivial
      have k3 : True := trivial
      have k4 : True := trivial
      go_wp2_with (first | (have t := k1; (refine wpList_arith _ _ _ _ _ rfl rfl _ _ _ rfl rfl rfl ?_); intro q m1 h1; have H1 := Lib.hid h1; clear h1 k1 t) | (have t := k2; (refine wpList_arith _ _ _ _ _ rfl rfl _ _ _ rfl rfl rfl ?_); intro r m2 h2; have H2 := Lib.hid h2; clear h2 k2 t) | (have t := k3; (refine wpList_arith _ _ _ _ _ rfl rfl _ _ _ rfl rfl rfl ?_); intro z m3 h3; have H3 := Lib.hid h3; clear h3 k3 t) | (have t := k4; (refine wpList_arith _ _ _ _ _ rfl rfl _ _ _ rfl rfl rfl ?_); intro t' m4 h4; have H4 := Lib.hid h4; clear h4 k4 t) | (go_at_call 21; refine (math_Sqrt _ _).mono ?_; rintro e w' ⟨s, ms, hs, rfl, rfl⟩; have HS := Lib.hid hs; clear hs))
      go_roundw
      case rel =>
        have h4 := H4.out
        rw [H3.out.ab, HS.out.ab, H2.out.ab, H1.out.ab, HC.out.ab, sine_one] at h4
        exact ⟨j + 1, t', _, by omega, by go_num, rfl, h4, rfl⟩
      case measure => simp [intOf]; omega
    · obtain rfl : j = 3 := by omega
      have k1 : True := trivial
      go_wp2_with (first | (have t := k1; (refine wpList_arith _ _ _ _ _ rfl rfl _ _ _ rfl rfl rfl ?_); intro u m1 h1; have H1 := Lib.hid h1; clear h1 k1 t))
      have hu : ab .f64 u = oop .mul .f64 (tN (angT (rg Ieee.double (wide y)) (rg Ieee.double (wide x))) 3) (tN (angT (rg Ieee.double (wide y)) (rg Ieee.double (wide x))) 3) := by rw [H1.out.ab, HC.out.ab]
      have HU := Lib.hid hu
      clear hu H1
      go_loopw [9, 10] (fun s9 s10 wr => ∃ (j q n : Nat), j ≤ 8 ∧ s10 = .int .i64 (15 - 2 * (j : Int)) ∧ s9 = .float .f64 q ∧ Is .f64 q (pA (oop .mul .f64 (tN (angT (rg Ieee.double (wide y)) (rg Ieee.double (wide x))) 3) (tN (angT (rg Ieee.double (wide y)) (rg Ieee.double (wide x))) 3)) j) ∧ wr = (w.alloc (.cells #[.float .f32 y, .float .f32 x] 22)).drewN n) (fun _ s10 _ => (intOf s10 + 1).toNat)
      case atStart => exact ⟨0, 0, _, by omega, rfl, rfl, ⟨rfl, by decide⟩, rfl⟩
      case round =>
        obtain ⟨j, q, n, hj, rfl, rfl, hq, rfl⟩ := hrel
        have HQ := Lib.hid hq
        clear hq
        by_cases hlt : j < 8
        · have k1 : True := trivial
          have k2 : True := trivial
          have k3 : True := trivial
          go_wp2_with (first | (have t := k1; (refine wpList_arith _ _ _ _ _ rfl rfl _ _ _ rfl rfl rfl ?_); intro r1 m1 h1; have H1 := Lib.hid h1; clear h1 k1 t) | (have t := k2; (refine wpList_arith _ _ _ _ _ rfl rfl _ _ _ rfl rfl rfl ?_); intro r2 m2 h2; have H2 := Lib.hid h2; clear h2 k2 t) | (have t := k3; (refine wpList_arith _ _ _ _ _ rfl rfl _ _ _ rfl rfl rfl ?_); intro q' m3 h3; have H3 := Lib.hid h3; clear h3 k3 t))
          go_roundw
          case rel =>
            have h3 := H3.out
            rw [H1.out.ab, H2.out.ab, HU.out, HQ.out.ab, sine_one, show floatOfInt .f64 (15 - 2 * (j : Int)) = flJ (15 - 2 * (j : Int)) from rfl, ab_flJ] at h3
            exact ⟨j + 1, q', _, by omega, by simp; omega, rfl, h3, rfl⟩
          case measure => simp [intOf]; omega
        · obtain rfl : j = 8 := by omega
          have k1 : True := trivial
          have k2 : True := trivial
          have k3 : True := trivial
          go_wp2_with (first | (have t := k1; (refine wpList_arith _ _ _ _ _ rfl rfl _ _ _ rfl rfl rfl ?_); intro r1 m1 h1; have H1 := Lib.hid h1; clear h1 k1 t) | (have t := k2; (refine wpList_arith _ _ _ _ _ rfl rfl _ _ _ rfl rfl rfl ?_); intro r2 m2 h2; have H2 := Lib.hid h2; clear h2 k2 t) | (have t := k3; (refine wpList_arith _ _ _ _ _ rfl rfl _ _ _ rfl rfl rfl ?_); intro r3 m3 h3; have H3 := Lib.hid h3; clear h3 k3 t) | (refine wpList_narrow _ _ _ rfl rfl _ rfl (by rw [Try.underlying25]; rfl) Try.underlying22 ?_ ?_; (intro v hv; exact sine_fits true HW.out.lt HW.out.bd (ang_eq HW (by have h := H3.out; rw [H2.out.ab, H1.out.ab, HQ.out.ab, HC.out.ab, ang_eight, ang_turn] at h; exact h)) v hv); intro r' n' hr'))
          go_ret
          have ha := (ang_eq HW (by have h := H3.out; rw [H2.out.ab, H1.out.ab, HQ.out.ab, HC.out.ab, ang_eight, ang_turn] at h; exact h))
          refine ⟨_, ang_end true HW ha hr', rfl, ?_⟩
          exact (by repeat (first | exact Below.refl _ _ | refine Below.setCell ?_ (by first | (simp; done) | (simp; omega)) _ | refine Below.trans ?_ (Below.mono (by assumption) (by first | (simp; done) | (simp; omega))) | refine Below.alloc ?_ (by first | (simp; done) | (simp; omega)) _ | refine Below.alloc ?_ (Nat.le_refl _) _ | refine below_drewN ?_ _))

set_option maxHeartbeats 4000000 in
theorem impl_angle_0100 (y x : Nat) (hlY : wide y < 18446744073709551616) (hlX : wide x < 18446744073709551616) (g : Nat)
    (hfin : (fin .f32 (ab .f32 y) && fin .f32 (ab .f32 x)) = true)
    (hcy : ∀ w, (convert 22 25 (.float .f32 y)).run Try.prog w = .ok (.float .f64 (wide y)) w)
    (hcx : ∀ w, (convert 22 25 (.float .f32 x)).run Try.prog w = .ok (.float .f64 (wide x)) w)
    (hgt : (FloatKind.f64.format.order (rg Ieee.double (wide y)) (rg Ieee.double (wide x)) == some .gt) = false)
    (HA : Hid (ab .f64 (rg Ieee.double (wide y)) = some (rg Ieee.double (wide y)))) (HB : Hid (ab .f64 (rg Ieee.double (wide x)) = some (rg Ieee.double (wide x))))
    (hzx : (FloatKind.f32.format.order x 0 == some .eq) = false)
    (hlx : (FloatKind.f32.format.order x 0 == some .lt) = true) (hly : (FloatKind.f32.format.order y 0 == some .lt) = false)
    (HW : Hid (AngWay (wide y) (wide x) false true false g)) (w : World) :
    Calls Try.prog 19 #[.float .f32 y, .float .f32 x] w (RetFB ((wangle (ab .f64 (wide y)) (ab .f64 (wide x))).map nar) w) := by
  go_enter Try.func19, Try.ntmps19
  have k1 : True := trivial
  go_wp2_with (first | (go_at_call 32; refine (finite2 _ y x _ (by simp) (by simp)).mono ?_; rintro e w' ⟨n, rfl, rfl⟩) | (go_at_call 29; refine (math_Abs _ (by assumption) _).mono ?_; rintro e w' ⟨rfl, rfl⟩) | (have t := k1; (refine wpList_arith _ _ _ _ _ rfl rfl _ _ _ rfl rfl rfl ?_); intro r1 m1 h1; have H1 := Lib.hid h1; clear h1 k1 t))
  go_loopw [42, 7] (fun s42 s7 wr => ∃ (j t n : Nat), j ≤ 3 ∧ s42 = .int .i64 j ∧ s7 = .float .f64 t ∧ Is .f64 t (tN (angT (rg Ieee.double (wide y)) (rg Ieee.double (wide x))) j) ∧ wr = (w.alloc (.cells #[.float .f32 y, .float .f32 x] 22)).drewN n) (fun s42 _ _ => 3 - (intOf s42).toNat)
  case atStart => exact ⟨0, _, _, by omega, rfl, rfl, angle_under hgt HA.out HB.out H1.out, rfl⟩
  case round =>
    obtain ⟨j, t, n, hj, rfl, rfl, ht, rfl⟩ := hrel
    have HC := Lib.hid ht
    clear ht
    by_cases hlt : j < 3
    · have k1 : True := trivial
      have k2 : True := trivial
      have k3 : True := trivial
      have k4 : True := trivial
      go_wp2_with (first | (have t := k1; (refine wpList_arith _ _ _ _ _ rfl rfl _ _ _ rfl rfl rfl ?_); intro q m1 h1; have H1 := Lib.hid h1; clear h1 k1 t) | (have t := k2; (refine wpList_arith _ _ _ _ _ rfl rfl _ _ _ rfl rfl rfl ?_); intro r m2 h2; have H2 := Lib.hid h2; clear h2 k2 t) | (have t := k3; (refine wpList_arith _ _ _ _ _ rfl rfl _ _ _ rfl rfl rfl ?_); intro z m3 h3; have H3 := Lib.hid h3; clear h3 k3 t) | (have t := k4; (refine wpList_arith _ _ _ _ _ rfl rfl _ _ _ rfl rfl rfl ?_); intro t' m4 h4; have H4 := Lib.hid h4; clear h4 k4 t) | (go_at_call 21; refine (math_Sqrt _ _).mono ?_; rintro e w' ⟨s, ms, hs, rfl, rfl⟩; have HS := Lib.hid hs; clear hs))
      go_roundw
      case rel =>
        have h4 := H4.out
        rw [H3.out.ab, HS.out.ab, H2.out.ab, H1.out.ab, HC.out.ab, sine_one] at h4
        exact ⟨j + 1, t', _, by omega, by go_num, rfl, h4, rfl⟩
      case measure => simp [intOf]; omega
    · obtain rfl : j = 3 := by omega
      have k1 : True := trivial
      go_wp2_with (first | (have t := k1; (refine wpList_arith _ _ _ _ _ rfl rfl _ _ _ rfl rfl rfl ?_); intro u m1 h1; have H1 := Lib.hid h1; clear h1 k1 t))
      have hu : ab .f64 u = oop .mul .f64 (tN (angT (rg Ieee.double (wide y)) (rg Ieee.double (wide x))) 3) (tN (angT (rg Ieee.double (wide y)) (rg Ieee.double (wide x))) 3) := by rw [H1.out.ab, HC.out.ab]
      have HU := Lib.hid hu
      clear hu H1
      go_loopw [9, 10] (fun s9 s10 wr => ∃ (j q n : Nat), j ≤ 8 ∧ s10 = .int .i64 (15 - 2 * (j : Int)) ∧ s9 = .float .f64 q ∧ Is .f64 q (pA (oop .mul .f64 (tN (angT (rg Ieee.double (wide y)) (rg Ieee.double (wide x))) 3) (tN (angT (rg Ieee.double (wide y)) (rg Ieee.double (wide x))) 3)) j) ∧ wr = (w.alloc (.cells #[.float .f32 y, .float .f32 x] 22)).drewN n) (fun _ s10 _ => (intOf s10 + 1).toNat)
      case atStart => exact ⟨0, 0, _, by omega, rfl, rfl, ⟨rfl, by decide⟩, rfl⟩
      case round =>
        obtain ⟨j, q, n, hj, rfl, rfl, hq, rfl⟩ := hrel
        have HQ := Lib.hid hq
        clear hq
        by_cases hlt : j < 8
        · have k1 : True := trivial
          have k2 : True := trivial
          have k3 : True := trivial
          go_wp2_with (first | (have t := k1; (refine wpList_arith _ _ _ _ _ rfl rfl _ _ _ rfl rfl rfl ?_); intro r1 m1 h1; have H1 := Lib.hid h1; clear h1 k1 t) | (have t := k2; (refine wpList_arith _ _ _ _ _ rfl rfl _ _ _ rfl rfl rfl ?_); intro r2 m2 h2; have H2 := Lib.hid h2; clear h2 k2 t) | (have t := k3; (refine wpList_arith _ _ _ _ _ rfl rfl _ _ _ rfl rfl rfl ?_); intro q' m3 h3; have H3 := Lib.hid h3; clear h3 k3 t))
          go_roundw
          case rel =>
            have h3 := H3.out
            rw [H1.out.ab, H2.out.ab, HU.out, HQ.out.ab, sine_one, show floatOfInt .f64 (15 - 2 * (j : Int)) = flJ (15 - 2 * (j : Int)) from rfl, ab_flJ] at h3
            exact ⟨j + 1, q', _, by omega, by simp; omega, rfl, h3, rfl⟩
          case measure => simp [intOf]; omega
        · obtain rfl : j = 8 := by omega
          have k1 : True := trivial
          have k2 : True := trivial
          have k3 : True := trivial
          have k4 : True := trivial
          go_wp2_with (first | (have t := k1; (refine wpList_arith _ _ _ _ _ rfl rfl _ _ _ rfl rfl rfl ?_); intro r1 m1 h1; have H1 := Lib.hid h1; clear h1 k1 t) | (have t := k2; (refine wpList_arith _ _ _ _ _ rfl rfl _ _ _ rfl rfl rfl ?_); intro r2 m2 h2; have H2 := Lib.hid h2; clear h2 k2 t) | (have t := k3; (refine wpList_arith _ _ _ _ _ rfl rfl _ _ _ rfl rfl rfl ?_); intro r3 m3 h3; have H3 := Lib.hid h3; clear h3 k3 t) | (have t := k4; (refine wpList_arith _ _ _ _ _ rfl rfl _ _ _ rfl rfl rfl ?_); intro r5 m4 h4; have H4 := Lib.hid h4; clear h4 k4 t) | (refine wpList_narrow _ _ _ rfl rfl _ rfl (by rw [Try.underlying25]; rfl) Try.underlying22 ?_ ?_; (intro v hv; exact sine_fits false HW.out.lt HW.out.bd (ang_eq HW (by have h := H4.out; rw [ang_half, H3.out.ab, H2.out.ab, H1.out.ab, HQ.out.ab, HC.out.ab, ang_eight, ang_turn] at h; exact h)) v hv); intro r' n' hr'))
          go_ret
          have ha := (ang_eq HW (by have h := H4.out; rw [ang_half, H3.out.ab, H2.out.ab, H1.out.ab, HQ.out.ab, HC.out.ab, ang_eight, ang_turn] at h; exact h))
          refine ⟨_, ang_end false HW ha hr', rfl, ?_⟩
          exact (by repeat (first | exact Below.refl _ _ | refine Below.setCell ?_ (by first | (simp; done) | (simp; omega)) _ | refine Below.trans ?_ (Below.mono (by assumption) (by first | (simp; done) | (simp; omega))) | refine Below.alloc ?_ (by first | (simp; done) | (simp; omega)) _ | refine Below.alloc ?_ (Nat.le_refl _) _ | refine below_drewN ?_ _))

set_option maxHeartbeats 4000000 in
theorem impl_angle_0110 (y x : Nat) (hlY : wide y < 18446744073709551616) (hlX : wide x < 18446744073709551616) (g : Nat)
    (hfin : (fin .f32 (ab .f32 y) && fin .f32 (ab .f32 x)) = true)
    (hcy : ∀ w, (convert 22 25 (.float .f32 y)).run Try.prog w = .ok (.float .f64 (wide y)) w)
    (hcx : ∀ w, (convert 22 25 (.float .f32 x)).run Try.prog w = .ok (.float .f64 (wide x)) w)
    (hgt : (FloatKind.f64.format.order (rg Ieee.double (wide y)) (rg Ieee.double (wide x)) == some .gt) = false)
    (HA : Hid (ab .f64 (rg Ieee.double (wide y)) = some (rg Ieee.double (wide y)))) (HB : Hid (ab .f64 (rg Ieee.double (wide x)) = some (rg Ieee.double (wide x))))
    (hzx : (FloatKind.f32.format.order x 0 == some .eq) = false)
    (hlx : (FloatKind.f32.format.order x 0 == some .lt) = true) (hly : (FloatKind.f32.format.order y 0 == some .lt) = true)
    (HW : Hid (AngWay (wide y) (wide x) false true true g)) (w : World) :
    Calls Try.prog 19 #[.float .f32 y, .float .f32 x] w (RetFB ((wangle (ab .f64 (wide y)) (ab .f64 (wide x))).map nar) w) := by
  go_enter Try.func19, Try.ntmps19
  have k1 : True := trivial
  go_wp2_with (first | (go_at_call 32; refine (finite2 _ y x _ (by simp) (by simp)).mono ?_; rintro e w' ⟨n, rfl, rfl⟩) | (go_at_call 29; refine (math_Abs _ (by assumption) _).mono ?_; rintro e w' ⟨rfl, rfl⟩) | (have t := k1; (refine wpList_arith _ _ _ _ _ rfl rfl _ _ _ rfl rfl rfl ?_); intro r1 m1 h1; have H1 := Lib.hid h1; clear h1 k1 t))
  go_loopw [42, 7] (fun s42 s7 wr => ∃ (j t n : Nat), j ≤ 3 ∧ s42 = .int .i64 j ∧ s7 = .float .f64 t ∧ Is .f64 t (tN (angT (rg Ieee.double (wide y)) (rg Ieee.double (wide x))) j) ∧ wr = (w.alloc (.cells #[.float .f32 y, .float .f32 x] 22)).drewN n) (fun s42 _ _ => 3 - (intOf s42).toNat)
  case atStart => exact ⟨0, _, _, by omega, rfl, rfl, angle_under hgt HA.out HB.out H1.out, rfl⟩
  case round =>
    obtain ⟨j, t, n, hj, rfl, rfl, ht, rfl⟩ := hrel
    have HC := Lib.hid ht
    clear ht
    by_cases hlt : j < 3
    · have k1 : True := trivial
      have k2 : True := trivial
      have k3 : True := trivial
      have k4 : True := trivial
      go_wp2_with (first | (have t := k1; (refine wpList_arith _ _ _ _ _ rfl rfl _ _ _ rfl rfl rfl ?_); intro q m1 h1; have H1 := Lib.hid h1; clear h1 k1 t) | (have t := k2; (refine wpList_arith _ _ _ _ _ rfl rfl _ _ _ rfl rfl rfl ?_); intro r m2 h2; have H2 := Lib.hid h2; clear h2 k2 t) | (have t := k3; (refine wpList_arith _ _ _ _ _ rfl rfl _ _ _ rfl rfl rfl ?_); intro z m3 h3; have H3 := Lib.hid h3; clear h3 k3 t) | (have t := k4; (refine wpList_arith _ _ _ _ _ rfl rfl _ _ _ rfl rfl rfl ?_); intro t' m4 h4; have H4 := Lib.hid h4; clear h4 k4 t) | (go_at_call 21; refine (math_Sqrt _ _).mono ?_; rintro e w' ⟨s, ms, hs, rfl, rfl⟩; have HS := Lib.hid hs; clear hs))
      go_roundw
      case rel =>
        have h4 := H4.out
        rw [H3.out.ab, HS.out.ab, H2.out.ab, H1.out.ab, HC.out.ab, sine_one] at h4
        exact ⟨j + 1, t', _, by omega, by go_num, rfl, h4, rfl⟩
      case measure => simp [intOf]; omega
    · obtain rfl : j = 3 := by omega
      have k1 : True := trivial
      go_wp2_with (first | (have t := k1; (refine wpList_arith _ _ _ _ _ rfl rfl _ _ _ rfl rfl rfl ?_); intro u m1 h1; have H1 := Lib.hid h1; clear h1 k1 t))
      have hu : ab .f64 u = oop .mul .f64 (tN (angT (rg Ieee.double (wide y)) (rg Ieee.double (wide x))) 3) (tN (angT (rg Ieee.double (wide y)) (rg Ieee.double (wide x))) 3) := by rw [H1.out.ab, HC.out.ab]
      have HU := Lib.hid hu
      clear hu H1
      go_loopw [9, 10] (fun s9 s10 wr => ∃ (j q n : Nat), j ≤ 8 ∧ s10 = .int .i64 (15 - 2 * (j : Int)) ∧ s9 = .float .f64 q ∧ Is .f64 q (pA (oop .mul .f64 (tN (angT (rg Ieee.double (wide y)) (rg Ieee.double (wide x))) 3) (tN (angT (rg Ieee.double (wide y)) (rg Ieee.double (wide x))) 3)) j) ∧ wr = (w.alloc (.cells #[.float .f32 y, .float .f32 x] 22)).drewN n) (fun _ s10 _ => (intOf s10 + 1).toNat)
      case atStart => exact ⟨0, 0, _, by omega, rfl, rfl, ⟨rfl, by decide⟩, rfl⟩
      case round =>
        obtain ⟨j, q, n, hj, rfl, rfl, hq, rfl⟩ := hrel
        have HQ := Lib.hid hq
        clear hq
        by_cases hlt : j < 8
        · have k1 : True := trivial
          have k2 : True := trivial
          have k3 : True := trivial
          go_wp2_with (first | (have t := k1; (refine wpList_arith _ _ _ _ _ rfl rfl _ _ _ rfl rfl rfl ?_); intro r1 m1 h1; have H1 := Lib.hid h1; clear h1 k1 t) | (have t := k2; (refine wpList_arith _ _ _ _ _ rfl rfl _ _ _ rfl rfl rfl ?_); intro r2 m2 h2; have H2 := Lib.hid h2; clear h2 k2 t) | (have t := k3; (refine wpList_arith _ _ _ _ _ rfl rfl _ _ _ rfl rfl rfl ?_); intro q' m3 h3; have H3 := Lib.hid h3; clear h3 k3 t))
          go_roundw
          case rel =>
            have h3 := H3.out
            rw [H1.out.ab, H2.out.ab, HU.out, HQ.out.ab, sine_one, show floatOfInt .f64 (15 - 2 * (j : Int)) = flJ (15 - 2 * (j : Int)) from rfl, ab_flJ] at h3
            exact ⟨j + 1, q', _, by omega, by simp; omega, rfl, h3, rfl⟩
          case measure => simp [intOf]; omega
        · obtain rfl : j = 8 := by omega
          have k1 : True := trivial
          have k2 : True := trivial
          have k3 : True := trivial
          have k4 : True := trivial
          go_wp2_with (first | (have t := k1; (refine wpList_arith _ _ _ _ _ rfl rfl _ _ _ rfl rfl rfl ?_); intro r1 m1 h1; have H1 := Lib.hid h1; clear h1 k1 t) | (have t := k2; (refine wpList_arith _ _ _ _ _ rfl rfl _ _ _ rfl rfl rfl ?_); intro r2 m2 h2; have H2 := Lib.hid h2; clear h2 k2 t) | (have t := k3; (refine wpList_arith _ _ _ _ _ rfl rfl _ _ _ rfl rfl rfl ?_); intro r3 m3 h3; have H3 := Lib.hid h3; clear h3 k3 t) | (have t := k4; (refine wpList_arith _ _ _ _ _ rfl rfl _ _ _ rfl rfl rfl ?_); intro r5 m4 h4; have H4 := Lib.hid h4; clear h4 k4 t) | (refine wpList_narrow _ _ _ rfl rfl _ rfl (by rw [Try.underlying25]; rfl) Try.underlying22 ?_ ?_; (intro v hv; exact sine_fits true HW.out.lt HW.out.bd (ang_eq HW (by have h := H4.out; rw [ang_half, H3.out.ab, H2.out.ab, H1.out.ab, HQ.out.ab, HC.out.ab, ang_eight, ang_turn] at h; exact h)) v hv); intro r' n' hr'))
          go_ret
          have ha := (ang_eq HW (by have h := H4.out; rw [ang_half, H3.out.ab, H2.out.ab, H1.out.ab, HQ.out.ab, HC.out.ab, ang_eight, ang_turn] at h; exact h))
          refine ⟨_, ang_end true HW ha hr', rfl, ?_⟩
          exact (by repeat (first | exact Below.refl _ _ | refine Below.setCell ?_ (by first | (simp; done) | (simp; omega)) _ | refine Below.trans ?_ (Below.mono (by assumption) (by first | (simp; done) | (simp; omega))) | refine Below.alloc ?_ (by first | (simp; done) | (simp; omega)) _ | refine Below.alloc ?_ (Nat.le_refl _) _ | refine below_drewN ?_ _))

set_option maxHeartbeats 4000000 in
theorem impl_angle_1000 (y x : Nat) (hlY : wide y < 18446744073709551616) (hlX : wide x < 18446744073709551616) (g : Nat)
    (hfin : (fin .f32 (ab .f32 y) && fin .f32 (ab .f32 x)) = true)
    (hcy : ∀ w, (convert 22 25 (.float .f32 y)).run Try.prog w = .ok (.float .f64 (wide y)) w)
    (hcx : ∀ w, (convert 22 25 (.float .f32 x)).run Try.prog w = .ok (.float .f64 (wide x)) w)
    (hgt : (FloatKind.f64.format.order (rg Ieee.double (wide y)) (rg Ieee.double (wide x)) == some .gt) = true)
    (HA : Hid (ab .f64 (rg Ieee.double (wide y)) = some (rg Ieee.double (wide y)))) (HB : Hid (ab .f64 (rg Ieee.double (wide x)) = some (rg Ieee.double (wide x))))
    (hzx : (FloatKind.f32.format.order x 0 == some .eq) = false)
    (hlx : (FloatKind.f32.format.order x 0 == some .lt) = false) (hly : (FloatKind.f32.format.order y 0 == some .lt) = false)
    (HW : Hid (AngWay (wide y) (wide x) true false false g)) (w : World) :
    Calls Try.prog 19 #[.float .f32 y, .float .f32 x] w (RetFB ((wangle (ab .f64 (wide y)) (ab .f64 (wide x))).map nar) w) := by
  go_enter Try.func19, Try.ntmps19
  have k1 : True := trivial
  have k2 : True := trivial
  go_wp2_with (first | (go_at_call 32; refine (finite2 _ y x _ (by simp) (by simp)).mono ?_; rintro e w' ⟨n, rfl, rfl⟩) | (go_at_call 29; refine (math_Abs _ (by assumption) _).mono ?_; rintro e w' ⟨rfl, rfl⟩) | (have t := k1; (refine wpList_arith _ _ _ _ _ rfl rfl _ _ _ rfl rfl rfl ?_); intro r1 m1 h1; have H1 := Lib.hid h1; clear h1 k1 t) | (have t := k2; (refine wpList_arith _ _ _ _ _ rfl rfl _ _ _ rfl rfl rfl ?_); intro r2 m2 h2; have H2 := Lib.hid h2; clear h2 k2 t))
  go_loopw [42, 7] (fun s42 s7 wr => ∃ (j t n : Nat), j ≤ 3 ∧ s42 = .int .i64 j ∧ s7 = .float .f64 t ∧ Is .f64 t (tN (angT (rg Ieee.double (wide y)) (rg Ieee.double (wide x))) j) ∧ wr = (w.alloc (.cells #[.float .f32 y, .float .f32 x] 22)).drewN n) (fun s42 _ _ => 3 - (intOf s42).toNat)
  case atStart => exact ⟨0, _, _, by omega, rfl, rfl, angle_over hgt HA.out HB.out H2.out, rfl⟩
  case round =>
    obtain ⟨j, t, n, hj, rfl, rfl, ht, rfl⟩ := hrel
    have HC := Lib.hid ht
    clear ht
    by_cases hlt : j < 3
    · have k1 : True := trivial
      have k2 : True := trivial
      have k3 : True := trivial
      have k4 : True := trivial
      go_wp2_with (first | (have t := k1; (refine wpList_arith _ _ _ _ _ rfl rfl _ _ _ rfl rfl rfl ?_); intro q m1 h1; have H1 := Lib.hid h1; clear h1 k1 t) | (have t := k2; (refine wpList_arith _ _ _ _ _ rfl rfl _ _ _ rfl rfl rfl ?_); intro r m2 h2; have H2 := Lib.hid h2; clear h2 k2 t) | (have t := k3; (refine wpList_arith _ _ _ _ _ rfl rfl _ _ _ rfl rfl rfl ?_); intro z m3 h3; have H3 := Lib.hid h3; clear h3 k3 t) | (have t := k4; (refine wpList_arith _ _ _ _ _ rfl rfl _ _ _ rfl rfl rfl ?_); intro t' m4 h4; have H4 := Lib.hid h4; clear h4 k4 t) | (go_at_call 21; refine (math_Sqrt _ _).mono ?_; rintro e w' ⟨s, ms, hs, rfl, rfl⟩; have HS := Lib.hid hs; clear hs))
      go_roundw
      case rel =>
        have h4 := H4.out
        rw [H3.out.ab, HS.out.ab, H2.out.ab, H1.out.ab, HC.out.ab, sine_one] at h4
        exact ⟨j + 1, t', _, by omega, by go_num, rfl, h4, rfl⟩
      case measure => simp [intOf]; omega
    · obtain rfl : j = 3 := by omega
      have k1 : True := trivial
      go_wp2_with (first | (have t := k1; (refine wpList_arith _ _ _ _ _ rfl rfl _ _ _ rfl rfl rfl ?_); intro u m1 h1; have H1 := Lib.hid h1; clear h1 k1 t))
      have hu : ab .f64 u = oop .mul .f64 (tN (angT (rg Ieee.double (wide y)) (rg Ieee.double (wide x))) 3) (tN (angT (rg Ieee.double (wide y)) (rg Ieee.double (wide x))) 3) := by rw [H1.out.ab, HC.out.ab]
      have HU := Lib.hid hu
      clear hu H1
      go_loopw [9, 10] (fun s9 s10 wr => ∃ (j q n : Nat), j ≤ 8 ∧ s10 = .int .i64 (15 - 2 * (j : Int)) ∧ s9 = .float .f64 q ∧ Is .f64 q (pA (oop .mul .f64 (tN (angT (rg Ieee.double (wide y)) (rg Ieee.double (wide x))) 3) (tN (angT (rg Ieee.double (wide y)) (rg Ieee.double (wide x))) 3)) j) ∧ wr = (w.alloc (.cells #[.float .f32 y, .float .f32 x] 22)).drewN n) (fun _ s10 _ => (intOf s10 + 1).toNat)
      case atStart => exact ⟨0, 0, _, by omega, rfl, rfl, ⟨rfl, by decide⟩, rfl⟩
      case round =>
        obtain ⟨j, q, n, hj, rfl, rfl, hq, rfl⟩ := hrel
        have HQ := Lib.hid hq
        clear hq
        by_cases hlt : j < 8
        · have k1 : True := trivial
          have k2 : True := trivial
          have k3 : True := trivial
          go_wp2_with (first | (have t := k1; (refine wpList_arith _ _ _ _ _ rfl rfl _ _ _ rfl rfl rfl ?_); intro r1 m1 h1; have H1 := Lib.hid h1; clear h1 k1 t) | (have t := k2; (refine wpList_arith _ _ _ _ _ rfl rfl _ _ _ rfl rfl rfl ?_); intro r2 m2 h2; have H2 := Lib.hid h2; clear h2 k2 t) | (have t := k3; (refine wpList_arith _ _ _ _ _ rfl rfl _ _ _ rfl rfl rfl ?_); intro q' m3 h3; have H3 := Lib.hid h3; clear h3 k3 t))
          go_roundw
          case rel =>
            have h3 := H3.out
            rw [H1.out.ab, H2.out.ab, HU.out, HQ.out.ab, sine_one, show floatOfInt .f64 (15 - 2 * (j : Int)) = flJ (15 - 2 * (j : Int)) from rfl, ab_flJ] at h3
            exact ⟨j + 1, q', _, by omega, by simp; omega, rfl, h3, rfl⟩
          case measure => simp [intOf]; omega
        · obtain rfl : j = 8 := by omega
          have k1 : True := trivial
          have k2 : True := trivial
          have k3 : True := trivial
          have k4 : True := trivial
          go_wp2_with (first | (have t := k1; (refine wpList_arith _ _ _ _ _ rfl rfl _ _ _ rfl rfl rfl ?_); intro r1 m1 h1; have H1 := Lib.hid h1; clear h1 k1 t) | (have t := k2; (refine wpList_arith _ _ _ _ _ rfl rfl _ _ _ rfl rfl rfl ?_); intro r2 m2 h2; have H2 := Lib.hid h2; clear h2 k2 t) | (have t := k3; (refine wpList_arith _ _ _ _ _ rfl rfl _ _ _ rfl rfl rfl ?_); intro r3 m3 h3; have H3 := Lib.hid h3; clear h3 k3 t) | (have t := k4; (refine wpList_arith _ _ _ _ _ rfl rfl _ _ _ rfl rfl rfl ?_); intro r4 m4 h4; have H4 := Lib.hid h4; clear h4 k4 t) | (refine wpList_narrow _ _ _ rfl rfl _ rfl (by rw [Try.underlying25]; rfl) Try.underlying22 ?_ ?_; (intro v hv; exact sine_fits false HW.out.lt HW.out.bd (ang_eq HW (by have h := H4.out; rw [ang_quarter, H3.out.ab, H2.out.ab, H1.out.ab, HQ.out.ab, HC.out.ab, ang_eight, ang_turn] at h; exact h)) v hv); intro r' n' hr'))
          go_ret
          have ha := (ang_eq HW (by have h := H4.out; rw [ang_quarter, H3.out.ab, H2.out.ab, H1.out.ab, HQ.out.ab, HC.out.ab, ang_eight, ang_turn] at h; exact h))
          refine ⟨_, ang_end false HW ha hr', rfl, ?_⟩
          exact (by repeat (first | exact Below.refl _ _ | refine Below.setCell ?_ (by first | (simp; done) | (simp; omega)) _ | refine Below.trans ?_ (Below.mono (by assumption) (by first | (simp; done) | (simp; omega))) | refine Below.alloc ?_ (by first | (simp; done) | (simp; omega)) _ | refine Below.alloc ?_ (Nat.le_refl _) _ | refine below_drewN ?_ _))

set_option maxHeartbeats 4000000 in
theorem impl_angle_1001 (y x : Nat) (hlY : wide y < 18446744073709551616) (hlX : wide x < 18446744073709551616) (g : Nat)
    (hfin : (fin .f32 (ab .f32 y) && fin .f32 (ab .f32 x)) = true)
    (hcy : ∀ w, (convert 22 25 (.float .f32 y)).run Try.prog w = .ok (.float .f64 (wide y)) w)
    (hcx : ∀ w, (convert 22 25 (.float .f32 x)).run Try.prog w = .ok (.float .f64 (wide x)) w)
    (hgt : (FloatKind.f64.format.order (rg Ieee.double (wide y)) (rg Ieee.double (wide x)) == some .gt) = true)
    (HA : Hid (ab .f64 (rg Ieee.double (wide y)) = some (rg Ieee.double (wide y)))) (HB : Hid (ab .f64 (rg Ieee.double (wide x)) = some (rg Ieee.double (wide x))))
    (hzx : (FloatKind.f32.format.order x 0 == some .eq) = true) (hzy : (FloatKind.f32.format.order y 0 == some .eq) = false)
    (hlx : (FloatKind.f32.format.order x 0 == some .lt) = false) (hly : (FloatKind.f32.format.order y 0 == some .lt) = false)
    (HW : Hid (AngWay (wide y) (wide x) true false false g)) (w : World) :
    Calls Try.prog 19 #[.float .f32 y, .float .f32 x] w (RetFB ((wangle (ab .f64 (wide y)) (ab .f64 (wide x))).map nar) w) := by
  go_enter Try.func19, Try.ntmps19
  have k1 : True := trivial
  have k2 : True := trivial
  go_wp2_with (first | (go_at_call 32; refine (finite2 _ y x _ (by simp) (by simp)).mono ?_; rintro e w' ⟨n, rfl, rfl⟩) | (go_at_call 29; refine (math_Abs _ (by assumption) _).mono ?_; rintro e w' ⟨rfl, rfl⟩) | (have t := k1; (refine wpList_arith _ _ _ _ _ rfl rfl _ _ _ rfl rfl rfl ?_); intro r1 m1 h1; have H1 := Lib.hid h1; clear h1 k1 t) | (have t := k2; (refine wpList_arith _ _ _ _ _ rfl rfl _ _ _ rfl rfl rfl ?_); intro r2 m2 h2; have H2 := Lib.hid h2; clear h2 k2 t))
  go_loopw [42, 7] (fun s42 s7 wr => ∃ (j t n : Nat), j ≤ 3 ∧ s42 = .int .i64 j ∧ s7 = .float .f64 t ∧ Is .f64 t (tN (angT (rg Ieee.double (wide y)) (rg Ieee.double (wide x))) j) ∧ wr = (w.alloc (.cells #[.float .f32 y, .float .f32 x] 22)).drewN n) (fun s42 _ _ => 3 - (intOf s42).toNat)
  case atStart => exact ⟨0, _, _, by omega, rfl, rfl, angle_over hgt HA.out HB.out H2.out, rfl⟩
  case round =>
    obtain ⟨j, t, n, hj, rfl, rfl, ht, rfl⟩ := hrel
    have HC := Lib.hid ht
    clear ht
    by_cases hlt : j < 3
    · have k1 : True := trivial
      have k2 : True := trivial
      have k3 : True := trivial
      have k4 : True := trivial
      go_wp2_with (first | (have t := k1; (refine wpList_arith _ _ _ _ _ rfl rfl _ _ _ rfl rfl rfl ?_); intro q m1 h1; have H1 := Lib.hid h1; clear h1 k1 t) | (have t := k2; (refine wpList_arith _ _ _ _ _ rfl rfl _ _ _ rfl rfl rfl ?_); intro r m2 h2; have H2 := Lib.hid h2; clear h2 k2 t) | (have t := k3; (refine wpList_arith _ _ _ _ _ rfl rfl _ _ _ rfl rfl rfl ?_); intro z m3 h3; have H3 := Lib.hid h3; clear h3 k3 t) | (have t := k4; (refine wpList_arith _ _ _ _ _ rfl rfl _ _ _ rfl rfl rfl ?_); intro t' m4 h4; have H4 := Lib.hid h4; clear h4 k4 t) | (go_at_call 21; refine (math_Sqrt _ _).mono ?_; rintro e w' ⟨s, ms, hs, rfl, rfl⟩; have HS := Lib.hid hs; clear hs))
      go_roundw
      case rel =>
        have h4 := H4.out
        rw [H3.out.ab, HS.out.ab, H2.out.ab, H1.out.ab, HC.out.ab, sine_one] at h4
        exact ⟨j + 1, t', _, by omega, by go_num, rfl, h4, rfl⟩
      case measure => simp [intOf]; omega
    · obtain rfl : j = 3 := by omega
      have k1 : True := trivial
      go_wp2_with (first | (have t := k1; (refine wpList_arith _ _ _ _ _ rfl rfl _ _ _ rfl rfl rfl ?_); intro u m1 h1; have H1 := Lib.hid h1; clear h1 k1 t))
      have hu : ab .f64 u = oop .mul .f64 (tN (angT (rg Ieee.double (wide y)) (rg Ieee.double (wide x))) 3) (tN (angT (rg Ieee.double (wide y)) (rg Ieee.double (wide x))) 3) := by rw [H1.out.ab, HC.out.ab]
      have HU := Lib.hid hu
      clear hu H1
      go_loopw [9, 10] (fun s9 s10 wr => ∃ (j q n : Nat), j ≤ 8 ∧ s10 = .int .i64 (15 - 2 * (j : Int)) ∧ s9 = .float .f64 q ∧ Is .f64 q (pA (oop .mul .f64 (tN (angT (rg Ieee.double (wide y)) (rg Ieee.double (wide x))) 3) (tN (angT (rg Ieee.double (wide y)) (rg Ieee.double (wide x))) 3)) j) ∧ wr = (w.alloc (.cells #[.float .f32 y, .float .f32 x] 22)).drewN n) (fun _ s10 _ => (intOf s10 + 1).toNat)
      case atStart => exact ⟨0, 0, _, by omega, rfl, rfl, ⟨rfl, by decide⟩, rfl⟩
      case round =>
        obtain ⟨j, q, n, hj, rfl, rfl, hq, rfl⟩ := hrel
        have HQ := Lib.hid hq
        clear hq
        by_cases hlt : j < 8
        · have k1 : True := trivial
          have k2 : True := trivial
          have k3 : True := trivial
          go_wp2_with (first | (have t := k1; (refine wpList_arith _ _ _ _ _ rfl rfl _ _ _ rfl rfl rfl ?_); intro r1 m1 h1; have H1 := Lib.hid h1; clear h1 k1 t) | (have t := k2; (refine wpList_arith _ _ _ _ _ rfl rfl _ _ _ rfl rfl rfl ?_); intro r2 m2 h2; have H2 := Lib.hid h2; clear h2 k2 t) | (have t := k3; (refine wpList_arith _ _ _ _ _ rfl rfl _ _ _ rfl rfl rfl ?_); intro q' m3 h3; have H3 := Lib.hid h3; clear h3 k3 t))
          go_roundw
          case rel =>
            have h3 := H3.out
            rw [H1.out.ab, H2.out.ab, HU.out, HQ.out.ab, sine_one, show floatOfInt .f64 (15 - 2 * (j : Int)) = flJ (15 - 2 * (j : Int)) from rfl, ab_flJ] at h3
            exact ⟨j + 1, q', _, by omega, by simp; omega, rfl, h3, rfl⟩
          case measure => simp [intOf]; omega
        · obtain rfl : j = 8 := by omega
          have k1 : True := trivial
          have k2 : True := trivial
          have k3 : True := trivial
          have k4 : True := trivial
          go_wp2_with (first | (have t := k1; (refine wpList_arith _ _ _ _ _ rfl rfl _ _ _ rfl rfl rfl ?_); intro r1 m1 h1; have H1 := Lib.hid h1; clear h1 k1 t) | (have t := k2; (refine wpList_arith _ _ _ _ _ rfl rfl _ _ _ rfl rfl rfl ?_); intro r2 m2 h2; have H2 := Lib.hid h2; clear h2 k2 t) | (have t := k3; (refine wpList_arith _ _ _ _ _ rfl rfl _ _ _ rfl rfl rfl ?_); intro r3 m3 h3; have H3 := Lib.hid h3; clear h3 k3 t) | (have t := k4; (refine wpList_arith _ _ _ _ _ rfl rfl _ _ _ rfl rfl rfl ?_); intro r4 m4 h4; have H4 := Lib.hid h4; clear h4 k4 t) | (refine wpList_narrow _ _ _ rfl rfl _ rfl (by rw [Try.underlying25]; rfl) Try.underlying22 ?_ ?_; (intro v hv; exact sine_fits false HW.out.lt HW.out.bd (ang_eq HW (by have h := H4.out; rw [ang_quarter, H3.out.ab, H2.out.ab, H1.out.ab, HQ.out.ab, HC.out.ab, ang_eight, ang_turn] at h; exact h)) v hv); intro r' n' hr'))
          go_ret
          have ha := (ang_eq HW (by have h := H4.out; rw [ang_quarter, H3.out.ab, H2.out.ab, H1.out.ab, HQ.out.ab, HC.out.ab, ang_eight, ang_turn] at h; exact h))
          refine ⟨_, ang_end false HW ha hr', rfl, ?_⟩
          exact (by repeat (first | exact Below.refl _ _ | refine Below.setCell ?_ (by first | (simp; done) | (simp; omega)) _ | refine Below.trans ?_ (Below.mono (by assumption) (by first | (simp; done) | (simp; omega))) | refine Below.alloc ?_ (by first | (simp; done) | (simp; omega)) _ | refine Below.alloc ?_ (Nat.le_refl _) _ | refine below_drewN ?_ _))

set_option maxHeartbeats 4000000 in
theorem impl_angle_1010 (y x : Nat) (hlY : wide y < 18446744073709551616) (hlX : wide x < 18446744073709551616) (g : Nat)
    (hfin : (fin .f32 (ab .f32 y) && fin .f32 (ab .f32 x)) = true)
    (hcy : ∀ w, (convert 22 25 (.float .f32 y)).run Try.prog w = .ok (.float .f64 (wide y)) w)
    (hcx : ∀ w, (convert 22 25 (.float .f32 x)).run Try.prog w = .ok (.float .f64 (wide x)) w)
    (hgt : (FloatKind.f64.format.order (rg Ieee.double (wide y)) (rg Ieee.double (wide x)) == some .gt) = true)
    (HA : Hid (ab .f64 (rg Ieee.double (wide y)) = some (rg Ieee.double (wide y)))) (HB : Hid (ab .f64 (rg Ieee.double (wide x)) = some (rg Ieee.double (wide x))))
    (hzx : (FloatKind.f32.format.order x 0 == some .eq) = false)
    (hlx : (FloatKind.f32.format.order x 0 == some .lt) = false) (hly : (FloatKind.f32.format.order y 0 == some .lt) = true)
    (HW : Hid (AngWay (wide y) (wide x) true false true g)) (w : World) :
    Calls Try.prog 19 #[.float .f32 y, .float .f32 x] w (RetFB ((wangle (ab .f64 (wide y)) (ab .f64 (wide x))).map nar) w) := by
  go_enter Try.func19, Try.ntmps19
  have k1 : True := trivial
  have k2 : True := trivial
  go_wp2_with (first | (go_at_call 32; refine (finite2 _ y x _ (by simp) (by simp)).mono ?_; rintro e w' ⟨n, rfl, rfl⟩) | (go_at_call 29; refine (math_Abs _ (by assumption) _).mono ?_; rintro e w' ⟨rfl, rfl⟩) | (have t := k1; (refine wpList_arith _ _ _ _ _ rfl rfl _ _ _ rfl rfl rfl ?_); intro r1 m1 h1; have H1 := Lib.hid h1; clear h1 k1 t) | (have t := k2; (refine wpList_arith _ _ _ _ _ rfl rfl _ _ _ rfl rfl rfl ?_); intro r2 m2 h2; have H2 := Lib.hid h2; clear h2 k2 t))
  go_loopw [42, 7] (fun s42 s7 wr => ∃ (j t n : Nat), j ≤ 3 ∧ s42 = .int .i64 j ∧ s7 = .float .f64 t ∧ Is .f64 t (tN (angT (rg Ieee.double (wide y)) (rg Ieee.double (wide x))) j) ∧ wr = (w.alloc (.cells #[.float .f32 y, .float .f32 x] 22)).drewN n) (fun s42 _ _ => 3 - (intOf s42).toNat)
  case atStart => exact ⟨0, _, _, by omega, rfl, rfl, angle_over hgt HA.out HB.out H2.out, rfl⟩
  case round =>
    obtain ⟨j, t, n, hj, rfl, rfl, ht, rfl⟩ := hrel
    have HC := Lib.hid ht
    clear ht
    by_cases hlt : j < 3
    · have k1 : True := trivial
      have k2 : True := trivial
      have k3 : True := trivial
      have k4 : True := trivial
      go_wp2_with (first | (have t := k1; (refine wpList_arith _ _ _ _ _ rfl rfl _ _ _ rfl rfl rfl ?_); intro q m1 h1; have H1 := Lib.hid h1; clear h1 k1 t) | (have t := k2; (refine wpList_arith _ _ _ _ _ rfl rfl _ _ _ rfl rfl rfl ?_); intro r m2 h2; have H2 := Lib.hid h2; clear h2 k2 t) | (have t := k3; (refine wpList_arith _ _ _ _ _ rfl rfl _ _ _ rfl rfl rfl ?_); intro z m3 h3; have H3 := Lib.hid h3; clear h3 k3 t) | (have t := k4; (refine wpList_arith _ _ _ _ _ rfl rfl _ _ _ rfl rfl rfl ?_); intro t' m4 h4; have H4 := Lib.hid h4; clear h4 k4 t) | (go_at_call 21; refine (math_Sqrt _ _).mono ?_; rintro e w' ⟨s, ms, hs, rfl, rfl⟩; have HS := Lib.hid hs; clear hs))
      go_roundw
      case rel =>
        have h4 := H4.out
        rw [H3.out.ab, HS.out.ab, H2.out.ab, H1.out.ab, HC.out.ab, sine_one] at h4
        exact ⟨j + 1, t', _, by omega, by go_num, rfl, h4, rfl⟩
      case measure => simp [intOf]; omega
    · obtain rfl : j = 3 := by omega
      have k1 : True := trivial
      go_wp2_with (first | (have t := k1; (refine wpList_arith _ _ _ _ _ rfl rfl _ _ _ rfl rfl rfl ?_); intro u m1 h1; have H1 := Lib.hid h1; clear h1 k1 t))
      have hu : ab .f64 u = oop .mul .f64 (tN (angT (rg Ieee.double (wide y)) (rg Ieee.double (wide x))) 3) (tN (angT (rg Ieee.double (wide y)) (rg Ieee.double (wide x))) 3) := by rw [H1.out.ab, HC.out.ab]
      have HU := Lib.hid hu
      clear hu H1
      go_loopw [9, 10] (fun s9 s10 wr => ∃ (j q n : Nat), j ≤ 8 ∧ s10 = .int .i64 (15 - 2 * (j : Int)) ∧ s9 = .float .f64 q ∧ Is .f64 q (pA (oop .mul .f64 (tN (angT (rg Ieee.double (wide y)) (rg Ieee.double (wide x))) 3) (tN (angT (rg Ieee.double (wide y)) (rg Ieee.double (wide x))) 3)) j) ∧ wr = (w.alloc (.cells #[.float .f32 y, .float .f32 x] 22)).drewN n) (fun _ s10 _ => (intOf s10 + 1).toNat)
      case atStart => exact ⟨0, 0, _, by omega, rfl, rfl, ⟨rfl, by decide⟩, rfl⟩
      case round =>
        obtain ⟨j, q, n, hj, rfl, rfl, hq, rfl⟩ := hrel
        have HQ := Lib.hid hq
        clear hq
        by_cases hlt : j < 8
        · have k1 : True := trivial
          have k2 : True := trivial
          have k3 : True := trivial
          go_wp2_with (first | (have t := k1; (refine wpList_arith _ _ _ _ _ rfl rfl _ _ _ rfl rfl rfl ?_); intro r1 m1 h1; have H1 := Lib.hid h1; clear h1 k1 t) | (have t := k2; (refine wpList_arith _ _ _ _ _ rfl rfl _ _ _ rfl rfl rfl ?_); intro r2 m2 h2; have H2 := Lib.hid h2; clear h2 k2 t) | (have t := k3; (refine wpList_arith _ _ _ _ _ rfl rfl _ _ _ rfl rfl rfl ?_); intro q' m3 h3; have H3 := Lib.hid h3; clear h3 k3 t))
          go_roundw
          case rel =>
            have h3 := H3.out
            rw [H1.out.ab, H2.out.ab, HU.out, HQ.out.ab, sine_one, show floatOfInt .f64 (15 - 2 * (j : Int)) = flJ (15 - 2 * (j : Int)) from rfl, ab_flJ] at h3
            exact ⟨j + 1, q', _, by omega, by simp; omega, rfl, h3, rfl⟩
          case measure => simp [intOf]; omega
        · obtain rfl : j = 8 := by omega
          have k1 : True := trivial
          have k2 : True := trivial
          have k3 : True := trivial
          have k4 : True := trivial
          go_wp2_with (first | (have t := k1; (refine wpList_arith _ _ _ _ _ rfl rfl _ _ _ rfl rfl rfl ?_); intro r1 m1 h1; have H1 := Lib.hid h1; clear h1 k1 t) | (have t := k2; (refine wpList_arith _ _ _ _ _ rfl rfl _ _ _ rfl rfl rfl ?_); intro r2 m2 h2; have H2 := Lib.hid h2; clear h2 k2 t) | (have t := k3; (refine wpList_arith _ _ _ _ _ rfl rfl _ _ _ rfl rfl rfl ?_); intro r3 m3 h3; have H3 := Lib.hid h3; clear h3 k3 t) | (have t := k4; (refine wpList_arith _ _ _ _ _ rfl rfl _ _ _ rfl rfl rfl ?_); intro r4 m4 h4; have H4 := Lib.hid h4; clear h4 k4 t) | (refine wpList_narrow _ _ _ rfl rfl _ rfl (by rw [Try.underlying25]; rfl) Try.underlying22 ?_ ?_; (intro v hv; exact sine_fits true HW.out.lt HW.out.bd (ang_eq HW (by have h := H4.out; rw [ang_quarter, H3.out.ab, H2.out.ab, H1.out.ab, HQ.out.ab, HC.out.ab, ang_eight, ang_turn] at h; exact h)) v hv); intro r' n' hr'))
          go_ret
          have ha := (ang_eq HW (by have h := H4.out; rw [ang_quarter, H3.out.ab, H2.out.ab, H1.out.ab, HQ.out.ab, HC.out.ab, ang_eight, ang_turn] at h; exact h))
          refine ⟨_, ang_end true HW ha hr', rfl, ?_⟩
          exact (by repeat (first | exact Below.refl _ _ | refine Below.setCell ?_ (by first | (simp; done) | (simp; omega)) _ | refine Below.trans ?_ (Below.mono (by assumption) (by first | (simp; done) | (simp; omega))) | refine Below.alloc ?_ (by first | (simp; done) | (simp; omega)) _ | refine Below.alloc ?_ (Nat.le_refl _) _ | refine below_drewN ?_ _))

set_option maxHeartbeats 4000000 in
theorem impl_angle_1011 (y x : Nat) (hlY : wide y < 18446744073709551616) (hlX : wide x < 18446744073709551616) (g : Nat)
    (hfin : (fin .f32 (ab .f32 y) && fin .f32 (ab .f32 x)) = true)
    (hcy : ∀ w, (convert 22 25 (.float .f32 y)).run Try.prog w = .ok (.float .f64 (wide y)) w)
    (hcx : ∀ w, (convert 22 25 (.float .f32 x)).run Try.prog w = .ok (.float .f64 (wide x)) w)
    (hgt : (FloatKind.f64.format.order (rg Ieee.double (wide y)) (rg Ieee.double (wide x)) == some .gt) = true)
    (HA : Hid (ab .f64 (rg Ieee.double (wide y)) = some (rg Ieee.double (wide y)))) (HB : Hid (ab .f64 (rg Ieee.double (wide x)) = some (rg Ieee.double (wide x))))
    (hzx : (FloatKind.f32.format.order x 0 == some .eq) = true) (hzy : (FloatKind.f32.format.order y 0 == some .eq) = false)
    (hlx : (FloatKind.f32.format.order x 0 == some .lt) = false) (hly : (FloatKind.f32.format.order y 0 == some .lt) = true)
    (HW : Hid (AngWay (wide y) (wide x) true false true g)) (w : World) :
    Calls Try.prog 19 #[.float .f32 y, .float .f32 x] w (RetFB ((wangle (ab .f64 (wide y)) (ab .f64 (wide x))).map nar) w) := by
  go_enter Try.func19, Try.ntmps19
  have k1 : True := trivial
  have k2 : True := trivial
  go_wp2_with (first | (go_at_call 32; refine (finite2 _ y x _ (by simp) (by simp)).mono ?_; rintro e w' ⟨n, rfl, rfl⟩) | (go_at_call 29; refine (math_Abs _ (by assumption) _).mono ?_; rintro e w' ⟨rfl, rfl⟩) | (have t := k1; (refine wpList_arith _ _ _ _ _ rfl rfl _ _ _ rfl rfl rfl ?_); intro r1 m1 h1; have H1 := Lib.hid h1; clear h1 k1 t) | (have t := k2; (refine wpList_arith _ _ _ _ _ rfl rfl _ _ _ rfl rfl rfl ?_); intro r2 m2 h2; have H2 := Lib.hid h2; clear h2 k2 t))
  go_loopw [42, 7] (fun s42 s7 wr => ∃ (j t n : Nat), j ≤ 3 ∧ s42 = .int .i64 j ∧ s7 = .float .f64 t ∧ Is .f64 t (tN (angT (rg Ieee.double (wide y)) (rg Ieee.double (wide x))) j) ∧ wr = (w.alloc (.cells #[.float .f32 y, .float .f32 x] 22)).drewN n) (fun s42 _ _ => 3 - (intOf s42).toNat)
  case atStart => exact ⟨0, _, _, by omega, rfl, rfl, angle_over hgt HA.out HB.out H2.out, rfl⟩
  case round =>
    obtain ⟨j, t, n, hj, rfl, rfl, ht, rfl⟩ := hrel
    have HC := Lib.hid ht
    clear ht
    by_cases hlt : j < 3
    · have k1 : True := trivial
      have k2 : True := trivial
      have k3 : True := trivial
      have k4 : True := trivial
      go_wp2_with (first | (have t := k1; (refine wpList_arith _ _ _ _ _ rfl rfl _ _ _ rfl rfl rfl ?_); intro q m1 h1; have H1 := Lib.hid h1; clear h1 k1 t) | (have t := k2; (refine wpList_arith _ _ _ _ _ rfl rfl _ _ _ rfl rfl rfl ?_); intro r m2 h2; have H2 := Lib.hid h2; clear h2 k2 t) | (have t := k3; (refine wpList_arith _ _ _ _ _ rfl rfl _ _ _ rfl rfl rfl ?_); intro z m3 h3; have H3 := Lib.hid h3; clear h3 k3 t) | (have t := k4; (refine wpList_arith _ _ _ _ _ rfl rfl _ _ _ rfl rfl rfl ?_); intro t' m4 h4; have H4 := Lib.hid h4; clear h4 k4 t) | (go_at_call 21; refine (math_Sqrt _ _).mono ?_; rintro e w' ⟨s, ms, hs, rfl, rfl⟩; have HS := Lib.hid hs; clear hs))
      go_roundw
      case rel =>
        have h4 := H4.out
        rw [H3.out.ab, HS.out.ab, H2.out.ab, H1.out.ab, HC.out.ab, sine_one] at h4
        exact ⟨j + 1, t', _, by omega, by go_num, rfl, h4, rfl⟩
      case measure => simp [intOf]; omega
    · obtain rfl : j = 3 := by omega
      have k1 : True := trivial
      go_wp2_with (first | (have t := k1; (refine wpList_arith _ _ _ _ _ rfl rfl _ _ _ rfl rfl rfl ?_); intro u m1 h1; have H1 := Lib.hid h1; clear h1 k1 t))
      have hu : ab .f64 u = oop .mul .f64 (tN (angT (rg Ieee.double (wide y)) (rg Ieee.double (wide x))) 3) (tN (angT (rg Ieee.double (wide y)) (rg Ieee.double (wide x))) 3) := by rw [H1.out.ab, HC.out.ab]
      have HU := Lib.hid hu
      clear hu H1
      go_loopw [9, 10] (fun s9 s10 wr => ∃ (j q n : Nat), j ≤ 8 ∧ s10 = .int .i64 (15 - 2 * (j : Int)) ∧ s9 = .float .f64 q ∧ Is .f64 q (pA (oop .mul .f64 (tN (angT (rg Ieee.double (wide y)) (rg Ieee.double (wide x))) 3) (tN (angT (rg Ieee.double (wide y)) (rg Ieee.double (wide x))) 3)) j) ∧ wr = (w.alloc (.cells #[.float .f32 y, .float .f32 x] 22)).drewN n) (fun _ s10 _ => (intOf s10 + 1).toNat)
      case atStart => exact ⟨0, 0, _, by omega, rfl, rfl, ⟨rfl, by decide⟩, rfl⟩
      case round =>
        obtain ⟨j, q, n, hj, rfl, rfl, hq, rfl⟩ := hrel
        have HQ := Lib.hid hq
        clear hq
        by_cases hlt : j < 8
        · have k1 : True := trivial
          have k2 : True := trivial
          have k3 : True := trivial
          go_wp2_with (first | (have t := k1; (refine wpList_arith _ _ _ _ _ rfl rfl _ _ _ rfl rfl rfl ?_); intro r1 m1 h1; have H1 := Lib.hid h1; clear h1 k1 t) | (have t := k2; (refine wpList_arith _ _ _ _ _ rfl rfl _ _ _ rfl rfl rfl ?_); intro r2 m2 h2; have H2 := Lib.hid h2; clear h2 k2 t) | (have t := k3; (refine wpList_arith _ _ _ _ _ rfl rfl _ _ _ rfl rfl rfl ?_); intro q' m3 h3; have H3 := Lib.hid h3; clear h3 k3 t))
          go_roundw
          case rel =>
            have h3 := H3.out
            rw [H1.out.ab, H2.out.ab, HU.out, HQ.out.ab, sine_one, show floatOfInt .f64 (15 - 2 * (j : Int)) = flJ (15 - 2 * (j : Int)) from rfl, ab_flJ] at h3
            exact ⟨j + 1, q', _, by omega, by simp; omega, rfl, h3, rfl⟩
          case measure => simp [intOf]; omega
        · obtain rfl : j = 8 := by omega
          have k1 : True := trivial
          have k2 : True := trivial
          have k3 : True := trivial
          have k4 : True := trivial
          go_wp2_with (first | (have t := k1; (refine wpList_arith _ _ _ _ _ rfl rfl _ _ _ rfl rfl rfl ?_); intro r1 m1 h1; have H1 := Lib.hid h1; clear h1 k1 t) | (have t := k2; (refine wpList_arith _ _ _ _ _ rfl rfl _ _ _ rfl rfl rfl ?_); intro r2 m2 h2; have H2 := Lib.hid h2; clear h2 k2 t) | (have t := k3; (refine wpList_arith _ _ _ _ _ rfl rfl _ _ _ rfl rfl rfl ?_); intro r3 m3 h3; have H3 := Lib.hid h3; clear h3 k3 t) | (have t := k4; (refine wpList_arith _ _ _ _ _ rfl rfl _ _ _ rfl rfl rfl ?_); intro r4 m4 h4; have H4 := Lib.hid h4; clear h4 k4 t) | (refine wpList_narrow _ _ _ rfl rfl _ rfl (by rw [Try.underlying25]; rfl) Try.underlying22 ?_ ?_; (intro v hv; exact sine_fits true HW.out.lt HW.out.bd (ang_eq HW (by have h := H4.out; rw [ang_quarter, H3.out.ab, H2.out.ab, H1.out.ab, HQ.out.ab, HC.out.ab, ang_eight, ang_turn] at h; exact h)) v hv); intro r' n' hr'))
          go_ret
          have ha := (ang_eq HW (by have h := H4.out; rw [ang_quarter, H3.out.ab, H2.out.ab, H1.out.ab, HQ.out.ab, HC.out.ab, ang_eight, ang_turn] at h; exact h))
          refine ⟨_, ang_end true HW ha hr', rfl, ?_⟩
          exact (by repeat (first | exact Below.refl _ _ | refine Below.setCell ?_ (by first | (simp; done) | (simp; omega)) _ | refine Below.trans ?_ (Below.mono (by assumption) (by first | (simp; done) | (simp; omega))) | refine Below.alloc ?_ (by first | (simp; done) | (simp; omega)) _ | refine Below.alloc ?_ (Nat.le_refl _) _ | refine below_drewN ?_ _))

set_option maxHeartbeats 4000000 in
theorem impl_angle_1100 (y x : Nat) (hlY : wide y < 18446744073709551616) (hlX : wide x < 18446744073709551616) (g : Nat)
    (hfin : (fin .f32 (ab .f32 y) && fin .f32 (ab .f32 x)) = true)
    (hcy : ∀ w, (convert 22 25 (.float .f32 y)).run Try.prog w = .ok (.float .f64 (wide y)) w)
    (hcx : ∀ w, (convert 22 25 (.float .f32 x)).run Try.prog w = .ok (.float .f64 (wide x)) w)
    (hgt : (FloatKind.f64.format.order (rg Ieee.double (wide y)) (rg Ieee.double (wide x)) == some .gt) = true)
    (HA : Hid (ab .f64 (rg Ieee.double (wide y)) = some (rg Ieee.double (wide y)))) (HB : Hid (ab .f64 (rg Ieee.double (wide x)) = some (rg Ieee.double (wide x))))
    (hzx : (FloatKind.f32.format.order x 0 == some .eq) = false)
    (hlx : (FloatKind.f32.format.order x 0 == some .lt) = true) (hly : (FloatKind.f32.format.order y 0 == some .lt) = false)
    (HW : Hid (AngWay (wide y) (wide x) true true false g)) (w : World) :
    Calls Try.prog 19 #[.float .f32 y, .float .f32 x] w (RetFB ((wangle (ab .f64 (wide y)) (ab .f64 (wide x))).map nar) w) := by
  go_enter Try.func19, Try.ntmps19
  have k1 : True := trivial
  have k2 : True := trivial
  go_wp2_with (first | (go_at_call 32; refine (finite2 _ y x _ (by simp) (by simp)).mono ?_; rintro e w' ⟨n, rfl, rfl⟩) | (go_at_call 29; refine (math_Abs _ (by assumption) _).mono ?_; rintro e w' ⟨rfl, rfl⟩) | (have t := k1; (refine wpList_arith _ _ _ _ _ rfl rfl _ _ _ rfl rfl rfl ?_); intro r1 m1 h1; have H1 := Lib.hid h1; clear h1 k1 t) | (have t := k2; (refine wpList_arith _ _ _ _ _ rfl rfl _ _ _ rfl rfl rfl ?_); intro r2 m2 h2; have H2 := Lib.hid h2; clear h2 k2 t))
  go_loopw [42, 7] (fun s42 s7 wr => ∃ (j t n : Nat), j ≤ 3 ∧ s42 = .int .i64 j ∧ s7 = .float .f64 t ∧ Is .f64 t (tN (angT (rg Ieee.double (wide y)) (rg Ieee.double (wide x))) j) ∧ wr = (w.alloc (.cells #[.float .f32 y, .float .f32 x] 22)).drewN n) (fun s42 _ _ => 3 - (intOf s42).toNat)
  case atStart => exact ⟨0, _, _, by omega, rfl, rfl, angle_over hgt HA.out HB.out H2.out, rfl⟩
  case round =>
    obtain ⟨j, t, n, hj, rfl, rfl, ht, rfl⟩ := hrel
    have HC := Lib.hid ht
    clear ht
    by_cases hlt : j < 3
    · have k1 : True := trivial
      have k2 : True := trivial
      have k3 : True := trivial
      have k4 : True := trivial
      go_wp2_with (first | (have t := k1; (refine wpList_arith _ _ _ _ _ rfl rfl _ _ _ rfl rfl rfl ?_); intro q m1 h1; have H1 := Lib.hid h1; clear h1 k1 t) | (have t := k2; (refine wpList_arith _ _ _ _ _ rfl rfl _ _ _ rfl rfl rfl ?_); intro r m2 h2; have H2 := Lib.hid h2; clear h2 k2 t) | (have t := k3; (refine wpList_arith _ _ _ _ _ rfl rfl _ _ _ rfl rfl rfl ?_); intro z m3 h3; have H3 := Lib.hid h3; clear h3 k3 t) | (have t := k4; (refine wpList_arith _ _ _ _ _ rfl rfl _ _ _ rfl rfl rfl ?_); intro t' m4 h4; have H4 := Lib.hid h4; clear h4 k4 t) | (go_at_call 21; refine (math_Sqrt _ _).mono ?_; rintro e w' ⟨s, ms, hs, rfl, rfl⟩; have HS := Lib.hid hs; clear hs))
      go_roundw
      case rel =>
        have h4 := H4.out
        rw [H3.out.ab, HS.out.ab, H2.out.ab, H1.out.ab, HC.out.ab, sine_one] at h4
        exact ⟨j + 1, t', _, by omega, by go_num, rfl, h4, rfl⟩
      case measure => simp [intOf]; omega
    · obtain rfl : j = 3 := by omega
      have k1 : True := trivial
      go_wp2_with (first | (have t := k1; (refine wpList_arith _ _ _ _ _ rfl rfl _ _ _ rfl rfl rfl ?_); intro u m1 h1; have H1 := Lib.hid h1; clear h1 k1 t))
      have hu : ab .f64 u = oop .mul .f64 (tN (angT (rg Ieee.double (wide y)) (rg Ieee.double (wide x))) 3) (tN (angT (rg Ieee.double (wide y)) (rg Ieee.double (wide x))) 3) := by rw [H1.out.ab, HC.out.ab]
      have HU := Lib.hid hu
      clear hu H1
      go_loopw [9, 10] (fun s9 s10 wr => ∃ (j q n : Nat), j ≤ 8 ∧ s10 = .int .i64 (15 - 2 * (j : Int)) ∧ s9 = .float .f64 q ∧ Is .f64 q (pA (oop .mul .f64 (tN (angT (rg Ieee.double (wide y)) (rg Ieee.double (wide x))) 3) (tN (angT (rg Ieee.double (wide y)) (rg Ieee.double (wide x))) 3)) j) ∧ wr = (w.alloc (.cells #[.float .f32 y, .float .f32 x] 22)).drewN n) (fun _ s10 _ => (intOf s10 + 1).toNat)
      case atStart => exact ⟨0, 0, _, by omega, rfl, rfl, ⟨rfl, by decide⟩, rfl⟩
      case round =>
        obtain ⟨j, q, n, hj, rfl, rfl, hq, rfl⟩ := hrel
        have HQ := Lib.hid hq
        clear hq
        by_cases hlt : j < 8
        · have k1 : True := trivial
          have k2 : True := trivial
          have k3 : True := trivial
          go_wp2_with (first | (have t := k1; (refine wpList_arith _ _ _ _ _ rfl rfl _ _ _ rfl rfl rfl ?_); intro r1 m1 h1; have H1 := Lib.hid h1; clear h1 k1 t) | (have t := k2; (refine wpList_arith _ _ _ _ _ rfl rfl _ _ _ rfl rfl rfl ?_); intro r2 m2 h2; have H2 := Lib.hid h2; clear h2 k2 t) | (have t := k3; (refine wpList_arith _ _ _ _ _ rfl rfl _ _ _ rfl rfl rfl ?_); intro q' m3 h3; have H3 := Lib.hid h3; clear h3 k3 t))
          go_roundw
          case rel =>
            have h3 := H3.out
            rw [H1.out.ab, H2.out.ab, HU.out, HQ.out.ab, sine_one, show floatOfInt .f64 (15 - 2 * (j : Int)) = flJ (15 - 2 * (j : Int)) from rfl, ab_flJ] at h3
            exact ⟨j + 1, q', _, by omega, by simp; omega, rfl, h3, rfl⟩
          case measure => simp [intOf]; omega
        · obtain rfl : j = 8 := by omega
          have k1 : True := trivial
          have k2 : True := trivial
          have k3 : True := trivial
          have k4 : True := trivial
          have k5 : True := trivial
          go_wp2_with (first | (have t := k1; (refine wpList_arith _ _ _ _ _ rfl rfl _ _ _ rfl rfl rfl ?_); intro r1 m1 h1; have H1 := Lib.hid h1; clear h1 k1 t) | (have t := k2; (refine wpList_arith _ _ _ _ _ rfl rfl _ _ _ rfl rfl rfl ?_); intro r2 m2 h2; have H2 := Lib.hid h2; clear h2 k2 t) | (have t := k3; (refine wpList_arith _ _ _ _ _ rfl rfl _ _ _ rfl rfl rfl ?_); intro r3 m3 h3; have H3 := Lib.hid h3; clear h3 k3 t) | (have t := k4; (refine wpList_arith _ _ _ _ _ rfl rfl _ _ _ rfl rfl rfl ?_); intro r4 m4 h4; have H4 := Lib.hid h4; clear h4 k4 t) | (have t := k5; (refine wpList_arith _ _ _ _ _ rfl rfl _ _ _ rfl rfl rfl ?_); intro r5 m5 h5; have H5 := Lib.hid h5; clear h5 k5 t) | (refine wpList_narrow _ _ _ rfl rfl _ rfl (by rw [Try.underlying25]; rfl) Try.underlying22 ?_ ?_; (intro v hv; exact sine_fits false HW.out.lt HW.out.bd (ang_eq HW (by have h := H5.out; rw [ang_half, H4.out.ab, ang_quarter, H3.out.ab, H2.out.ab, H1.out.ab, HQ.out.ab, HC.out.ab, ang_eight, ang_turn] at h; exact h)) v hv); intro r' n' hr'))
          go_ret
          have ha := (ang_eq HW (by have h := H5.out; rw [ang_half, H4.out.ab, ang_quarter, H3.out.ab, H2.out.ab, H1.out.ab, HQ.out.ab, HC.out.ab, ang_eight, ang_turn] at h; exact h))
          refine ⟨_, ang_end false HW ha hr', rfl, ?_⟩
          exact (by repeat (first | exact Below.refl _ _ | refine Below.setCell ?_ (by first | (simp; done) | (simp; omega)) _ | refine Below.trans ?_ (Below.mono (by assumption) (by first | (simp; done) | (simp; omega))) | refine Below.alloc ?_ (by first | (simp; done) | (simp; omega)) _ | refine Below.alloc ?_ (Nat.le_refl _) _ | refine below_drewN ?_ _))

set_option maxHeartbeats 4000000 in
theorem impl_angle_1110 (y x : Nat) (hlY : wide y < 18446744073709551616) (hlX : wide x < 18446744073709551616) (g : Nat)
    (hfin : (fin .f32 (ab .f32 y) && fin .f32 (ab .f32 x)) = true)
    (hcy : ∀ w, (convert 22 25 (.float .f32 y)).run Try.prog w = .ok (.float .f64 (wide y)) w)
    (hcx : ∀ w, (convert 22 25 (.float .f32 x)).run Try.prog w = .ok (.float .f64 (wide x)) w)
    (hgt : (FloatKind.f64.format.order (rg Ieee.double (wide y)) (rg Ieee.double (wide x)) == some .gt) = true)
    (HA : Hid (ab .f64 (rg Ieee.double (wide y)) = some (rg Ieee.double (wide y)))) (HB : Hid (ab .f64 (rg Ieee.double (wide x)) = some (rg Ieee.double (wide x))))
    (hzx : (FloatKind.f32.format.order x 0 == some .eq) = false)
    (hlx : (FloatKind.f32.format.order x 0 == some .lt) = true) (hly : (FloatKind.f32.format.order y 0 == some .lt) = true)
    (HW : Hid (AngWay (wide y) (wide x) true true true g)) (w : World) :
    Calls Try.prog 19 #[.float .f32 y, .float .f32 x] w (RetFB ((wangle (ab .f64 (wide y)) (ab .f64 (wide x))).map nar) w) := by
  go_enter Try.func19, Try.ntmps19
  have k1 : True := trivial
  have k2 : True := trivial
  go_wp2_with (first | (go_at_call 32; refine (finite2 _ y x _ (by simp) (by simp)).mono ?_; rintro e w' ⟨n, rfl, rfl⟩) | (go_at_call 29; refine (math_Abs _ (by assumption) _).mono ?_; rintro e w' ⟨rfl, rfl⟩) | (have t := k1; (refine wpList_arith _ _ _ _ _ rfl rfl _ _ _ rfl rfl rfl ?_); intro r1 m1 h1; have H1 := Lib.hid h1; clear h1 k1 t) | (have t := k2; (refine wpList_arith _ _ _ _ _ rfl rfl _ _ _ rfl rfl rfl ?_); intro r2 m2 h2; have H2 := Lib.hid h2; clear h2 k2 t))
  go_loopw [42, 7] (fun s42 s7 wr => ∃ (j t n : Nat), j ≤ 3 ∧ s42 = .int .i64 j ∧ s7 = .float .f64 t ∧ Is .f64 t (tN (angT (rg Ieee.double (wide y)) (rg Ieee.double (wide x))) j) ∧ wr = (w.alloc (.cells #[.float .f32 y, .float .f32 x] 22)).drewN n) (fun s42 _ _ => 3 - (intOf s42).toNat)
  case atStart => exact ⟨0, _, _, by omega, rfl, rfl, angle_over hgt HA.out HB.out H2.out, rfl⟩
  case round =>
    obtain ⟨j, t, n, hj, rfl, rfl, ht, rfl⟩ := hrel
    have HC := Lib.hid ht
    clear ht
    by_cases hlt : j < 3
    · have k1 : True := trivial
      have k2 : True := trivial
      have k3 : True := trivial
      have k4 : True := trivial
      go_wp2_with (first | (have t := k1; (refine wpList_arith _ _ _ _ _ rfl rfl _ _ _ rfl rfl rfl ?_); intro q m1 h1; have H1 := Lib.hid h1; clear h1 k1 t) | (have t := k2; (refine wpList_arith _ _ _ _ _ rfl rfl _ _ _ rfl rfl rfl ?_); intro r m2 h2; have H2 := Lib.hid h2; clear h2 k2 t) | (have t := k3; (refine wpList_arith _ _ _ _ _ rfl rfl _ _ _ rfl rfl rfl ?_); intro z m3 h3; have H3 := Lib.hid h3; clear h3 k3 t) | (have t := k4; (refine wpList_arith _ _ _ _ _ rfl rfl _ _ _ rfl rfl rfl ?_); intro t' m4 h4; have H4 := Lib.hid h4; clear h4 k4 t) | (go_at_call 21; refine (math_Sqrt _ _).mono ?_; rintro e w' ⟨s, ms, hs, rfl, rfl⟩; have HS := Lib.hid hs; clear hs))
      go_roundw
      case rel =>
        have h4 := H4.out
        rw [H3.out.ab, HS.out.ab, H2.out.ab, H1.out.ab, HC.out.ab, sine_one] at h4
        exact ⟨j + 1, t', _, by omega, by go_num, rfl, h4, rfl⟩
      case measure => simp [intOf]; omega
    · obtain rfl : j = 3 := by omega
      have k1 : True := trivial
      go_wp2_with (first | (have t := k1; (refine wpList_arith _ _ _ _ _ rfl rfl _ _ _ rfl rfl rfl ?_); intro u m1 h1; have H1 := Lib.hid h1; clear h1 k1 t))
      have hu : ab .f64 u = oop .mul .f64 (tN (angT (rg Ieee.double (wide y)) (rg Ieee.double (wide x))) 3) (tN (angT (rg Ieee.double (wide y)) (rg Ieee.double (wide x))) 3) := by rw [H1.out.ab, HC.out.ab]
      have HU := Lib.hid hu
      clear hu H1
      go_loopw [9, 10] (fun s9 s10 wr => ∃ (j q n : Nat), j ≤ 8 ∧ s10 = .int .i64 (15 - 2 * (j : Int)) ∧ s9 = .float .f64 q ∧ Is .f64 q (pA (oop .mul .f64 (tN (angT (rg Ieee.double (wide y)) (rg Ieee.double (wide x))) 3) (tN (angT (rg Ieee.double (wide y)) (rg Ieee.double (wide x))) 3)) j) ∧ wr = (w.alloc (.cells #[.float .f32 y, .float .f32 x] 22)).drewN n) (fun _ s10 _ => (intOf s10 + 1).toNat)
      case atStart => exact ⟨0, 0, _, by omega, rfl, rfl, ⟨rfl, by decide⟩, rfl⟩
      case round =>
        obtain ⟨j, q, n, hj, rfl, rfl, hq, rfl⟩ := hrel
        have HQ := Lib.hid hq
        clear hq
        by_cases hlt : j < 8
        · have k1 : True := trivial
          have k2 : True := trivial
          have k3 : True := trivial
          go_wp2_with (first | (have t := k1; (refine wpList_arith _ _ _ _ _ rfl rfl _ _ _ rfl rfl rfl ?_); intro r1 m1 h1; have H1 := Lib.hid h1; clear h1 k1 t) | (have t := k2; (refine wpList_arith _ _ _ _ _ rfl rfl _ _ _ rfl rfl rfl ?_); intro r2 m2 h2; have H2 := Lib.hid h2; clear h2 k2 t) | (have t := k3; (refine wpList_arith _ _ _ _ _ rfl rfl _ _ _ rfl rfl rfl ?_); intro q' m3 h3; have H3 := Lib.hid h3; clear h3 k3 t))
          go_roundw
          case rel =>
            have h3 := H3.out
            rw [H1.out.ab, H2.out.ab, HU.out, HQ.out.ab, sine_one, show floatOfInt .f64 (15 - 2 * (j : Int)) = flJ (15 - 2 * (j : Int)) from rfl, ab_flJ] at h3
            exact ⟨j + 1, q', _, by omega, by simp; omega, rfl, h3, rfl⟩
          case measure => simp [intOf]; omega
        · obtain rfl : j = 8 := by omega
          have k1 : True := trivial
          have k2 : True := trivial
          have k3 : True := trivial
          have k4 : True := trivial
          have k5 : True := trivial
          go_wp2_with (first | (have t := k1; (refine wpList_arith _ _ _ _ _ rfl rfl _ _ _ rfl rfl rfl ?_); intro r1 m1 h1; have H1 := Lib.hid h1; clear h1 k1 t) | (have t := k2; (refine wpList_arith _ _ _ _ _ rfl rfl _ _ _ rfl rfl rfl ?_); intro r2 m2 h2; have H2 := Lib.hid h2; clear h2 k2 t) | (have t := k3; (refine wpList_arith _ _ _ _ _ rfl rfl _ _ _ rfl rfl rfl ?_); intro r3 m3 h3; have H3 := Lib.hid h3; clear h3 k3 t) | (have t := k4; (refine wpList_arith _ _ _ _ _ rfl rfl _ _ _ rfl rfl rfl ?_); intro r4 m4 h4; have H4 := Lib.hid h4; clear h4 k4 t) | (have t := k5; (refine wpList_arith _ _ _ _ _ rfl rfl _ _ _ rfl rfl rfl ?_); intro r5 m5 h5; have H5 := Lib.hid h5; clear h5 k5 t) | (refine wpList_narrow _ _ _ rfl rfl _ rfl (by rw [Try.underlying25]; rfl) Try.underlying22 ?_ ?_; (intro v hv; exact sine_fits true HW.out.lt HW.out.bd (ang_eq HW (by have h := H5.out; rw [ang_half, H4.out.ab, ang_quarter, H3.out.ab, H2.out.ab, H1.out.ab, HQ.out.ab, HC.out.ab, ang_eight, ang_turn] at h; exact h)) v hv); intro r' n' hr'))
          go_ret
          have ha := (ang_eq HW (by have h := H5.out; rw [ang_half, H4.out.ab, ang_quarter, H3.out.ab, H2.out.ab, H1.out.ab, HQ.out.ab, HC.out.ab, ang_eight, ang_turn] at h; exact h))
          refine ⟨_, ang_end true HW ha hr', rfl, ?_⟩
          exact (by repeat (first | exact Below.refl _ _ | refine Below.setCell ?_ (by first | (simp; done) | (simp; omega)) _ | refine Below.trans ?_ (Below.mono (by assumption) (by first | (simp; done) | (simp; omega))) | refine Below.alloc ?_ (by first | (simp; done) | (simp; omega)) _ | refine Below.alloc ?_ (Nat.le_refl _) _ | refine below_drewN ?_ _))

end Go.Proofs.Ytfgdcanoeipilaa
