/-
  The walks of SineTurns and its law.
-/
import Derived.Test.YtfgdcanoeipilaaSine
namespace Go.Proofs.Ytfgdcanoeipilaa
open Go.RowKit Go.FL
theorem wsine_none {y : Nat} (h : ¬ rg Ieee.double y < Ieee.double.infRung) : wsine (ab .f64 y) = none := by
  rcases Nat.lt_or_eq_of_le (Nat.not_lt.1 h) with h | h
  · rw [(ab_none (k := .f64)).2 h]; rfl
  · rw [ab_of (k := .f64) (Nat.le_of_eq h.symm)]
    exact if_pos h.symm
theorem wsine_big {y : Nat} (h : 4841369599423283200 ≤ rg Ieee.double y) (h' : rg Ieee.double y < Ieee.double.infRung) : wsine (ab .f64 y) = some 0 := by
  rw [ab_of (k := .f64) (Nat.le_of_lt h')]
  show (if rg Ieee.double y = Ieee.double.infRung then none else if 4841369599423283200 ≤ rg Ieee.double y then some 0 else sineFin y) = some 0
  rw [if_neg (by omega), if_pos h]
theorem wsine_small {y : Nat} (h : rg Ieee.double y < 4841369599423283200) : wsine (ab .f64 y) = sineFin y := by
  rw [ab_of (k := .f64) (by show rg Ieee.double y ≤ Ieee.double.infRung; rw [di]; omega)]
  show (if rg Ieee.double y = Ieee.double.infRung then none else if 4841369599423283200 ≤ rg Ieee.double y then some 0 else sineFin y) = sineFin y
  rw [if_neg (by rw [di]; omega), if_neg (by omega)]

theorem spec_sineWide (y : Nat) (hl : y < 18446744073709551616) (w : World) : Calls Try.prog 38 #[.float .f64 y] w (RetF .f64 (wsine (ab .f64 y)) w) := by
  by_cases hi : rg Ieee.double y < Ieee.double.infRung
  · by_cases hb : 4841369599423283200 ≤ rg Ieee.double y
    · rw [wsine_big hb hi]
      have hss := fun w => run_float_arith (P := Try.prog) w .sub 25 .f64 y y 0 (self_sub hi)
      have hne : (FloatKind.f64.format.order 0 0 != some .eq) = false := by decide +kernel
      have hi' : rg Ieee.double y ≤ 9218868437227405312 := by rw [di] at hi; omega
      cases hs : sg Ieee.double y
      · have hge := ge_big hb hi' hs
        clear hb hi hi' hs
        go_enter Try.func38, Try.ntmps38
        go_wp2
        go_ret
        exact RetF.mk0 ⟨by decide +kernel, by decide +kernel⟩
      · have hge := ge_neg hb hi' hs
        have hle := le_neg hb hi' hs
        clear hb hi hi' hs
        go_enter Try.func38, Try.ntmps38
        go_wp2
        go_ret
        exact RetF.mk0 ⟨by decide +kernel, by decide +kernel⟩
    · rw [wsine_small (by omega)]
      exact spec_sine_small y (by omega) hl w
  · rw [wsine_none hi]
    have hd : ∀ r, Is .f64 r (oop .sub .f64 (ab .f64 y) (ab .f64 y)) → (FloatKind.f64.format.order r 0 != some .eq) = true := by
      intro r hr
      have h1 := fin64_ne (y := y)
      rw [decide_eq_false hi, ← hr.ab] at h1
      rw [order_ab, ab_zero]
      exact h1
    have HD := Lib.hid hd
    clear hd hi
    go_enter Try.func38, Try.ntmps38
    go_wp2_with (first | ((refine wpList_arith _ _ _ _ _ rfl rfl _ _ _ rfl rfl rfl ?_); intro r n hr; have hq := HD.out r hr; clear hr) | (go_at_call 28; refine (sine_NaN _).mono ?_; rintro e w' ⟨rfl, rfl⟩))
    go_ret
    exact RetF.mk _ ⟨by decide +kernel, by decide +kernel⟩

theorem impl_SineTurns (x : Nat) (w : World) : Calls Try.prog 17 #[.float .f32 x] w (RetF .f32 ((wsine ((ab .f32 x).map wide)).map nar) w) := by
  by_cases hi : rg Ieee.single x < Ieee.single.infRung
  · have ha : (ab .f32 x).map wide = ab .f64 (wide x) := by
      have h1 := ab_of (k := .f32) (b := x) (Nat.le_of_lt hi)
      rw [h1, ab_wide h1]; rfl
    have hl : wide x < 18446744073709551616 := by
      have := (Ieee.Format.write_lt Ieee.double (Ieee.single.read x))
      rw [show (2 : Nat) ^ Ieee.double.width = 18446744073709551616 by decide] at this
      exact this
    rw [ha]
    by_cases hb : rg Ieee.double (wide x) < 4841369599423283200
    · rw [wsine_small hb]
      by_cases hn : wholeI (wide x) = 0
      · exact impl_sine_zero x hi hb hl hn w
      · exact impl_sine_more x hi hb hl hn w
    · have hi2 := (wide_num x hi).2.1
      rw [wsine_big (Nat.not_lt.1 hb) hi2]
      have hfin : fin .f32 (ab .f32 x) = true := by rw [fin32, decide_eq_true hi]
      have hcv := fun w => run_convert_float_float (P := Try.prog) w 22 25 .f32 .f64 x (wide x) (by rw [Try.underlying22]; rfl) Try.underlying25 (wide_bits (Nat.le_of_lt hi))
      have hge := abs_big (Nat.not_lt.1 hb) (by rw [di] at hi2; omega)
      have HL := Lib.hid hl
      clear ha hi hb hi2 hl
      go_enter Try.func17, Try.ntmps17
      go_wp2_with (first | (go_at_call 27; refine (impl_IsFinite _ _).mono ?_; rintro e w' ⟨n, rfl, rfl⟩) | (go_at_call 29; refine (math_Abs _ HL.out _).mono ?_; rintro e w' ⟨rfl, rfl⟩))
      go_ret
      exact RetF.mk _ ⟨by decide +kernel, by decide +kernel⟩
  · have hn : wsine ((ab .f32 x).map wide) = none := by
      rcases Nat.lt_or_eq_of_le (Nat.not_lt.1 hi) with h | h
      · rw [(ab_none (k := .f32)).2 h]; rfl
      · have h1 := ab_of (k := .f32) (b := x) (Nat.le_of_eq h.symm)
        rw [h1]
        have h2 := wsine_none (y := wide x) (by rw [(wide_inf x h.symm).2]; omega)
        rw [ab_wide h1] at h2
        exact h2
    rw [hn]
    have hfin : fin .f32 (ab .f32 x) = false := by rw [fin32, decide_eq_false hi]
    clear hn hi
    go_enter Try.func17, Try.ntmps17
    go_wp2_with (first | (refine wpList_widen _ _ _ rfl rfl _ rfl (by rw [Try.underlying22]; rfl) Try.underlying25 ?_; intro r n hr; have er := hr.ab) | (go_at_call 27; refine (impl_IsFinite _ _).mono ?_; rintro e w' ⟨n, rfl, rfl⟩) | (go_at_call 28; refine (sine_NaN _).mono ?_; rintro e w' ⟨rfl, rfl⟩) | (refine wpList_narrow _ _ _ rfl rfl _ rfl (by rw [Try.underlying25]; rfl) Try.underlying22 ?_ ?_; (intro v hv; rw [sine_nan] at hv; cases hv); intro r' n' hr'))
    go_ret
    rw [sine_nan] at hr'
    exact RetF.mk _ hr'

theorem spec_l01Sine (x : Nat) (w : World) : Calls Try.prog 26 #[.float .f32 x] w (RetF .f32 ((wsine ((ab .f32 x).map wide)).map nar) w) := by
  go_enter Try.func26, Try.ntmps26
  go_wp2_with (first | (refine wpList_widen _ _ _ rfl rfl _ rfl (by rw [Try.underlying22]; rfl) Try.underlying25 ?_; intro r n hr; have HE := Lib.hid hr; clear hr) | (go_at_call 38; refine (spec_sineWide _ ?_ _).mono ?_; exact sine_lt HE.out; rintro e w' ⟨s, m, hs, rfl, rfl⟩; have HS := Lib.hid hs; clear hs) | (go_at_call 33; refine (spec_l01Narrow _ _ ?_).mono ?_; (intro v hv; rw [HS.out.ab] at hv; exact wsine_fits (sine_lt HE.out) v hv); rintro e w' ⟨q, m2, hq, rfl, rfl⟩))
  go_ret
  rw [HS.out.ab, HE.out.ab] at hq
  exact RetF.mk _ hq

theorem spec_SineTurns (x : Nat) (w : World) : Calls Try.prog 16 #[.float .f32 x] w (RetF .f32 ((wsine ((ab .f32 x).map wide)).map nar) w) := by
  go_enter Try.func16, Try.ntmps16
  go_wp2_with (go_at_call 26; refine (spec_l01Sine _ _).mono ?_; rintro e w' ⟨q, m2, hq, rfl, rfl⟩)
  go_ret
  exact RetF.mk _ hq

theorem FnExactSineTurns_walk (x : Nat) (w : World) (_ : (Lit.float .f32 x).wf = true) : Calls Try.prog 6 #[.float .f32 x] w fun e w' => e = .returned (.bool true) ∧ Below w.heap.size w w' := by
  go_enter Try.func6, Try.ntmps6
  go_wp2_with (first | (go_at_call 16; refine (spec_SineTurns _ _).mono ?_; rintro e w' ⟨s, m, hs, rfl, rfl⟩; have es := hs.ab) | (go_at_call 17; refine (impl_SineTurns _ _).mono ?_; rintro e w' ⟨q, m2, hq, rfl, rfl⟩; have eq := hq.ab) | (refine wpList_widen _ _ _ rfl rfl _ rfl (by rw [Try.underlying22]; rfl) Try.underlying25 ?_; intro r n hr; have er := hr.ab) | (go_at_call 10; refine (sameFloat _ _ _ ?_).mono ?_; (simp only [*]); rintro e w' ⟨n, rfl, rfl⟩))
  go_ret
  exact ⟨rfl, (by repeat (first | exact Below.refl _ _ | refine Below.setCell ?_ (by first | (simp; done) | (simp; omega)) _ | refine Below.trans ?_ (Below.mono (by assumption) (by first | (simp; done) | (simp; omega))) | refine Below.alloc ?_ (by first | (simp; done) | (simp; omega)) _ | refine Below.alloc ?_ (Nat.le_refl _) _ | refine below_drewN ?_ _))⟩

end Go.Proofs.Ytfgdcanoeipilaa
