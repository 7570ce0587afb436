/-
  The walks of the functions on sines.
-/
import Derived.Test.YtfgdcanoeipilaaOne
import Derived.Test.YtfgdcanoeipilaaSineP
import Derived.Test.YtfgdcanoeipilaaRoot
import Derived.WalkKit
import Derived.WalkSpells
import Derived.WalkLawsBesides
import Derived.ProofKit
import Derived.LoopTactic
import Derived.Outline
import Derived.Lib.Hide
namespace Go.Proofs.Ytfgdcanoeipilaa
open Go.RowKit Go.FL

@[go_sem] theorem sine_frombits64 (b : Int) (w : World) : (callFunc 39 #[.int .u64 b]).run Try.prog w = .ok (.value (.float .f64 b.toNat)) w := by kernel_rfl
@[go_sem] theorem sine_bits64 (b : Nat) (w : World) : (callFunc 40 #[.float .f64 b]).run Try.prog w = .ok (.value (.int .u64 b)) w := by kernel_rfl

theorem sine_NaN (w : World) : Calls Try.prog 28 #[] w fun e w' => e = .returned (.float .f64 9221120237041090561) ∧ w = w' := by
  go_enter Try.func28, Try.ntmps28
  go_wp2
  go_ret
  exact ⟨rfl, rfl⟩

theorem andNot_top64 (x : Nat) (h : x < 18446744073709551616) : bits .andNot .u64 (x : Int) 9223372036854775808 = ((rg Ieee.double x : Nat) : Int) := by
  have := u64_andNot_nat x 9223372036854775808 h (by omega)
  rw [show (18446744073709551615 - 9223372036854775808 : Nat) = 2 ^ 63 - 1 by decide, Nat.and_two_pow_sub_one_eq_mod x 63] at this
  unfold rg
  rw [show Ieee.double.signWeight = 2 ^ 63 by decide]
  exact this

theorem math_Abs (x : Nat) (hx : x < 18446744073709551616) (w : World) : Calls Try.prog 29 #[.float .f64 x] w fun e w' => e = .returned (.float .f64 (rg Ieee.double x)) ∧ w = w' := by
  have h1 := andNot_top64 x hx
  go_enter Try.func29, Try.ntmps29
  go_wp2
  go_ret
  exact ⟨rfl, rfl⟩

theorem trunc_is (x : Nat) : Extern.MathFloor.toIntegral "math.archTrunc" .zero #[.float .f64 x] = (match FloatKind.f64.decode x with
    | .nan s t =>
      if FloatKind.f64.format.quiet t = t then pure (.float .f64 x) else do
      let kept ← choose (.extern "math.Floor,Ceil,Trunc,RoundToEven.signallingNaN kept" 2)
      pure (.float .f64 (if kept == 1 then x else FloatKind.f64.encode (.nan s (FloatKind.f64.format.quiet t))))
    | d => pure (.float .f64 (FloatKind.f64.encode (d.integral .zero)))) := rfl

theorem run_trunc (x : Nat) (h : rg Ieee.double x ≤ Ieee.double.infRung) (w : World) : (callFunc 41 #[.float .f64 x]).run Try.prog w = .ok (.value (.float .f64 (wholeF x))) w := by
  have hc : (callFunc 41 #[.float .f64 x]).run Try.prog w = ((Extern.MathFloor.toIntegral "math.archTrunc" .zero #[.float .f64 x]).run Try.prog w).andThen fun u w' => .ok (.value u) w' := by
    have h : (callFunc 41 #[.float .f64 x]).run Try.prog w = (do pure (Next.value (← Extern.MathFloor.toIntegral "math.archTrunc" .zero #[.float .f64 x])) : Sem Next).run Try.prog w := by kernel_rfl
    rw [h]
    simp
  rw [hc]
  have hd : FloatKind.f64.decode x = Ieee.double.read x := rfl
  rw [trunc_is]
  unfold wholeF
  rcases Nat.lt_or_eq_of_le h with h | h
  · obtain ⟨m, i, e, _⟩ := read_num Ieee.double x h
    simp [hd, e]
    rfl
  · have e := read_inf Ieee.double (by decide) x h
    simp [hd, e]
    rfl

theorem math_Trunc (x : Nat) (h : rg Ieee.double x ≤ Ieee.double.infRung) (w : World) : Calls Try.prog 30 #[.float .f64 x] w fun e w' => e = .returned (.float .f64 (wholeF x)) ∧ w = w' := by
  have h1 := run_trunc x h
  go_enter Try.func30, Try.ntmps30
  go_wp2
  go_ret
  exact ⟨rfl, rfl⟩

theorem sine_k {j : Nat} (h : j < 8) : 1 ≤ 2 * (8 - (j : Int)) * (2 * (8 - (j : Int)) + 1) ∧ 2 * (8 - (j : Int)) * (2 * (8 - (j : Int)) + 1) ≤ 1000 := by
  rcases (show j = 0 ∨ j = 1 ∨ j = 2 ∨ j = 3 ∨ j = 4 ∨ j = 5 ∨ j = 6 ∨ j = 7 by omega) with rfl | rfl | rfl | rfl | rfl | rfl | rfl | rfl <;> decide
theorem sine_one : ab .f64 4607182418800017408 = some sOne := by decide +kernel
theorem ab_flJ (e : Int) : ab .f64 (flJ e) = some (flJ e) := ab_of (rg_write Ieee.double (d := .number (e < 0) e.natAbs 0) (by intro s t e; cases e))
theorem sine_start (u : Nat) : Is .f64 4607182418800017408 (pS (some u) 0) := ⟨sine_one, by decide +kernel⟩

/-- how the words of numbers stand to each other -/
theorem ord_pos {x y : Nat} (hx : x < 9218868437227405313) (hy : y < 9218868437227405313) : FloatKind.f64.format.order x y = some (compare (x : Int) (y : Int)) := by
  have hs : ∀ x, x < 9218868437227405313 → rg Ieee.double x = x ∧ sg Ieee.double x = false := by
    intro x hx
    unfold rg sg
    rw [show Ieee.double.signWeight = 9223372036854775808 by decide, Nat.mod_eq_of_lt (by omega), Nat.div_eq_of_lt (by omega)]
    exact ⟨rfl, rfl⟩
  have e := order_key Ieee.double (by decide) x y (by rw [(hs x hx).1, di]; omega) (by rw [(hs y hy).1, di]; omega)
  unfold key at e
  rw [(hs x hx).1, (hs x hx).2, (hs y hy).1, (hs y hy).2] at e
  exact e
theorem abs_small {r : Nat} (h : r < 4841369599423283200) : (FloatKind.f64.format.order r 4841369599423283200 == some .gt || FloatKind.f64.format.order r 4841369599423283200 == some .eq) = false := by
  rw [ord_pos (by omega) (by omega), cmp_lt (by omega)]; rfl
theorem abs_big {r : Nat} (h : 4841369599423283200 ≤ r) (h' : r < 9218868437227405313) : (FloatKind.f64.format.order r 4841369599423283200 == some .gt || FloatKind.f64.format.order r 4841369599423283200 == some .eq) = true := by
  rw [ord_pos (by omega) (by omega)]
  rcases Nat.lt_or_eq_of_le h with h | h
  · rw [cmp_gt (by omega)]; rfl
  · rw [cmp_eq (by omega)]; rfl
theorem key_of (y : Nat) : key Ieee.double y = if sg Ieee.double y then -(rg Ieee.double y : Int) else (rg Ieee.double y : Int) := rfl
theorem ord_c {y c : Nat} (h : rg Ieee.double y ≤ 9218868437227405312) (hc : rg Ieee.double c ≤ 9218868437227405312) : FloatKind.f64.format.order y c = some (compare (key Ieee.double y) (key Ieee.double c)) :=
  order_key Ieee.double (by decide) y c (by rw [di]; exact h) (by rw [di]; exact hc)
theorem key_c1 : key Ieee.double 4841369599423283200 = 4841369599423283200 := by decide +kernel
theorem key_c2 : key Ieee.double 14064741636278059008 = -4841369599423283200 := by decide +kernel
theorem rg_c1 : rg Ieee.double 4841369599423283200 = 4841369599423283200 := by decide +kernel
theorem rg_c2 : rg Ieee.double 14064741636278059008 = 4841369599423283200 := by decide +kernel
theorem ge_small {y : Nat} (_ : y < 18446744073709551616) (h : rg Ieee.double y < 4841369599423283200) : (FloatKind.f64.format.order y 4841369599423283200 == some .gt || FloatKind.f64.format.order y 4841369599423283200 == some .eq) = false := by
  rw [ord_c (by omega) (by rw [rg_c1]; omega), key_c1, key_of, cmp_lt (by split <;> omega)]; rfl
theorem le_small {y : Nat} (_ : y < 18446744073709551616) (h : rg Ieee.double y < 4841369599423283200) : (FloatKind.f64.format.order y 14064741636278059008 == some .lt || FloatKind.f64.format.order y 14064741636278059008 == some .eq) = false := by
  rw [ord_c (by omega) (by rw [rg_c2]; omega), key_c2, key_of, cmp_gt (by split <;> omega)]; rfl
theorem ge_big {y : Nat} (h : 4841369599423283200 ≤ rg Ieee.double y) (h' : rg Ieee.double y ≤ 9218868437227405312) (hs : sg Ieee.double y = false) : (FloatKind.f64.format.order y 4841369599423283200 == some .gt || FloatKind.f64.format.order y 4841369599423283200 == some .eq) = true := by
  rw [ord_c h' (by rw [rg_c1]; omega), key_c1, key_of, hs]
  simp only [Bool.false_eq_true, if_false]
  rcases Nat.lt_or_eq_of_le h with h | h
  · rw [cmp_gt (by omega)]; rfl
  · rw [cmp_eq (by omega)]; rfl
theorem ge_neg {y : Nat} (h : 4841369599423283200 ≤ rg Ieee.double y) (h' : rg Ieee.double y ≤ 9218868437227405312) (hs : sg Ieee.double y = true) : (FloatKind.f64.format.order y 4841369599423283200 == some .gt || FloatKind.f64.format.order y 4841369599423283200 == some .eq) = false := by
  rw [ord_c h' (by rw [rg_c1]; omega), key_c1, key_of, hs, if_pos rfl, cmp_lt (by omega)]; rfl
theorem le_neg {y : Nat} (h : 4841369599423283200 ≤ rg Ieee.double y) (h' : rg Ieee.double y ≤ 9218868437227405312) (hs : sg Ieee.double y = true) : (FloatKind.f64.format.order y 14064741636278059008 == some .lt || FloatKind.f64.format.order y 14064741636278059008 == some .eq) = true := by
  rw [ord_c h' (by rw [rg_c2]; omega), key_c2, key_of, hs, if_pos rfl]
  rcases Nat.lt_or_eq_of_le h with h | h
  · rw [cmp_lt (by omega)]; rfl
  · rw [cmp_eq (by omega)]; rfl
theorem whole_eq {f : Nat} (h : rg Ieee.double f = 0) : (FloatKind.f64.format.order f 0 != some .eq) = false := by
  rw [ord_c (by omega) (by decide +kernel), key_of, h, show key Ieee.double 0 = 0 by decide +kernel]
  cases sg Ieee.double f <;> rfl
theorem whole_ne {f : Nat} (h : rg Ieee.double f ≠ 0 ∧ rg Ieee.double f ≤ Ieee.double.infRung) : (FloatKind.f64.format.order f 0 != some .eq) = true := by
  obtain ⟨h1, h2⟩ := h
  rw [di] at h2
  rw [ord_c h2 (by decide +kernel), key_of, show key Ieee.double 0 = 0 by decide +kernel]
  cases sg Ieee.double f
  · simp only [Bool.false_eq_true, if_false]; rw [cmp_gt (by omega)]; rfl
  · rw [if_pos rfl, cmp_lt (by omega)]; rfl
theorem self_sub {y : Nat} (h : rg Ieee.double y < Ieee.double.infRung) : floatBits .sub .f64 y y = some 0 := by
  obtain ⟨m, i, e, _⟩ := read_num Ieee.double y h
  show Ieee.double.sub y y = some 0
  unfold Ieee.Format.sub
  rw [e]
  simp only [Ieee.Datum.opposite, Ieee.Datum.sum, Option.map_some]
  have hz : Ieee.signed (sg Ieee.double y) m (i - min i i).toNat + Ieee.signed (!sg Ieee.double y) m (i - min i i).toNat = 0 := by
    unfold Ieee.signed; cases sg Ieee.double y <;> simp <;> omega
  rw [hz, if_pos rfl]
  have : (sg Ieee.double y && !sg Ieee.double y) = false := by cases sg Ieee.double y <;> rfl
  rw [this]
  rfl

/-- the last step: a sign, and float32 -/
def signed64 (b : Bool) (r : Nat) : Nat := if b then Op.negFloat .f64 r else r
theorem signed_bd (b : Bool) {v : Nat} (hl : v < 18446744073709551616) (hv : Bd Ieee.double v 127) : Bd Ieee.double (signed64 b v) 127 := by
  cases b
  · exact hv
  · exact neg_bd hl hv
theorem sine_fits (b : Bool) {v r : Nat} (hl : v < 18446744073709551616) (hv : Bd Ieee.double v 127) (h : r = v) : ∀ y, ab .f64 (signed64 b r) = some y → Fits y := by
  intro y hy
  subst h
  have hb := signed_bd b hl hv
  rw [hb.ab] at hy
  cases hy
  exact .inr hb
theorem sine_end (b : Bool) {y v r r' : Nat} (hf : sineFin y = negIf b (some v)) (hl : v < 18446744073709551616) (hv : Bd Ieee.double v 127) (h : r = v) (hr : Is .f32 r' ((ab .f64 (signed64 b r)).map nar)) : Is .f32 r' ((sineFin y).map nar) := by
  subst h
  rw [(signed_bd b hl hv).ab] at hr
  rw [hf]
  cases b <;> exact hr
theorem sine_end64 (b : Bool) {y v r : Nat} (hf : sineFin y = negIf b (some v)) (hl : v < 18446744073709551616) (hv : Bd Ieee.double v 127) (h : r = v) : Is .f64 (signed64 b r) (sineFin y) := by
  subst h
  have hb := signed_bd b hl hv
  have hn : negIf b (some r) = some (signed64 b r) := by cases b <;> rfl
  rw [hf, hn]
  refine ⟨hb.ab, ?_⟩
  rw [show FloatKind.f64.format.width = 64 by decide]
  cases b
  · exact hl
  · exact (neg_read r hl).2.2

theorem sine_nan : ab .f64 9221120237041090561 = none := by decide +kernel
theorem sine_lt {r : Nat} {o : Option Nat} (h : Is .f64 r o) : r < 18446744073709551616 := by have := h.lt; rw [show FloatKind.f64.format.width = 64 by decide] at this; exact this

set_option maxHeartbeats 4000000 in
/-- the program's sine of a number that is not too great -/
theorem impl_sine_zero (x : Nat) (hx : rg Ieee.single x < Ieee.single.infRung) (hy : rg Ieee.double (wide x) < 4841369599423283200) (hl : wide x < 18446744073709551616) (hn : wholeI (wide x) = 0) (w : World) :
    Calls Try.prog 17 #[.float .f32 x] w (RetF .f32 ((sineFin (wide x)).map nar) w) := by
  obtain ⟨f0, f1, f2, f3, z, u, v, b0, b1, b2, hw⟩ := sine_way hl hy
  have hfin : fin .f32 (ab .f32 x) = true := by rw [fin32, decide_eq_true hx]
  have hcv := fun w => run_convert_float_float (P := Try.prog) w 22 25 .f32 .f64 x (wide x) (by rw [Try.underlying22]; rfl) Try.underlying25 (wide_bits (Nat.le_of_lt hx))
  have hr : rg Ieee.double (wide x) < 9218868437227405312 := by omega
  have hge := abs_small hy
  have hz := fun w => run_float_arith (P := Try.prog) w .mul 25 .f64 f3 sTurn z hw.hz
  have hu := fun w => run_float_arith (P := Try.prog) w .mul 25 .f64 z z u hw.hu
  have HZ := Lib.hid hw.az
  have HU := Lib.hid hw.au
  have HT := Lib.hid hw.tail'
  have HF := Lib.hid hw.fin
  have HL := Lib.hid hw.lt
  have HV := Lib.hid hw.bv
  have h0 := hw.h0
  have l0 := hw.l0
  have h1 := hw.h1
  have l1 := hw.l1
  have h2 := hw.h2
  have l2 := hw.l2
  have h3 := hw.h3
  clear hw
  rw [hn] at h0
  obtain rfl : wide x = f0 := Option.some.inj ((sub_nought hl (by rw [di]; omega)).symm.trans h0)
  have en : (FloatKind.f64.format.order (wholeF (wide x)) 0 != some .eq) = false := whole_eq (wholeF_zero hy hn)
  clear h0 hn
  cases b0 <;> cases b1 <;> cases b2
  · obtain rfl : wide x = f1 := h1
    obtain rfl : wide x = f2 := h2
    obtain rfl : wide x = f3 := h3
    unfold sHalf sQuarter sTurn at *
    go_enter Try.func17, Try.ntmps17
    go_wp2_with (first | (go_at_call 27; refine (impl_IsFinite _ _).mono ?_; rintro e w' ⟨n, rfl, rfl⟩) | (go_at_call 29; refine (math_Abs _ hl _).mono ?_; rintro e w' ⟨rfl, rfl⟩) | (go_at_call 30; refine (math_Trunc _ (by rw [di]; omega) _).mono ?_; rintro e w' ⟨rfl, rfl⟩))
    go_loopw [8, 9] (fun s8 s9 wr => ∃ (j q m : Nat), j ≤ 8 ∧ s9 = .int .i64 (8 - (j : Int)) ∧ s8 = .float .f64 q ∧ Is .f64 q (pS (some u) j) ∧ wr = w.drewN m) (fun _ s9 _ => (intOf s9 + 1).toNat)
    case atStart => exact ⟨0, _, n, by omega, rfl, rfl, sine_start u, rfl⟩
    case round =>
      obtain ⟨j, q, m, hj, rfl, rfl, hq, rfl⟩ := hrel
      have HQ := Lib.hid hq
      clear hq
      by_cases hlt : j < 8
      · have hk := sine_k hlt
        have k1 : True := trivial
        have k2 : True := trivial
        have k3 : True := trivial
        go_wp2_with (first | (have t := k1; (refine wpList_arith _ _ _ _ _ rfl rfl _ _ _ rfl rfl rfl ?_); intro r1 m1 h1; have H1 := Lib.hid h1; clear h1 k1 t) | (have t := k2; (refine wpList_arith _ _ _ _ _ rfl rfl _ _ _ rfl rfl rfl ?_); intro r2 m2 h2; have H2 := Lib.hid h2; clear h2 k2 t) | (have t := k3; (refine wpList_arith _ _ _ _ _ rfl rfl _ _ _ rfl rfl rfl ?_); intro q' m3 h3; have H3 := Lib.hid h3; clear h3 k3 t))
        go_roundw
        case rel =>
          have h3 := H3.out
          rw [H2.out.ab, H1.out.ab, HQ.out.ab, HU.out, sine_one, show floatOfInt .f64 (2 * (8 - (j : Int)) * (2 * (8 - (j : Int)) + 1)) = flJ (2 * (8 - (j : Int)) * (2 * (8 - (j : Int)) + 1)) from rfl, ab_flJ] at h3
          exact ⟨j + 1, q', _, by omega, by simp; omega, rfl, h3, rfl⟩
        case measure => simp [intOf]; omega
      · obtain rfl : j = 8 := by omega
        have k1 : True := trivial
        have HR : ∀ r, Hid (Is .f64 r (oop .mul .f64 (ab .f64 z) (ab .f64 q))) → r = v := fun r h => by
          have h1 := h.out
          rw [HZ.out, HQ.out.ab, HT.out] at h1
          exact h1.some
        go_wp2_with (first | (have t := k1; (refine wpList_arith _ _ _ _ _ rfl rfl _ _ _ rfl rfl rfl ?_); intro r m1 h1; have H1 := Lib.hid h1; clear h1 k1 t) | (refine wpList_narrow _ _ _ rfl rfl _ rfl (by rw [Try.underlying25]; rfl) Try.underlying22 ?_ ?_; (intro y hy; exact sine_fits false HL.out HV.out (HR _ H1) y hy); intro r' n' hr'))
        go_ret
        exact RetF.mk _ (sine_end false HF.out HL.out HV.out (HR _ H1) hr')
  · obtain rfl : wide x = f1 := h1
    obtain rfl : wide x = f2 := h2
    have c3 := fun w => run_float_arith (P := Try.prog) w .sub 25 .f64 sHalf (wide x) f3 h3
    clear h3
    unfold sHalf sQuarter sTurn at *
    go_enter Try.func17, Try.ntmps17
    go_wp2_with (first | (go_at_call 27; refine (impl_IsFinite _ _).mono ?_; rintro e w' ⟨n, rfl, rfl⟩) | (go_at_call 29; refine (math_Abs _ hl _).mono ?_; rintro e w' ⟨rfl, rfl⟩) | (go_at_call 30; refine (math_Trunc _ (by rw [di]; omega) _).mono ?_; rintro e w' ⟨rfl, rfl⟩))
    go_loopw [8, 9] (fun s8 s9 wr => ∃ (j q m : Nat), j ≤ 8 ∧ s9 = .int .i64 (8 - (j : Int)) ∧ s8 = .float .f64 q ∧ Is .f64 q (pS (some u) j) ∧ wr = w.drewN m) (fun _ s9 _ => (intOf s9 + 1).toNat)
    case atStart => exact ⟨0, _, n, by omega, rfl, rfl, sine_start u, rfl⟩
    case round =>
      obtain ⟨j, q, m, hj, rfl, rfl, hq, rfl⟩ := hrel
      have HQ := Lib.hid hq
      clear hq
      by_cases hlt : j < 8
      · have hk := sine_k hlt
        have k1 : True := trivial
        have k2 : True := trivial
        have k3 : True := trivial
        go_wp2_with (first | (have t := k1; (refine wpList_arith _ _ _ _ _ rfl rfl _ _ _ rfl rfl rfl ?_); intro r1 m1 h1; have H1 := Lib.hid h1; clear h1 k1 t) | (have t := k2; (refine wpList_arith _ _ _ _ _ rfl rfl _ _ _ rfl rfl rfl ?_); intro r2 m2 h2; have H2 := Lib.hid h2; clear h2 k2 t) | (have t := k3; (refine wpList_arith _ _ _ _ _ rfl rfl _ _ _ rfl rfl rfl ?_); intro q' m3 h3; have H3 := Lib.hid h3; clear h3 k3 t))
        go_roundw
        case rel =>
          have h3 := H3.out
          rw [H2.out.ab, H1.out.ab, HQ.out.ab, HU.out, sine_one, show floatOfInt .f64 (2 * (8 - (j : Int)) * (2 * (8 - (j : Int)) + 1)) = flJ (2 * (8 - (j : Int)) * (2 * (8 - (j : Int)) + 1)) from rfl, ab_flJ] at h3
          exact ⟨j + 1, q', _, by omega, by simp; omega, rfl, h3, rfl⟩
        case measure => simp [intOf]; omega
      · obtain rfl : j = 8 := by omega
        have k1 : True := trivial
        have HR : ∀ r, Hid (Is .f64 r (oop .mul .f64 (ab .f64 z) (ab .f64 q))) → r = v := fun r h => by
          have h1 := h.out
          rw [HZ.out, HQ.out.ab, HT.out] at h1
          exact h1.some
        go_wp2_with (first | (have t := k1; (refine wpList_arith _ _ _ _ _ rfl rfl _ _ _ rfl rfl rfl ?_); intro r m1 h1; have H1 := Lib.hid h1; clear h1 k1 t) | (refine wpList_narrow _ _ _ rfl rfl _ rfl (by rw [Try.underlying25]; rfl) Try.underlying22 ?_ ?_; (intro y hy; exact sine_fits false HL.out HV.out (HR _ H1) y hy); intro r' n' hr'))
        go_ret
        exact RetF.mk _ (sine_end false HF.out HL.out HV.out (HR _ H1) hr')
  · obtain rfl : wide x = f1 := h1
    have c2 := fun w => run_float_arith (P := Try.prog) w .sub 25 .f64 (wide x) sHalf f2 h2
    obtain rfl : f2 = f3 := h3
    clear h2
    unfold sHalf sQuarter sTurn at *
    go_enter Try.func17, Try.ntmps17
    go_wp2_with (first | (go_at_call 27; refine (impl_IsFinite _ _).mono ?_; rintro e w' ⟨n, rfl, rfl⟩) | (go_at_call 29; refine (math_Abs _ hl _).mono ?_; rintro e w' ⟨rfl, rfl⟩) | (go_at_call 30; refine (math_Trunc _ (by rw [di]; omega) _).mono ?_; rintro e w' ⟨rfl, rfl⟩))
    go_loopw [8, 9] (fun s8 s9 wr => ∃ (j q m : Nat), j ≤ 8 ∧ s9 = .int .i64 (8 - (j : Int)) ∧ s8 = .float .f64 q ∧ Is .f64 q (pS (some u) j) ∧ wr = w.drewN m) (fun _ s9 _ => (intOf s9 + 1).toNat)
    case atStart => exact ⟨0, _, n, by omega, rfl, rfl, sine_start u, rfl⟩
    case round =>
      obtain ⟨j, q, m, hj, rfl, rfl, hq, rfl⟩ := hrel
      have HQ := Lib.hid hq
      clear hq
      by_cases hlt : j < 8
      · have hk := sine_k hlt
        have k1 : True := trivial
        have k2 : True := trivial
        have k3 : True := trivial
        go_wp2_with (first | (have t := k1; (refine wpList_arith _ _ _ _ _ rfl rfl _ _ _ rfl rfl rfl ?_); intro r1 m1 h1; have H1 := Lib.hid h1; clear h1 k1 t) | (have t := k2; (refine wpList_arith _ _ _ _ _ rfl rfl _ _ _ rfl rfl rfl ?_); intro r2 m2 h2; have H2 := Lib.hid h2; clear h2 k2 t) | (have t := k3; (refine wpList_arith _ _ _ _ _ rfl rfl _ _ _ rfl rfl rfl ?_); intro q' m3 h3; have H3 := Lib.hid h3; clear h3 k3 t))
        go_roundw
        case rel =>
          have h3 := H3.out
          rw [H2.out.ab, H1.out.ab, HQ.out.ab, HU.out, sine_one, show floatOfInt .f64 (2 * (8 - (j : Int)) * (2 * (8 - (j : Int)) + 1)) = flJ (2 * (8 - (j : Int)) * (2 * (8 - (j : Int)) + 1)) from rfl, ab_flJ] at h3
          exact ⟨j + 1, q', _, by omega, by simp; omega, rfl, h3, rfl⟩
        case measure => simp [intOf]; omega
      · obtain rfl : j = 8 := by omega
        have k1 : True := trivial
        have HR : ∀ r, Hid (Is .f64 r (oop .mul .f64 (ab .f64 z) (ab .f64 q))) → r = v := fun r h => by
          have h1 := h.out
          rw [HZ.out, HQ.out.ab, HT.out] at h1
          exact h1.some
        go_wp2_with (first | (have t := k1; (refine wpList_arith _ _ _ _ _ rfl rfl _ _ _ rfl rfl rfl ?_); intro r m1 h1; have H1 := Lib.hid h1; clear h1 k1 t) | (refine wpList_narrow _ _ _ rfl rfl _ rfl (by rw [Try.underlying25]; rfl) Try.underlying22 ?_ ?_; (intro y hy; exact sine_fits true HL.out HV.out (HR _ H1) y hy); intro r' n' hr'))
        go_ret
        exact RetF.mk _ (sine_end true HF.out HL.out HV.out (HR _ H1) hr')
  · obtain rfl : wide x = f1 := h1
    have c2 := fun w => run_float_arith (P := Try.prog) w .sub 25 .f64 (wide x) sHalf f2 h2
    have c3 := fun w => run_float_arith (P := Try.prog) w .sub 25 .f64 sHalf f2 f3 h3
    clear h2 h3
    unfold sHalf sQuarter sTurn at *
    go_enter Try.func17, Try.ntmps17
    go_wp2_with (first | (go_at_call 27; refine (impl_IsFinite _ _).mono ?_; rintro e w' ⟨n, rfl, rfl⟩) | (go_at_call 29; refine (math_Abs _ hl _).mono ?_; rintro e w' ⟨rfl, rfl⟩) | (go_at_call 30; refine (math_Trunc _ (by rw [di]; omega) _).mono ?_; rintro e w' ⟨rfl, rfl⟩))
    go_loopw [8, 9] (fun s8 s9 wr => ∃ (j q m : Nat), j ≤ 8 ∧ s9 = .int .i64 (8 - (j : Int)) ∧ s8 = .float .f64 q ∧ Is .f64 q (pS (some u) j) ∧ wr = w.drewN m) (fun _ s9 _ => (intOf s9 + 1).toNat)
    case atStart => exact ⟨0, _, n, by omega, rfl, rfl, sine_start u, rfl⟩
    case round =>
      obtain ⟨j, q, m, hj, rfl, rfl, hq, rfl⟩ := hrel
      have HQ := Lib.hid hq
      clear hq
      by_cases hlt : j < 8
      · have hk := sine_k hlt
        have k1 : True := trivial
        have k2 : True := trivial
        have k3 : True := trivial
        go_wp2_with (first | (have t := k1; (refine wpList_arith _ _ _ _ _ rfl rfl _ _ _ rfl rfl rfl ?_); intro r1 m1 h1; have H1 := Lib.hid h1; clear h1 k1 t) | (have t := k2; (refine wpList_arith _ _ _ _ _ rfl rfl _ _ _ rfl rfl rfl ?_); intro r2 m2 h2; have H2 := Lib.hid h2; clear h2 k2 t) | (have t := k3; (refine wpList_arith _ _ _ _ _ rfl rfl _ _ _ rfl rfl rfl ?_); intro q' m3 h3; have H3 := Lib.hid h3; clear h3 k3 t))
        go_roundw
        case rel =>
          have h3 := H3.out
          rw [H2.out.ab, H1.out.ab, HQ.out.ab, HU.out, sine_one, show floatOfInt .f64 (2 * (8 - (j : Int)) * (2 * (8 - (j : Int)) + 1)) = flJ (2 * (8 - (j : Int)) * (2 * (8 - (j : Int)) + 1)) from rfl, ab_flJ] at h3
          exact ⟨j + 1, q', _, by omega, by simp; omega, rfl, h3, rfl⟩
        case measure => simp [intOf]; omega
      · obtain rfl : j = 8 := by omega
        have k1 : True := trivial
        have HR : ∀ r, Hid (Is .f64 r (oop .mul .f64 (ab .f64 z) (ab .f64 q))) → r = v := fun r h => by
          have h1 := h.out
          rw [HZ.out, HQ.out.ab, HT.out] at h1
          exact h1.some
        go_wp2_with (first | (have t := k1; (refine wpList_arith _ _ _ _ _ rfl rfl _ _ _ rfl rfl rfl ?_); intro r m1 h1; have H1 := Lib.hid h1; clear h1 k1 t) | (refine wpList_narrow _ _ _ rfl rfl _ rfl (by rw [Try.underlying25]; rfl) Try.underlying22 ?_ ?_; (intro y hy; exact sine_fits true HL.out HV.out (HR _ H1) y hy); intro r' n' hr'))
        go_ret
        exact RetF.mk _ (sine_end true HF.out HL.out HV.out (HR _ H1) hr')
  · have c1 := fun w => run_float_arith (P := Try.prog) w .add 25 .f64 (wide x) sOne f1 h1
    obtain rfl : f1 = f2 := h2
    obtain rfl : f1 = f3 := h3
    clear h1
    unfold sHalf sQuarter sTurn sOne at *
    go_enter Try.func17, Try.ntmps17
    go_wp2_with (first | (go_at_call 27; refine (impl_IsFinite _ _).mono ?_; rintro e w' ⟨n, rfl, rfl⟩) | (go_at_call 29; refine (math_Abs _ hl _).mono ?_; rintro e w' ⟨rfl, rfl⟩) | (go_at_call 30; refine (math_Trunc _ (by rw [di]; omega) _).mono ?_; rintro e w' ⟨rfl, rfl⟩))
    go_loopw [8, 9] (fun s8 s9 wr => ∃ (j q m : Nat), j ≤ 8 ∧ s9 = .int .i64 (8 - (j : Int)) ∧ s8 = .float .f64 q ∧ Is .f64 q (pS (some u) j) ∧ wr = w.drewN m) (fun _ s9 _ => (intOf s9 + 1).toNat)
    case atStart => exact ⟨0, _, n, by omega, rfl, rfl, sine_start u, rfl⟩
    case round =>
      obtain ⟨j, q, m, hj, rfl, rfl, hq, rfl⟩ := hrel
      have HQ := Lib.hid hq
      clear hq
      by_cases hlt : j < 8
      · have hk := sine_k hlt
        have k1 : True := trivial
        have k2 : True := trivial
        have k3 : True := trivial
        go_wp2_with (first | (have t := k1; (refine wpList_arith _ _ _ _ _ rfl rfl _ _ _ rfl rfl rfl ?_); intro r1 m1 h1; have H1 := Lib.hid h1; clear h1 k1 t) | (have t := k2; (refine wpList_arith _ _ _ _ _ rfl rfl _ _ _ rfl rfl rfl ?_); intro r2 m2 h2; have H2 := Lib.hid h2; clear h2 k2 t) | (have t := k3; (refine wpList_arith _ _ _ _ _ rfl rfl _ _ _ rfl rfl rfl ?_); intro q' m3 h3; have H3 := Lib.hid h3; clear h3 k3 t))
        go_roundw
        case rel =>
          have h3 := H3.out
          rw [H2.out.ab, H1.out.ab, HQ.out.ab, HU.out, sine_one, show floatOfInt .f64 (2 * (8 - (j : Int)) * (2 * (8 - (j : Int)) + 1)) = flJ (2 * (8 - (j : Int)) * (2 * (8 - (j : Int)) + 1)) from rfl, ab_flJ] at h3
          exact ⟨j + 1, q', _, by omega, by simp; omega, rfl, h3, rfl⟩
        case measure => simp [intOf]; omega
      · obtain rfl : j = 8 := by omega
        have k1 : True := trivial
        have HR : ∀ r, Hid (Is .f64 r (oop .mul .f64 (ab .f64 z) (ab .f64 q))) → r = v := fun r h => by
          have h1 := h.out
          rw [HZ.out, HQ.out.ab, HT.out] at h1
          exact h1.some
        go_wp2_with (first | (have t := k1; (refine wpList_arith _ _ _ _ _ rfl rfl _ _ _ rfl rfl rfl ?_); intro r m1 h1; have H1 := Lib.hid h1; clear h1 k1 t) | (refine wpList_narrow _ _ _ rfl rfl _ rfl (by rw [Try.underlying25]; rfl) Try.underlying22 ?_ ?_; (intro y hy; exact sine_fits false HL.out HV.out (HR _ H1) y hy); intro r' n' hr'))
        go_ret
        exact RetF.mk _ (sine_end false HF.out HL.out HV.out (HR _ H1) hr')
  · have c1 := fun w => run_float_arith (P := Try.prog) w .add 25 .f64 (wide x) sOne f1 h1
    obtain rfl : f1 = f2 := h2
    have c3 := fun w => run_float_arith (P := Try.prog) w .sub 25 .f64 sHalf f1 f3 h3
    clear h1 h3
    unfold sHalf sQuarter sTurn sOne at *
    go_enter Try.func17, Try.ntmps17
    go_wp2_with (first | (go_at_call 27; refine (impl_IsFinite _ _).mono ?_; rintro e w' ⟨n, rfl, rfl⟩) | (go_at_call 29; refine (math_Abs _ hl _).mono ?_; rintro e w' ⟨rfl, rfl⟩) | (go_at_call 30; refine (math_Trunc _ (by rw [di]; omega) _).mono ?_; rintro e w' ⟨rfl, rfl⟩))
    go_loopw [8, 9] (fun s8 s9 wr => ∃ (j q m : Nat), j ≤ 8 ∧ s9 = .int .i64 (8 - (j : Int)) ∧ s8 = .float .f64 q ∧ Is .f64 q (pS (some u) j) ∧ wr = w.drewN m) (fun _ s9 _ => (intOf s9 + 1).toNat)
    case atStart => exact ⟨0, _, n, by omega, rfl, rfl, sine_start u, rfl⟩
    case round =>
      obtain ⟨j, q, m, hj, rfl, rfl, hq, rfl⟩ := hrel
      have HQ := Lib.hid hq
      clear hq
      by_cases hlt : j < 8
      · have hk := sine_k hlt
        have k1 : True := trivial
        have k2 : True := trivial
        have k3 : True := trivial
        go_wp2_with (first | (have t := k1; (refine wpList_arith _ _ _ _ _ rfl rfl _ _ _ rfl rfl rfl ?_); intro r1 m1 h1; have H1 := Lib.hid h1; clear h1 k1 t) | (have t := k2; (refine wpList_arith _ _ _ _ _ rfl rfl _ _ _ rfl rfl rfl ?_); intro r2 m2 h2; have H2 := Lib.hid h2; clear h2 k2 t) | (have t := k3; (refine wpList_arith _ _ _ _ _ rfl rfl _ _ _ rfl rfl rfl ?_); intro q' m3 h3; have H3 := Lib.hid h3; clear h3 k3 t))
        go_roundw
        case rel =>
          have h3 := H3.out
          rw [H2.out.ab, H1.out.ab, HQ.out.ab, HU.out, sine_one, show floatOfInt .f64 (2 * (8 - (j : Int)) * (2 * (8 - (j : Int)) + 1)) = flJ (2 * (8 - (j : Int)) * (2 * (8 - (j : Int)) + 1)) from rfl, ab_flJ] at h3
          exact ⟨j + 1, q', _, by omega, by simp; omega, rfl, h3, rfl⟩
        case measure => simp [intOf]; omega
      · obtain rfl : j = 8 := by omega
        have k1 : True := trivial
        have HR : ∀ r, Hid (Is .f64 r (oop .mul .f64 (ab .f64 z) (ab .f64 q))) → r = v := fun r h => by
          have h1 := h.out
          rw [HZ.out, HQ.out.ab, HT.out] at h1
          exact h1.some
        go_wp2_with (first | (have t := k1; (refine wpList_arith _ _ _ _ _ rfl rfl _ _ _ rfl rfl rfl ?_); intro r m1 h1; have H1 := Lib.hid h1; clear h1 k1 t) | (refine wpList_narrow _ _ _ rfl rfl _ rfl (by rw [Try.underlying25]; rfl) Try.underlying22 ?_ ?_; (intro y hy; exact sine_fits false HL.out HV.out (HR _ H1) y hy); intro r' n' hr'))
        go_ret
        exact RetF.mk _ (sine_end false HF.out HL.out HV.out (HR _ H1) hr')
  · have c1 := fun w => run_float_arith (P := Try.prog) w .add 25 .f64 (wide x) sOne f1 h1
    have c2 := fun w => run_float_arith (P := Try.prog) w .sub 25 .f64 f1 sHalf f2 h2
    obtain rfl : f2 = f3 := h3
    clear h1 h2
    unfold sHalf sQuarter sTurn sOne at *
    go_enter Try.func17, Try.ntmps17
    go_wp2_with (first | (go_at_call 27; refine (impl_IsFinite _ _).mono ?_; rintro e w' ⟨n, rfl, rfl⟩) | (go_at_call 29; refine (math_Abs _ hl _).mono ?_; rintro e w' ⟨rfl, rfl⟩) | (go_at_call 30; refine (math_Trunc _ (by rw [di]; omega) _).mono ?_; rintro e w' ⟨rfl, rfl⟩))
    go_loopw [8, 9] (fun s8 s9 wr => ∃ (j q m : Nat), j ≤ 8 ∧ s9 = .int .i64 (8 - (j : Int)) ∧ s8 = .float .f64 q ∧ Is .f64 q (pS (some u) j) ∧ wr = w.drewN m) (fun _ s9 _ => (intOf s9 + 1).toNat)
    case atStart => exact ⟨0, _, n, by omega, rfl, rfl, sine_start u, rfl⟩
    case round =>
      obtain ⟨j, q, m, hj, rfl, rfl, hq, rfl⟩ := hrel
      have HQ := Lib.hid hq
      clear hq
      by_cases hlt : j < 8
      · have hk := sine_k hlt
        have k1 : True := trivial
        have k2 : True := trivial
        have k3 : True := trivial
        go_wp2_with (first | (have t := k1; (refine wpList_arith _ _ _ _ _ rfl rfl _ _ _ rfl rfl rfl ?_); intro r1 m1 h1; have H1 := Lib.hid h1; clear h1 k1 t) | (have t := k2; (refine wpList_arith _ _ _ _ _ rfl rfl _ _ _ rfl rfl rfl ?_); intro r2 m2 h2; have H2 := Lib.hid h2; clear h2 k2 t) | (have t := k3; (refine wpList_arith _ _ _ _ _ rfl rfl _ _ _ rfl rfl rfl ?_); intro q' m3 h3; have H3 := Lib.hid h3; clear h3 k3 t))
        go_roundw
        case rel =>
          have h3 := H3.out
          rw [H2.out.ab, H1.out.ab, HQ.out.ab, HU.out, sine_one, show floatOfInt .f64 (2 * (8 - (j : Int)) * (2 * (8 - (j : Int)) + 1)) = flJ (2 * (8 - (j : Int)) * (2 * (8 - (j : Int)) + 1)) from rfl, ab_flJ] at h3
          exact ⟨j + 1, q', _, by omega, by simp; omega, rfl, h3, rfl⟩
        case measure => simp [intOf]; omega
      · obtain rfl : j = 8 := by omega
        have k1 : True := trivial
        have HR : ∀ r, Hid (Is .f64 r (oop .mul .f64 (ab .f64 z) (ab .f64 q))) → r = v := fun r h => by
          have h1 := h.out
          rw [HZ.out, HQ.out.ab, HT.out] at h1
          exact h1.some
        go_wp2_with (first | (have t := k1; (refine wpList_arith _ _ _ _ _ rfl rfl _ _ _ rfl rfl rfl ?_); intro r m1 h1; have H1 := Lib.hid h1; clear h1 k1 t) | (refine wpList_narrow _ _ _ rfl rfl _ rfl (by rw [Try.underlying25]; rfl) Try.underlying22 ?_ ?_; (intro y hy; exact sine_fits true HL.out HV.out (HR _ H1) y hy); intro r' n' hr'))
        go_ret
        exact RetF.mk _ (sine_end true HF.out HL.out HV.out (HR _ H1) hr')
  · have c1 := fun w => run_float_arith (P := Try.prog) w .add 25 .f64 (wide x) sOne f1 h1
    have c2 := fun w => run_float_arith (P := Try.prog) w .sub 25 .f64 f1 sHalf f2 h2
    have c3 := fun w => run_float_arith (P := Try.prog) w .sub 25 .f64 sHalf f2 f3 h3
    clear h1 h2 h3
    unfold sHalf sQuarter sTurn sOne at *
    go_enter Try.func17, Try.ntmps17
    go_wp2_with (first | (go_at_call 27; refine (impl_IsFinite _ _).mono ?_; rintro e w' ⟨n, rfl, rfl⟩) | (go_at_call 29; refine (math_Abs _ hl _).mono ?_; rintro e w' ⟨rfl, rfl⟩) | (go_at_call 30; refine (math_Trunc _ (by rw [di]; omega) _).mono ?_; rintro e w' ⟨rfl, rfl⟩))
    go_loopw [8, 9] (fun s8 s9 wr => ∃ (j q m : Nat), j ≤ 8 ∧ s9 = .int .i64 (8 - (j : Int)) ∧ s8 = .float .f64 q ∧ Is .f64 q (pS (some u) j) ∧ wr = w.drewN m) (fun _ s9 _ => (intOf s9 + 1).toNat)
    case atStart => exact ⟨0, _, n, by omega, rfl, rfl, sine_start u, rfl⟩
    case round =>
      obtain ⟨j, q, m, hj, rfl, rfl, hq, rfl⟩ := hrel
      have HQ := Lib.hid hq
      clear hq
      by_cases hlt : j < 8
      · have hk := sine_k hlt
        have k1 : True := trivial
        have k2 : True := trivial
        have k3 : True := trivial
        go_wp2_with (first | (have t := k1; (refine wpList_arith _ _ _ _ _ rfl rfl _ _ _ rfl rfl rfl ?_); intro r1 m1 h1; have H1 := Lib.hid h1; clear h1 k1 t) | (have t := k2; (refine wpList_arith _ _ _ _ _ rfl rfl _ _ _ rfl rfl rfl ?_); intro r2 m2 h2; have H2 := Lib.hid h2; clear h2 k2 t) | (have t := k3; (refine wpList_arith _ _ _ _ _ rfl rfl _ _ _ rfl rfl rfl ?_); intro q' m3 h3; have H3 := Lib.hid h3; clear h3 k3 t))
        go_roundw
        case rel =>
          have h3 := H3.out
          rw [H2.out.ab, H1.out.ab, HQ.out.ab, HU.out, sine_one, show floatOfInt .f64 (2 * (8 - (j : Int)) * (2 * (8 - (j : Int)) + 1)) = flJ (2 * (8 - (j : Int)) * (2 * (8 - (j : Int)) + 1)) from rfl, ab_flJ] at h3
          exact ⟨j + 1, q', _, by omega, by simp; omega, rfl, h3, rfl⟩
        case measure => simp [intOf]; omega
      · obtain rfl : j = 8 := by omega
        have k1 : True := trivial
        have HR : ∀ r, Hid (Is .f64 r (oop .mul .f64 (ab .f64 z) (ab .f64 q))) → r = v := fun r h => by
          have h1 := h.out
          rw [HZ.out, HQ.out.ab, HT.out] at h1
          exact h1.some
        go_wp2_with (first | (have t := k1; (refine wpList_arith _ _ _ _ _ rfl rfl _ _ _ rfl rfl rfl ?_); intro r m1 h1; have H1 := Lib.hid h1; clear h1 k1 t) | (refine wpList_narrow _ _ _ rfl rfl _ rfl (by rw [Try.underlying25]; rfl) Try.underlying22 ?_ ?_; (intro y hy; exact sine_fits true HL.out HV.out (HR _ H1) y hy); intro r' n' hr'))
        go_ret
        exact RetF.mk _ (sine_end true HF.out HL.out HV.out (HR _ H1) hr')

set_option maxHeartbeats 4000000 in
/-- the program's sine of a number that is not too great -/
theorem impl_sine_more (x : Nat) (hx : rg Ieee.single x < Ieee.single.infRung) (hy : rg Ieee.double (wide x) < 4841369599423283200) (hl : wide x < 18446744073709551616) (hn : wholeI (wide x) ≠ 0) (w : World) :
    Calls Try.prog 17 #[.float .f32 x] w (RetF .f32 ((sineFin (wide x)).map nar) w) := by
  obtain ⟨f0, f1, f2, f3, z, u, v, b0, b1, b2, hw⟩ := sine_way hl hy
  have hfin : fin .f32 (ab .f32 x) = true := by rw [fin32, decide_eq_true hx]
  have hcv := fun w => run_convert_float_float (P := Try.prog) w 22 25 .f32 .f64 x (wide x) (by rw [Try.underlying22]; rfl) Try.underlying25 (wide_bits (Nat.le_of_lt hx))
  have hr : rg Ieee.double (wide x) < 9218868437227405312 := by omega
  have hge := abs_small hy
  have hz := fun w => run_float_arith (P := Try.prog) w .mul 25 .f64 f3 sTurn z hw.hz
  have hu := fun w => run_float_arith (P := Try.prog) w .mul 25 .f64 z z u hw.hu
  have HZ := Lib.hid hw.az
  have HU := Lib.hid hw.au
  have HT := Lib.hid hw.tail'
  have HF := Lib.hid hw.fin
  have HL := Lib.hid hw.lt
  have HV := Lib.hid hw.bv
  have h0 := hw.h0
  have l0 := hw.l0
  have h1 := hw.h1
  have l1 := hw.l1
  have h2 := hw.h2
  have l2 := hw.l2
  have h3 := hw.h3
  clear hw
  have e0 := wholeF_int hy hn
  have en : (FloatKind.f64.format.order (wholeF (wide x)) 0 != some .eq) = true := whole_ne (wholeF_not_zero hy hn)
  have a0 := fun w => run_float_arith (P := Try.prog) w .sub 25 .f64 (wide x) (wholeF (wide x)) f0 (by rw [e0]; exact h0)
  clear e0 h0 hn
  cases b0 <;> cases b1 <;> cases b2
  · obtain rfl : f0 = f1 := h1
    obtain rfl : f0 = f2 := h2
    obtain rfl : f0 = f3 := h3
    unfold sHalf sQuarter sTurn at *
    go_enter Try.func17, Try.ntmps17
    go_wp2_with (first | (go_at_call 27; refine (impl_IsFinite _ _).mono ?_; rintro e w' ⟨n, rfl, rfl⟩) | (go_at_call 29; refine (math_Abs _ hl _).mono ?_; rintro e w' ⟨rfl, rfl⟩) | (go_at_call 30; refine (math_Trunc _ (by rw [di]; omega) _).mono ?_; rintro e w' ⟨rfl, rfl⟩))
    go_loopw [8, 9] (fun s8 s9 wr => ∃ (j q m : Nat), j ≤ 8 ∧ s9 = .int .i64 (8 - (j : Int)) ∧ s8 = .float .f64 q ∧ Is .f64 q (pS (some u) j) ∧ wr = w.drewN m) (fun _ s9 _ => (intOf s9 + 1).toNat)
    case atStart => exact ⟨0, _, n, by omega, rfl, rfl, sine_start u, rfl⟩
    case round =>
      obtain ⟨j, q, m, hj, rfl, rfl, hq, rfl⟩ := hrel
      have HQ := Lib.hid hq
      clear hq
      by_cases hlt : j < 8
      · have hk := sine_k hlt
        have k1 : True := trivial
        have k2 : True := trivial
        have k3 : True := trivial
        go_wp2_with (first | (have t := k1; (refine wpList_arith _ _ _ _ _ rfl rfl _ _ _ rfl rfl rfl ?_); intro r1 m1 h1; have H1 := Lib.hid h1; clear h1 k1 t) | (have t := k2; (refine wpList_arith _ _ _ _ _ rfl rfl _ _ _ rfl rfl rfl ?_); intro r2 m2 h2; have H2 := Lib.hid h2; clear h2 k2 t) | (have t := k3; (refine wpList_arith _ _ _ _ _ rfl rfl _ _ _ rfl rfl rfl ?_); intro q' m3 h3; have H3 := Lib.hid h3; clear h3 k3 t))
        go_roundw
        case rel =>
          have h3 := H3.out
          rw [H2.out.ab, H1.out.ab, HQ.out.ab, HU.out, sine_one, show floatOfInt .f64 (2 * (8 - (j : Int)) * (2 * (8 - (j : Int)) + 1)) = flJ (2 * (8 - (j : Int)) * (2 * (8 - (j : Int)) + 1)) from rfl, ab_flJ] at h3
          exact ⟨j + 1, q', _, by omega, by simp; omega, rfl, h3, rfl⟩
        case measure => simp [intOf]; omega
      · obtain rfl : j = 8 := by omega
        have k1 : True := trivial
        have HR : ∀ r, Hid (Is .f64 r (oop .mul .f64 (ab .f64 z) (ab .f64 q))) → r = v := fun r h => by
          have h1 := h.out
          rw [HZ.out, HQ.out.ab, HT.out] at h1
          exact h1.some
        go_wp2_with (first | (have t := k1; (refine wpList_arith _ _ _ _ _ rfl rfl _ _ _ rfl rfl rfl ?_); intro r m1 h1; have H1 := Lib.hid h1; clear h1 k1 t) | (refine wpList_narrow _ _ _ rfl rfl _ rfl (by rw [Try.underlying25]; rfl) Try.underlying22 ?_ ?_; (intro y hy; exact sine_fits false HL.out HV.out (HR _ H1) y hy); intro r' n' hr'))
        go_ret
        exact RetF.mk _ (sine_end false HF.out HL.out HV.out (HR _ H1) hr')
  · obtain rfl : f0 = f1 := h1
    obtain rfl : f0 = f2 := h2
    have c3 := fun w => run_float_arith (P := Try.prog) w .sub 25 .f64 sHalf f0 f3 h3
    clear h3
    unfold sHalf sQuarter sTurn at *
    go_enter Try.func17, Try.ntmps17
    go_wp2_with (first | (go_at_call 27; refine (impl_IsFinite _ _).mono ?_; rintro e w' ⟨n, rfl, rfl⟩) | (go_at_call 29; refine (math_Abs _ hl _).mono ?_; rintro e w' ⟨rfl, rfl⟩) | (go_at_call 30; refine (math_Trunc _ (by rw [di]; omega) _).mono ?_; rintro e w' ⟨rfl, rfl⟩))
    go_loopw [8, 9] (fun s8 s9 wr => ∃ (j q m : Nat), j ≤ 8 ∧ s9 = .int .i64 (8 - (j : Int)) ∧ s8 = .float .f64 q ∧ Is .f64 q (pS (some u) j) ∧ wr = w.drewN m) (fun _ s9 _ => (intOf s9 + 1).toNat)
    case atStart => exact ⟨0, _, n, by omega, rfl, rfl, sine_start u, rfl⟩
    case round =>
      obtain ⟨j, q, m, hj, rfl, rfl, hq, rfl⟩ := hrel
      have HQ := Lib.hid hq
      clear hq
      by_cases hlt : j < 8
      · have hk := sine_k hlt
        have k1 : True := trivial
        have k2 : True := trivial
        have k3 : True := trivial
        go_wp2_with (first | (have t := k1; (refine wpList_arith _ _ _ _ _ rfl rfl _ _ _ rfl rfl rfl ?_); intro r1 m1 h1; have H1 := Lib.hid h1; clear h1 k1 t) | (have t := k2; (refine wpList_arith _ _ _ _ _ rfl rfl _ _ _ rfl rfl rfl ?_); intro r2 m2 h2; have H2 := Lib.hid h2; clear h2 k2 t) | (have t := k3; (refine wpList_arith _ _ _ _ _ rfl rfl _ _ _ rfl rfl rfl ?_); intro q' m3 h3; have H3 := Lib.hid h3; clear h3 k3 t))
        go_roundw
        case rel =>
          have h3 := H3.out
          rw [H2.out.ab, H1.out.ab, HQ.out.ab, HU.out, sine_one, show floatOfInt .f64 (2 * (8 - (j : Int)) * (2 * (8 - (j : Int)) + 1)) = flJ (2 * (8 - (j : Int)) * (2 * (8 - (j : Int)) + 1)) from rfl, ab_flJ] at h3
          exact ⟨j + 1, q', _, by omega, by simp; omega, rfl, h3, rfl⟩
        case measure => simp [intOf]; omega
      · obtain rfl : j = 8 := by omega
        have k1 : True := trivial
        have HR : ∀ r, Hid (Is .f64 r (oop .mul .f64 (ab .f64 z) (ab .f64 q))) → r = v := fun r h => by
          have h1 := h.out
          rw [HZ.out, HQ.out.ab, HT.out] at h1
          exact h1.some
        go_wp2_with (first | (have t := k1; (refine wpList_arith _ _ _ _ _ rfl rfl _ _ _ rfl rfl rfl ?_); intro r m1 h1; have H1 := Lib.hid h1; clear h1 k1 t) | (refine wpList_narrow _ _ _ rfl rfl _ rfl (by rw [Try.underlying25]; rfl) Try.underlying22 ?_ ?_; (intro y hy; exact sine_fits false HL.out HV.out (HR _ H1) y hy); intro r' n' hr'))
        go_ret
        exact RetF.mk _ (sine_end false HF.out HL.out HV.out (HR _ H1) hr')
  · obtain rfl : f0 = f1 := h1
    have c2 := fun w => run_float_arith (P := Try.prog) w .sub 25 .f64 f0 sHalf f2 h2
    obtain rfl : f2 = f3 := h3
    clear h2
    unfold sHalf sQuarter sTurn at *
    go_enter Try.func17, Try.ntmps17
    go_wp2_with (first | (go_at_call 27; refine (impl_IsFinite _ _).mono ?_; rintro e w' ⟨n, rfl, rfl⟩) | (go_at_call 29; refine (math_Abs _ hl _).mono ?_; rintro e w' ⟨rfl, rfl⟩) | (go_at_call 30; refine (math_Trunc _ (by rw [di]; omega) _).mono ?_; rintro e w' ⟨rfl, rfl⟩))
    go_loopw [8, 9] (fun s8 s9 wr => ∃ (j q m : Nat), j ≤ 8 ∧ s9 = .int .i64 (8 - (j : Int)) ∧ s8 = .float .f64 q ∧ Is .f64 q (pS (some u) j) ∧ wr = w.drewN m) (fun _ s9 _ => (intOf s9 + 1).toNat)
    case atStart => exact ⟨0, _, n, by omega, rfl, rfl, sine_start u, rfl⟩
    case round =>
      obtain ⟨j, q, m, hj, rfl, rfl, hq, rfl⟩ := hrel
      have HQ := Lib.hid hq
      clear hq
      by_cases hlt : j < 8
      · have hk := sine_k hlt
        have k1 : True := trivial
        have k2 : True := trivial
        have k3 : True := trivial
        go_wp2_with (first | (have t := k1; (refine wpList_arith _ _ _ _ _ rfl rfl _ _ _ rfl rfl rfl ?_); intro r1 m1 h1; have H1 := Lib.hid h1; clear h1 k1 t) | (have t := k2; (refine wpList_arith _ _ _ _ _ rfl rfl _ _ _ rfl rfl rfl ?_); intro r2 m2 h2; have H2 := Lib.hid h2; clear h2 k2 t) | (have t := k3; (refine wpList_arith _ _ _ _ _ rfl rfl _ _ _ rfl rfl rfl ?_); intro q' m3 h3; have H3 := Lib.hid h3; clear h3 k3 t))
        go_roundw
        case rel =>
          have h3 := H3.out
          rw [H2.out.ab, H1.out.ab, HQ.out.ab, HU.out, sine_one, show floatOfInt .f64 (2 * (8 - (j : Int)) * (2 * (8 - (j : Int)) + 1)) = flJ (2 * (8 - (j : Int)) * (2 * (8 - (j : Int)) + 1)) from rfl, ab_flJ] at h3
          exact ⟨j + 1, q', _, by omega, by simp; omega, rfl, h3, rfl⟩
        case measure => simp [intOf]; omega
      · obtain rfl : j = 8 := by omega
        have k1 : True := trivial
        have HR : ∀ r, Hid (Is .f64 r (oop .mul .f64 (ab .f64 z) (ab .f64 q))) → r = v := fun r h => by
          have h1 := h.out
          rw [HZ.out, HQ.out.ab, HT.out] at h1
          exact h1.some
        go_wp2_with (first | (have t := k1; (refine wpList_arith _ _ _ _ _ rfl rfl _ _ _ rfl rfl rfl ?_); intro r m1 h1; have H1 := Lib.hid h1; clear h1 k1 t) | (refine wpList_narrow _ _ _ rfl rfl _ rfl (by rw [Try.underlying25]; rfl) Try.underlying22 ?_ ?_; (intro y hy; exact sine_fits true HL.out HV.out (HR _ H1) y hy); intro r' n' hr'))
        go_ret
        exact RetF.mk _ (sine_end true HF.out HL.out HV.out (HR _ H1) hr')
  · obtain rfl : f0 = f1 := h1
    have c2 := fun w => run_float_arith (P := Try.prog) w .sub 25 .f64 f0 sHalf f2 h2
    have c3 := fun w => run_float_arith (P := Try.prog) w .sub 25 .f64 sHalf f2 f3 h3
    clear h2 h3
    unfold sHalf sQuarter sTurn at *
    go_enter Try.func17, Try.ntmps17
    go_wp2_with (first | (go_at_call 27; refine (impl_IsFinite _ _).mono ?_; rintro e w' ⟨n, rfl, rfl⟩) | (go_at_call 29; refine (math_Abs _ hl _).mono ?_; rintro e w' ⟨rfl, rfl⟩) | (go_at_call 30; refine (math_Trunc _ (by rw [di]; omega) _).mono ?_; rintro e w' ⟨rfl, rfl⟩))
    go_loopw [8, 9] (fun s8 s9 wr => ∃ (j q m : Nat), j ≤ 8 ∧ s9 = .int .i64 (8 - (j : Int)) ∧ s8 = .float .f64 q ∧ Is .f64 q (pS (some u) j) ∧ wr = w.drewN m) (fun _ s9 _ => (intOf s9 + 1).toNat)
    case atStart => exact ⟨0, _, n, by omega, rfl, rfl, sine_start u, rfl⟩
    case round =>
      obtain ⟨j, q, m, hj, rfl, rfl, hq, rfl⟩ := hrel
      have HQ := Lib.hid hq
      clear hq
      by_cases hlt : j < 8
      · have hk := sine_k hlt
        have k1 : True := trivial
        have k2 : True := trivial
        have k3 : True := trivial
        go_wp2_with (first | (have t := k1; (refine wpList_arith _ _ _ _ _ rfl rfl _ _ _ rfl rfl rfl ?_); intro r1 m1 h1; have H1 := Lib.hid h1; clear h1 k1 t) | (have t := k2; (refine wpList_arith _ _ _ _ _ rfl rfl _ _ _ rfl rfl rfl ?_); intro r2 m2 h2; have H2 := Lib.hid h2; clear h2 k2 t) | (have t := k3; (refine wpList_arith _ _ _ _ _ rfl rfl _ _ _ rfl rfl rfl ?_); intro q' m3 h3; have H3 := Lib.hid h3; clear h3 k3 t))
        go_roundw
        case rel =>
          have h3 := H3.out
          rw [H2.out.ab, H1.out.ab, HQ.out.ab, HU.out, sine_one, show floatOfInt .f64 (2 * (8 - (j : Int)) * (2 * (8 - (j : Int)) + 1)) = flJ (2 * (8 - (j : Int)) * (2 * (8 - (j : Int)) + 1)) from rfl, ab_flJ] at h3
          exact ⟨j + 1, q', _, by omega, by simp; omega, rfl, h3, rfl⟩
        case measure => simp [intOf]; omega
      · obtain rfl : j = 8 := by omega
        have k1 : True := trivial
        have HR : ∀ r, Hid (Is .f64 r (oop .mul .f64 (ab .f64 z) (ab .f64 q))) → r = v := fun r h => by
          have h1 := h.out
          rw [HZ.out, HQ.out.ab, HT.out] at h1
          exact h1.some
        go_wp2_with (first | (have t := k1; (refine wpList_arith _ _ _ _ _ rfl rfl _ _ _ rfl rfl rfl ?_); intro r m1 h1; have H1 := Lib.hid h1; clear h1 k1 t) | (refine wpList_narrow _ _ _ rfl rfl _ rfl (by rw [Try.underlying25]; rfl) Try.underlying22 ?_ ?_; (intro y hy; exact sine_fits true HL.out HV.out (HR _ H1) y hy); intro r' n' hr'))
        go_ret
        exact RetF.mk _ (sine_end true HF.out HL.out HV.out (HR _ H1) hr')
  · have c1 := fun w => run_float_arith (P := Try.prog) w .add 25 .f64 f0 sOne f1 h1
    obtain rfl : f1 = f2 := h2
    obtain rfl : f1 = f3 := h3
    clear h1
    unfold sHalf sQuarter sTurn sOne at *
    go_enter Try.func17, Try.ntmps17
    go_wp2_with (first | (go_at_call 27; refine (impl_IsFinite _ _).mono ?_; rintro e w' ⟨n, rfl, rfl⟩) | (go_at_call 29; refine (math_Abs _ hl _).mono ?_; rintro e w' ⟨rfl, rfl⟩) | (go_at_call 30; refine (math_Trunc _ (by rw [di]; omega) _).mono ?_; rintro e w' ⟨rfl, rfl⟩))
    go_loopw [8, 9] (fun s8 s9 wr => ∃ (j q m : Nat), j ≤ 8 ∧ s9 = .int .i64 (8 - (j : Int)) ∧ s8 = .float .f64 q ∧ Is .f64 q (pS (some u) j) ∧ wr = w.drewN m) (fun _ s9 _ => (intOf s9 + 1).toNat)
    case atStart => exact ⟨0, _, n, by omega, rfl, rfl, sine_start u, rfl⟩
    case round =>
      obtain ⟨j, q, m, hj, rfl, rfl, hq, rfl⟩ := hrel
      have HQ := Lib.hid hq
      clear hq
      by_cases hlt : j < 8
      · have hk := sine_k hlt
        have k1 : True := trivial
        have k2 : True := trivial
        have k3 : True := trivial
        go_wp2_with (first | (have t := k1; (refine wpList_arith _ _ _ _ _ rfl rfl _ _ _ rfl rfl rfl ?_); intro r1 m1 h1; have H1 := Lib.hid h1; clear h1 k1 t) | (have t := k2; (refine wpList_arith _ _ _ _ _ rfl rfl _ _ _ rfl rfl rfl ?_); intro r2 m2 h2; have H2 := Lib.hid h2; clear h2 k2 t) | (have t := k3; (refine wpList_arith _ _ _ _ _ rfl rfl _ _ _ rfl rfl rfl ?_); intro q' m3 h3; have H3 := Lib.hid h3; clear h3 k3 t))
        go_roundw
        case rel =>
          have h3 := H3.out
          rw [H2.out.ab, H1.out.ab, HQ.out.ab, HU.out, sine_one, show floatOfInt .f64 (2 * (8 - (j : Int)) * (2 * (8 - (j : Int)) + 1)) = flJ (2 * (8 - (j : Int)) * (2 * (8 - (j : Int)) + 1)) from rfl, ab_flJ] at h3
          exact ⟨j + 1, q', _, by omega, by simp; omega, rfl, h3, rfl⟩
        case measure => simp [intOf]; omega
      · obtain rfl : j = 8 := by omega
        have k1 : True := trivial
        have HR : ∀ r, Hid (Is .f64 r (oop .mul .f64 (ab .f64 z) (ab .f64 q))) → r = v := fun r h => by
          have h1 := h.out
          rw [HZ.out, HQ.out.ab, HT.out] at h1
          exact h1.some
        go_wp2_with (first | (have t := k1; (refine wpList_arith _ _ _ _ _ rfl rfl _ _ _ rfl rfl rfl ?_); intro r m1 h1; have H1 := Lib.hid h1; clear h1 k1 t) | (refine wpList_narrow _ _ _ rfl rfl _ rfl (by rw [Try.underlying25]; rfl) Try.underlying22 ?_ ?_; (intro y hy; exact sine_fits false HL.out HV.out (HR _ H1) y hy); intro r' n' hr'))
        go_ret
        exact RetF.mk _ (sine_end false HF.out HL.out HV.out (HR _ H1) hr')
  · have c1 := fun w => run_float_arith (P := Try.prog) w .add 25 .f64 f0 sOne f1 h1
    obtain rfl : f1 = f2 := h2
    have c3 := fun w => run_float_arith (P := Try.prog) w .sub 25 .f64 sHalf f1 f3 h3
    clear h1 h3
    unfold sHalf sQuarter sTurn sOne at *
    go_enter Try.func17, Try.ntmps17
    go_wp2_with (first | (go_at_call 27; refine (impl_IsFinite _ _).mono ?_; rintro e w' ⟨n, rfl, rfl⟩) | (go_at_call 29; refine (math_Abs _ hl _).mono ?_; rintro e w' ⟨rfl, rfl⟩) | (go_at_call 30; refine (math_Trunc _ (by rw [di]; omega) _).mono ?_; rintro e w' ⟨rfl, rfl⟩))
    go_loopw [8, 9] (fun s8 s9 wr => ∃ (j q m : Nat), j ≤ 8 ∧ s9 = .int .i64 (8 - (j : Int)) ∧ s8 = .float .f64 q ∧ Is .f64 q (pS (some u) j) ∧ wr = w.drewN m) (fun _ s9 _ => (intOf s9 + 1).toNat)
    case atStart => exact ⟨0, _, n, by omega, rfl, rfl, sine_start u, rfl⟩
    case round =>
      obtain ⟨j, q, m, hj, rfl, rfl, hq, rfl⟩ := hrel
      have HQ := Lib.hid hq
      clear hq
      by_cases hlt : j < 8
      · have hk := sine_k hlt
        have k1 : True := trivial
        have k2 : True := trivial
        have k3 : True := trivial
        go_wp2_with (first | (have t := k1; (refine wpList_arith _ _ _ _ _ rfl rfl _ _ _ rfl rfl rfl ?_); intro r1 m1 h1; have H1 := Lib.hid h1; clear h1 k1 t) | (have t := k2; (refine wpList_arith _ _ _ _ _ rfl rfl _ _ _ rfl rfl rfl ?_); intro r2 m2 h2; have H2 := Lib.hid h2; clear h2 k2 t) | (have t := k3; (refine wpList_arith _ _ _ _ _ rfl rfl _ _ _ rfl rfl rfl ?_); intro q' m3 h3; have H3 := Lib.hid h3; clear h3 k3 t))
        go_roundw
        case rel =>
          have h3 := H3.out
          rw [H2.out.ab, H1.out.ab, HQ.out.ab, HU.out, sine_one, show floatOfInt .f64 (2 * (8 - (j : Int)) * (2 * (8 - (j : Int)) + 1)) = flJ (2 * (8 - (j : Int)) * (2 * (8 - (j : Int)) + 1)) from rfl, ab_flJ] at h3
          exact ⟨j + 1, q', _, by omega, by simp; omega, rfl, h3, rfl⟩
        case measure => simp [intOf]; omega
      · obtain rfl : j = 8 := by omega
        have k1 : True := trivial
        have HR : ∀ r, Hid (Is .f64 r (oop .mul .f64 (ab .f64 z) (ab .f64 q))) → r = v := fun r h => by
          have h1 := h.out
          rw [HZ.out, HQ.out.ab, HT.out] at h1
          exact h1.some
        go_wp2_with (first | (have t := k1; (refine wpList_arith _ _ _ _ _ rfl rfl _ _ _ rfl rfl rfl ?_); intro r m1 h1; have H1 := Lib.hid h1; clear h1 k1 t) | (refine wpList_narrow _ _ _ rfl rfl _ rfl (by rw [Try.underlying25]; rfl) Try.underlying22 ?_ ?_; (intro y hy; exact sine_fits false HL.out HV.out (HR _ H1) y hy); intro r' n' hr'))
        go_ret
        exact RetF.mk _ (sine_end false HF.out HL.out HV.out (HR _ H1) hr')
  · have c1 := fun w => run_float_arith (P := Try.prog) w .add 25 .f64 f0 sOne f1 h1
    have c2 := fun w => run_float_arith (P := Try.prog) w .sub 25 .f64 f1 sHalf f2 h2
    obtain rfl : f2 = f3 := h3
    clear h1 h2
    unfold sHalf sQuarter sTurn sOne at *
    go_enter Try.func17, Try.ntmps17
    go_wp2_with (first | (go_at_call 27; refine (impl_IsFinite _ _).mono ?_; rintro e w' ⟨n, rfl, rfl⟩) | (go_at_call 29; refine (math_Abs _ hl _).mono ?_; rintro e w' ⟨rfl, rfl⟩) | (go_at_call 30; refine (math_Trunc _ (by rw [di]; omega) _).mono ?_; rintro e w' ⟨rfl, rfl⟩))
    go_loopw [8, 9] (fun s8 s9 wr => ∃ (j q m : Nat), j ≤ 8 ∧ s9 = .int .i64 (8 - (j : Int)) ∧ s8 = .float .f64 q ∧ Is .f64 q (pS (some u) j) ∧ wr = w.drewN m) (fun _ s9 _ => (intOf s9 + 1).toNat)
    case atStart => exact ⟨0, _, n, by omega, rfl, rfl, sine_start u, rfl⟩
    case round =>
      obtain ⟨j, q, m, hj, rfl, rfl, hq, rfl⟩ := hrel
      have HQ := Lib.hid hq
      clear hq
      by_cases hlt : j < 8
      · have hk := sine_k hlt
        have k1 : True := trivial
        have k2 : True := trivial
        have k3 : True := trivial
        go_wp2_with (first | (have t := k1; (refine wpList_arith _ _ _ _ _ rfl rfl _ _ _ rfl rfl rfl ?_); intro r1 m1 h1; have H1 := Lib.hid h1; clear h1 k1 t) | (have t := k2; (refine wpList_arith _ _ _ _ _ rfl rfl _ _ _ rfl rfl rfl ?_); intro r2 m2 h2; have H2 := Lib.hid h2; clear h2 k2 t) | (have t := k3; (refine wpList_arith _ _ _ _ _ rfl rfl _ _ _ rfl rfl rfl ?_); intro q' m3 h3; have H3 := Lib.hid h3; clear h3 k3 t))
        go_roundw
        case rel =>
          have h3 := H3.out
          rw [H2.out.ab, H1.out.ab, HQ.out.ab, HU.out, sine_one, show floatOfInt .f64 (2 * (8 - (j : Int)) * (2 * (8 - (j : Int)) + 1)) = flJ (2 * (8 - (j : Int)) * (2 * (8 - (j : Int)) + 1)) from rfl, ab_flJ] at h3
          exact ⟨j + 1, q', _, by omega, by simp; omega, rfl, h3, rfl⟩
        case measure => simp [intOf]; omega
      · obtain rfl : j = 8 := by omega
        have k1 : True := trivial
        have HR : ∀ r, Hid (Is .f64 r (oop .mul .f64 (ab .f64 z) (ab .f64 q))) → r = v := fun r h => by
          have h1 := h.out
          rw [HZ.out, HQ.out.ab, HT.out] at h1
          exact h1.some
        go_wp2_with (first | (have t := k1; (refine wpList_arith _ _ _ _ _ rfl rfl _ _ _ rfl rfl rfl ?_); intro r m1 h1; have H1 := Lib.hid h1; clear h1 k1 t) | (refine wpList_narrow _ _ _ rfl rfl _ rfl (by rw [Try.underlying25]; rfl) Try.underlying22 ?_ ?_; (intro y hy; exact sine_fits true HL.out HV.out (HR _ H1) y hy); intro r' n' hr'))
        go_ret
        exact RetF.mk _ (sine_end true HF.out HL.out HV.out (HR _ H1) hr')
  · have c1 := fun w => run_float_arith (P := Try.prog) w .add 25 .f64 f0 sOne f1 h1
    have c2 := fun w => run_float_arith (P := Try.prog) w .sub 25 .f64 f1 sHalf f2 h2
    have c3 := fun w => run_float_arith (P := Try.prog) w .sub 25 .f64 sHalf f2 f3 h3
    clear h1 h2 h3
    unfold sHalf sQuarter sTurn sOne at *
    go_enter Try.func17, Try.ntmps17
    go_wp2_with (first | (go_at_call 27; refine (impl_IsFinite _ _).mono ?_; rintro e w' ⟨n, rfl, rfl⟩) | (go_at_call 29; refine (math_Abs _ hl _).mono ?_; rintro e w' ⟨rfl, rfl⟩) | (go_at_call 30; refine (math_Trunc _ (by rw [di]; omega) _).mono ?_; rintro e w' ⟨rfl, rfl⟩))
    go_loopw [8, 9] (fun s8 s9 wr => ∃ (j q m : Nat), j ≤ 8 ∧ s9 = .int .i64 (8 - (j : Int)) ∧ s8 = .float .f64 q ∧ Is .f64 q (pS (some u) j) ∧ wr = w.drewN m) (fun _ s9 _ => (intOf s9 + 1).toNat)
    case atStart => exact ⟨0, _, n, by omega, rfl, rfl, sine_start u, rfl⟩
    case round =>
      obtain ⟨j, q, m, hj, rfl, rfl, hq, rfl⟩ := hrel
      have HQ := Lib.hid hq
      clear hq
      by_cases hlt : j < 8
      · have hk := sine_k hlt
        have k1 : True := trivial
        have k2 : True := trivial
        have k3 : True := trivial
        go_wp2_with (first | (have t := k1; (refine wpList_arith _ _ _ _ _ rfl rfl _ _ _ rfl rfl rfl ?_); intro r1 m1 h1; have H1 := Lib.hid h1; clear h1 k1 t) | (have t := k2; (refine wpList_arith _ _ _ _ _ rfl rfl _ _ _ rfl rfl rfl ?_); intro r2 m2 h2; have H2 := Lib.hid h2; clear h2 k2 t) | (have t := k3; (refine wpList_arith _ _ _ _ _ rfl rfl _ _ _ rfl rfl rfl ?_); intro q' m3 h3; have H3 := Lib.hid h3; clear h3 k3 t))
        go_roundw
        case rel =>
          have h3 := H3.out
          rw [H2.out.ab, H1.out.ab, HQ.out.ab, HU.out, sine_one, show floatOfInt .f64 (2 * (8 - (j : Int)) * (2 * (8 - (j : Int)) + 1)) = flJ (2 * (8 - (j : Int)) * (2 * (8 - (j : Int)) + 1)) from rfl, ab_flJ] at h3
          exact ⟨j + 1, q', _, by omega, by simp; omega, rfl, h3, rfl⟩
        case measure => simp [intOf]; omega
      · obtain rfl : j = 8 := by omega
        have k1 : True := trivial
        have HR : ∀ r, Hid (Is .f64 r (oop .mul .f64 (ab .f64 z) (ab .f64 q))) → r = v := fun r h => by
          have h1 := h.out
          rw [HZ.out, HQ.out.ab, HT.out] at h1
          exact h1.some
        go_wp2_with (first | (have t := k1; (refine wpList_arith _ _ _ _ _ rfl rfl _ _ _ rfl rfl rfl ?_); intro r m1 h1; have H1 := Lib.hid h1; clear h1 k1 t) | (refine wpList_narrow _ _ _ rfl rfl _ rfl (by rw [Try.underlying25]; rfl) Try.underlying22 ?_ ?_; (intro y hy; exact sine_fits true HL.out HV.out (HR _ H1) y hy); intro r' n' hr'))
        go_ret
        exact RetF.mk _ (sine_end true HF.out HL.out HV.out (HR _ H1) hr')

set_option maxHeartbeats 4000000 in
/-- the specification's sine of a number that is not too great -/
theorem spec_sine_small (y : Nat) (hy : rg Ieee.double y < 4841369599423283200) (hl : y < 18446744073709551616) (w : World) :
    Calls Try.prog 38 #[.float .f64 y] w (RetF .f64 (sineFin y) w) := by
  obtain ⟨f0, f1, f2, f3, z, u, v, b0, b1, b2, hw⟩ := sine_way hl hy
  have hss := fun w => run_float_arith (P := Try.prog) w .sub 25 .f64 y y 0 (self_sub (by rw [di]; omega))
  have hne : (FloatKind.f64.format.order 0 0 != some .eq) = false := by decide +kernel
  have hge := ge_small hl hy
  have hle := le_small hl hy
  have hcv := fun w => run_convert_float_int (P := Try.prog) w 25 2 .f64 .i64 y (wholeI y) (by rw [Try.underlying25]; rfl) Try.underlying2 (whole_int hy)
  have hz := fun w => run_float_arith (P := Try.prog) w .mul 25 .f64 f3 sTurn z hw.hz
  have hu := fun w => run_float_arith (P := Try.prog) w .mul 25 .f64 z z u hw.hu
  have HZ := Lib.hid hw.az
  have HU := Lib.hid hw.au
  have HT := Lib.hid hw.tail'
  have HF := Lib.hid hw.fin
  have HL := Lib.hid hw.lt
  have HV := Lib.hid hw.bv
  have h0 := hw.h0
  have l0 := hw.l0
  have h1 := hw.h1
  have l1 := hw.l1
  have h2 := hw.h2
  have l2 := hw.l2
  have h3 := hw.h3
  clear hw
  have a0 := fun w => run_float_arith (P := Try.prog) w .sub 25 .f64 y (floatOfInt .f64 (wholeI y)) f0 h0
  clear h0
  cases b0 <;> cases b1 <;> cases b2
  · obtain rfl : f0 = f1 := h1
    obtain rfl : f0 = f2 := h2
    obtain rfl : f0 = f3 := h3
    unfold sHalf sQuarter sTurn at *
    go_enter Try.func38, Try.ntmps38
    go_wp2
    go_loopw [7, 8] (fun s8 s9 wr => ∃ (j q m : Nat), j ≤ 8 ∧ s9 = .int .i64 (8 - (j : Int)) ∧ s8 = .float .f64 q ∧ Is .f64 q (pS (some u) j) ∧ wr = w.drewN m) (fun _ s9 _ => (intOf s9 + 1).toNat)
    case atStart => exact ⟨0, _, 0, by omega, rfl, rfl, sine_start u, rfl⟩
    case round =>
      obtain ⟨j, q, m, hj, rfl, rfl, hq, rfl⟩ := hrel
      have HQ := Lib.hid hq
      clear hq
      by_cases hlt : j < 8
      · have hk := sine_k hlt
        have k1 : True := trivial
        have k2 : True := trivial
        have k3 : True := trivial
        go_wp2_with (first | (have t := k1; (refine wpList_arith _ _ _ _ _ rfl rfl _ _ _ rfl rfl rfl ?_); intro r1 m1 h1; have H1 := Lib.hid h1; clear h1 k1 t) | (have t := k2; (refine wpList_arith _ _ _ _ _ rfl rfl _ _ _ rfl rfl rfl ?_); intro r2 m2 h2; have H2 := Lib.hid h2; clear h2 k2 t) | (have t := k3; (refine wpList_arith _ _ _ _ _ rfl rfl _ _ _ rfl rfl rfl ?_); intro q' m3 h3; have H3 := Lib.hid h3; clear h3 k3 t))
        go_roundw
        case rel =>
          have h3 := H3.out
          rw [H2.out.ab, H1.out.ab, HQ.out.ab, HU.out, sine_one, show floatOfInt .f64 (2 * (8 - (j : Int)) * (2 * (8 - (j : Int)) + 1)) = flJ (2 * (8 - (j : Int)) * (2 * (8 - (j : Int)) + 1)) from rfl, ab_flJ] at h3
          exact ⟨j + 1, q', _, by omega, by simp; omega, rfl, h3, rfl⟩
        case measure => simp [intOf]; omega
      · obtain rfl : j = 8 := by omega
        have k1 : True := trivial
        have HR : ∀ r, Hid (Is .f64 r (oop .mul .f64 (ab .f64 z) (ab .f64 q))) → r = v := fun r h => by
          have h1 := h.out
          rw [HZ.out, HQ.out.ab, HT.out] at h1
          exact h1.some
        go_wp2_with (first | (have t := k1; (refine wpList_arith _ _ _ _ _ rfl rfl _ _ _ rfl rfl rfl ?_); intro r m1 h1; have H1 := Lib.hid h1; clear h1 k1 t))
        go_ret
        exact RetF.mk _ (sine_end64 false HF.out HL.out HV.out (HR _ H1))
  · obtain rfl : f0 = f1 := h1
    obtain rfl : f0 = f2 := h2
    have c3 := fun w => run_float_arith (P := Try.prog) w .sub 25 .f64 sHalf f0 f3 h3
    clear h3
    unfold sHalf sQuarter sTurn at *
    go_enter Try.func38, Try.ntmps38
    go_wp2
    go_loopw [7, 8] (fun s8 s9 wr => ∃ (j q m : Nat), j ≤ 8 ∧ s9 = .int .i64 (8 - (j : Int)) ∧ s8 = .float .f64 q ∧ Is .f64 q (pS (some u) j) ∧ wr = w.drewN m) (fun _ s9 _ => (intOf s9 + 1).toNat)
    case atStart => exact ⟨0, _, 0, by omega, rfl, rfl, sine_start u, rfl⟩
    case round =>
      obtain ⟨j, q, m, hj, rfl, rfl, hq, rfl⟩ := hrel
      have HQ := Lib.hid hq
      clear hq
      by_cases hlt : j < 8
      · have hk := sine_k hlt
        have k1 : True := trivial
        have k2 : True := trivial
        have k3 : True := trivial
        go_wp2_with (first | (have t := k1; (refine wpList_arith _ _ _ _ _ rfl rfl _ _ _ rfl rfl rfl ?_); intro r1 m1 h1; have H1 := Lib.hid h1; clear h1 k1 t) | (have t := k2; (refine wpList_arith _ _ _ _ _ rfl rfl _ _ _ rfl rfl rfl ?_); intro r2 m2 h2; have H2 := Lib.hid h2; clear h2 k2 t) | (have t := k3; (refine wpList_arith _ _ _ _ _ rfl rfl _ _ _ rfl rfl rfl ?_); intro q' m3 h3; have H3 := Lib.hid h3; clear h3 k3 t))
        go_roundw
        case rel =>
          have h3 := H3.out
          rw [H2.out.ab, H1.out.ab, HQ.out.ab, HU.out, sine_one, show floatOfInt .f64 (2 * (8 - (j : Int)) * (2 * (8 - (j : Int)) + 1)) = flJ (2 * (8 - (j : Int)) * (2 * (8 - (j : Int)) + 1)) from rfl, ab_flJ] at h3
          exact ⟨j + 1, q', _, by omega, by simp; omega, rfl, h3, rfl⟩
        case measure => simp [intOf]; omega
      · obtain rfl : j = 8 := by omega
        have k1 : True := trivial
        have HR : ∀ r, Hid (Is .f64 r (oop .mul .f64 (ab .f64 z) (ab .f64 q))) → r = v := fun r h => by
          have h1 := h.out
          rw [HZ.out, HQ.out.ab, HT.out] at h1
          exact h1.some
        go_wp2_with (first | (have t := k1; (refine wpList_arith _ _ _ _ _ rfl rfl _ _ _ rfl rfl rfl ?_); intro r m1 h1; have H1 := Lib.hid h1; clear h1 k1 t))
        go_ret
        exact RetF.mk _ (sine_end64 false HF.out HL.out HV.out (HR _ H1))
  · obtain rfl : f0 = f1 := h1
    have c2 := fun w => run_float_arith (P := Try.prog) w .sub 25 .f64 f0 sHalf f2 h2
    obtain rfl : f2 = f3 := h3
    clear h2
    unfold sHalf sQuarter sTurn at *
    go_enter Try.func38, Try.ntmps38
    go_wp2
    go_loopw [7, 8] (fun s8 s9 wr => ∃ (j q m : Nat), j ≤ 8 ∧ s9 = .int .i64 (8 - (j : Int)) ∧ s8 = .float .f64 q ∧ Is .f64 q (pS (some u) j) ∧ wr = w.drewN m) (fun _ s9 _ => (intOf s9 + 1).toNat)
    case atStart => exact ⟨0, _, 0, by omega, rfl, rfl, sine_start u, rfl⟩
    case round =>
      obtain ⟨j, q, m, hj, rfl, rfl, hq, rfl⟩ := hrel
      have HQ := Lib.hid hq
      clear hq
      by_cases hlt : j < 8
      · have hk := sine_k hlt
        have k1 : True := trivial
        have k2 : True := trivial
        have k3 : True := trivial
        go_wp2_with (first | (have t := k1; (refine wpList_arith _ _ _ _ _ rfl rfl _ _ _ rfl rfl rfl ?_); intro r1 m1 h1; have H1 := Lib.hid h1; clear h1 k1 t) | (have t := k2; (refine wpList_arith _ _ _ _ _ rfl rfl _ _ _ rfl rfl rfl ?_); intro r2 m2 h2; have H2 := Lib.hid h2; clear h2 k2 t) | (have t := k3; (refine wpList_arith _ _ _ _ _ rfl rfl _ _ _ rfl rfl rfl ?_); intro q' m3 h3; have H3 := Lib.hid h3; clear h3 k3 t))
        go_roundw
        case rel =>
          have h3 := H3.out
          rw [H2.out.ab, H1.out.ab, HQ.out.ab, HU.out, sine_one, show floatOfInt .f64 (2 * (8 - (j : Int)) * (2 * (8 - (j : Int)) + 1)) = flJ (2 * (8 - (j : Int)) * (2 * (8 - (j : Int)) + 1)) from rfl, ab_flJ] at h3
          exact ⟨j + 1, q', _, by omega, by simp; omega, rfl, h3, rfl⟩
        case measure => simp [intOf]; omega
      · obtain rfl : j = 8 := by omega
        have k1 : True := trivial
        have HR : ∀ r, Hid (Is .f64 r (oop .mul .f64 (ab .f64 z) (ab .f64 q))) → r = v := fun r h => by
          have h1 := h.out
          rw [HZ.out, HQ.out.ab, HT.out] at h1
          exact h1.some
        go_wp2_with (first | (have t := k1; (refine wpList_arith _ _ _ _ _ rfl rfl _ _ _ rfl rfl rfl ?_); intro r m1 h1; have H1 := Lib.hid h1; clear h1 k1 t))
        go_ret
        exact RetF.mk _ (sine_end64 true HF.out HL.out HV.out (HR _ H1))
  · obtain rfl : f0 = f1 := h1
    have c2 := fun w => run_float_arith (P := Try.prog) w .sub 25 .f64 f0 sHalf f2 h2
    have c3 := fun w => run_float_arith (P := Try.prog) w .sub 25 .f64 sHalf f2 f3 h3
    clear h2 h3
    unfold sHalf sQuarter sTurn at *
    go_enter Try.func38, Try.ntmps38
    go_wp2
    go_loopw [7, 8] (fun s8 s9 wr => ∃ (j q m : Nat), j ≤ 8 ∧ s9 = .int .i64 (8 - (j : Int)) ∧ s8 = .float .f64 q ∧ Is .f64 q (pS (some u) j) ∧ wr = w.drewN m) (fun _ s9 _ => (intOf s9 + 1).toNat)
    case atStart => exact ⟨0, _, 0, by omega, rfl, rfl, sine_start u, rfl⟩
    case round =>
      obtain ⟨j, q, m, hj, rfl, rfl, hq, rfl⟩ := hrel
      have HQ := Lib.hid hq
      clear hq
      by_cases hlt : j < 8
      · have hk := sine_k hlt
        have k1 : True := trivial
        have k2 : True := trivial
        have k3 : True := trivial
        go_wp2_with (first | (have t := k1; (refine wpList_arith _ _ _ _ _ rfl rfl _ _ _ rfl rfl rfl ?_); intro r1 m1 h1; have H1 := Lib.hid h1; clear h1 k1 t) | (have t := k2; (refine wpList_arith _ _ _ _ _ rfl rfl _ _ _ rfl rfl rfl ?_); intro r2 m2 h2; have H2 := Lib.hid h2; clear h2 k2 t) | (have t := k3; (refine wpList_arith _ _ _ _ _ rfl rfl _ _ _ rfl rfl rfl ?_); intro q' m3 h3; have H3 := Lib.hid h3; clear h3 k3 t))
        go_roundw
        case rel =>
          have h3 := H3.out
          rw [H2.out.ab, H1.out.ab, HQ.out.ab, HU.out, sine_one, show floatOfInt .f64 (2 * (8 - (j : Int)) * (2 * (8 - (j : Int)) + 1)) = flJ (2 * (8 - (j : Int)) * (2 * (8 - (j : Int)) + 1)) from rfl, ab_flJ] at h3
          exact ⟨j + 1, q', _, by omega, by simp; omega, rfl, h3, rfl⟩
        case measure => simp [intOf]; omega
      · obtain rfl : j = 8 := by omega
        have k1 : True := trivial
        have HR : ∀ r, Hid (Is .f64 r (oop .mul .f64 (ab .f64 z) (ab .f64 q))) → r = v := fun r h => by
          have h1 := h.out
          rw [HZ.out, HQ.out.ab, HT.out] at h1
          exact h1.some
        go_wp2_with (first | (have t := k1; (refine wpList_arith _ _ _ _ _ rfl rfl _ _ _ rfl rfl rfl ?_); intro r m1 h1; have H1 := Lib.hid h1; clear h1 k1 t))
        go_ret
        exact RetF.mk _ (sine_end64 true HF.out HL.out HV.out (HR _ H1))
  · have c1 := fun w => run_float_arith (P := Try.prog) w .add 25 .f64 f0 sOne f1 h1
    obtain rfl : f1 = f2 := h2
    obtain rfl : f1 = f3 := h3
    clear h1
    unfold sHalf sQuarter sTurn sOne at *
    go_enter Try.func38, Try.ntmps38
    go_wp2
    go_loopw [7, 8] (fun s8 s9 wr => ∃ (j q m : Nat), j ≤ 8 ∧ s9 = .int .i64 (8 - (j : Int)) ∧ s8 = .float .f64 q ∧ Is .f64 q (pS (some u) j) ∧ wr = w.drewN m) (fun _ s9 _ => (intOf s9 + 1).toNat)
    case atStart => exact ⟨0, _, 0, by omega, rfl, rfl, sine_start u, rfl⟩
    case round =>
      obtain ⟨j, q, m, hj, rfl, rfl, hq, rfl⟩ := hrel
      have HQ := Lib.hid hq
      clear hq
      by_cases hlt : j < 8
      · have hk := sine_k hlt
        have k1 : True := trivial
        have k2 : True := trivial
        have k3 : True := trivial
        go_wp2_with (first | (have t := k1; (refine wpList_arith _ _ _ _ _ rfl rfl _ _ _ rfl rfl rfl ?_); intro r1 m1 h1; have H1 := Lib.hid h1; clear h1 k1 t) | (have t := k2; (refine wpList_arith _ _ _ _ _ rfl rfl _ _ _ rfl rfl rfl ?_); intro r2 m2 h2; have H2 := Lib.hid h2; clear h2 k2 t) | (have t := k3; (refine wpList_arith _ _ _ _ _ rfl rfl _ _ _ rfl rfl rfl ?_); intro q' m3 h3; have H3 := Lib.hid h3; clear h3 k3 t))
        go_roundw
        case rel =>
          have h3 := H3.out
          rw [H2.out.ab, H1.out.ab, HQ.out.ab, HU.out, sine_one, show floatOfInt .f64 (2 * (8 - (j : Int)) * (2 * (8 - (j : Int)) + 1)) = flJ (2 * (8 - (j : Int)) * (2 * (8 - (j : Int)) + 1)) from rfl, ab_flJ] at h3
          exact ⟨j + 1, q', _, by omega, by simp; omega, rfl, h3, rfl⟩
        case measure => simp [intOf]; omega
      · obtain rfl : j = 8 := by omega
        have k1 : True := trivial
        have HR : ∀ r, Hid (Is .f64 r (oop .mul .f64 (ab .f64 z) (ab .f64 q))) → r = v := fun r h => by
          have h1 := h.out
          rw [HZ.out, HQ.out.ab, HT.out] at h1
          exact h1.some
        go_wp2_with (first | (have t := k1; (refine wpList_arith _ _ _ _ _ rfl rfl _ _ _ rfl rfl rfl ?_); intro r m1 h1; have H1 := Lib.hid h1; clear h1 k1 t))
        go_ret
        exact RetF.mk _ (sine_end64 false HF.out HL.out HV.out (HR _ H1))
  · have c1 := fun w => run_float_arith (P := Try.prog) w .add 25 .f64 f0 sOne f1 h1
    obtain rfl : f1 = f2 := h2
    have c3 := fun w => run_float_arith (P := Try.prog) w .sub 25 .f64 sHalf f1 f3 h3
    clear h1 h3
    unfold sHalf sQuarter sTurn sOne at *
    go_enter Try.func38, Try.ntmps38
    go_wp2
    go_loopw [7, 8] (fun s8 s9 wr => ∃ (j q m : Nat), j ≤ 8 ∧ s9 = .int .i64 (8 - (j : Int)) ∧ s8 = .float .f64 q ∧ Is .f64 q (pS (some u) j) ∧ wr = w.drewN m) (fun _ s9 _ => (intOf s9 + 1).toNat)
    case atStart => exact ⟨0, _, 0, by omega, rfl, rfl, sine_start u, rfl⟩
    case round =>
      obtain ⟨j, q, m, hj, rfl, rfl, hq, rfl⟩ := hrel
      have HQ := Lib.hid hq
      clear hq
      by_cases hlt : j < 8
      · have hk := sine_k hlt
        have k1 : True := trivial
        have k2 : True := trivial
        have k3 : True := trivial
        go_wp2_with (first | (have t := k1; (refine wpList_arith _ _ _ _ _ rfl rfl _ _ _ rfl rfl rfl ?_); intro r1 m1 h1; have H1 := Lib.hid h1; clear h1 k1 t) | (have t := k2; (refine wpList_arith _ _ _ _ _ rfl rfl _ _ _ rfl rfl rfl ?_); intro r2 m2 h2; have H2 := Lib.hid h2; clear h2 k2 t) | (have t := k3; (refine wpList_arith _ _ _ _ _ rfl rfl _ _ _ rfl rfl rfl ?_); intro q' m3 h3; have H3 := Lib.hid h3; clear h3 k3 t))
        go_roundw
        case rel =>
          have h3 := H3.out
          rw [H2.out.ab, H1.out.ab, HQ.out.ab, HU.out, sine_one, show floatOfInt .f64 (2 * (8 - (j : Int)) * (2 * (8 - (j : Int)) + 1)) = flJ (2 * (8 - (j : Int)) * (2 * (8 - (j : Int)) + 1)) from rfl, ab_flJ] at h3
          exact ⟨j + 1, q', _, by omega, by simp; omega, rfl, h3, rfl⟩
        case measure => simp [intOf]; omega
      · obtain rfl : j = 8 := by omega
        have k1 : True := trivial
        have HR : ∀ r, Hid (Is .f64 r (oop .mul .f64 (ab .f64 z) (ab .f64 q))) → r = v := fun r h => by
          have h1 := h.out
          rw [HZ.out, HQ.out.ab, HT.out] at h1
          exact h1.some
        go_wp2_with (first | (have t := k1; (refine wpList_arith _ _ _ _ _ rfl rfl _ _ _ rfl rfl rfl ?_); intro r m1 h1; have H1 := Lib.hid h1; clear h1 k1 t))
        go_ret
        exact RetF.mk _ (sine_end64 false HF.out HL.out HV.out (HR _ H1))
  · have c1 := fun w => run_float_arith (P := Try.prog) w .add 25 .f64 f0 sOne f1 h1
    have c2 := fun w => run_float_arith (P := Try.prog) w .sub 25 .f64 f1 sHalf f2 h2
    obtain rfl : f2 = f3 := h3
    clear h1 h2
    unfold sHalf sQuarter sTurn sOne at *
    go_enter Try.func38, Try.ntmps38
    go_wp2
    go_loopw [7, 8] (fun s8 s9 wr => ∃ (j q m : Nat), j ≤ 8 ∧ s9 = .int .i64 (8 - (j : Int)) ∧ s8 = .float .f64 q ∧ Is .f64 q (pS (some u) j) ∧ wr = w.drewN m) (fun _ s9 _ => (intOf s9 + 1).toNat)
    case atStart => exact ⟨0, _, 0, by omega, rfl, rfl, sine_start u, rfl⟩
    case round =>
      obtain ⟨j, q, m, hj, rfl, rfl, hq, rfl⟩ := hrel
      have HQ := Lib.hid hq
      clear hq
      by_cases hlt : j < 8
      · have hk := sine_k hlt
        have k1 : True := trivial
        have k2 : True := trivial
        have k3 : True := trivial
        go_wp2_with (first | (have t := k1; (refine wpList_arith _ _ _ _ _ rfl rfl _ _ _ rfl rfl rfl ?_); intro r1 m1 h1; have H1 := Lib.hid h1; clear h1 k1 t) | (have t := k2; (refine wpList_arith _ _ _ _ _ rfl rfl _ _ _ rfl rfl rfl ?_); intro r2 m2 h2; have H2 := Lib.hid h2; clear h2 k2 t) | (have t := k3; (refine wpList_arith _ _ _ _ _ rfl rfl _ _ _ rfl rfl rfl ?_); intro q' m3 h3; have H3 := Lib.hid h3; clear h3 k3 t))
        go_roundw
        case rel =>
          have h3 := H3.out
          rw [H2.out.ab, H1.out.ab, HQ.out.ab, HU.out, sine_one, show floatOfInt .f64 (2 * (8 - (j : Int)) * (2 * (8 - (j : Int)) + 1)) = flJ (2 * (8 - (j : Int)) * (2 * (8 - (j : Int)) + 1)) from rfl, ab_flJ] at h3
          exact ⟨j + 1, q', _, by omega, by simp; omega, rfl, h3, rfl⟩
        case measure => simp [intOf]; omega
      · obtain rfl : j = 8 := by omega
        have k1 : True := trivial
        have HR : ∀ r, Hid (Is .f64 r (oop .mul .f64 (ab .f64 z) (ab .f64 q))) → r = v := fun r h => by
          have h1 := h.out
          rw [HZ.out, HQ.out.ab, HT.out] at h1
          exact h1.some
        go_wp2_with (first | (have t := k1; (refine wpList_arith _ _ _ _ _ rfl rfl _ _ _ rfl rfl rfl ?_); intro r m1 h1; have H1 := Lib.hid h1; clear h1 k1 t))
        go_ret
        exact RetF.mk _ (sine_end64 true HF.out HL.out HV.out (HR _ H1))
  · have c1 := fun w => run_float_arith (P := Try.prog) w .add 25 .f64 f0 sOne f1 h1
    have c2 := fun w => run_float_arith (P := Try.prog) w .sub 25 .f64 f1 sHalf f2 h2
    have c3 := fun w => run_float_arith (P := Try.prog) w .sub 25 .f64 sHalf f2 f3 h3
    clear h1 h2 h3
    unfold sHalf sQuarter sTurn sOne at *
    go_enter Try.func38, Try.ntmps38
    go_wp2
    go_loopw [7, 8] (fun s8 s9 wr => ∃ (j q m : Nat), j ≤ 8 ∧ s9 = .int .i64 (8 - (j : Int)) ∧ s8 = .float .f64 q ∧ Is .f64 q (pS (some u) j) ∧ wr = w.drewN m) (fun _ s9 _ => (intOf s9 + 1).toNat)
    case atStart => exact ⟨0, _, 0, by omega, rfl, rfl, sine_start u, rfl⟩
    case round =>
      obtain ⟨j, q, m, hj, rfl, rfl, hq, rfl⟩ := hrel
      have HQ := Lib.hid hq
      clear hq
      by_cases hlt : j < 8
      · have hk := sine_k hlt
        have k1 : True := trivial
        have k2 : True := trivial
        have k3 : True := trivial
        go_wp2_with (first | (have t := k1; (refine wpList_arith _ _ _ _ _ rfl rfl _ _ _ rfl rfl rfl ?_); intro r1 m1 h1; have H1 := Lib.hid h1; clear h1 k1 t) | (have t := k2; (refine wpList_arith _ _ _ _ _ rfl rfl _ _ _ rfl rfl rfl ?_); intro r2 m2 h2; have H2 := Lib.hid h2; clear h2 k2 t) | (have t := k3; (refine wpList_arith _ _ _ _ _ rfl rfl _ _ _ rfl rfl rfl ?_); intro q' m3 h3; have H3 := Lib.hid h3; clear h3 k3 t))
        go_roundw
        case rel =>
          have h3 := H3.out
          rw [H2.out.ab, H1.out.ab, HQ.out.ab, HU.out, sine_one, show floatOfInt .f64 (2 * (8 - (j : Int)) * (2 * (8 - (j : Int)) + 1)) = flJ (2 * (8 - (j : Int)) * (2 * (8 - (j : Int)) + 1)) from rfl, ab_flJ] at h3
          exact ⟨j + 1, q', _, by omega, by simp; omega, rfl, h3, rfl⟩
        case measure => simp [intOf]; omega
      · obtain rfl : j = 8 := by omega
        have k1 : True := trivial
        have HR : ∀ r, Hid (Is .f64 r (oop .mul .f64 (ab .f64 z) (ab .f64 q))) → r = v := fun r h => by
          have h1 := h.out
          rw [HZ.out, HQ.out.ab, HT.out] at h1
          exact h1.some
        go_wp2_with (first | (have t := k1; (refine wpList_arith _ _ _ _ _ rfl rfl _ _ _ rfl rfl rfl ?_); intro r m1 h1; have H1 := Lib.hid h1; clear h1 k1 t))
        go_ret
        exact RetF.mk _ (sine_end64 true HF.out HL.out HV.out (HR _ H1))

end Go.Proofs.Ytfgdcanoeipilaa
