/-
  The walks of AngleTurns and its law.
-/
import Derived.Test.YtfgdcanoeipilaaAngleI
import Derived.Test.YtfgdcanoeipilaaAngleS
namespace Go.Proofs.Ytfgdcanoeipilaa
open Go.RowKit Go.FL

theorem zero64 {x : Nat} (h : rg Ieee.double x < Ieee.double.infRung) : (FloatKind.f64.format.order x 0 == some .eq) = decide (rg Ieee.double x = 0) := by
  rw [di] at h
  rw [ord_c (by omega) (by decide +kernel), key_of, show key Ieee.double 0 = 0 by decide +kernel]
  by_cases hz : rg Ieee.double x = 0
  · rw [hz]; cases sg Ieee.double x <;> rfl
  · rw [decide_eq_false hz]
    cases sg Ieee.double x
    · simp only [Bool.false_eq_true, if_false]; rw [cmp_gt (by omega)]; rfl
    · rw [if_pos rfl, cmp_lt (by omega)]; rfl
theorem less64 {x : Nat} (h : rg Ieee.double x < Ieee.double.infRung) : (FloatKind.f64.format.order x 0 == some .lt) = low64 x := by
  rw [di] at h
  rw [ord_c (by omega) (by decide +kernel), key_of, show key Ieee.double 0 = 0 by decide +kernel]
  unfold low64
  by_cases hz : rg Ieee.double x = 0
  · rw [hz]; cases sg Ieee.double x <;> rfl
  · rw [decide_eq_true hz]
    cases sg Ieee.double x
    · simp only [Bool.false_eq_true, if_false]; rw [cmp_gt (by omega)]; rfl
    · rw [if_pos rfl, cmp_lt (by omega)]; rfl
theorem wide_zero {x : Nat} (h : rg Ieee.single x < Ieee.single.infRung) : rg Ieee.double (wide x) = 0 ↔ rg Ieee.single x = 0 := by
  obtain ⟨_, _, h3⟩ := wide_num x h
  have hm : ∀ (f : Ieee.Format) r, mg f r = 0 ↔ r = 0 := by
    intro f r
    constructor
    · intro hz
      have := mg_inj (f := f) (r := r) (s := 0) (by rw [hz, mg_zero])
      exact this
    · intro hz; rw [hz, mg_zero]
  constructor
  · intro hz
    rw [hz, mg_zero] at h3
    have := fine_pos
    rcases Nat.mul_eq_zero.1 h3.symm with h4 | h4
    · exact (hm _ _).1 h4
    · omega
  · intro hz
    rw [hz, mg_zero, Nat.zero_mul] at h3
    exact (hm _ _).1 h3
theorem ord32_zero {x : Nat} (h : rg Ieee.single x < Ieee.single.infRung) : FloatKind.f32.format.order x 0 = some (if rg Ieee.single x = 0 then .eq else if sg Ieee.single x then .lt else .gt) := by
  have e := order_key Ieee.single (by decide) x 0 (Nat.le_of_lt h) (by decide)
  rw [show FloatKind.f32.format.order x 0 = Ieee.single.order x 0 from rfl, e]
  have hz : key Ieee.single 0 = 0 := by decide
  rw [hz]
  unfold key
  by_cases h0 : rg Ieee.single x = 0
  · rw [if_pos h0, h0]
    cases sg Ieee.single x <;> rfl
  · rw [if_neg h0]
    cases sg Ieee.single x
    · simp only [Bool.false_eq_true, if_false]; rw [cmp_gt (by omega)]
    · simp only [if_true]; rw [cmp_lt (by omega)]
theorem zero32 {x : Nat} (h : rg Ieee.single x < Ieee.single.infRung) : (FloatKind.f32.format.order x 0 == some .eq) = decide (rg Ieee.double (wide x) = 0) := by
  rw [ord32_zero h]
  by_cases hz : rg Ieee.single x = 0
  · rw [if_pos hz, decide_eq_true ((wide_zero h).2 hz)]; rfl
  · rw [if_neg hz, decide_eq_false (fun h' => hz ((wide_zero h).1 h'))]
    cases sg Ieee.single x <;> rfl
theorem less32 {x : Nat} (h : rg Ieee.single x < Ieee.single.infRung) : (FloatKind.f32.format.order x 0 == some .lt) = low64 (wide x) := by
  rw [ord32_zero h]
  unfold low64
  rw [(wide_num x h).1]
  by_cases hz : rg Ieee.single x = 0
  · rw [if_pos hz, decide_eq_false (p := rg Ieee.double (wide x) ≠ 0) (fun h' => h' ((wide_zero h).2 hz))]; cases sg Ieee.single x <;> rfl
  · rw [if_neg hz, decide_eq_true (p := rg Ieee.double (wide x) ≠ 0) (fun h' => hz ((wide_zero h).1 h'))]
    cases sg Ieee.single x <;> rfl
theorem wide_lt (x : Nat) : wide x < 18446744073709551616 := by
  have := (Ieee.Format.write_lt Ieee.double (Ieee.single.read x))
  rw [show (2 : Nat) ^ Ieee.double.width = 18446744073709551616 by decide] at this
  exact this
theorem ab_rg {x : Nat} (h : rg Ieee.double x < Ieee.double.infRung) : ab .f64 (rg Ieee.double x) = some (rg Ieee.double x) := by
  refine ab_of ?_
  show rg Ieee.double (rg Ieee.double x) ≤ Ieee.double.infRung
  rw [di] at h ⊢
  have : rg Ieee.double (rg Ieee.double x) = rg Ieee.double x := by
    unfold rg; exact Nat.mod_mod _ _
  omega
theorem gt_zero {y x : Nat} (hy : rg Ieee.double y < Ieee.double.infRung) (h0 : rg Ieee.double y ≠ 0) (hx : rg Ieee.double x = 0) : isGt (rg Ieee.double y) (rg Ieee.double x) = true := by
  rw [di] at hy
  unfold isGt
  rw [hx, ord_pos (by omega) (by omega), cmp_gt (by omega)]; rfl
theorem low_zero {x : Nat} (hx : rg Ieee.double x = 0) : low64 x = false := by unfold low64; rw [hx]; simp

/-- the specification's angle in float64 -/
theorem spec_angleWide (y x : Nat) (hlY : y < 18446744073709551616) (hlX : x < 18446744073709551616) (w : World) :
    Calls Try.prog 43 #[.float .f64 y, .float .f64 x] w (RetF .f64 (wangle (ab .f64 y) (ab .f64 x)) w) := by
  have hd : ∀ y r, Is .f64 r (oop .sub .f64 (ab .f64 y) (ab .f64 y)) → (FloatKind.f64.format.order r 0 != some .eq) = !decide (rg Ieee.double y < Ieee.double.infRung) := by
    intro y r hr
    have h1 := fin64_ne (y := y)
    rw [← hr.ab] at h1
    rw [order_ab, ab_zero]
    exact h1
  by_cases hy : rg Ieee.double y < Ieee.double.infRung
  · by_cases hx : rg Ieee.double x < Ieee.double.infRung
    · have hsy := fun w => run_float_arith (P := Try.prog) w .sub 25 .f64 y y 0 (self_sub hy)
      have hsx := fun w => run_float_arith (P := Try.prog) w .sub 25 .f64 x x 0 (self_sub hx)
      have hne : (FloatKind.f64.format.order 0 0 != some .eq) = false := by decide +kernel
      by_cases hz : rg Ieee.double x = 0 ∧ rg Ieee.double y = 0
      · rw [wangle_zero hz.2 hz.1]
        have hzx : (FloatKind.f64.format.order x 0 == some .eq) = true := by rw [zero64 hx, decide_eq_true hz.1]
        have hzy : (FloatKind.f64.format.order y 0 == some .eq) = true := by rw [zero64 hy, decide_eq_true hz.2]
        clear hd hz hx hy
        go_enter Try.func43, Try.ntmps43
        go_wp2
        go_ret
        exact RetF.mk0 ⟨by decide +kernel, by decide +kernel⟩
      · obtain ⟨g, hw⟩ := ang_way hy hx hz
        obtain ⟨q, eq, bq⟩ := angT_bd hy hx hz
        have hlx := less64 hx
        have hly := less64 hy
        have hQ : Hid (Is .f64 q (angT (rg Ieee.double y) (rg Ieee.double x))) := Lib.hid (by rw [eq]; exact ⟨bq.ab, by
          rw [show FloatKind.f64.format.width = 64 by decide]
          unfold angT at eq
          split at eq <;> exact oop_lt eq⟩)
        have hqr : ∀ (o : Bool), isGt (rg Ieee.double y) (rg Ieee.double x) = o → floatBits .quo .f64 (if o then rg Ieee.double x else rg Ieee.double y) (if o then rg Ieee.double y else rg Ieee.double x) = some q := by
          intro o ho
          unfold angT at eq
          rw [ho] at eq
          cases o <;> exact eq
        by_cases hzx : rg Ieee.double x = 0
        · have hzy : rg Ieee.double y ≠ 0 := fun h => hz ⟨hzx, h⟩
          have hg := gt_zero hy hzy hzx
          have hq := fun w => run_float_arith (P := Try.prog) w .quo 25 .f64 _ _ q (hqr true hg)
          have e1 : (FloatKind.f64.format.order x 0 == some .eq) = true := by rw [zero64 hx, decide_eq_true hzx]
          have e2 : (FloatKind.f64.format.order y 0 == some .eq) = false := by rw [zero64 hy, decide_eq_false hzy]
          rw [low_zero hzx] at hlx
          rw [low_zero hzx, hg] at hw
          cases hc : low64 y
          · rw [hc] at hw hly
            exact spec_angle_1001 y x hlY hlX g hsy hsx hne hg q hq hQ e1 e2 hlx hly (Lib.hid hw) w
          · rw [hc] at hw hly
            exact spec_angle_1011 y x hlY hlX g hsy hsx hne hg q hq hQ e1 e2 hlx hly (Lib.hid hw) w
        · have e1 : (FloatKind.f64.format.order x 0 == some .eq) = false := by rw [zero64 hx, decide_eq_false hzx]
          cases hg : isGt (rg Ieee.double y) (rg Ieee.double x) <;> cases hb : low64 x <;> cases hc : low64 y
          all_goals
            rw [hg, hb, hc] at hw
            rw [hb] at hlx
            rw [hc] at hly
            have hq := fun w => run_float_arith (P := Try.prog) w .quo 25 .f64 _ _ q (hqr _ hg)
            first
              | exact spec_angle_0000 y x hlY hlX g hsy hsx hne hg q hq hQ e1 hlx hly (Lib.hid hw) w
              | exact spec_angle_0010 y x hlY hlX g hsy hsx hne hg q hq hQ e1 hlx hly (Lib.hid hw) w
              | exact spec_angle_0100 y x hlY hlX g hsy hsx hne hg q hq hQ e1 hlx hly (Lib.hid hw) w
              | exact spec_angle_0110 y x hlY hlX g hsy hsx hne hg q hq hQ e1 hlx hly (Lib.hid hw) w
              | exact spec_angle_1000 y x hlY hlX g hsy hsx hne hg q hq hQ e1 hlx hly (Lib.hid hw) w
              | exact spec_angle_1010 y x hlY hlX g hsy hsx hne hg q hq hQ e1 hlx hly (Lib.hid hw) w
              | exact spec_angle_1100 y x hlY hlX g hsy hsx hne hg q hq hQ e1 hlx hly (Lib.hid hw) w
              | exact spec_angle_1110 y x hlY hlX g hsy hsx hne hg q hq hQ e1 hlx hly (Lib.hid hw) w
    · rw [wangle_bad (.inr hx)]
      have HY : Hid (∀ r, Is .f64 r (oop .sub .f64 (ab .f64 y) (ab .f64 y)) → (FloatKind.f64.format.order r 0 != some .eq) = false) := Lib.hid fun r hr => by rw [hd y r hr, decide_eq_true hy]; rfl
      have HX : Hid (∀ r, Is .f64 r (oop .sub .f64 (ab .f64 x) (ab .f64 x)) → (FloatKind.f64.format.order r 0 != some .eq) = true) := Lib.hid fun r hr => by rw [hd x r hr, decide_eq_false hx]; rfl
      clear hd hx hy hlY hlX
      go_enter Try.func43, Try.ntmps43
      have k1 : True := trivial
      have k2 : True := trivial
      go_wp2_with (first | (have t := k1; (refine wpList_arith _ _ _ _ _ rfl rfl _ _ _ rfl rfl rfl ?_); intro r n hr; have hq := HY.out r hr; clear hr k1 t) | (have t := k2; (refine wpList_arith _ _ _ _ _ rfl rfl _ _ _ rfl rfl rfl ?_); intro r2 n2 hr2; have hq2 := HX.out r2 hr2; clear hr2 k2 t) | (go_at_call 28; refine (sine_NaN _).mono ?_; rintro e w' ⟨rfl, rfl⟩))
      go_ret
      exact RetF.mk _ ⟨by decide +kernel, by decide +kernel⟩
  · rw [wangle_bad (.inl hy)]
    have HY : Hid (∀ r, Is .f64 r (oop .sub .f64 (ab .f64 y) (ab .f64 y)) → (FloatKind.f64.format.order r 0 != some .eq) = true) := Lib.hid fun r hr => by rw [hd y r hr, decide_eq_false hy]; rfl
    clear hd hy hlY hlX
    go_enter Try.func43, Try.ntmps43
    go_wp2_with (first | ((refine wpList_arith _ _ _ _ _ rfl rfl _ _ _ rfl rfl rfl ?_); intro r n hr; have hq := HY.out r hr; clear hr) | (go_at_call 28; refine (sine_NaN _).mono ?_; rintro e w' ⟨rfl, rfl⟩))
    go_ret
    exact RetF.mk _ ⟨by decide +kernel, by decide +kernel⟩

theorem spec_l01Angle (y x : Nat) (w : World) : Calls Try.prog 31 #[.float .f32 y, .float .f32 x] w (RetF .f32 ((wangle ((ab .f32 y).map wide) ((ab .f32 x).map wide)).map nar) w) := by
  have k1 : True := trivial
  have k2 : True := trivial
  go_enter Try.func31, Try.ntmps31
  go_wp2_with (first | (have t := k1; (refine wpList_widen _ _ _ rfl rfl _ rfl (by rw [Try.underlying22]; rfl) Try.underlying25 ?_); intro r n hr; have HE := Lib.hid hr; clear hr k1 t) | (have t := k2; (refine wpList_widen _ _ _ rfl rfl _ rfl (by rw [Try.underlying22]; rfl) Try.underlying25 ?_); intro r2 n2 hr2; have HE2 := Lib.hid hr2; clear hr2 k2 t) | (go_at_call 43; refine (spec_angleWide _ _ (sine_lt HE.out) (sine_lt HE2.out) _).mono ?_; rintro e w' ⟨s, m, hs, rfl, rfl⟩; have HS := Lib.hid hs; clear hs) | (go_at_call 33; refine (spec_l01Narrow _ _ ?_).mono ?_; (intro v hv; rw [HS.out.ab] at hv; exact angle_fits v hv); rintro e w' ⟨q, m2, hq, rfl, rfl⟩))
  go_ret
  rw [HS.out.ab, HE.out.ab, HE2.out.ab] at hq
  exact RetF.mk _ hq

theorem spec_AngleTurns (y x : Nat) (w : World) : Calls Try.prog 18 #[.float .f32 y, .float .f32 x] w (RetF .f32 ((wangle ((ab .f32 y).map wide) ((ab .f32 x).map wide)).map nar) w) := by
  go_enter Try.func18, Try.ntmps18
  go_wp2_with (go_at_call 31; refine (spec_l01Angle _ _ _).mono ?_; rintro e w' ⟨q, m2, hq, rfl, rfl⟩)
  go_ret
  exact RetF.mk _ hq

theorem impl_AngleTurns (y x : Nat) (w : World) : Calls Try.prog 19 #[.float .f32 y, .float .f32 x] w (RetFB ((wangle ((ab .f32 y).map wide) ((ab .f32 x).map wide)).map nar) w) := by
  by_cases hf : rg Ieee.single y < Ieee.single.infRung ∧ rg Ieee.single x < Ieee.single.infRung
  · obtain ⟨hy, hx⟩ := hf
    have hm : ∀ z, rg Ieee.single z < Ieee.single.infRung → (ab .f32 z).map wide = ab .f64 (wide z) := by
      intro z hz
      have h1 := ab_of (k := .f32) (b := z) (Nat.le_of_lt hz)
      rw [h1, ab_wide h1]; rfl
    rw [hm y hy, hm x hx]
    have hfin : (fin .f32 (ab .f32 y) && fin .f32 (ab .f32 x)) = true := by rw [fin32, fin32, decide_eq_true hy, decide_eq_true hx]; rfl
    have hY := (wide_num y hy).2.1
    have hX := (wide_num x hx).2.1
    have hlY := wide_lt y
    have hlX := wide_lt x
    have hcy := fun w => run_convert_float_float (P := Try.prog) w 22 25 .f32 .f64 y (wide y) (by rw [Try.underlying22]; rfl) Try.underlying25 (wide_bits (Nat.le_of_lt hy))
    have hcx := fun w => run_convert_float_float (P := Try.prog) w 22 25 .f32 .f64 x (wide x) (by rw [Try.underlying22]; rfl) Try.underlying25 (wide_bits (Nat.le_of_lt hx))
    have hzx' := zero32 hx
    have hzy' := zero32 hy
    have hlx := less32 hx
    have hly := less32 hy
    have HA := Lib.hid (ab_rg hY)
    have HB := Lib.hid (ab_rg hX)
    by_cases hz : rg Ieee.double (wide x) = 0 ∧ rg Ieee.double (wide y) = 0
    · rw [wangle_zero hz.2 hz.1]
      have hzx : (FloatKind.f32.format.order x 0 == some .eq) = true := by rw [hzx', decide_eq_true hz.1]
      have hzy : (FloatKind.f32.format.order y 0 == some .eq) = true := by rw [hzy', decide_eq_true hz.2]
      clear hz hx hy hzx' hzy' hm hlx hly
      go_enter Try.func19, Try.ntmps19
      go_wp2_with (go_at_call 32; refine (finite2 _ y x _ (by simp) (by simp)).mono ?_; rintro e w' ⟨n, rfl, rfl⟩)
      go_ret
      exact ⟨_, ⟨by decide +kernel, by decide +kernel⟩, rfl, (by repeat (first | exact Below.refl _ _ | refine Below.setCell ?_ (by first | (simp; done) | (simp; omega)) _ | refine Below.trans ?_ (Below.mono (by assumption) (by first | (simp; done) | (simp; omega))) | refine Below.alloc ?_ (by first | (simp; done) | (simp; omega)) _ | refine Below.alloc ?_ (Nat.le_refl _) _ | refine below_drewN ?_ _))⟩
    · obtain ⟨g, hw⟩ := ang_way hY hX hz
      by_cases hzx : rg Ieee.double (wide x) = 0
      · have hzy : rg Ieee.double (wide y) ≠ 0 := fun h => hz ⟨hzx, h⟩
        have hg := gt_zero hY hzy hzx
        have e1 : (FloatKind.f32.format.order x 0 == some .eq) = true := by rw [hzx', decide_eq_true hzx]
        have e2 : (FloatKind.f32.format.order y 0 == some .eq) = false := by rw [hzy', decide_eq_false hzy]
        rw [low_zero hzx] at hlx
        rw [low_zero hzx, hg] at hw
        cases hc : low64 (wide y)
        · rw [hc] at hw hly
          exact impl_angle_1001 y x hlY hlX g hfin hcy hcx hg HA HB e1 e2 hlx hly (Lib.hid hw) w
        · rw [hc] at hw hly
          exact impl_angle_1011 y x hlY hlX g hfin hcy hcx hg HA HB e1 e2 hlx hly (Lib.hid hw) w
      · have e1 : (FloatKind.f32.format.order x 0 == some .eq) = false := by rw [hzx', decide_eq_false hzx]
        cases hg : isGt (rg Ieee.double (wide y)) (rg Ieee.double (wide x)) <;> cases hb : low64 (wide x) <;> cases hc : low64 (wide y)
        all_goals
          rw [hg, hb, hc] at hw
          rw [hb] at hlx
          rw [hc] at hly
          first
            | exact impl_angle_0000 y x hlY hlX g hfin hcy hcx hg HA HB e1 hlx hly (Lib.hid hw) w
            | exact impl_angle_0010 y x hlY hlX g hfin hcy hcx hg HA HB e1 hlx hly (Lib.hid hw) w
            | exact impl_angle_0100 y x hlY hlX g hfin hcy hcx hg HA HB e1 hlx hly (Lib.hid hw) w
            | exact impl_angle_0110 y x hlY hlX g hfin hcy hcx hg HA HB e1 hlx hly (Lib.hid hw) w
            | exact impl_angle_1000 y x hlY hlX g hfin hcy hcx hg HA HB e1 hlx hly (Lib.hid hw) w
            | exact impl_angle_1010 y x hlY hlX g hfin hcy hcx hg HA HB e1 hlx hly (Lib.hid hw) w
            | exact impl_angle_1100 y x hlY hlX g hfin hcy hcx hg HA HB e1 hlx hly (Lib.hid hw) w
            | exact impl_angle_1110 y x hlY hlX g hfin hcy hcx hg HA HB e1 hlx hly (Lib.hid hw) w
  · have hn : wangle ((ab .f32 y).map wide) ((ab .f32 x).map wide) = none := by
      cases ha : ab .f32 y with
      | none => rfl
      | some y' =>
        obtain ⟨hly, rfl⟩ := ab_some.1 ha
        cases hb : ab .f32 x with
        | none => rfl
        | some x' =>
          obtain ⟨hlx, rfl⟩ := ab_some.1 hb
          change rg Ieee.single y ≤ Ieee.single.infRung at hly
          change rg Ieee.single x ≤ Ieee.single.infRung at hlx
          have h := wangle_bad (y := wide y) (x := wide x) (by
            by_cases hy : rg Ieee.single y < Ieee.single.infRung
            · right
              have hx : rg Ieee.single x = Ieee.single.infRung := by
                by_cases hx : rg Ieee.single x < Ieee.single.infRung
                · exact absurd ⟨hy, hx⟩ hf
                · omega
              rw [(wide_inf x hx).2]; omega
            · left
              rw [(wide_inf y (by omega)).2]; omega)
          rw [ab_wide ha, ab_wide hb] at h
          exact h
    rw [hn]
    have hfin : (fin .f32 (ab .f32 y) && fin .f32 (ab .f32 x)) = false := by
      rw [fin32, fin32]
      by_cases hy : rg Ieee.single y < Ieee.single.infRung
      · have hx : ¬ rg Ieee.single x < Ieee.single.infRung := fun hx => hf ⟨hy, hx⟩
        rw [decide_eq_false hx]; simp
      · rw [decide_eq_false hy]; rfl
    clear hn hf
    go_enter Try.func19, Try.ntmps19
    go_wp2_with (first | (go_at_call 32; refine (finite2 _ y x _ (by simp) (by simp)).mono ?_; rintro e w' ⟨n, rfl, rfl⟩) | (go_at_call 28; refine (sine_NaN _).mono ?_; rintro e w' ⟨rfl, rfl⟩) | (refine wpList_narrow _ _ _ rfl rfl _ rfl (by rw [Try.underlying25]; rfl) Try.underlying22 ?_ ?_; (intro v hv; rw [sine_nan] at hv; cases hv); intro r' n' hr'))
    go_ret
    rw [sine_nan] at hr'
    exact ⟨_, hr', rfl, (by repeat (first | exact Below.refl _ _ | refine Below.setCell ?_ (by first | (simp; done) | (simp; omega)) _ | refine Below.trans ?_ (Below.mono (by assumption) (by first | (simp; done) | (simp; omega))) | refine Below.alloc ?_ (by first | (simp; done) | (simp; omega)) _ | refine Below.alloc ?_ (Nat.le_refl _) _ | refine below_drewN ?_ _))⟩

theorem FnExactAngleTurns_walk (y x : Nat) (w : World) (_ : (Lit.float .f32 y).wf = true) (_ : (Lit.float .f32 x).wf = true) : Calls Try.prog 7 #[.float .f32 y, .float .f32 x] w fun e w' => e = .returned (.bool true) ∧ Below w.heap.size w w' := by
  go_enter Try.func7, Try.ntmps7
  go_wp2_with (first | (go_at_call 18; refine (spec_AngleTurns _ _ _).mono ?_; rintro e w' ⟨s, m, hs, rfl, rfl⟩; have es := hs.ab) | (go_at_call 19; refine (impl_AngleTurns _ _ _).mono ?_; rintro e w1 ⟨q, hq, rfl, hb⟩; have eq := hq.ab) | (refine wpList_widen _ _ _ rfl rfl _ rfl (by rw [Try.underlying22]; rfl) Try.underlying25 ?_; intro r n hr; have er := hr.ab) | (go_at_call 10; refine (sameFloat _ _ _ ?_).mono ?_; (simp only [*]); rintro e w' ⟨n, rfl, rfl⟩))
  go_ret
  exact ⟨rfl, (by repeat (first | exact Below.refl _ _ | refine Below.setCell ?_ (by first | (simp; done) | (simp; omega)) _ | refine Below.trans ?_ (Below.mono (by assumption) (by first | (simp; done) | (simp; omega))) | refine Below.alloc ?_ (by first | (simp; done) | (simp; omega)) _ | refine Below.alloc ?_ (Nat.le_refl _) _ | refine below_drewN ?_ _))⟩

end Go.Proofs.Ytfgdcanoeipilaa
