/-
  The walks of the functions on logarithms.
-/
import Derived.Test.YtfgdcanoeipilaaOne
import Derived.Test.YtfgdcanoeipilaaLogP
import Derived.Test.YtfgdcanoeipilaaRoot
import Derived.WalkKit
import Derived.WalkSpells
import Derived.WalkLawsBesides
import Derived.ProofKit
import Derived.LoopTactic
import Derived.Outline
import Derived.Lib.Hide
namespace Go.Proofs.Ytfgdcanoeipilaa
open Go.RowKit Go.FL

@[go_sem] theorem run_frombits64 (b : Int) (w : World) : (callFunc 39 #[.int .u64 b]).run Try.prog w = .ok (.value (.float .f64 b.toNat)) w := by kernel_rfl

theorem math_NaN (w : World) : Calls Try.prog 28 #[] w fun e w' => e = .returned (.float .f64 9221120237041090561) ∧ w = w' := by
  go_enter Try.func28, Try.ntmps28
  go_wp2
  go_ret
  exact ⟨rfl, rfl⟩

theorem math_Inf (w : World) : Calls Try.prog 37 #[.int .i64 (-1)] w fun e w' => e = .returned (.float .f64 18442240474082181120) ∧ w = w' := by
  go_enter Try.func37, Try.ntmps37
  go_wp2
  go_ret
  exact ⟨rfl, rfl⟩

theorem math_IsInf (x : Nat) (w : World) : Calls Try.prog 46 #[.float .f64 x, .int .i64 1] w fun e w' => e = .returned (.bool (FloatKind.f64.format.order x 9218868437227405311 == some .gt)) ∧ w = w' := by
  go_enter Try.func46, Try.ntmps46
  go_wp2
  go_ret
  exact ⟨rfl, rfl⟩

/-- how a finite word stands to nought -/
theorem ord_zero64 {x : Nat} (h : rg Ieee.double x ≤ 9218868437227405312) : FloatKind.f64.format.order x 0 = some (if rg Ieee.double x = 0 then .eq else if sg Ieee.double x then .lt else .gt) := by
  have e := order_key Ieee.double (by decide) x 0 (by rw [di]; exact h) (by decide)
  rw [show FloatKind.f64.format.order x 0 = Ieee.double.order x 0 from rfl, e]
  have hz : key Ieee.double 0 = 0 := by decide
  rw [hz]
  unfold key
  by_cases h0 : rg Ieee.double x = 0
  · rw [if_pos h0, h0]
    cases sg Ieee.double x <;> rfl
  · rw [if_neg h0]
    cases sg Ieee.double x
    · simp only [Bool.false_eq_true, if_false]; rw [cmp_gt (by omega)]
    · simp only [if_true]; rw [cmp_lt (by omega)]
theorem ord_max64 {x : Nat} (h : x < 9218868437227405313) : (FloatKind.f64.format.order x 9218868437227405311 == some .gt) = decide (x = 9218868437227405312) := by
  rw [ord64 h (by omega)]
  by_cases hx : x = 9218868437227405312
  · rw [decide_eq_true hx, cmp_gt (by omega)]; rfl
  · rw [decide_eq_false hx]
    rcases Nat.lt_or_eq_of_le (show x ≤ 9218868437227405311 by omega) with h | h
    · rw [cmp_lt (by omega)]; rfl
    · rw [cmp_eq (by omega)]; rfl

theorem wlog_none (x : Nat) (h : ab .f64 x = none) : Is .f64 9221120237041090561 (wlog (ab .f64 x)) := by
  rw [h]; exact ⟨by decide +kernel, by decide +kernel⟩
theorem wlog_zero {x : Nat} (h : rg Ieee.double x = 0) : Is .f64 18442240474082181120 (wlog (some x)) := by
  have : wlog (some x) = some 18442240474082181120 := if_pos h
  rw [this]; exact ⟨by decide +kernel, by decide +kernel⟩
theorem wlog_neg {x : Nat} (h : rg Ieee.double x ≠ 0) (hs : sg Ieee.double x = true) : Is .f64 9221120237041090561 (wlog (some x)) := by
  have : wlog (some x) = none := by
    show (if rg Ieee.double x = 0 then _ else if sg Ieee.double x then _ else _) = _
    rw [if_neg h, if_pos hs]
  rw [this]; exact ⟨by decide +kernel, by decide +kernel⟩
theorem sg_false_rg {x : Nat} (hx : x < 18446744073709551616) (hs : sg Ieee.double x = false) : rg Ieee.double x = x ∧ x < 9223372036854775808 := by
  have : x < 9223372036854775808 := by
    unfold sg at hs
    rw [show Ieee.double.signWeight = 9223372036854775808 by decide] at hs
    simp at hs
    omega
  exact ⟨rg_small this, this⟩
theorem wlog_inf : Is .f64 9218868437227405312 (wlog (some 9218868437227405312)) := ⟨by decide +kernel, by decide +kernel⟩
theorem wlog_fin {x m : Nat} {e : Int} (h1 : 4503599627370496 ≤ x) (h2 : x < 9218868437227405312) (hm : m = logM x) (he : e = logE x) : wlog (some x) = logFin m e := by
  have hr := rg_small (x := x) (by omega)
  show (if rg Ieee.double x = 0 then _ else if sg Ieee.double x then _ else if rg Ieee.double x = 9218868437227405312 then _ else _) = _
  rw [hr, if_neg (by omega), sg_small (by omega), if_neg (by simp), if_neg (by omega), hm, he]

theorem ab_small {x : Nat} (h : x < 9218868437227405313) : ab .f64 x = some x := ab_of (by show rg Ieee.double x ≤ Ieee.double.infRung; rw [rg_small (by omega), di]; omega)
theorem ab_flI (e : Int) : ab .f64 (flI e) = some (flI e) := ab_of (rg_write Ieee.double (d := .number (e < 0) e.natAbs 0) (by intro s t e; cases e))
theorem ab_one : ab .f64 4607182418800017408 = some one64 := by decide +kernel
theorem ab_two : ab .f64 4611686018427387904 = some two64 := by decide +kernel

set_option maxHeartbeats 1000000 in
theorem impl_logOf (x : Nat) (hx : x < 18446744073709551616) (hn : 4503599627370496 ≤ rg Ieee.double x ∨ rg Ieee.double x = 0) (w : World) : Calls Try.prog 25 #[.float .f64 x] w (RetF .f64 (wlog (ab .f64 x)) w) := by
  cases ha : ab .f64 x with
  | none =>
    have e1 : (FloatKind.f64.format.order x x != some .eq) = true := by rw [order_self, ha]; rfl
    have hf := wlog_none x ha
    rw [ha] at hf
    have HF := Lib.hid hf
    clear ha hn hf hx
    go_enter Try.func25, Try.ntmps25
    go_wp2_with (go_at_call 28; refine (math_NaN _).mono ?_; rintro e w' ⟨rfl, rfl⟩)
    go_ret
    exact RetF.mk0 HF.out
  | some y =>
    obtain ⟨hle, rfl⟩ := ab_some.1 ha
    have e1 : (FloatKind.f64.format.order x x != some .eq) = false := by rw [order_self, ha]; rfl
    change rg Ieee.double x ≤ Ieee.double.infRung at hle
    rw [di] at hle
    clear ha
    have eo := ord_zero64 hle
    by_cases h0 : rg Ieee.double x = 0
    · rw [if_pos h0] at eo
      have e2 : (FloatKind.f64.format.order x 0 == some .lt) = false := by rw [eo]; rfl
      have e3 : (FloatKind.f64.format.order x 0 == some .eq) = true := by rw [eo]; rfl
      have HF := Lib.hid (wlog_zero h0)
      clear eo hn hle h0 hx
      go_enter Try.func25, Try.ntmps25
      go_wp2_with (go_at_call 37; refine (math_Inf _).mono ?_; rintro e w' ⟨rfl, rfl⟩)
      go_ret
      exact RetF.mk0 HF.out
    · rw [if_neg h0] at eo
      cases hs : sg Ieee.double x with
      | true =>
        rw [if_pos hs] at eo
        have e2 : (FloatKind.f64.format.order x 0 == some .lt) = true := by rw [eo]; rfl
        have HF := Lib.hid (wlog_neg h0 hs)
        clear eo hn hle h0 hs hx
        go_enter Try.func25, Try.ntmps25
        go_wp2_with (go_at_call 28; refine (math_NaN _).mono ?_; rintro e w' ⟨rfl, rfl⟩)
        go_ret
        exact RetF.mk0 HF.out
      | false =>
        rw [hs, if_neg (by simp)] at eo
        obtain ⟨hr, hx'⟩ := sg_false_rg hx hs
        rw [hr] at hle h0 hn
        have e2 : (FloatKind.f64.format.order x 0 == some .lt) = false := by rw [eo]; rfl
        have e3 : (FloatKind.f64.format.order x 0 == some .eq) = false := by rw [eo]; rfl
        by_cases hi : x = 9218868437227405312
        · subst hi
          have e4 : (FloatKind.f64.format.order 9218868437227405312 9218868437227405311 == some .gt) = true := by rw [ord_max64 (by omega)]; simp
          clear eo hn hle h0 hs hx hx' hr
          go_enter Try.func25, Try.ntmps25
          go_wp2
          go_ret
          exact RetF.mk0 wlog_inf
        · have e4 : (FloatKind.f64.format.order x 9218868437227405311 == some .gt) = false := by rw [ord_max64 (by omega)]; simp [hi]
          have HU := Lib.hid (LogU.start (x := x) (by omega) (by omega))
          have HF : Hid (4503599627370496 ≤ x ∧ x < 9218868437227405312) := Lib.hid ⟨by omega, by omega⟩
          clear eo hn hle h0 hs hx hx' hr hi
          go_enter Try.func25, Try.ntmps25
          go_wp2
          go_loopw [0, 3] (fun s0 s3 wr => ∃ (m n : Nat) (e : Int), s0 = .float .f64 m ∧ s3 = .float .f64 (flI e) ∧ LogU x m e ∧ wr = w.drewN n) (fun s0 _ _ => hi64 - fltOf s0)
          case atStart => exact ⟨x, 0, 0, rfl, by rfl, HU.out, rfl⟩
          case round =>
            obtain ⟨m, n, e, rfl, rfl, hL, rfl⟩ := hrel
            by_cases hlt : m < 4604930618986332160
            · have e5 := lss_lo hL.hi.2 true (decide_eq_true hlt)
              have HM := Lib.hid (hL.mul hlt)
              have HS := Lib.hid (hL.sub hlt)
              have HN := Lib.hid (hL.step hlt)
              have HL := Lib.hid (hL.low hlt)
              have HA := Lib.hid (ab_small (x := m) (by omega))
              clear hL hlt
              go_wp2_with (refine wpList_arith _ _ _ _ _ rfl rfl _ _ _ rfl rfl rfl ?_; intro r n hr; have er := hr.ab)
              rename_i r1 n1 h1 _
              go_roundw
              case rel =>
                rw [ab_two, HA.out, HM.out] at h1
                rw [ab_one, ab_flI, HS.out] at hr
                cases h1.some
                cases hr.some
                exact ⟨_, _, _, rfl, rfl, HN.out, rfl⟩
              case measure =>
                rw [ab_two, HA.out, HM.out] at h1
                cases h1.some
                exact HL.out
            · have e5 := lss_lo hL.hi.2 false (decide_eq_false hlt)
              have HD := Lib.hid (hL.done hlt)
              clear hL hlt
              go_wp2
              go_loopw [0, 3] (fun s0 s3 wr => ∃ (m n : Nat) (e : Int), s0 = .float .f64 m ∧ s3 = .float .f64 (flI e) ∧ LogD x m e ∧ wr = w.drewN n) (fun s0 _ _ => fltOf s0)
              case atStart => exact ⟨m, n, e, rfl, rfl, HD.out, rfl⟩
              case round =>
                clear HD HU
                obtain ⟨m, n, e, rfl, rfl, hL, rfl⟩ := hrel
                obtain ⟨o, eo, o1, o2⟩ := lss_hi hL.hi.2
                by_cases hlt : m < 4609434218613702656
                · obtain rfl := o1 hlt
                  obtain ⟨rm, re⟩ := hL.fin hlt
                  have HR := Lib.hid (wlog_fin HF.out.1 HF.out.2 rm re)
                  have HA := Lib.hid (ab_small (x := m) (by omega))
                  clear hL hlt rm re o2 o1
                  have k1 : True := trivial
                  have k2 : True := trivial
                  have k3 : True := trivial
                  have k4 : True := trivial
                  go_wp2_with (first | (have t := k1; (refine wpList_arith _ _ _ _ _ rfl rfl _ _ _ rfl rfl rfl ?_); intro r1 n1 h1; have H1 := Lib.hid h1; clear h1 k1 t) | (have t := k2; (refine wpList_arith _ _ _ _ _ rfl rfl _ _ _ rfl rfl rfl ?_); intro r2 n2 h2; have H2 := Lib.hid h2; clear h2 k2 t) | (have t := k3; (refine wpList_arith _ _ _ _ _ rfl rfl _ _ _ rfl rfl rfl ?_); intro s n3 h3; have H3 := Lib.hid h3; clear h3 k3 t) | (have t := k4; (refine wpList_arith _ _ _ _ _ rfl rfl _ _ _ rfl rfl rfl ?_); intro u n4 h4; have H4 := Lib.hid h4; clear h4 k4 t))
                  have hS : ab .f64 s = logS m := by rw [H3.out.ab, H1.out.ab, H2.out.ab, HA.out, ab_one]; rfl
                  have hU : ab .f64 u = oop .mul .f64 (logS m) (logS m) := by rw [H4.out.ab, hS]
                  have HS := Lib.hid hS
                  have HU := Lib.hid hU
                  clear hS hU H1 H2 H3 H4
                  go_loopw [6, 7] (fun s6 s7 wr => ∃ (j q n : Nat), j ≤ 13 ∧ s7 = .int .i64 (25 - 2 * (j : Int)) ∧ s6 = .float .f64 q ∧ Is .f64 q (qL (oop .mul .f64 (logS m) (logS m)) j) ∧ wr = w.drewN n) (fun _ s7 _ => (intOf s7 + 1).toNat)
                  case atStart => exact ⟨0, 0, _, by omega, rfl, rfl, ⟨rfl, by decide⟩, rfl⟩
                  case round =>
                    obtain ⟨j, q, n, hj, rfl, rfl, hq, rfl⟩ := hrel
                    have HQ := Lib.hid hq
                    clear hq
                    by_cases hlt : j < 13
                    · have k1 : True := trivial
                      have k2 : True := trivial
                      have k3 : True := trivial
                      go_wp2_with (first | (have t := k1; (refine wpList_arith _ _ _ _ _ rfl rfl _ _ _ rfl rfl rfl ?_); intro r1 n1 h1; have H1 := Lib.hid h1; clear h1 k1 t) | (have t := k2; (refine wpList_arith _ _ _ _ _ rfl rfl _ _ _ rfl rfl rfl ?_); intro r2 n2 h2; have H2 := Lib.hid h2; clear h2 k2 t) | (have t := k3; (refine wpList_arith _ _ _ _ _ rfl rfl _ _ _ rfl rfl rfl ?_); intro q' n3 h3; have H3 := Lib.hid h3; clear h3 k3 t))
                      go_roundw
                      case rel =>
                        have h3 := H3.out
                        rw [H1.out.ab, H2.out.ab, HU.out, HQ.out.ab, ab_one, show floatOfInt .f64 (25 - 2 * (j : Int)) = flI (25 - 2 * (j : Int)) from rfl, ab_flI] at h3
                        exact ⟨j + 1, q', _, by omega, by simp; omega, rfl, h3, rfl⟩
                      case measure => simp [intOf]; omega
                    · obtain rfl : j = 13 := by omega
                      have k1 : True := trivial
                      have k2 : True := trivial
                      have k3 : True := trivial
                      have k4 : True := trivial
                      go_wp2_with (first | (have t := k1; (refine wpList_arith _ _ _ _ _ rfl rfl _ _ _ rfl rfl rfl ?_); intro r1 n1 h1; have H1 := Lib.hid h1; clear h1 k1 t) | (have t := k2; (refine wpList_arith _ _ _ _ _ rfl rfl _ _ _ rfl rfl rfl ?_); intro r2 n2 h2; have H2 := Lib.hid h2; clear h2 k2 t) | (have t := k3; (refine wpList_arith _ _ _ _ _ rfl rfl _ _ _ rfl rfl rfl ?_); intro r3 n3 h3; have H3 := Lib.hid h3; clear h3 k3 t) | (have t := k4; (refine wpList_arith _ _ _ _ _ rfl rfl _ _ _ rfl rfl rfl ?_); intro r4 n4 h4; have H4 := Lib.hid h4; clear h4 k4 t))
                      go_ret
                      have h4 := H4.out
                      rw [H2.out.ab, H1.out.ab, H3.out.ab, HQ.out.ab, HS.out, ab_two, ab_flI, show ab .f64 4604418534313441775 = some ln2 by decide +kernel] at h4
                      exact RetF.mk _ (by rw [HR.out]; exact h4)
                · have HM := Lib.hid (hL.quo hlt)
                  have HS := Lib.hid (hL.add hlt)
                  have HN := Lib.hid (hL.step hlt)
                  have HL := Lib.hid (hL.low hlt)
                  have HA := Lib.hid (ab_small (x := m) (Nat.lt_succ_of_lt hL.hi.2))
                  have ho := o2 hlt
                  clear hL hlt o1 o2
                  rcases ho with rfl | rfl
                  all_goals
                    go_wp2_with (refine wpList_arith _ _ _ _ _ rfl rfl _ _ _ rfl rfl rfl ?_; intro r n hr; have er := hr.ab)
                    rename_i r1 n1 h1 _
                    go_roundw
                    case rel =>
                      rw [ab_two, HA.out, HM.out] at h1
                      rw [ab_one, ab_flI, HS.out] at hr
                      exact ⟨dn64 m, _, e + 1, by rw [h1.some], by rw [hr.some], HN.out, rfl⟩
                    case measure =>
                      rw [ab_two, HA.out, HM.out] at h1
                      show r1 < m
                      rw [h1.some]
                      exact HL.out
theorem lt64 {r : Nat} {o : Option Nat} (h : Is .f64 r o) : r < 18446744073709551616 := by have := h.lt; rw [show FloatKind.f64.format.width = 64 by decide] at this; exact this
theorem wide_cases (x : Nat) : ∀ r, Is .f64 r ((ab .f32 x).map wide) → 4503599627370496 ≤ rg Ieee.double r ∨ rg Ieee.double r = 0 := by
  intro r hr
  cases ha : ab .f32 x with
  | none =>
    rw [ha] at hr
    have := ab_none.1 hr.ab
    left
    change Ieee.double.infRung < rg Ieee.double r at this
    rw [di] at this
    omega
  | some y =>
    obtain ⟨hle, rfl⟩ := ab_some.1 ha
    rw [ha] at hr
    rw [hr.some]
    exact wide_norm x hle

set_option maxHeartbeats 1000000 in
theorem spec_logWide (x : Nat) (hx : x < 18446744073709551616) (hn : 4503599627370496 ≤ rg Ieee.double x ∨ rg Ieee.double x = 0) (w : World) : Calls Try.prog 36 #[.float .f64 x] w (RetF .f64 (wlog (ab .f64 x)) w) := by
  cases ha : ab .f64 x with
  | none =>
    have e1 : (FloatKind.f64.format.order x x != some .eq) = true := by rw [order_self, ha]; rfl
    have hf := wlog_none x ha
    rw [ha] at hf
    have HF := Lib.hid hf
    clear ha hn hf hx
    go_enter Try.func36, Try.ntmps36
    go_wp2_with (first | (go_at_call 28; refine (math_NaN _).mono ?_; rintro e w' ⟨rfl, rfl⟩) | (go_at_call 46; refine (math_IsInf _ _).mono ?_; rintro e w' ⟨rfl, rfl⟩))
    go_ret
    exact RetF.mk0 HF.out
  | some y =>
    obtain ⟨hle, rfl⟩ := ab_some.1 ha
    have e1 : (FloatKind.f64.format.order x x != some .eq) = false := by rw [order_self, ha]; rfl
    change rg Ieee.double x ≤ Ieee.double.infRung at hle
    rw [di] at hle
    clear ha
    have eo := ord_zero64 hle
    by_cases h0 : rg Ieee.double x = 0
    · rw [if_pos h0] at eo
      have e2 : (FloatKind.f64.format.order x 0 == some .lt) = false := by rw [eo]; rfl
      have e3 : (FloatKind.f64.format.order x 0 == some .eq) = true := by rw [eo]; rfl
      have HF := Lib.hid (wlog_zero h0)
      clear eo hn hle h0 hx
      go_enter Try.func36, Try.ntmps36
      go_wp2_with (go_at_call 37; refine (math_Inf _).mono ?_; rintro e w' ⟨rfl, rfl⟩)
      go_ret
      exact RetF.mk0 HF.out
    · rw [if_neg h0] at eo
      cases hs : sg Ieee.double x with
      | true =>
        rw [if_pos hs] at eo
        have e2 : (FloatKind.f64.format.order x 0 == some .lt) = true := by rw [eo]; rfl
        have HF := Lib.hid (wlog_neg h0 hs)
        clear eo hn hle h0 hs hx
        go_enter Try.func36, Try.ntmps36
        go_wp2_with (first | (go_at_call 28; refine (math_NaN _).mono ?_; rintro e w' ⟨rfl, rfl⟩) | (go_at_call 46; refine (math_IsInf _ _).mono ?_; rintro e w' ⟨rfl, rfl⟩))
        go_ret
        exact RetF.mk0 HF.out
      | false =>
        rw [hs, if_neg (by simp)] at eo
        obtain ⟨hr, hx'⟩ := sg_false_rg hx hs
        rw [hr] at hle h0 hn
        have e2 : (FloatKind.f64.format.order x 0 == some .lt) = false := by rw [eo]; rfl
        have e3 : (FloatKind.f64.format.order x 0 == some .eq) = false := by rw [eo]; rfl
        by_cases hi : x = 9218868437227405312
        · subst hi
          have e4 : (FloatKind.f64.format.order 9218868437227405312 9218868437227405311 == some .gt) = true := by rw [ord_max64 (by omega)]; simp
          clear eo hn hle h0 hs hx hx' hr
          go_enter Try.func36, Try.ntmps36
          go_wp2_with (go_at_call 46; refine (math_IsInf _ _).mono ?_; rintro e w' ⟨rfl, rfl⟩)
          go_ret
          exact RetF.mk0 wlog_inf
        · have e4 : (FloatKind.f64.format.order x 9218868437227405311 == some .gt) = false := by rw [ord_max64 (by omega)]; simp [hi]
          have HU := Lib.hid (LogD'.start (x := x) (by omega) (by omega))
          have HF : Hid (4503599627370496 ≤ x ∧ x < 9218868437227405312) := Lib.hid ⟨by omega, by omega⟩
          clear eo hn hle h0 hs hx hx' hr hi
          go_enter Try.func36, Try.ntmps36
          go_wp2_with (go_at_call 46; refine (math_IsInf _ _).mono ?_; rintro e w' ⟨rfl, rfl⟩)
          go_loopw [0, 3] (fun s0 s3 wr => ∃ (m n : Nat) (e : Int), s0 = .float .f64 m ∧ s3 = .int .i64 e ∧ LogD' x m e ∧ wr = w.drewN n) (fun s0 _ _ => fltOf s0)
          case atStart => exact ⟨x, 0, 0, rfl, by rfl, HU.out, rfl⟩
          case round =>
            obtain ⟨m, n, e, rfl, rfl, hL, rfl⟩ := hrel
            obtain ⟨o, eo, o1, o2⟩ := lss_hi hL.hi.2
            have hb := hL.small
            by_cases hlt : m < 4609434218613702656
            · obtain rfl := o1 hlt
              have HD := Lib.hid (hL.done hlt)
              clear hL hlt o2 o1
              go_wp2
              go_loopw [0, 3] (fun s0 s3 wr => ∃ (m n : Nat) (e : Int), s0 = .float .f64 m ∧ s3 = .int .i64 e ∧ LogU' x m e ∧ wr = w.drewN n) (fun s0 _ _ => hi64 - fltOf s0)
              case atStart => exact ⟨m, n, e, rfl, rfl, HD.out, rfl⟩
              case round =>
                clear HD HU hb eo
                obtain ⟨m, n, e, rfl, rfl, hL, rfl⟩ := hrel
                have hb := hL.small
                by_cases hlt : m < 4604930618986332160
                · have e5 := lss_lo (m := m) (by have := hL.hi; omega) true (decide_eq_true hlt)
                  have HM := Lib.hid (hL.mul hlt)
                  have HN := Lib.hid (hL.step hlt)
                  have HL := Lib.hid (hL.low hlt)
                  have HA := Lib.hid (ab_small (x := m) (by omega))
                  clear hL hlt
                  go_wp2_with (refine wpList_arith _ _ _ _ _ rfl rfl _ _ _ rfl rfl rfl ?_; intro r n hr; have er := hr.ab)
                  go_roundw
                  case rel =>
                    rw [ab_two, HA.out, HM.out] at hr
                    exact ⟨m + 4503599627370496, _, e - 1, by rw [hr.some], rfl, HN.out, rfl⟩
                  case measure =>
                    rw [ab_two, HA.out, HM.out] at hr
                    show hi64 - r < hi64 - m
                    rw [hr.some]
                    exact HL.out
                · have e5 := lss_lo (m := m) (by have := hL.hi; omega) false (decide_eq_false hlt)
                  obtain ⟨rm, re⟩ := hL.fin hlt
                  have HA := Lib.hid (ab_small (x := m) (by have := hL.hi; omega))
                  have HR := Lib.hid (wlog_fin HF.out.1 HF.out.2 rm re)
                  clear hL hlt rm re
                  have k1 : True := trivial
                  have k2 : True := trivial
                  have k3 : True := trivial
                  have k4 : True := trivial
                  go_wp2_with (first | (have t := k1; (refine wpList_arith _ _ _ _ _ rfl rfl _ _ _ rfl rfl rfl ?_); intro r1 n1 h1; have H1 := Lib.hid h1; clear h1 k1 t) | (have t := k2; (refine wpList_arith _ _ _ _ _ rfl rfl _ _ _ rfl rfl rfl ?_); intro r2 n2 h2; have H2 := Lib.hid h2; clear h2 k2 t) | (have t := k3; (refine wpList_arith _ _ _ _ _ rfl rfl _ _ _ rfl rfl rfl ?_); intro s n3 h3; have H3 := Lib.hid h3; clear h3 k3 t) | (have t := k4; (refine wpList_arith _ _ _ _ _ rfl rfl _ _ _ rfl rfl rfl ?_); intro u n4 h4; have H4 := Lib.hid h4; clear h4 k4 t))
                  have hS : ab .f64 s = logS m := by rw [H3.out.ab, H1.out.ab, H2.out.ab, HA.out, ab_one]; rfl
                  have hU : ab .f64 u = oop .mul .f64 (logS m) (logS m) := by rw [H4.out.ab, hS]
                  have HS := Lib.hid hS
                  have HU := Lib.hid hU
                  clear hS hU H1 H2 H3 H4
                  go_loopw [6, 7] (fun s6 s7 wr => ∃ (j q n : Nat), j ≤ 13 ∧ s7 = .int .i64 (25 - 2 * (j : Int)) ∧ s6 = .float .f64 q ∧ Is .f64 q (qL (oop .mul .f64 (logS m) (logS m)) j) ∧ wr = w.drewN n) (fun _ s7 _ => (intOf s7 + 1).toNat)
                  case atStart => exact ⟨0, 0, _, by omega, rfl, rfl, ⟨rfl, by decide⟩, rfl⟩
                  case round =>
                    obtain ⟨j, q, n, hj, rfl, rfl, hq, rfl⟩ := hrel
                    have HQ := Lib.hid hq
                    clear hq
                    by_cases hlt : j < 13
                    · have k1 : True := trivial
                      have k2 : True := trivial
                      have k3 : True := trivial
                      go_wp2_with (first | (have t := k1; (refine wpList_arith _ _ _ _ _ rfl rfl _ _ _ rfl rfl rfl ?_); intro r1 n1 h1; have H1 := Lib.hid h1; clear h1 k1 t) | (have t := k2; (refine wpList_arith _ _ _ _ _ rfl rfl _ _ _ rfl rfl rfl ?_); intro r2 n2 h2; have H2 := Lib.hid h2; clear h2 k2 t) | (have t := k3; (refine wpList_arith _ _ _ _ _ rfl rfl _ _ _ rfl rfl rfl ?_); intro q' n3 h3; have H3 := Lib.hid h3; clear h3 k3 t))
                      go_roundw
                      case rel =>
                        have h3 := H3.out
                        rw [H1.out.ab, H2.out.ab, HU.out, HQ.out.ab, ab_one, show floatOfInt .f64 (25 - 2 * (j : Int)) = flI (25 - 2 * (j : Int)) from rfl, ab_flI] at h3
                        exact ⟨j + 1, q', _, by omega, by simp; omega, rfl, h3, rfl⟩
                      case measure => simp [intOf]; omega
                    · obtain rfl : j = 13 := by omega
                      have k1 : True := trivial
                      have k2 : True := trivial
                      have k3 : True := trivial
                      have k4 : True := trivial
                      go_wp2_with (first | (have t := k1; (refine wpList_arith _ _ _ _ _ rfl rfl _ _ _ rfl rfl rfl ?_); intro r1 n1 h1; have H1 := Lib.hid h1; clear h1 k1 t) | (have t := k2; (refine wpList_arith _ _ _ _ _ rfl rfl _ _ _ rfl rfl rfl ?_); intro r2 n2 h2; have H2 := Lib.hid h2; clear h2 k2 t) | (have t := k3; (refine wpList_arith _ _ _ _ _ rfl rfl _ _ _ rfl rfl rfl ?_); intro r3 n3 h3; have H3 := Lib.hid h3; clear h3 k3 t) | (have t := k4; (refine wpList_arith _ _ _ _ _ rfl rfl _ _ _ rfl rfl rfl ?_); intro r4 n4 h4; have H4 := Lib.hid h4; clear h4 k4 t))
                      go_ret
                      have h4 := H4.out
                      rw [H2.out.ab, H1.out.ab, H3.out.ab, HQ.out.ab, HS.out, ab_two, show floatOfInt .f64 e = flI e from rfl, ab_flI, show ab .f64 4604418534313441775 = some ln2 by decide +kernel] at h4
                      exact RetF.mk _ (by rw [HR.out]; exact h4)
            · have HM := Lib.hid (hL.quo hlt)
              have HN := Lib.hid (hL.step hlt)
              have HL := Lib.hid (hL.low hlt)
              have HA := Lib.hid (ab_small (x := m) (Nat.lt_succ_of_lt hL.hi.2))
              have ho := o2 hlt
              clear hL hlt o1 o2
              rcases ho with rfl | rfl
              all_goals
                go_wp2_with (refine wpList_arith _ _ _ _ _ rfl rfl _ _ _ rfl rfl rfl ?_; intro r n hr; have er := hr.ab)
                go_roundw
                case rel =>
                  rw [ab_two, HA.out, HM.out] at hr
                  exact ⟨dn64 m, _, e + 1, by rw [hr.some], rfl, HN.out, rfl⟩
                case measure =>
                  rw [ab_two, HA.out, HM.out] at hr
                  show r < m
                  rw [hr.some]
                  exact HL.out

theorem impl_LogNumber (x : Nat) (w : World) : Calls Try.prog 15 #[.float .f32 x] w (RetF .f32 ((wlog ((ab .f32 x).map wide)).map nar) w) := by
  have HX := Lib.hid (wide_cases x)
  go_enter Try.func15, Try.ntmps15
  go_wp2_with (first | (refine wpList_widen _ _ _ rfl rfl _ rfl (by rw [Try.underlying22]; rfl) Try.underlying25 ?_; intro r n hr; have HE := Lib.hid hr; clear hr) | (go_at_call 25; refine (impl_logOf _ ?_ ?_ _).mono ?_; exact lt64 HE.out; exact HX.out _ HE.out; rintro e w' ⟨s, m, hs, rfl, rfl⟩; have HS := Lib.hid hs; clear hs) | (refine wpList_narrow _ _ _ rfl rfl _ rfl (by rw [Try.underlying25]; rfl) Try.underlying22 ?_ ?_; (intro v hv; rw [HS.out.ab] at hv; exact wlog_fits (HX.out _ HE.out) v hv); intro q m2 hq))
  go_ret
  rw [HS.out.ab, HE.out.ab] at hq
  exact RetF.mk _ hq

theorem spec_l01Log (x : Nat) (w : World) : Calls Try.prog 24 #[.float .f32 x] w (RetF .f32 ((wlog ((ab .f32 x).map wide)).map nar) w) := by
  have HX := Lib.hid (wide_cases x)
  go_enter Try.func24, Try.ntmps24
  go_wp2_with (first | (refine wpList_widen _ _ _ rfl rfl _ rfl (by rw [Try.underlying22]; rfl) Try.underlying25 ?_; intro r n hr; have HE := Lib.hid hr; clear hr) | (go_at_call 36; refine (spec_logWide _ ?_ ?_ _).mono ?_; exact lt64 HE.out; exact HX.out _ HE.out; rintro e w' ⟨s, m, hs, rfl, rfl⟩; have HS := Lib.hid hs; clear hs) | (go_at_call 33; refine (spec_l01Narrow _ _ ?_).mono ?_; (intro v hv; rw [HS.out.ab] at hv; exact wlog_fits (HX.out _ HE.out) v hv); rintro e w' ⟨q, m2, hq, rfl, rfl⟩))
  go_ret
  rw [HS.out.ab, HE.out.ab] at hq
  exact RetF.mk _ hq

theorem spec_LogNumber (x : Nat) (w : World) : Calls Try.prog 14 #[.float .f32 x] w (RetF .f32 ((wlog ((ab .f32 x).map wide)).map nar) w) := by
  go_enter Try.func14, Try.ntmps14
  go_wp2_with (go_at_call 24; refine (spec_l01Log _ _).mono ?_; rintro e w' ⟨q, m2, hq, rfl, rfl⟩)
  go_ret
  exact RetF.mk _ hq

theorem FnExactLogNumber_walk (x : Nat) (w : World) (_ : (Lit.float .f32 x).wf = true) : Calls Try.prog 5 #[.float .f32 x] w fun e w' => e = .returned (.bool true) ∧ Below w.heap.size w w' := by
  go_enter Try.func5, Try.ntmps5
  go_wp2_with (first | (go_at_call 14; refine (spec_LogNumber _ _).mono ?_; rintro e w' ⟨s, m, hs, rfl, rfl⟩; have es := hs.ab) | (go_at_call 15; refine (impl_LogNumber _ _).mono ?_; rintro e w' ⟨q, m2, hq, rfl, rfl⟩; have eq := hq.ab) | (refine wpList_widen _ _ _ rfl rfl _ rfl (by rw [Try.underlying22]; rfl) Try.underlying25 ?_; intro r n hr; have er := hr.ab) | (go_at_call 10; refine (sameFloat _ _ _ ?_).mono ?_; (simp only [*]); rintro e w' ⟨n, rfl, rfl⟩))
  go_ret
  exact ⟨rfl, (by repeat (first | exact Below.refl _ _ | refine Below.setCell ?_ (by first | (simp; done) | (simp; omega)) _ | refine Below.trans ?_ (Below.mono (by assumption) (by first | (simp; done) | (simp; omega))) | refine Below.alloc ?_ (by first | (simp; done) | (simp; omega)) _ | refine Below.alloc ?_ (Nat.le_refl _) _ | refine below_drewN ?_ _))⟩

end Go.Proofs.Ytfgdcanoeipilaa
