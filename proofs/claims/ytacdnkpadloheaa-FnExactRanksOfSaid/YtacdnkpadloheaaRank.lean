/-
  The rank of a cell; the comparison of rows of int64.
-/
import Derived.Test.YtacdnkpadloheaaIRow
import Derived.BigQuiet
import Derived.Deep.QuietTactic
namespace Go.Proofs.Ytacdnkpadloheaa
open Go.RowKit Go.FL

def ltR (a b : Nat) : Bool := FloatKind.f32.format.order a b == some .lt
/-- the rank of a row of a window -/
def rRow (zs : List Nat) (W H : Nat) (x y rc v acc : Int) : Nat → Int
  | 0 => acc
  | j + 1 => if (j : Int) = rc ∧ v = y then rRow zs W H x y rc v acc j else rRow zs W H x y rc v acc j * 2 + (if ltR (grey zs W H (x - rc + j) v) (grey zs W H x y) then 1 else 0)
def rAll (zs : List Nat) (W H : Nat) (x y rc : Int) : Nat → Int
  | 0 => 0
  | i + 1 => rRow zs W H x y rc (y - rc + i) (rAll zs W H x y rc i) (2 * rc + 1).toNat

theorem rRow_bd (zs : List Nat) (W H : Nat) (x y rc v acc : Int) (h : 0 ≤ acc) (j : Nat) : 0 ≤ rRow zs W H x y rc v acc j ∧ rRow zs W H x y rc v acc j + 1 ≤ (acc + 1) * 2 ^ j := by
  induction j with
  | zero => simp [rRow]; exact h
  | succ j ih =>
    have e : (acc + 1) * 2 ^ (j + 1) = (acc + 1) * 2 ^ j * 2 := by rw [Int.pow_succ, Int.mul_assoc]
    rw [e]
    unfold rRow
    generalize (acc + 1) * 2 ^ j = P at ih
    generalize rRow zs W H x y rc v acc j = n at ih
    split
    · omega
    · split <;> omega
theorem rRow_5 (zs : List Nat) (W H : Nat) (x y rc v acc : Int) (h : 0 ≤ acc) (j : Nat) (hj : j ≤ 5) : 0 ≤ rRow zs W H x y rc v acc j ∧ rRow zs W H x y rc v acc j + 1 ≤ (acc + 1) * 32 := by
  have h1 := rRow_bd zs W H x y rc v acc h j
  refine ⟨h1.1, Int.le_trans h1.2 (Int.mul_le_mul_of_nonneg_left ?_ (by omega))⟩
  rcases (show j = 0 ∨ j = 1 ∨ j = 2 ∨ j = 3 ∨ j = 4 ∨ j = 5 by omega) with rfl | rfl | rfl | rfl | rfl | rfl <;> decide
theorem rAll_bd (zs : List Nat) (W H : Nat) (x y rc : Int) (hr : rc ≤ 2) (i : Nat) : 0 ≤ rAll zs W H x y rc i ∧ rAll zs W H x y rc i + 1 ≤ 32 ^ i := by
  induction i with
  | zero => simp [rAll]
  | succ i ih =>
    unfold rAll
    have h1 := rRow_5 zs W H x y rc (y - rc + i) _ ih.1 (2 * rc + 1).toNat (by omega)
    rw [Int.pow_succ]
    generalize (32 : Int) ^ i = P at ih ⊢
    omega
theorem rAll_5 (zs : List Nat) (W H : Nat) (x y rc : Int) (hr : rc ≤ 2) (i : Nat) (hi : i ≤ 5) : 0 ≤ rAll zs W H x y rc i ∧ rAll zs W H x y rc i ≤ 33554432 := by
  have h1 := rAll_bd zs W H x y rc hr i
  have h2 : (32 : Int) ^ i ≤ 33554432 := by
    rcases (show i = 0 ∨ i = 1 ∨ i = 2 ∨ i = 3 ∨ i = 4 ∨ i = 5 by omega) with rfl | rfl | rfl | rfl | rfl | rfl <;> decide
  omega

set_option maxHeartbeats 2000000 in
theorem spec_l02Rank (b W H : Nat) (a : Option Addr) (len cap : Nat) (zs : List Nat) (rc : Int) (x y : Nat) (w : World) (c0 : w.cell? ⟨b, 0, none⟩ = some (.int .i64 W)) (c1 : w.cell? ⟨b, 1, none⟩ = some (.int .i64 H)) (c2 : w.cell? ⟨b, 2, none⟩ = some (.slice a len cap))
    (hr : IsFRow w a len cap zs) (hl : len = W * H) (hW : 1 ≤ W ∧ W ≤ 24) (hH : 1 ≤ H ∧ H ≤ 24) (hb1 : 1 ≤ rc) (hb2 : rc ≤ 2) (hx : x < 24) (hy : y < 24) :
    Calls Try.prog 87 #[.pointer (some ⟨b, 0, none⟩), .int .i64 x, .int .i64 y, .int .i64 rc] w fun e w' => ∃ q, e = .returned (.int .i64 (rAll zs W H x y rc (2 * rc + 1).toNat)) ∧ w' = w.drewN q := by
  have HR := Lib.hid hr
  have HL := Lib.hid hl
  have HW := Lib.hid hW
  have HH := Lib.hid hH
  clear hr hl hW hH
  go_enter Try.func87, Try.ntmps87
  go_wp2_with fail
  go_loopw [9, 10] (fun s v wq => ∃ i n : Nat, (i : Int) ≤ 2 * rc + 1 ∧ v = .int .i64 ((y : Int) - rc + i) ∧ wq = w.drewN n ∧ s = .int .i64 (rAll zs W H x y rc i)) (fun _ v _ => ((y : Int) + rc + 1 - intOf v).toNat)
  case atStart => exact ⟨0, 0, by omega, by simp, rfl, rfl⟩
  case round =>
    obtain ⟨i, n, hi, hv, rfl, rfl⟩ := hrel
    obtain ⟨v0, hv0⟩ : ∃ v0 : Int, v0 = (y : Int) - rc + i := ⟨_, rfl⟩
    rw [← hv0] at hv
    subst hv
    have hv1 : -2 ≤ v0 := by omega
    have hv2 : v0 ≤ 30 := by omega
    have HV := Lib.hid hv0
    have HRA : RowKit.Hid (rAll zs W H x y rc (i + 1) = rRow zs W H x y rc v0 (rAll zs W H x y rc i) (2 * rc + 1).toNat) := Lib.hid (by rw [rAll, hv0])
    have ha5 := rAll_5 zs W H x y rc hb2 i (by omega)
    by_cases hlt1 : (i : Int) < 2 * rc + 1
    · have hle1 : v0 ≤ (y : Int) + rc := by omega
      have hd1 : decide (v0 ≤ (y : Int) + rc) = true := decide_eq_true hle1
      clear hv0
      go_wp2_with fail
      go_loopw [9, 11] (fun s u wq => ∃ j n : Nat, (j : Int) ≤ 2 * rc + 1 ∧ u = .int .i64 ((x : Int) - rc + j) ∧ wq = w.drewN n ∧ s = .int .i64 (rRow zs W H x y rc v0 (rAll zs W H x y rc i) j)) (fun _ u _ => ((x : Int) + rc + 1 - intOf u).toNat)
      case atStart => exact ⟨0, n, by omega, by simp, rfl, rfl⟩
      case round =>
        obtain ⟨j, n, hj, hu, rfl, rfl⟩ := hrel
        obtain ⟨u0, hu0⟩ : ∃ u0 : Int, u0 = (x : Int) - rc + j := ⟨_, rfl⟩
        rw [← hu0] at hu
        subst hu
        have hst0 : rRow zs W H x y rc v0 (rAll zs W H x y rc i) (j + 1) = if (j : Int) = rc ∧ v0 = y then rRow zs W H x y rc v0 (rAll zs W H x y rc i) j else rRow zs W H x y rc v0 (rAll zs W H x y rc i) j * 2 + (if ltR (grey zs W H u0 v0) (grey zs W H x y) then 1 else 0) := by rw [rRow, hu0]
        have hu1 : -2 ≤ u0 := by omega
        have hu2 : u0 ≤ 30 := by omega
        have HU := Lib.hid hu0
        have hn5 := rRow_5 zs W H x y rc v0 (rAll zs W H x y rc i) ha5.1 j (by omega)
        by_cases hlt2 : (j : Int) < 2 * rc + 1
        · have hle2 : u0 ≤ (x : Int) + rc := by omega
          by_cases hc1 : u0 = (x : Int)
          · have hj1 : (j : Int) = rc := by omega
            clear hu0
            subst hc1
            by_cases hc2 : v0 = (y : Int)
            · have hst : rRow zs W H x y rc v0 (rAll zs W H x y rc i) (j + 1) = rRow zs W H x y rc v0 (rAll zs W H x y rc i) j := by rw [hst0, if_pos ⟨hj1, hc2⟩]
              have HST := Lib.hid hst
              clear hst hst0
              generalize rRow zs W H x y rc v0 (rAll zs W H x y rc i) j = n0 at hn5 HST
              clear hlt2 hj1
              go_wp2_with (first | (go_at_call 48; refine (spec_l02At b W H _ _ a len cap zs _ (by go_simp) (by go_simp) (by go_simp) (IsFRow.below HR.out (by repeat (first | exact Below.refl _ _ | refine Below.setCell ?_ (by first | (simp; done) | (simp; omega)) _ | refine Below.trans ?_ (Below.mono (by assumption) (by first | (simp; done) | (simp; omega))) | refine Below.alloc ?_ (by first | (simp; done) | (simp; omega)) _ | refine Below.alloc ?_ (Nat.le_refl _) _ | refine below_drewN ?_ _))) HL.out HW.out HH.out).mono ?_; rintro e w' ⟨q, rfl, rfl⟩))
              go_roundw
              case rel => exact ⟨j + 1, _, by have := HU.out; omega, by have := HU.out; simp only [Value.int.injEq, true_and]; omega, rfl, by rw [HST.out]⟩
              case measure => have := HU.out; simp [intOf]; omega
            · have HJ := Lib.hid hj1
              clear hj1
              clear hlt2
              cases hb : ltR (grey zs W H x v0) (grey zs W H x y) with
              | true =>
                have hst : rRow zs W H x y rc v0 (rAll zs W H x y rc i) (j + 1) = rRow zs W H x y rc v0 (rAll zs W H x y rc i) j * 2 + 1 := by rw [hst0, if_neg (fun h => by omega), hb]; rfl
                have HST := Lib.hid hst
                clear hst hst0
                unfold ltR at hb
                generalize rRow zs W H x y rc v0 (rAll zs W H x y rc i) j = n0 at hn5 HST
                go_wp2_with (first | (go_at_call 48; refine (spec_l02At b W H _ _ a len cap zs _ (by go_simp) (by go_simp) (by go_simp) (IsFRow.below HR.out (by repeat (first | exact Below.refl _ _ | refine Below.setCell ?_ (by first | (simp; done) | (simp; omega)) _ | refine Below.trans ?_ (Below.mono (by assumption) (by first | (simp; done) | (simp; omega))) | refine Below.alloc ?_ (by first | (simp; done) | (simp; omega)) _ | refine Below.alloc ?_ (Nat.le_refl _) _ | refine below_drewN ?_ _))) HL.out HW.out HH.out).mono ?_; rintro e w' ⟨q, rfl, rfl⟩))
                go_roundw
                case rel => exact ⟨j + 1, _, by have := HU.out; omega, by have := HU.out; simp only [Value.int.injEq, true_and]; omega, rfl, by rw [HST.out]⟩
                case measure => have := HU.out; simp [intOf]; omega
              | false =>
                have hst : rRow zs W H x y rc v0 (rAll zs W H x y rc i) (j + 1) = rRow zs W H x y rc v0 (rAll zs W H x y rc i) j * 2 := by rw [hst0, if_neg (fun h => by omega), hb]; simp
                have HST := Lib.hid hst
                clear hst hst0
                unfold ltR at hb
                generalize rRow zs W H x y rc v0 (rAll zs W H x y rc i) j = n0 at hn5 HST
                go_wp2_with (first | (go_at_call 48; refine (spec_l02At b W H _ _ a len cap zs _ (by go_simp) (by go_simp) (by go_simp) (IsFRow.below HR.out (by repeat (first | exact Below.refl _ _ | refine Below.setCell ?_ (by first | (simp; done) | (simp; omega)) _ | refine Below.trans ?_ (Below.mono (by assumption) (by first | (simp; done) | (simp; omega))) | refine Below.alloc ?_ (by first | (simp; done) | (simp; omega)) _ | refine Below.alloc ?_ (Nat.le_refl _) _ | refine below_drewN ?_ _))) HL.out HW.out HH.out).mono ?_; rintro e w' ⟨q, rfl, rfl⟩))
                go_roundw
                case rel => exact ⟨j + 1, _, by have := HU.out; omega, by have := HU.out; simp only [Value.int.injEq, true_and]; omega, rfl, by rw [HST.out]⟩
                case measure => have := HU.out; simp [intOf]; omega
          · have hj1 : ¬ (j : Int) = rc := by omega
            clear hu0
            cases hb : ltR (grey zs W H u0 v0) (grey zs W H x y) with
            | true =>
              have hst : rRow zs W H x y rc v0 (rAll zs W H x y rc i) (j + 1) = rRow zs W H x y rc v0 (rAll zs W H x y rc i) j * 2 + 1 := by rw [hst0, if_neg (fun h => by omega), hb]; rfl
              have HST := Lib.hid hst
              clear hst hst0
              unfold ltR at hb
              generalize rRow zs W H x y rc v0 (rAll zs W H x y rc i) j = n0 at hn5 HST
              go_wp2_with (first | (go_at_call 48; refine (spec_l02At b W H _ _ a len cap zs _ (by go_simp) (by go_simp) (by go_simp) (IsFRow.below HR.out (by repeat (first | exact Below.refl _ _ | refine Below.setCell ?_ (by first | (simp; done) | (simp; omega)) _ | refine Below.trans ?_ (Below.mono (by assumption) (by first | (simp; done) | (simp; omega))) | refine Below.alloc ?_ (by first | (simp; done) | (simp; omega)) _ | refine Below.alloc ?_ (Nat.le_refl _) _ | refine below_drewN ?_ _))) HL.out HW.out HH.out).mono ?_; rintro e w' ⟨q, rfl, rfl⟩))
              go_roundw
              case rel => exact ⟨j + 1, _, by have := HU.out; omega, by have := HU.out; simp only [Value.int.injEq, true_and]; omega, rfl, by rw [HST.out]⟩
              case measure => have := HU.out; simp [intOf]; omega
            | false =>
              have hst : rRow zs W H x y rc v0 (rAll zs W H x y rc i) (j + 1) = rRow zs W H x y rc v0 (rAll zs W H x y rc i) j * 2 := by rw [hst0, if_neg (fun h => by omega), hb]; simp
              have HST := Lib.hid hst
              clear hst hst0
              unfold ltR at hb
              generalize rRow zs W H x y rc v0 (rAll zs W H x y rc i) j = n0 at hn5 HST
              go_wp2_with (first | (go_at_call 48; refine (spec_l02At b W H _ _ a len cap zs _ (by go_simp) (by go_simp) (by go_simp) (IsFRow.below HR.out (by repeat (first | exact Below.refl _ _ | refine Below.setCell ?_ (by first | (simp; done) | (simp; omega)) _ | refine Below.trans ?_ (Below.mono (by assumption) (by first | (simp; done) | (simp; omega))) | refine Below.alloc ?_ (by first | (simp; done) | (simp; omega)) _ | refine Below.alloc ?_ (Nat.le_refl _) _ | refine below_drewN ?_ _))) HL.out HW.out HH.out).mono ?_; rintro e w' ⟨q, rfl, rfl⟩))
              go_roundw
              case rel => exact ⟨j + 1, _, by have := HU.out; omega, by have := HU.out; simp only [Value.int.injEq, true_and]; omega, rfl, by rw [HST.out]⟩
              case measure => have := HU.out; simp [intOf]; omega
        · have hje : (2 * rc + 1).toNat = j := by omega
          have HJE := Lib.hid hje
          have hle2 : ¬ u0 ≤ (x : Int) + rc := by omega
          clear hu0 hje hst0
          go_wp2_with fail
          go_roundw
          case rel => exact ⟨i + 1, _, by omega, by have := HV.out; simp only [Value.int.injEq, true_and]; omega, rfl, by rw [HRA.out, HJE.out]⟩
          case measure => have := HV.out; simp [intOf]; omega
    · have hie : (2 * rc + 1).toNat = i := by omega
      have hle1 : ¬ v0 ≤ (y : Int) + rc := by omega
      have HIE := Lib.hid hie
      clear hie hv0
      go_wp2_with fail
      go_ret
      exact ⟨by rw [HIE.out]; rfl, _, rfl⟩

set_option maxHeartbeats 2000000 in
theorem impl_rank (b W H : Nat) (a : Option Addr) (len cap : Nat) (zs : List Nat) (rc : Int) (x y : Nat) (w : World) (c0 : w.cell? ⟨b, 0, none⟩ = some (.int .i64 W)) (c1 : w.cell? ⟨b, 1, none⟩ = some (.int .i64 H)) (c2 : w.cell? ⟨b, 2, none⟩ = some (.slice a len cap))
    (hr : IsFRow w a len cap zs) (hl : len = W * H) (hW : 1 ≤ W ∧ W ≤ 24) (hH : 1 ≤ H ∧ H ≤ 24) (hb1 : 1 ≤ rc) (hb2 : rc ≤ 2) (hx : x < 24) (hy : y < 24) :
    Calls Try.prog 79 #[.pointer (some ⟨b, 0, none⟩), .int .i64 x, .int .i64 y, .int .i64 rc] w fun e w' => ∃ q, e = .returned (.int .i64 (rAll zs W H x y rc (2 * rc + 1).toNat)) ∧ w' = w.drewN q := by
  have HR := Lib.hid hr
  have HL := Lib.hid hl
  have HW := Lib.hid hW
  have HH := Lib.hid hH
  clear hr hl hW hH
  go_enter Try.func79, Try.ntmps79
  go_wp2_with (first | (go_at_call 54; refine (impl_about b W H _ _ a len cap zs _ (by go_simp) (by go_simp) (by go_simp) (IsFRow.below HR.out (by repeat (first | exact Below.refl _ _ | refine Below.setCell ?_ (by first | (simp; done) | (simp; omega)) _ | refine Below.trans ?_ (Below.mono (by assumption) (by first | (simp; done) | (simp; omega))) | refine Below.alloc ?_ (by first | (simp; done) | (simp; omega)) _ | refine Below.alloc ?_ (Nat.le_refl _) _ | refine below_drewN ?_ _))) HL.out HW.out HH.out).mono ?_; rintro e w' ⟨q, rfl, rfl⟩))
  go_loopw [9, 11] (fun s v wq => ∃ i n : Nat, (i : Int) ≤ 2 * rc + 1 ∧ v = .int .i64 ((y : Int) - rc + i) ∧ wq = w.drewN n ∧ s = .int .i64 (rAll zs W H x y rc i)) (fun _ v _ => ((y : Int) + rc + 1 - intOf v).toNat)
  case atStart => exact ⟨0, _, by omega, by simp, rfl, rfl⟩
  case round =>
    obtain ⟨i, n, hi, hv, rfl, rfl⟩ := hrel
    obtain ⟨v0, hv0⟩ : ∃ v0 : Int, v0 = (y : Int) - rc + i := ⟨_, rfl⟩
    rw [← hv0] at hv
    subst hv
    have hv1 : -2 ≤ v0 := by omega
    have hv2 : v0 ≤ 30 := by omega
    have HV := Lib.hid hv0
    have HRA : RowKit.Hid (rAll zs W H x y rc (i + 1) = rRow zs W H x y rc v0 (rAll zs W H x y rc i) (2 * rc + 1).toNat) := Lib.hid (by rw [rAll, hv0])
    have ha5 := rAll_5 zs W H x y rc hb2 i (by omega)
    by_cases hlt1 : (i : Int) < 2 * rc + 1
    · have hle1 : v0 ≤ (y : Int) + rc := by omega
      have hd1 : decide (v0 ≤ (y : Int) + rc) = true := decide_eq_true hle1
      clear hv0
      go_wp2_with fail
      go_loopw [9, 12] (fun s u wq => ∃ j n : Nat, (j : Int) ≤ 2 * rc + 1 ∧ u = .int .i64 ((x : Int) - rc + j) ∧ wq = w.drewN n ∧ s = .int .i64 (rRow zs W H x y rc v0 (rAll zs W H x y rc i) j)) (fun _ u _ => ((x : Int) + rc + 1 - intOf u).toNat)
      case atStart => exact ⟨0, n, by omega, by simp, rfl, rfl⟩
      case round =>
        obtain ⟨j, n, hj, hu, rfl, rfl⟩ := hrel
        obtain ⟨u0, hu0⟩ : ∃ u0 : Int, u0 = (x : Int) - rc + j := ⟨_, rfl⟩
        rw [← hu0] at hu
        subst hu
        have hst0 : rRow zs W H x y rc v0 (rAll zs W H x y rc i) (j + 1) = if (j : Int) = rc ∧ v0 = y then rRow zs W H x y rc v0 (rAll zs W H x y rc i) j else rRow zs W H x y rc v0 (rAll zs W H x y rc i) j * 2 + (if ltR (grey zs W H u0 v0) (grey zs W H x y) then 1 else 0) := by rw [rRow, hu0]
        have hu1 : -2 ≤ u0 := by omega
        have hu2 : u0 ≤ 30 := by omega
        have HU := Lib.hid hu0
        have hn5 := rRow_5 zs W H x y rc v0 (rAll zs W H x y rc i) ha5.1 j (by omega)
        by_cases hlt2 : (j : Int) < 2 * rc + 1
        · have hle2 : u0 ≤ (x : Int) + rc := by omega
          by_cases hc1 : u0 = (x : Int)
          · have hj1 : (j : Int) = rc := by omega
            clear hu0
            subst hc1
            by_cases hc2 : v0 = (y : Int)
            · have hst : rRow zs W H x y rc v0 (rAll zs W H x y rc i) (j + 1) = rRow zs W H x y rc v0 (rAll zs W H x y rc i) j := by rw [hst0, if_pos ⟨hj1, hc2⟩]
              have HST := Lib.hid hst
              clear hst hst0
              generalize rRow zs W H x y rc v0 (rAll zs W H x y rc i) j = n0 at hn5 HST
              clear hlt2 hj1
              go_wp2_with (first | (go_at_call 54; refine (impl_about b W H _ _ a len cap zs _ (by go_simp) (by go_simp) (by go_simp) (IsFRow.below HR.out (by repeat (first | exact Below.refl _ _ | refine Below.setCell ?_ (by first | (simp; done) | (simp; omega)) _ | refine Below.trans ?_ (Below.mono (by assumption) (by first | (simp; done) | (simp; omega))) | refine Below.alloc ?_ (by first | (simp; done) | (simp; omega)) _ | refine Below.alloc ?_ (Nat.le_refl _) _ | refine below_drewN ?_ _))) HL.out HW.out HH.out).mono ?_; rintro e w' ⟨q, rfl, rfl⟩))
              go_roundw
              case rel => exact ⟨j + 1, _, by have := HU.out; omega, by have := HU.out; simp only [Value.int.injEq, true_and]; omega, rfl, by rw [HST.out]⟩
              case measure => have := HU.out; simp [intOf]; omega
            · have HJ := Lib.hid hj1
              clear hj1
              clear hlt2
              cases hb : ltR (grey zs W H x v0) (grey zs W H x y) with
              | true =>
                have hst : rRow zs W H x y rc v0 (rAll zs W H x y rc i) (j + 1) = rRow zs W H x y rc v0 (rAll zs W H x y rc i) j * 2 + 1 := by rw [hst0, if_neg (fun h => by omega), hb]; rfl
                have HST := Lib.hid hst
                clear hst hst0
                unfold ltR at hb
                generalize rRow zs W H x y rc v0 (rAll zs W H x y rc i) j = n0 at hn5 HST
                go_wp2_with (first | (go_at_call 54; refine (impl_about b W H _ _ a len cap zs _ (by go_simp) (by go_simp) (by go_simp) (IsFRow.below HR.out (by repeat (first | exact Below.refl _ _ | refine Below.setCell ?_ (by first | (simp; done) | (simp; omega)) _ | refine Below.trans ?_ (Below.mono (by assumption) (by first | (simp; done) | (simp; omega))) | refine Below.alloc ?_ (by first | (simp; done) | (simp; omega)) _ | refine Below.alloc ?_ (Nat.le_refl _) _ | refine below_drewN ?_ _))) HL.out HW.out HH.out).mono ?_; rintro e w' ⟨q, rfl, rfl⟩))
                go_roundw
                case rel => exact ⟨j + 1, _, by have := HU.out; omega, by have := HU.out; simp only [Value.int.injEq, true_and]; omega, rfl, by rw [HST.out]⟩
                case measure => have := HU.out; simp [intOf]; omega
              | false =>
                have hst : rRow zs W H x y rc v0 (rAll zs W H x y rc i) (j + 1) = rRow zs W H x y rc v0 (rAll zs W H x y rc i) j * 2 := by rw [hst0, if_neg (fun h => by omega), hb]; simp
                have HST := Lib.hid hst
                clear hst hst0
                unfold ltR at hb
                generalize rRow zs W H x y rc v0 (rAll zs W H x y rc i) j = n0 at hn5 HST
                go_wp2_with (first | (go_at_call 54; refine (impl_about b W H _ _ a len cap zs _ (by go_simp) (by go_simp) (by go_simp) (IsFRow.below HR.out (by repeat (first | exact Below.refl _ _ | refine Below.setCell ?_ (by first | (simp; done) | (simp; omega)) _ | refine Below.trans ?_ (Below.mono (by assumption) (by first | (simp; done) | (simp; omega))) | refine Below.alloc ?_ (by first | (simp; done) | (simp; omega)) _ | refine Below.alloc ?_ (Nat.le_refl _) _ | refine below_drewN ?_ _))) HL.out HW.out HH.out).mono ?_; rintro e w' ⟨q, rfl, rfl⟩))
                go_roundw
                case rel => exact ⟨j + 1, _, by have := HU.out; omega, by have := HU.out; simp only [Value.int.injEq, true_and]; omega, rfl, by rw [HST.out]⟩
                case measure => have := HU.out; simp [intOf]; omega
          · have hj1 : ¬ (j : Int) = rc := by omega
            clear hu0
            cases hb : ltR (grey zs W H u0 v0) (grey zs W H x y) with
            | true =>
              have hst : rRow zs W H x y rc v0 (rAll zs W H x y rc i) (j + 1) = rRow zs W H x y rc v0 (rAll zs W H x y rc i) j * 2 + 1 := by rw [hst0, if_neg (fun h => by omega), hb]; rfl
              have HST := Lib.hid hst
              clear hst hst0
              unfold ltR at hb
              generalize rRow zs W H x y rc v0 (rAll zs W H x y rc i) j = n0 at hn5 HST
              go_wp2_with (first | (go_at_call 54; refine (impl_about b W H _ _ a len cap zs _ (by go_simp) (by go_simp) (by go_simp) (IsFRow.below HR.out (by repeat (first | exact Below.refl _ _ | refine Below.setCell ?_ (by first | (simp; done) | (simp; omega)) _ | refine Below.trans ?_ (Below.mono (by assumption) (by first | (simp; done) | (simp; omega))) | refine Below.alloc ?_ (by first | (simp; done) | (simp; omega)) _ | refine Below.alloc ?_ (Nat.le_refl _) _ | refine below_drewN ?_ _))) HL.out HW.out HH.out).mono ?_; rintro e w' ⟨q, rfl, rfl⟩))
              go_roundw
              case rel => exact ⟨j + 1, _, by have := HU.out; omega, by have := HU.out; simp only [Value.int.injEq, true_and]; omega, rfl, by rw [HST.out]⟩
              case measure => have := HU.out; simp [intOf]; omega
            | false =>
              have hst : rRow zs W H x y rc v0 (rAll zs W H x y rc i) (j + 1) = rRow zs W H x y rc v0 (rAll zs W H x y rc i) j * 2 := by rw [hst0, if_neg (fun h => by omega), hb]; simp
              have HST := Lib.hid hst
              clear hst hst0
              unfold ltR at hb
              generalize rRow zs W H x y rc v0 (rAll zs W H x y rc i) j = n0 at hn5 HST
              go_wp2_with (first | (go_at_call 54; refine (impl_about b W H _ _ a len cap zs _ (by go_simp) (by go_simp) (by go_simp) (IsFRow.below HR.out (by repeat (first | exact Below.refl _ _ | refine Below.setCell ?_ (by first | (simp; done) | (simp; omega)) _ | refine Below.trans ?_ (Below.mono (by assumption) (by first | (simp; done) | (simp; omega))) | refine Below.alloc ?_ (by first | (simp; done) | (simp; omega)) _ | refine Below.alloc ?_ (Nat.le_refl _) _ | refine below_drewN ?_ _))) HL.out HW.out HH.out).mono ?_; rintro e w' ⟨q, rfl, rfl⟩))
              go_roundw
              case rel => exact ⟨j + 1, _, by have := HU.out; omega, by have := HU.out; simp only [Value.int.injEq, true_and]; omega, rfl, by rw [HST.out]⟩
              case measure => have := HU.out; simp [intOf]; omega
        · have hje : (2 * rc + 1).toNat = j := by omega
          have HJE := Lib.hid hje
          have hle2 : ¬ u0 ≤ (x : Int) + rc := by omega
          clear hu0 hje hst0
          go_wp2_with fail
          go_roundw
          case rel => exact ⟨i + 1, _, by omega, by have := HV.out; simp only [Value.int.injEq, true_and]; omega, rfl, by rw [HRA.out, HJE.out]⟩
          case measure => have := HV.out; simp [intOf]; omega
    · have hie : (2 * rc + 1).toNat = i := by omega
      have hle1 : ¬ v0 ≤ (y : Int) + rc := by omega
      have HIE := Lib.hid hie
      clear hie hv0
      go_wp2_with fail
      go_ret
      exact ⟨by rw [HIE.out]; rfl, _, rfl⟩

theorem eqInt64S (a a2 : Option Addr) (len cap cap2 lo hi lo2 hi2 : Nat) (zs ys : List Int) (w : World) (h : IRow w lo hi a len cap zs) (h2 : IRow w lo2 hi2 a2 len cap2 ys) (he : ∀ i, i < len → zs.getD i 0 = ys.getD i 0) : Calls Try.prog 36 #[.slice a len cap, .slice a2 len cap2] w fun e w' => e = .returned (.bool true) ∧ Below w.heap.size w w' := by
  have hcap : len ≤ cap := h.row.2.1
  have hcm : cap ≤ 9223372036854775807 := by have := h.row.2.2; unfold maxLen at this; omega
  have hcap2 : len ≤ cap2 := h2.row.2.1
  have hcm2 : cap2 ≤ 9223372036854775807 := by have := h2.row.2.2; unfold maxLen at this; omega
  have H1 := Lib.hid h
  have H2 := Lib.hid h2
  have HE := Lib.hid he
  clear h h2 he
  go_enter Try.func36, Try.ntmps36
  go_wp2
  go_loopw [5] (fun i wr => ∃ k : Nat, k ≤ len ∧ i = .int .i64 k ∧ Below w.heap.size w wr) (fun i _ => len - (intOf i).toNat)
  case atStart => exact ⟨0, Nat.zero_le _, rfl, Below.refl _ _⟩
  case round =>
    obtain ⟨k, hk, rfl, hb⟩ := hrel
    by_cases hlt : k < len
    · obtain ⟨b, rfl, -, -, k3, -, k5⟩ := H1.out.own.resolve_left (by omega)
      obtain ⟨b2, rfl, -, -, q3, -, q5⟩ := H2.out.own.resolve_left (by omega)
      have hcx := (hb.cell (p := ⟨b, k, none⟩) k3).trans (k5 k hlt)
      have hcy := (hb.cell (p := ⟨b2, k, none⟩) q3).trans (q5 k hlt)
      rw [← HE.out k hlt] at hcy
      generalize zs.getD k 0 = z at hcx hcy
      have HB := Lib.hid hb
      clear hb k5 q5
      go_wp2_with fail
      go_quiet (fail)
      go_wp2_with fail
      go_roundw
      case rel => exact ⟨k + 1, by omega, rfl, below_drewN HB.out _⟩
      case measure => simp [intOf]; omega
    · have HB := Lib.hid hb
      clear hb
      go_wp2_with fail
      go_ret
      exact ⟨rfl, HB.out⟩
end Go.Proofs.Ytacdnkpadloheaa
