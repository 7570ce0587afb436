/-
  The sine's plain law: the whole part of a float64, what is left of it, the folds, the sum's rounds, what they are bounded by.
  No conditions but those that each lemma names.
-/
import Derived.Test.YtfgdcanoeipilaaBd
namespace Go.FL
open Ieee

/-! ### the sine's plain law -/
def sOne : Nat := 4607182418800017408
def sHalf : Nat := 4602678819172646912
def sQuarter : Nat := 4598175219545276416
def sTurn : Nat := 4618760256179416344
def flJ (n : Int) : Nat := FloatKind.f64.nearest n

/-- the whole part of a float64 that is a number: its size -/
def wholeM (y : Nat) : Nat := match double.read y with
  | .number s m i => Toward.zero.cut s (m <<< i.toNat) (-i).toNat
  | _ => 0
/-- the whole part, an integer -/
def wholeI (y : Nat) : Int := if sg double y then -(wholeM y : Int) else (wholeM y : Int)
/-- the whole part, a float64 -/
def wholeF (y : Nat) : Nat := double.write ((double.read y).integral .zero)

theorem cut_zero_le (s : Bool) (m k : Nat) : Toward.zero.cut s m k = m / 2 ^ k := by
  unfold Toward.cut
  simp only [Bool.toNat_false, Nat.add_zero, Nat.shiftLeft_eq, Nat.one_mul]
  by_cases hk : k ≤ m.log2 + 2
  · rw [Nat.min_eq_left hk]
  · rw [Nat.min_eq_right (by omega)]
    have h1 := log2_lt m
    have h2 : 2 ^ (m.log2 + 1) ≤ 2 ^ (m.log2 + 2) := Nat.pow_le_pow_right (by omega) (by omega)
    have h3 : 2 ^ (m.log2 + 2) ≤ 2 ^ k := Nat.pow_le_pow_right (by omega) (by omega)
    rw [Nat.div_eq_of_lt (by omega), Nat.div_eq_of_lt (by omega)]

/-- what is known of a number below '2 ^ 52' -/
theorem whole_read {y : Nat} (h : rg double y < 4841369599423283200) : ∃ m i, double.read y = .number (sg double y) m i ∧ m < 2 ^ 53 ∧ i < 0 ∧ -1074 ≤ i ∧ wholeM y = m / 2 ^ (-i).toNat ∧ wholeM y < 2 ^ 52 ∧ wholeF y = double.nearest (sg double y) (wholeM y) 0 := by
  have hread : ∃ m i, double.read y = .number (sg double y) m i ∧ m < 2 ^ 53 ∧ i < 0 ∧ -1074 ≤ i := by
    unfold Format.read
    change rg double y < 4841369599423283200 at h
    show ∃ m i, (if rg double y < double.binade then Datum.number (sg double y) (rg double y) double.leastPlace else if rg double y < double.infRung then Datum.number (sg double y) (double.binade + rg double y % double.binade) (double.leastPlace + (rg double y / double.binade - 1 : Nat)) else _) = _ ∧ _
    rw [db, di, dl]
    by_cases h1 : rg double y < 4503599627370496
    · rw [if_pos h1]
      exact ⟨_, _, rfl, by omega, by omega, by omega⟩
    · rw [if_neg h1, if_pos (by omega)]
      exact ⟨_, _, rfl, by omega, by omega, by omega⟩
  obtain ⟨m, i, e, hm, hi, hi'⟩ := hread
  have hw : wholeM y = m / 2 ^ (-i).toNat := by
    unfold wholeM
    rw [e]
    show Toward.zero.cut _ (m <<< i.toNat) (-i).toNat = _
    rw [show i.toNat = 0 by omega, Nat.shiftLeft_zero, cut_zero_le]
  refine ⟨m, i, e, hm, hi, hi', hw, ?_, ?_⟩
  · rw [hw]
    refine Nat.div_lt_of_lt_mul ?_
    refine Nat.lt_of_lt_of_le hm ?_
    rw [← Nat.pow_add]
    exact Nat.pow_le_pow_right (by omega) (by omega)
  · unfold wholeF
    rw [e]
    show double.nearest _ (Toward.zero.cut _ (m <<< i.toNat) (-i).toNat) 0 = _
    rw [show i.toNat = 0 by omega, Nat.shiftLeft_zero, cut_zero_le, hw]

theorem wholeI_bd {y : Nat} (h : rg double y < 4841369599423283200) : -4503599627370496 < wholeI y ∧ wholeI y < 4503599627370496 := by
  obtain ⟨_, _, _, _, _, _, _, h2, _⟩ := whole_read h
  unfold wholeI
  split <;> omega

/-- the whole part, not nought, is the float64 of the integer -/
theorem wholeF_int {y : Nat} (h : rg double y < 4841369599423283200) (h0 : wholeI y ≠ 0) : wholeF y = flJ (wholeI y) := by
  obtain ⟨_, _, _, _, _, _, _, _, h3⟩ := whole_read h
  rw [h3]
  unfold flJ FloatKind.nearest
  show _ = double.nearest (decide (wholeI y < 0)) (wholeI y).natAbs 0
  unfold wholeI at h0 ⊢
  cases hs : sg double y with
  | true => rw [hs, if_pos rfl] at h0; rw [if_pos rfl, decide_eq_true (by omega)]; congr 1; omega
  | false => rw [hs, if_neg (by simp)] at h0; rw [if_neg (by simp), decide_eq_false (by omega)]; congr 1

theorem wholeF_zero {y : Nat} (h : rg double y < 4841369599423283200) (h0 : wholeI y = 0) : rg double (wholeF y) = 0 := by
  obtain ⟨_, _, _, _, _, _, _, _, h3⟩ := whole_read h
  have : wholeM y = 0 := by unfold wholeI at h0; split at h0 <;> omega
  rw [h3, this, rg_nearest]
  rfl
theorem wholeF_not_zero {y : Nat} (h : rg double y < 4841369599423283200) (h0 : wholeI y ≠ 0) : rg double (wholeF y) ≠ 0 ∧ rg double (wholeF y) ≤ double.infRung := by
  obtain ⟨_, _, _, _, _, _, _, h2, h3⟩ := whole_read h
  have hm : wholeM y ≠ 0 := by intro e; apply h0; unfold wholeI; rw [e]; split <;> rfl
  rw [h3, rg_nearest]
  refine ⟨?_, rnd_le_inf _ _ _⟩
  obtain ⟨R, hR, hv⟩ := rnd_exact double (wholeM y) 0 hm (by
    rw [df]
    have := (Nat.log2_lt hm).2 (Nat.lt_of_lt_of_le h2 (Nat.pow_le_pow_right (by omega) (show 52 ≤ 53 by omega)))
    omega) (by rw [dl]; omega)
  rw [hR]
  intro hz
  have hR0 : R ≠ 0 := by
    intro e
    rw [e, mg_zero] at hv
    have := Nat.mul_pos (Nat.pos_of_ne_zero hm) (Nat.two_pow_pos (0 - double.leastPlace).toNat)
    omega
  have : 0 < double.infRung := by decide
  omega


theorem sub_nought {y : Nat} (hy : y < 18446744073709551616) (h : rg double y < double.infRung) : double.sub y 0 = some y := by
  obtain ⟨m, i, e, hi, _⟩ := read_num double y h
  have hr := nearest_read double y (by rw [show double.width = 64 by decide]; omega) h e
  unfold Format.sub
  rw [e, show double.read 0 = .number false 0 (-1074) by decide]
  rw [dl] at hi
  simp only [Datum.opposite, Datum.sum, Option.map_some]
  refine congrArg some ?_
  rw [show min i (-1074) = -1074 by omega]
  have h0 : signed (!false) 0 (-1074 - (-1074 : Int)).toNat = 0 := by decide
  rw [h0, Int.add_zero, signed_abs]
  have hs : (if signed (sg double y) m (i - -1074).toNat = 0 then sg double y && !false else decide (signed (sg double y) m (i - -1074).toNat < 0)) = sg double y := by
    split
    · cases sg double y <;> rfl
    · rename_i hne
      unfold signed at hne ⊢
      rw [Nat.shiftLeft_eq] at hne ⊢
      generalize m * 2 ^ (i - -1074).toNat = M at hne ⊢
      cases sg double y with
      | true => simp at hne ⊢; omega
      | false => simp at hne ⊢
  rw [hs]
  show double.nearest _ _ _ = _
  have hk : m * 2 ^ (i - -1074).toNat = m * 2 ^ (i + 1074).toNat := by congr 2
  rw [hk, nearest_rnd, show (-1074 : Int) = i - ((i + 1074).toNat : Int) by omega, rnd_scale, ← nearest_rnd, hr]

theorem frac_bd {y : Nat} (hy : y < 18446744073709551616) (h : rg double y < 4841369599423283200) : OB (oop .sub .f64 (some y) (some (flJ (wholeI y)))) 0 := by
  obtain ⟨m, i, e, hm, hi, hi', hw, hM, hF⟩ := whole_read h
  by_cases h0 : wholeI y = 0
  · rw [h0]
    refine ⟨y, ?_, _, m, i, e, .inr ⟨by omega, ?_⟩⟩
    · show double.sub y 0 = some y
      exact sub_nought hy (by rw [di]; omega)
    · have h1 : wholeM y = 0 := by unfold wholeI at h0; split at h0 <;> omega
      rw [hw] at h1
      have := Nat.div_eq_zero_iff.1 h1
      have := Nat.two_pow_pos (-i).toNat
      rw [show (0 - i).toNat = (-i).toNat by omega]
      omega
  · have hF2 := wholeF_int h h0
    rw [hF] at hF2
    rw [← hF2]
    have hm0 : wholeM y ≠ 0 := by intro e; apply h0; unfold wholeI; rw [e]; split <;> rfl
    obtain ⟨R, hR, hv⟩ := rnd_exact double (wholeM y) 0 hm0 (by
      rw [df]
      have := (Nat.log2_lt hm0).2 (Nat.lt_of_lt_of_le hM (Nat.pow_le_pow_right (by omega) (show 52 ≤ 53 by omega)))
      omega) (by rw [dl]; omega)
    have hRi : R < double.infRung := by
      refine (mg_lt_iff (f := double)).1 ?_
      rw [hv]
      refine Nat.lt_of_lt_of_le (Nat.mul_lt_mul_of_pos_right hM (Nat.two_pow_pos _)) ?_
      rw [← Nat.pow_add]
      decide +kernel
    rw [Nat.min_eq_left (Nat.le_of_lt hRi)] at hR
    have hrg : rg double (double.nearest (sg double y) (wholeM y) 0) = R := by rw [rg_nearest, hR]
    obtain ⟨m', i', e', l', v'⟩ := read_num double (double.nearest (sg double y) (wholeM y) 0) (by rw [hrg]; exact hRi)
    rw [sg_nearest] at e'
    rw [hrg, hv] at v'
    rw [dl] at l' v'
    obtain ⟨K, hK⟩ : ∃ K, (0 - (-1074 : Int)).toNat = K := ⟨_, rfl⟩
    rw [hK] at v'
    -- the difference
    have hd : Vle (signed (sg double y) m (i - min i i').toNat + signed (!sg double y) m' (i' - min i i').toNat).natAbs (min i i') 0 := by
      have hab : (signed (sg double y) m (i - min i i').toNat + signed (!sg double y) m' (i' - min i i').toNat).natAbs = (((m * 2 ^ (i - min i i').toNat : Nat) : Int) - ((m' * 2 ^ (i' - min i i').toNat : Nat) : Int)).natAbs := by
        unfold signed
        rw [Nat.shiftLeft_eq, Nat.shiftLeft_eq]
        generalize m * 2 ^ (i - min i i').toNat = a
        generalize m' * 2 ^ (i' - min i i').toNat = b
        cases sg double y <;> simp <;> omega
      rw [hab]
      refine vle_of_mg (f := double) (by rw [dl]; omega) (by rw [dl]; omega) ?_
      rw [dl]
      generalize hB : (min i i' - (-1074)).toNat = B
      have ha : m * 2 ^ (i - min i i').toNat * 2 ^ B = m * 2 ^ (i + 1074).toNat := by rw [Nat.mul_assoc, ← Nat.pow_add]; congr 2; omega
      have hb : m' * 2 ^ (i' - min i i').toNat * 2 ^ B = wholeM y * 2 ^ K := by
        rw [Nat.mul_assoc, ← Nat.pow_add, show (i' - min i i').toNat + B = (i' - -1074).toNat by omega, v']
      generalize m * 2 ^ (i - min i i').toNat = a at ha ⊢
      generalize m' * 2 ^ (i' - min i i').toNat = b at hb ⊢
      -- a * 2^B, b * 2^B
      have hk : (-i).toNat + (i + 1074).toNat = K := by omega
      have hdm := Nat.div_add_mod m (2 ^ (-i).toNat)
      have hml := Nat.mod_lt m (Nat.two_pow_pos (-i).toNat)
      rw [← hw] at hdm
      have h2 : m * 2 ^ (i + 1074).toNat = wholeM y * 2 ^ K + m % 2 ^ (-i).toNat * 2 ^ (i + 1074).toNat := by
        have : 2 ^ K = 2 ^ (-i).toNat * 2 ^ (i + 1074).toNat := by rw [← Nat.pow_add, hk]
        rw [this, ← Nat.mul_assoc, ← Nat.add_mul, Nat.mul_comm (wholeM y), hdm]
      have h3 : m % 2 ^ (-i).toNat * 2 ^ (i + 1074).toNat < 2 ^ K := by
        have : 2 ^ K = 2 ^ (-i).toNat * 2 ^ (i + 1074).toNat := by rw [← Nat.pow_add, hk]
        rw [this]
        exact Nat.mul_lt_mul_of_pos_right hml (Nat.two_pow_pos _)
      rw [hK]
      rw [h2] at ha
      generalize m % 2 ^ (-i).toNat * 2 ^ (i + 1074).toNat = c at ha h3
      generalize wholeM y * 2 ^ K = d at ha hb
      have hle : b ≤ a := by
        refine Nat.le_of_mul_le_mul_right (c := 2 ^ B) ?_ (Nat.two_pow_pos B)
        omega
      have hsub : ((a : Int) - (b : Int)).natAbs = a - b := by omega
      rw [hsub, Nat.sub_mul, ha, hb]
      generalize 2 ^ K = Z at h3 ⊢
      omega
    obtain ⟨m2, i2, e2, v2⟩ := bd_write (s := if signed (sg double y) m (i - min i i').toNat + signed (!sg double y) m' (i' - min i i').toNat = 0 then sg double y && !sg double y else signed (sg double y) m (i - min i i').toNat + signed (!sg double y) m' (i' - min i i').toNat < 0) hd (by omega) (by omega)
    refine ⟨_, ?_, _, _, _, e2, v2⟩
    show double.sub _ _ = _
    unfold Format.sub
    rw [e, e']
    rfl


def isLt (x c : Nat) : Bool := FloatKind.f64.format.order x c == some .lt
def isGt (x c : Nat) : Bool := FloatKind.f64.format.order x c == some .gt
def fold1 (f : Nat) : Option Nat := if isLt f 0 then oop .add .f64 (some f) (some sOne) else some f
def fold2 (f : Nat) : Option Nat := if isLt f sHalf then some f else oop .sub .f64 (some f) (some sHalf)
def fold3 (f : Nat) : Option Nat := if isGt f sQuarter then oop .sub .f64 (some sHalf) (some f) else some f
/-- the sum's rounds -/
def pS (u : Option Nat) : Nat → Option Nat
  | 0 => some sOne
  | j + 1 => oop .sub .f64 (some sOne) (oop .quo .f64 (oop .mul .f64 u (pS u j)) (some (flJ (2 * (8 - (j : Int)) * (2 * (8 - (j : Int)) + 1)))))
def sineZ (f : Nat) : Option Nat := oop .mul .f64 (some f) (some sTurn)
def sineTail (f : Nat) : Option Nat := oop .mul .f64 (sineZ f) (pS (oop .mul .f64 (sineZ f) (sineZ f)) 8)
def frac (y : Nat) : Option Nat := oop .sub .f64 (some y) (some (flJ (wholeI y)))
def negIf (b : Bool) (o : Option Nat) : Option Nat := if b then o.map (Op.negFloat .f64) else o
def sineFin (y : Nat) : Option Nat :=
  (frac y).bind fun f0 => (fold1 f0).bind fun f1 => (fold2 f1).bind fun f2 => (fold3 f2).bind fun f3 => negIf (!isLt f1 sHalf) (sineTail f3)
/-- the sine of some turns, in float64, up to which NaN it is -/
def wsine (o : Option Nat) : Option Nat := o.bind fun y =>
  if rg double y = double.infRung then none else if 4841369599423283200 ≤ rg double y then some 0 else sineFin y

theorem Bd.rg_lt {x : Nat} {e : Int} (h : Bd double x e) : rg double x < double.infRung := by
  obtain ⟨s, m, i, e', _⟩ := h
  rcases Nat.lt_trichotomy (rg double x) double.infRung with h | h | h
  · exact h
  · rw [read_inf double (by decide) x h] at e'; cases e'
  · rw [read_nan double (by decide) x h] at e'; cases e'
theorem Bd.ab {x : Nat} {e : Int} (h : Bd double x e) : ab .f64 x = some x := ab_of (Nat.le_of_lt h.rg_lt)
theorem Bd.ord {x c : Nat} {e : Int} (h : Bd double x e) (hc : rg double c ≤ double.infRung) : ∃ o, FloatKind.f64.format.order x c = some o :=
  ⟨_, order_key double (by decide) x c (Nat.le_of_lt h.rg_lt) hc⟩

theorem fold1_bd {f : Nat} (h : Bd double f 0) : OB (fold1 f) 1 := by
  unfold fold1
  split
  · exact OB.add ⟨f, rfl, h⟩ (OB.of (by decide +kernel)) (by omega) (by omega)
  · exact ⟨f, rfl, h.mono (by omega)⟩
theorem fold2_bd {f : Nat} (h : Bd double f 1) : OB (fold2 f) 2 := by
  unfold fold2
  split
  · exact ⟨f, rfl, h.mono (by omega)⟩
  · exact OB.sub ⟨f, rfl, h⟩ (OB.of (by decide +kernel)) (by omega) (by omega)
theorem fold3_bd {f : Nat} (h : Bd double f 2) : OB (fold3 f) 3 := by
  unfold fold3
  split
  · exact OB.sub (OB.of (by decide +kernel)) ⟨f, rfl, h⟩ (by omega) (by omega)
  · exact ⟨f, rfl, h.mono (by omega)⟩
theorem sineZ_bd {f : Nat} (h : Bd double f 3) : OB (sineZ f) 6 := OB.mul ⟨f, rfl, h⟩ (OB.of (e := 3) (by decide +kernel)) (by omega) (by omega)
theorem pS_bd {u : Option Nat} (hu : OB u 12) : ∀ j, j ≤ 8 → OB (pS u j) (13 * j)
  | 0, _ => OB.of (by decide +kernel)
  | j + 1, hj => by
    have hk : geB (flJ (2 * (8 - (j : Int)) * (2 * (8 - (j : Int)) + 1))) 0 = true := by
      rcases (show j = 0 ∨ j = 1 ∨ j = 2 ∨ j = 3 ∨ j = 4 ∨ j = 5 ∨ j = 6 ∨ j = 7 by omega) with rfl | rfl | rfl | rfl | rfl | rfl | rfl | rfl <;> decide +kernel
    have h2 := OB.mul hu (pS_bd hu j (by omega)) (by omega) (by omega)
    have h3 := OB.quo h2 (OG.of hk) (by omega) (by omega)
    have h4 := OB.sub (OB.mono (e := 0) (e' := 12 + 13 * j) (OB.of (w := sOne) (by decide +kernel)) (by omega)) (h3.mono (show (12 : Int) + 13 * j - 0 ≤ 12 + 13 * j by omega)) (by omega) (by omega)
    exact h4.mono (by omega)
theorem sineTail_bd {f : Nat} (h : Bd double f 3) : OB (sineTail f) 127 := by
  have hz := sineZ_bd h
  have hu := OB.mul hz hz (by omega) (by omega)
  have hp := pS_bd (hu.mono (by omega)) 8 (by omega)
  exact (OB.mul hz hp (by omega) (by omega)).mono (by omega)

theorem neg_read (x : Nat) (hx : x < 18446744073709551616) : sg double (Op.negFloat .f64 x) = !sg double x ∧ rg double (Op.negFloat .f64 x) = rg double x ∧ Op.negFloat .f64 x < 18446744073709551616 := by
  have hn : Op.negFloat .f64 x = x ^^^ 9223372036854775808 := rfl
  have hlt : Op.negFloat .f64 x < 2 ^ 64 := by rw [hn]; exact Nat.xor_lt_two_pow (n := 64) hx (by decide)
  have hmod : (x ^^^ 9223372036854775808) % 2 ^ 63 = x % 2 ^ 63 := by
    apply Nat.eq_of_testBit_eq
    intro i
    rw [Nat.testBit_mod_two_pow, Nat.testBit_mod_two_pow, Nat.testBit_xor, show (9223372036854775808 : Nat) = 2 ^ 63 by decide, Nat.testBit_two_pow]
    by_cases h : i < 63
    · simp [h, show ¬ 63 = i by omega]
    · simp [h]
  have hdiv : (x ^^^ 9223372036854775808).testBit 63 = !(x.testBit 63) := by
    rw [Nat.testBit_xor, show (9223372036854775808 : Nat) = 2 ^ 63 by decide, Nat.testBit_two_pow]
    simp
  refine ⟨?_, ?_, hlt⟩
  · unfold sg
    rw [show double.signWeight = 2 ^ 63 by decide, hn]
    rw [Nat.testBit_eq_decide_div_mod_eq, Nat.testBit_eq_decide_div_mod_eq] at hdiv
    rw [Bool.eq_iff_iff] at hdiv ⊢
    simp at hdiv ⊢
    exact hdiv
  · unfold rg
    rw [show double.signWeight = 2 ^ 63 by decide, hn]
    exact hmod


theorem read_parts (w : Nat) : double.read w = (if rg double w < double.binade then .number (sg double w) (rg double w) double.leastPlace else if rg double w < double.infRung then .number (sg double w) (double.binade + rg double w % double.binade) (double.leastPlace + (rg double w / double.binade - 1 : Nat)) else if rg double w = double.infRung then .infinity (sg double w) else .nan (sg double w) (rg double w - double.infRung)) := rfl
theorem neg_bd {x : Nat} {e : Int} (hx : x < 18446744073709551616) (h : Bd double x e) : Bd double (Op.negFloat .f64 x) e := by
  obtain ⟨h1, h2, _⟩ := neg_read x hx
  have hl := h.rg_lt
  obtain ⟨s, m, i, e', v⟩ := h
  rw [read_parts] at e'
  refine ⟨!s, m, i, ?_, v⟩
  rw [read_parts, h1, h2]
  split at e'
  · rename_i hb
    rw [if_pos hb]
    cases e'; rfl
  · rename_i hb
    rw [if_neg hb, if_pos hl]
    cases e'; rfl
theorem oop_lt {op : BinOp} {a b : Option Nat} {r : Nat} (h : oop op .f64 a b = some r) : r < 18446744073709551616 := by
  cases a with
  | none => cases h
  | some x =>
    cases b with
    | none => cases h
    | some y => have := floatBits_lt (op := op) (k := .f64) h; rw [show FloatKind.f64.format.width = 64 by decide] at this; exact this
theorem negIf_bd {b : Bool} {f : Nat} (h : Bd double f 3) : OB (negIf b (sineTail f)) 127 := by
  obtain ⟨v, e, hv⟩ := sineTail_bd h
  have hl : v < 18446744073709551616 := oop_lt e
  unfold negIf
  rw [e]
  cases b
  · exact ⟨v, rfl, hv⟩
  · exact ⟨_, rfl, neg_bd hl hv⟩

/-- the way through the folds, in words -/
structure SineWay (y f0 f1 f2 f3 z u v : Nat) (b0 b1 b2 : Bool) : Prop where
  h0 : floatBits .sub .f64 y (flJ (wholeI y)) = some f0
  l0 : (FloatKind.f64.format.order f0 0 == some .lt) = b0
  h1 : if b0 then floatBits .add .f64 f0 sOne = some f1 else f0 = f1
  l1 : (FloatKind.f64.format.order f1 sHalf == some .gt || FloatKind.f64.format.order f1 sHalf == some .eq) = b1
  h2 : if b1 then floatBits .sub .f64 f1 sHalf = some f2 else f1 = f2
  l2 : (FloatKind.f64.format.order f2 sQuarter == some .gt) = b2
  h3 : if b2 then floatBits .sub .f64 sHalf f2 = some f3 else f2 = f3
  hz : floatBits .mul .f64 f3 sTurn = some z
  hu : floatBits .mul .f64 z z = some u
  az : ab .f64 z = some z
  au : ab .f64 u = some u
  tail' : oop .mul .f64 (some z) (pS (some u) 8) = some v
  tail : sineTail f3 = some v
  fin : sineFin y = negIf b1 (some v)
  bd : Bd double f3 3
  lt : v < 18446744073709551616
  bv : Bd double v 127
theorem geq_lt {o : Option Ordering} (h : ∃ p, o = some p) : (o == some .gt || o == some .eq) = !(o == some .lt) := by
  obtain ⟨p, rfl⟩ := h
  cases p <;> rfl
theorem sine_way {y : Nat} (hy : y < 18446744073709551616) (h : rg double y < 4841369599423283200) : ∃ f0 f1 f2 f3 z u v b0 b1 b2, SineWay y f0 f1 f2 f3 z u v b0 b1 b2 := by
  obtain ⟨f0, e0, d0⟩ := frac_bd hy h
  obtain ⟨f1, e1, d1⟩ := fold1_bd d0
  obtain ⟨f2, e2, d2⟩ := fold2_bd d1
  obtain ⟨f3, e3, d3⟩ := fold3_bd d2
  obtain ⟨v, e4, d4⟩ := sineTail_bd d3
  obtain ⟨z, e5, d5⟩ := sineZ_bd d3
  obtain ⟨u, e6, d6⟩ := OB.mul (a := some z) (b := some z) ⟨z, rfl, d5⟩ ⟨z, rfl, d5⟩ (by omega) (by omega)
  have e7 : oop .mul .f64 (some z) (pS (some u) 8) = some v := by rw [← e4]; unfold sineTail; rw [e5, e6]
  have hg := geq_lt (d1.ord (c := sHalf) (by decide +kernel))
  refine ⟨f0, f1, f2, f3, z, u, v, _, _, _, ⟨e0, rfl, ?_, rfl, ?_, rfl, ?_, e5, e6, d5.ab, d6.ab, e7, e4, ?_, d3, oop_lt e4, d4⟩⟩
  · unfold fold1 isLt at e1
    split at e1
    · rename_i hl; rw [if_pos hl]; exact e1
    · rename_i hl; rw [if_neg hl]; exact Option.some.inj e1
  · rw [hg]
    unfold fold2 isLt at e2
    split at e2
    · rename_i hl; rw [hl]; exact Option.some.inj e2
    · rename_i hl
      rw [Bool.not_eq_true] at hl
      rw [hl]; exact e2
  · unfold fold3 isGt at e3
    split at e3
    · rename_i hl; rw [if_pos hl]; exact e3
    · rename_i hl; rw [if_neg hl]; exact Option.some.inj e3
  · have hf : sineFin y = (frac y).bind fun f0 => (fold1 f0).bind fun f1 => (fold2 f1).bind fun f2 => (fold3 f2).bind fun f3 => negIf (!isLt f1 sHalf) (sineTail f3) := rfl
    rw [hf, show frac y = some f0 from e0, Option.bind_some, e1, Option.bind_some, e2, Option.bind_some, e3, Option.bind_some, e4, hg]
    rfl
theorem wsine_fits {y : Nat} (hy : y < 18446744073709551616) : ∀ v, wsine (ab .f64 y) = some v → Fits v := by
  intro v hv
  cases ha : ab .f64 y with
  | none => rw [ha] at hv; cases hv
  | some z =>
    obtain ⟨hle, rfl⟩ := ab_some.1 ha
    rw [ha] at hv
    change (if rg double y = double.infRung then none else if 4841369599423283200 ≤ rg double y then some 0 else sineFin y) = some v at hv
    split at hv
    · cases hv
    · split at hv
      · cases hv; exact .inr (bd_of (by decide +kernel))
      · obtain ⟨_, _, _, _, _, _, _, _, b1, _, hw⟩ := sine_way hy (by omega)
        rw [hw.fin] at hv
        have := negIf_bd (b := b1) hw.bd
        rw [hw.tail] at this
        exact this.fits v hv


/-- float64(x) of a float32 that is no NaN draws nothing -/
theorem wide_bits {x : Nat} (h : rg single x ≤ single.infRung) : floatToFloatBits .f32 x .f64 = some (wide x) := by
  unfold floatToFloatBits
  rw [if_neg (by simp)]
  rcases Nat.lt_or_eq_of_le h with h | h
  · obtain ⟨m, i, e, _⟩ := read_num single x h
    have e' : FloatKind.f32.decode x = .number (sg single x) m i := e
    have hw : FloatKind.f64.encode (.number (sg single x) m i) = wide x := by
      show _ = FloatKind.f64.encode (FloatKind.f32.decode x)
      rw [e']
    have hn : (FloatKind.f64.decode (wide x)).isInfinity = false := by
      obtain ⟨m', i', e2, _⟩ := read_num double (wide x) (wide_num x h).2.1
      show (double.read (wide x)).isInfinity = false
      rw [e2]; rfl
    rw [e']
    simp only [hw, hn]
    rfl
  · have e' : FloatKind.f32.decode x = .infinity (sg single x) := read_inf single (by decide) x h
    rw [e']
    show some (FloatKind.f64.encode _) = some (FloatKind.f64.encode (FloatKind.f32.decode x))
    rw [e']

/-- int64(y) of a float64 that is no NaN and not too great -/
theorem whole_int {y : Nat} (h : rg double y < 4841369599423283200) : floatToIntVal .f64 y .i64 = some (wholeI y) := by
  obtain ⟨m, i, e, hm, hi, hi', hw, hM, hF⟩ := whole_read h
  have hb := wholeI_bd h
  have e' : FloatKind.f64.decode y = .number (sg double y) m i := e
  have ht : (Datum.number (sg double y) m i).toInt .zero = some (wholeI y) := by
    show some (signed (sg double y) (Toward.zero.cut _ (m <<< i.toNat) (-i).toNat) 0) = _
    rw [show i.toNat = 0 by omega, Nat.shiftLeft_zero, cut_zero_le, ← hw]
    unfold signed wholeI
    rw [Nat.shiftLeft_zero]
  unfold floatToIntVal
  rw [e', ht]
  simp only
  rw [if_pos]
  have h1 : IntKind.i64.min = -9223372036854775808 := by decide
  have h2 : IntKind.i64.max = 9223372036854775807 := by decide
  rw [h1, h2]
  omega

/-- x - x is nought of a number alone -/
theorem fin32 {x : Nat} : fin .f32 (ab .f32 x) = decide (rg single x < single.infRung) := by
  unfold fin
  rcases Nat.lt_trichotomy (rg single x) single.infRung with h | h | h
  · rw [ab_of (k := .f32) (Nat.le_of_lt h), decide_eq_true h]
    obtain ⟨m, i, e, _⟩ := read_num single x h
    have hs : oop .sub .f32 (some x) (some x) = some 0 := by
      show single.sub x x = some 0
      unfold Format.sub
      rw [e]
      simp only [Datum.opposite, Datum.sum, Option.map_some]
      have hz : signed (sg single x) m (i - min i i).toNat + signed (!sg single x) m (i - min i i).toNat = 0 := by
        unfold signed; cases sg single x <;> simp <;> omega
      rw [hz, if_pos rfl]
      have : (sg single x && !sg single x) = false := by cases sg single x <;> rfl
      rw [this]
      rfl
    rw [hs, oord_self]
    rfl
  · rw [ab_of (k := .f32) (Nat.le_of_eq h), decide_eq_false (by omega)]
    have e := read_inf single (by decide) x h
    have hs : oop .sub .f32 (some x) (some x) = none := by
      show single.sub x x = none
      unfold Format.sub
      rw [e]
      cases sg single x <;> rfl
    rw [hs]
    rfl
  · rw [(ab_none (k := .f32)).2 h, decide_eq_false (by omega)]
    rfl
theorem fin64_ne {y : Nat} : (oord .f64 (oop .sub .f64 (ab .f64 y) (ab .f64 y)) (some 0) != some .eq) = !decide (rg double y < double.infRung) := by
  rcases Nat.lt_trichotomy (rg double y) double.infRung with h | h | h
  · rw [ab_of (k := .f64) (Nat.le_of_lt h), decide_eq_true h]
    obtain ⟨m, i, e, _⟩ := read_num double y h
    have hs : oop .sub .f64 (some y) (some y) = some 0 := by
      show double.sub y y = some 0
      unfold Format.sub
      rw [e]
      simp only [Datum.opposite, Datum.sum, Option.map_some]
      have hz : signed (sg double y) m (i - min i i).toNat + signed (!sg double y) m (i - min i i).toNat = 0 := by
        unfold signed; cases sg double y <;> simp <;> omega
      rw [hz, if_pos rfl]
      have : (sg double y && !sg double y) = false := by cases sg double y <;> rfl
      rw [this]
      rfl
    rw [hs, oord_self]
    rfl
  · rw [ab_of (k := .f64) (Nat.le_of_eq h), decide_eq_false (by omega)]
    have e := read_inf double (by decide) y h
    have hs : oop .sub .f64 (some y) (some y) = none := by
      show double.sub y y = none
      unfold Format.sub
      rw [e]
      cases sg double y <;> rfl
    rw [hs]
    rfl
  · rw [(ab_none (k := .f64)).2 h, decide_eq_false (by omega)]
    rfl

end Go.FL
