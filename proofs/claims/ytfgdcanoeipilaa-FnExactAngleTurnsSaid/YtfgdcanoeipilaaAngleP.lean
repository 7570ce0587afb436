/-
  The angle's plain law: the halving of the angle, the sum's rounds, what they are bounded by.
  No conditions but those that each lemma names.
-/
import Derived.Test.YtfgdcanoeipilaaBd
import Derived.Test.YtfgdcanoeipilaaSineP
namespace Go.FL
open Ieee

/-! ### the angle's plain law -/
/-- a step of the halving of the angle -/
def tN (T : Option Nat) : Nat → Option Nat
  | 0 => T
  | j + 1 => oop .quo .f64 (tN T j) (oop .add .f64 (some sOne) (osqrt (oop .add .f64 (some sOne) (oop .mul .f64 (tN T j) (tN T j)))))
/-- the sum's rounds -/
def pA (u : Option Nat) : Nat → Option Nat
  | 0 => some 0
  | j + 1 => oop .sub .f64 (oop .quo .f64 (some sOne) (some (flJ (15 - 2 * (j : Int))))) (oop .mul .f64 u (pA u j))
def sEight : Nat := 4620693217682128896
def angG (t : Option Nat) : Option Nat := oop .quo .f64 (oop .mul .f64 (some sEight) (oop .mul .f64 t (pA (oop .mul .f64 t t) 8))) (some sTurn)
def subIf (b : Bool) (c : Nat) (o : Option Nat) : Option Nat := if b then oop .sub .f64 (some c) o else o
def angFin (T : Option Nat) (over cx cy : Bool) : Option Nat := negIf cy (subIf cx sHalf (subIf over sQuarter (angG (tN T 3))))
/-- how two words of numbers, not negative, are divided -/
def angT (a b : Nat) : Option Nat := if isGt a b then oop .quo .f64 (some b) (some a) else oop .quo .f64 (some a) (some b)
/-- less than nought -/
def low64 (y : Nat) : Bool := sg double y && decide (rg double y ≠ 0)
/-- the angle of a point, in float64, up to which NaN it is -/
def wangle (oy ox : Option Nat) : Option Nat := oy.bind fun y => ox.bind fun x =>
  if rg double y = double.infRung then none else if rg double x = double.infRung then none else
  if rg double x = 0 ∧ rg double y = 0 then some 0 else
  angFin (angT (rg double y) (rg double x)) (isGt (rg double y) (rg double x)) (low64 x) (low64 y)

theorem sqrt_bd {x : Nat} {c : Int} (hp : Pos double x) (hx : Bd double x (2 * c)) (hc : -500 ≤ c) (hc' : c ≤ 1000) : ∃ r, osqrt (some x) = some r ∧ Pos double r ∧ Bd double r c := by
  obtain ⟨m, i, e⟩ := hp
  have hs : ∃ r, double.sqrt x = some r := by
    unfold Format.sqrt
    rw [e]
    simp only [Datum.root]
    split
    · exact ⟨_, rfl⟩
    · exact ⟨_, rfl⟩
  obtain ⟨r, hr⟩ := hs
  have hb := root_bd hx hc hc' hr
  refine ⟨r, hr, ?_, hb⟩
  have hsg : sg double r = false := by
    unfold Format.sqrt at hr
    rw [e] at hr
    simp only [Datum.root] at hr
    split at hr
    · cases hr; exact sg_nearest double _ _ _
    · cases hr; exact sg_nearest double _ _ _
  obtain ⟨s, m', i', e', _⟩ := hb
  obtain ⟨m2, i2, e2, _⟩ := read_num double r (by
    rcases Nat.lt_trichotomy (rg double r) double.infRung with h | h | h
    · exact h
    · rw [read_inf double (by decide) r h] at e'; cases e'
    · rw [read_nan double (by decide) r h] at e'; cases e')
  rw [hsg] at e2
  exact ⟨m2, i2, e2⟩

theorem add_comm64 (x y : Nat) (hx : ∃ s m i, double.read x = .number s m i) (hy : ∃ s m i, double.read y = .number s m i) : double.add x y = double.add y x := by
  obtain ⟨s, m, i, e⟩ := hx
  obtain ⟨t, n, j, e'⟩ := hy
  unfold Format.add
  rw [e, e']
  simp only [Datum.sum, Option.map_some]
  rw [Int.min_comm j i, Int.add_comm (signed t n _), Bool.and_comm t s]

theorem tN_bd {T : Option Nat} (hT : OB T 1) : ∀ j, OB (tN T j) 1
  | 0 => hT
  | j + 1 => by
    obtain ⟨t, et, bt⟩ := tN_bd hT j
    obtain ⟨q, eq, pq, bq⟩ := pos_sq bt (by omega) (by omega)
    obtain ⟨r, er, gr, br⟩ := ge_add (x := sOne) (y := q) (e := 0) (c := 2) (ge_of (by decide +kernel)) pq (bd_of (by decide +kernel)) (bq.mono (by omega)) (by omega) (by omega) (by omega) (by omega)
    obtain ⟨v, ev, pv, bv⟩ := sqrt_bd (c := 2) gr.pos (br.mono (by omega)) (by omega) (by omega)
    obtain ⟨z, ez, gz, _⟩ := ge_add (x := sOne) (y := v) (e := 0) (c := 2) (ge_of (by decide +kernel)) pv (bd_of (by decide +kernel)) bv (by omega) (by omega) (by omega) (by omega)
    have h1 : tN T (j + 1) = oop .quo .f64 (some t) (some z) := by
      show oop .quo .f64 (tN T j) (oop .add .f64 (some sOne) (osqrt (oop .add .f64 (some sOne) (oop .mul .f64 (tN T j) (tN T j))))) = _
      rw [et, show oop .mul .f64 (some t) (some t) = some q from eq, show oop .add .f64 (some sOne) (some q) = some r from er, ev, show oop .add .f64 (some sOne) (some v) = some z from ez]
    rw [h1]
    exact (OB.quo ⟨t, rfl, bt⟩ ⟨z, rfl, gz⟩ (by omega) (by omega)).mono (by omega)

theorem pA_bd {u : Option Nat} (hu : OB u 2) : ∀ j, j ≤ 8 → OB (pA u j) (3 * j)
  | 0, _ => OB.of (by decide +kernel)
  | j + 1, hj => by
    have hk : geB (flJ (15 - 2 * (j : Int))) 0 = true := by
      rcases (show j = 0 ∨ j = 1 ∨ j = 2 ∨ j = 3 ∨ j = 4 ∨ j = 5 ∨ j = 6 ∨ j = 7 by omega) with rfl | rfl | rfl | rfl | rfl | rfl | rfl | rfl <;> decide +kernel
    have h1 := OB.quo (a := some sOne) (e := 0) (OB.of (by decide +kernel)) (OG.of hk) (by omega) (by omega)
    have h2 := OB.mul hu (pA_bd hu j (by omega)) (by omega) (by omega)
    have h3 := OB.sub (h1.mono (show (0 : Int) - 0 ≤ 2 + 3 * j by omega)) h2 (by omega) (by omega)
    exact h3.mono (by omega)

theorem angG_bd {t : Option Nat} (ht : OB t 1) : OB (angG t) 30 := by
  have hu := (OB.mul ht ht (by omega) (by omega)).mono (show (1 : Int) + 1 ≤ 2 by omega)
  have hp := pA_bd hu 8 (by omega)
  have h1 := OB.mul ht hp (by omega) (by omega)
  have h2 := OB.mul (a := some sEight) (e := 3) (OB.of (by decide +kernel)) h1 (by omega) (by omega)
  exact (OB.quo (b := some sTurn) (e' := 0) h2 (OG.of (by decide +kernel)) (by omega) (by omega)).mono (by omega)

theorem subIf_bd {b : Bool} {c : Nat} {o : Option Nat} {e : Int} (hc : bdB c 0 = true) (h : OB o e) (h1 : 0 ≤ e) (h2 : e ≤ 1000) : OB (subIf b c o) (e + 1) := by
  unfold subIf
  split
  · exact OB.sub ((OB.of hc).mono h1) h (by omega) (by omega)
  · exact h.mono (by omega)

theorem angU_bd {T : Option Nat} (hT : OB T 1) (over cx : Bool) : OB (subIf cx sHalf (subIf over sQuarter (angG (tN T 3)))) 127 :=
  (subIf_bd (by decide +kernel) (subIf_bd (by decide +kernel) (angG_bd (tN_bd hT 3)) (by omega) (by omega)) (by omega) (by omega)).mono (by omega)

theorem quo_le {a b : Nat} (ha : a ≤ b) (hb : b < double.infRung) (h0 : b ≠ 0) : OB (oop .quo .f64 (some a) (some b)) 1 := by
  rw [di] at hb
  have hr : ∀ x, x < 9218868437227405312 → rg double x = x ∧ sg double x = false := by
    intro x hx
    unfold rg sg
    rw [show double.signWeight = 9223372036854775808 by decide, Nat.mod_eq_of_lt (by omega), Nat.div_eq_of_lt (by omega)]
    exact ⟨rfl, rfl⟩
  obtain ⟨m, i, e, hi, hv⟩ := read_num double a (by rw [(hr a (by omega)).1, di]; omega)
  obtain ⟨n, j, e', hj, hv'⟩ := read_num double b (by rw [(hr b hb).1, di]; omega)
  rw [(hr a (by omega)).1] at hv
  rw [(hr b hb).1] at hv'
  rw [(hr b hb).2] at e'
  have hle : mg double a ≤ mg double b := mg_le ha
  have hn : n ≠ 0 := by
    intro hz
    rw [hz, Nat.zero_mul] at hv'
    have := mg_lt_iff (f := double) (r := 0) (s := b)
    rw [mg_zero] at this
    omega
  have hE : Vge n j (n.log2 + j) := ⟨hn, by rw [show ((n.log2 : Int) + j - j).toNat = n.log2 by omega]; exact log2_le hn⟩
  rw [dl] at hi hj hv hv'
  have hA : Vle m i (n.log2 + j + 1) := by
    refine vle_of_mg (f := double) (by rw [dl]; omega) (by rw [dl]; omega) ?_
    rw [dl, hv]
    refine Nat.le_trans hle ?_
    rw [← hv', show ((n.log2 : Int) + j + 1 - -1074).toNat = (n.log2 + 1) + (j - -1074).toNat by omega, Nat.pow_add]
    exact Nat.mul_le_mul_right _ (Nat.le_of_lt (log2_lt n))
  have := OB.quo (a := some a) (b := some b) ⟨a, rfl, _, m, i, e, hA⟩ ⟨b, rfl, n, j, e', hE⟩ (by omega) (by omega)
  exact this.mono (by omega)

/-- the dividing is one of numbers, at most 2 -/
theorem angT_bd {a b : Nat} (ha : a < double.infRung) (hb : b < double.infRung) (h0 : ¬ (b = 0 ∧ a = 0)) : OB (angT a b) 1 := by
  have ha' := ha
  have hb' := hb
  rw [di] at ha' hb'
  have hr : ∀ x, x < 9218868437227405312 → rg double x = x ∧ sg double x = false := by
    intro x hx
    unfold rg sg
    rw [show double.signWeight = 9223372036854775808 by decide, Nat.mod_eq_of_lt (by omega), Nat.div_eq_of_lt (by omega)]
    exact ⟨rfl, rfl⟩
  have e := order_key double (by decide) a b (by rw [(hr a ha').1]; omega) (by rw [(hr b hb').1]; omega)
  unfold key at e
  rw [(hr a ha').1, (hr a ha').2, (hr b hb').1, (hr b hb').2] at e
  change FloatKind.f64.format.order a b = some (compare (a : Int) (b : Int)) at e
  unfold angT isGt
  rw [e]
  rcases Nat.lt_trichotomy a b with h | h | h
  · rw [cmp_lt (by omega)]
    exact quo_le (by omega) hb (by omega)
  · rw [cmp_eq (by omega)]
    exact quo_le (by omega) hb (by omega)
  · rw [cmp_gt (by omega)]
    exact quo_le (by omega) ha (by omega)

theorem angle_fits {y x : Nat} : ∀ v, wangle (ab .f64 y) (ab .f64 x) = some v → Fits v := by
  intro v hv
  cases ha : ab .f64 y with
  | none => rw [ha] at hv; cases hv
  | some y' =>
    obtain ⟨hly, rfl⟩ := ab_some.1 ha
    cases hb : ab .f64 x with
    | none => rw [ha, hb] at hv; cases hv
    | some x' =>
      obtain ⟨hlx, rfl⟩ := ab_some.1 hb
      rw [ha, hb] at hv
      change (if rg double y = double.infRung then none else if rg double x = double.infRung then none else if rg double x = 0 ∧ rg double y = 0 then some 0 else angFin (angT (rg double y) (rg double x)) (isGt (rg double y) (rg double x)) (low64 x) (low64 y)) = some v at hv
      change rg double y ≤ double.infRung at hly
      change rg double x ≤ double.infRung at hlx
      split at hv
      · cases hv
      · split at hv
        · cases hv
        · split at hv
          · cases hv; exact .inr (bd_of (by decide +kernel))
          · rename_i h1 h2 h3
            have hT := angT_bd (a := rg double y) (b := rg double x) (by omega) (by omega) h3
            obtain ⟨g, eg, bg⟩ := angU_bd hT (isGt (rg double y) (rg double x)) (low64 x)
            unfold angFin at hv
            rw [eg] at hv
            have hg : g < 18446744073709551616 := by
              obtain ⟨t, et, _⟩ := angG_bd (tN_bd hT 3)
              unfold subIf at eg
              rw [et] at eg
              split at eg
              · exact oop_lt eg
              · split at eg
                · exact oop_lt eg
                · rw [← et] at eg; exact oop_lt eg
            cases hc : low64 y
            · rw [hc] at hv; cases hv; exact .inr bg
            · rw [hc] at hv; cases hv; exact .inr (neg_bd hg bg)


/-- the last words of the angle: before the sign, and that sign -/
structure AngWay (y x : Nat) (over cx cy : Bool) (g : Nat) : Prop where
  eq : subIf cx sHalf (subIf over sQuarter (angG (tN (angT (rg double y) (rg double x)) 3))) = some g
  bd : Bd double g 127
  lt : g < 18446744073709551616
  fin : wangle (ab .f64 y) (ab .f64 x) = negIf cy (some g)
theorem ang_way {y x : Nat} (hy : rg double y < double.infRung) (hx : rg double x < double.infRung) (h0 : ¬ (rg double x = 0 ∧ rg double y = 0)) : ∃ g, AngWay y x (isGt (rg double y) (rg double x)) (low64 x) (low64 y) g := by
  have hT := angT_bd hy hx h0
  obtain ⟨g, eg, bg⟩ := angU_bd hT (isGt (rg double y) (rg double x)) (low64 x)
  have hg : g < 18446744073709551616 := by
    obtain ⟨t, et, _⟩ := angG_bd (tN_bd hT 3)
    have eg' := eg
    unfold subIf at eg'
    rw [et] at eg'
    split at eg'
    · exact oop_lt eg'
    · split at eg'
      · exact oop_lt eg'
      · rw [← et] at eg'; exact oop_lt eg'
  refine ⟨g, eg, bg, hg, ?_⟩
  rw [ab_of (k := .f64) (Nat.le_of_lt hy), ab_of (k := .f64) (Nat.le_of_lt hx)]
  show (if rg double y = double.infRung then none else if rg double x = double.infRung then none else if rg double x = 0 ∧ rg double y = 0 then some 0 else angFin (angT (rg double y) (rg double x)) (isGt (rg double y) (rg double x)) (low64 x) (low64 y)) = _
  rw [if_neg (by omega), if_neg (by omega), if_neg h0]
  unfold angFin
  rw [eg]
theorem wangle_bad {y x : Nat} (h : ¬ rg double y < double.infRung ∨ ¬ rg double x < double.infRung) : wangle (ab .f64 y) (ab .f64 x) = none := by
  cases ha : ab .f64 y with
  | none => rfl
  | some y' =>
    obtain ⟨hly, rfl⟩ := ab_some.1 ha
    cases hb : ab .f64 x with
    | none => rfl
    | some x' =>
      obtain ⟨hlx, rfl⟩ := ab_some.1 hb
      show (if rg double y = double.infRung then none else if rg double x = double.infRung then none else _) = none
      change rg double y ≤ double.infRung at hly
      change rg double x ≤ double.infRung at hlx
      split
      · rfl
      · rw [if_pos (by omega)]
theorem wangle_zero {y x : Nat} (hy : rg double y = 0) (hx : rg double x = 0) : wangle (ab .f64 y) (ab .f64 x) = some 0 := by
  have hi : double.infRung = 9218868437227405312 := di
  rw [ab_of (k := .f64) (b := y) (by show rg double y ≤ double.infRung; omega), ab_of (k := .f64) (b := x) (by show rg double x ≤ double.infRung; omega)]
  show (if rg double y = double.infRung then none else if rg double x = double.infRung then none else if rg double x = 0 ∧ rg double y = 0 then some 0 else _) = some 0
  rw [if_neg (by omega), if_neg (by omega), if_pos ⟨hx, hy⟩]

end Go.FL
