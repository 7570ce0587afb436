/-
  Plain lemmas on floating-point words: a bound of a sum, a difference, a product, a quotient in float64; what is at least a power of two.
  No conditions but those that each lemma names.
-/
import Derived.Test.YtfgdcanoeipilaaFloat
namespace Go.FL
open Ieee

/-! ### bounds through the operations, in float64 -/
theorem dl : double.leastPlace = -1074 := by decide
theorem df : double.fractionBits = 52 := rfl
theorem db : double.binade = 4503599627370496 := by decide
theorem di : double.infRung = 9218868437227405312 := by decide

theorem rung_lt (e : Int) (h1 : -1021 ≤ e) (h2 : e ≤ 1023) : rungOf double e < double.infRung := by
  unfold rungOf
  rw [dl, df, db, di]
  omega

theorem bd_write {s : Bool} {m : Nat} {p e : Int} (h : Vle m p e) (h1 : -1021 ≤ e) (h2 : e ≤ 1023) : ∃ m' i', double.read (double.nearest s m p) = .number s m' i' ∧ Vle m' i' e :=
  bd_nearest h (by rw [dl, df]; omega) (rung_lt e h1 h2)

theorem vle_mul {m n : Nat} {i j a b : Int} (h : Vle m i a) (h' : Vle n j b) : Vle (m * n) (i + j) (a + b) := by
  rcases h with h | ⟨h1, h2⟩
  · left; rw [h, Nat.zero_mul]
  · rcases h' with h' | ⟨h3, h4⟩
    · left; rw [h', Nat.mul_zero]
    · refine .inr ⟨by omega, ?_⟩
      rw [show (a + b - (i + j)).toNat = (a - i).toNat + (b - j).toNat by omega, Nat.pow_add]
      exact Nat.mul_le_mul h2 h4

theorem vle_shift {m : Nat} {i e base : Int} (h : Vle m i e) (hb : base ≤ i) (hbe : base ≤ e) : m * 2 ^ (i - base).toNat ≤ 2 ^ (e - base).toNat := by
  rcases h with h | ⟨h1, h2⟩
  · rw [h, Nat.zero_mul]; exact Nat.zero_le _
  · refine Nat.le_trans (Nat.mul_le_mul_right _ h2) ?_
    rw [← Nat.pow_add]
    exact Nat.pow_le_pow_right (by omega) (by omega)

theorem signed_abs (s : Bool) (m up : Nat) : (signed s m up).natAbs = m * 2 ^ up := by
  unfold signed
  rw [Nat.shiftLeft_eq]
  cases s
  · exact Int.natAbs_natCast _
  · simp only [if_true]; rw [Int.natAbs_neg]; exact Int.natAbs_natCast _

theorem sum_vle {s t : Bool} {m n : Nat} {i j e : Int} (h : Vle m i e) (h' : Vle n j e) : Vle (signed s m (i - min i j).toNat + signed t n (j - min i j).toNat).natAbs (min i j) (e + 1) := by
  have ht := Int.natAbs_add_le (signed s m (i - min i j).toNat) (signed t n (j - min i j).toNat)
  rw [signed_abs, signed_abs] at ht
  by_cases hb : min i j ≤ e
  · refine .inr ⟨by omega, Nat.le_trans ht ?_⟩
    have h1 := vle_shift h (by omega : min i j ≤ i) hb
    have h2 := vle_shift h' (by omega : min i j ≤ j) hb
    rw [show (e + 1 - min i j).toNat = (e - min i j).toNat + 1 by omega, Nat.pow_succ]
    omega
  · have hm : m = 0 := by rcases h with h | ⟨h1, _⟩ <;> omega
    have hn : n = 0 := by rcases h' with h | ⟨h1, _⟩ <;> omega
    left
    rw [hm, hn] at ht ⊢
    simp at ht
    omega

theorem bd_add {x y : Nat} {e : Int} (hx : Bd double x e) (hy : Bd double y e) (h1 : -1022 ≤ e) (h2 : e ≤ 1022) : ∃ r, double.add x y = some r ∧ Bd double r (e + 1) := by
  obtain ⟨s, m, i, ex, vx⟩ := hx
  obtain ⟨t, n, j, ey, vy⟩ := hy
  obtain ⟨m', i', e', v'⟩ := bd_write (s := if signed s m (i - min i j).toNat + signed t n (j - min i j).toNat = 0 then s && t else signed s m (i - min i j).toNat + signed t n (j - min i j).toNat < 0) (sum_vle (s := s) (t := t) vx vy) (by omega) (by omega)
  refine ⟨_, ?_, _, _, _, e', v'⟩
  unfold Format.add
  rw [ex, ey]
  rfl

theorem bd_sub {x y : Nat} {e : Int} (hx : Bd double x e) (hy : Bd double y e) (h1 : -1022 ≤ e) (h2 : e ≤ 1022) : ∃ r, double.sub x y = some r ∧ Bd double r (e + 1) := by
  obtain ⟨s, m, i, ex, vx⟩ := hx
  obtain ⟨t, n, j, ey, vy⟩ := hy
  obtain ⟨m', i', e', v'⟩ := bd_write (s := if signed s m (i - min i j).toNat + signed (!t) n (j - min i j).toNat = 0 then s && !t else signed s m (i - min i j).toNat + signed (!t) n (j - min i j).toNat < 0) (sum_vle (s := s) (t := !t) vx vy) (by omega) (by omega)
  refine ⟨_, ?_, _, _, _, e', v'⟩
  unfold Format.sub
  rw [ex, ey]
  rfl

theorem bd_mul {x y : Nat} {a b : Int} (hx : Bd double x a) (hy : Bd double y b) (h1 : -1021 ≤ a + b) (h2 : a + b ≤ 1023) : ∃ r, double.mul x y = some r ∧ Bd double r (a + b) := by
  obtain ⟨s, m, i, ex, vx⟩ := hx
  obtain ⟨t, n, j, ey, vy⟩ := hy
  obtain ⟨m', i', e', v'⟩ := bd_write (s := s ^^ t) (vle_mul vx vy) h1 h2
  refine ⟨_, ?_, _, _, _, e', v'⟩
  unfold Format.mul
  rw [ex, ey]
  rfl

/-- at least '2 ^ e', of whatever sign -/
def Far (f : Format) (w : Nat) (e : Int) : Prop := ∃ s m i, f.read w = .number s m i ∧ Vge m i e

theorem Ge.far {f : Format} {w : Nat} {e : Int} (h : Ge f w e) : Far f w e := let ⟨m, i, h1, h2⟩ := h; ⟨_, m, i, h1, h2⟩

theorem quot_vle {m n d : Nat} {i j a b : Int} (h : Vle m i a) (h' : Vge n j b) (hd : n.log2 + 1 ≤ m.log2 + d) : Vle (2 * ((m <<< d) / n) + ((m <<< d) % n != 0).toNat) (i - j - d - 1) (a - b) := by
  obtain ⟨hn, hge⟩ := h'
  by_cases hm : m = 0
  · left; subst hm; simp
  · rcases h with h | ⟨h1, h2⟩
    · exact absurd h hm
    · rw [Nat.shiftLeft_eq]
      have hn0 : 0 < n := Nat.pos_of_ne_zero hn
      have key : m * 2 ^ d * 2 ^ (b - j).toNat ≤ 2 ^ ((a - i).toNat + d) * n := by
        refine Nat.le_trans (Nat.mul_le_mul_left _ hge) (Nat.mul_le_mul_right _ ?_)
        rw [Nat.pow_add]
        exact Nat.mul_le_mul_right _ h2
      have hbig : n < m * 2 ^ d := by
        have h3 := log2_lt n
        have h4 : 2 ^ (m.log2 + d) ≤ m * 2 ^ d := by rw [Nat.pow_add]; exact Nat.mul_le_mul_right _ (log2_le hm)
        exact Nat.lt_of_lt_of_le h3 (Nat.le_trans (Nat.pow_le_pow_right (by omega) hd) h4)
      have hlt : (b - j).toNat < (a - i).toNat + d := by
        rcases Nat.lt_or_ge (b - j).toNat ((a - i).toNat + d) with h | h
        · exact h
        · exfalso
          have h5 : 2 ^ ((a - i).toNat + d) ≤ 2 ^ (b - j).toNat := Nat.pow_le_pow_right (by omega) h
          have h6 : m * 2 ^ d * 2 ^ (b - j).toNat ≤ n * 2 ^ (b - j).toNat := by
            refine Nat.le_trans key ?_
            rw [Nat.mul_comm n]
            exact Nat.mul_le_mul_right _ h5
          have h7 := Nat.le_of_mul_le_mul_right h6 (Nat.two_pow_pos _)
          omega
      generalize hE : (a - i).toNat + d - (b - j).toNat = E
      have hle : m * 2 ^ d ≤ 2 ^ E * n := by
        rw [show (a - i).toNat + d = E + (b - j).toNat by omega, Nat.pow_add, Nat.mul_right_comm (2 ^ E)] at key
        exact Nat.le_of_mul_le_mul_right key (Nat.two_pow_pos _)
      have hq : 2 * (m * 2 ^ d / n) + (m * 2 ^ d % n != 0).toNat ≤ 2 * 2 ^ E := by
        generalize m * 2 ^ d = M at hle
        have h8 : M / n ≤ 2 ^ E := Nat.div_le_of_le_mul (by rw [Nat.mul_comm]; exact hle)
        by_cases hz : M % n = 0
        · simp [hz]; omega
        · have h9 : M / n < 2 ^ E := by
            rcases Nat.lt_or_eq_of_le h8 with h | h
            · exact h
            · exfalso
              have := Nat.div_add_mod M n
              rw [h, Nat.mul_comm] at this
              omega
          have : (M % n != 0) = true := by simp [hz]
          rw [this]
          show 2 * (M / n) + 1 ≤ _
          omega
      by_cases hbj : j ≤ b
      · refine .inr ⟨by omega, Nat.le_trans hq ?_⟩
        rw [← Nat.pow_succ']
        exact Nat.pow_le_pow_right (by omega) (by omega)
      · refine .inr ⟨by omega, Nat.le_trans hq ?_⟩
        rw [← Nat.pow_succ']
        exact Nat.pow_le_pow_right (by omega) (by omega)

theorem bd_div {x y : Nat} {a b : Int} (hx : Bd double x a) (hy : Far double y b) (h1 : -1021 ≤ a - b) (h2 : a - b ≤ 1023) : ∃ r, double.div x y = some r ∧ Bd double r (a - b) := by
  obtain ⟨s, m, i, ex, vx⟩ := hx
  obtain ⟨t, n, j, ey, vy⟩ := hy
  have hq := quot_vle (d := double.fractionBits + 2 + n.log2 - m.log2) vx vy (by rw [df]; omega)
  obtain ⟨m', i', e', v'⟩ := bd_write (s := s ^^ t) hq h1 h2
  refine ⟨_, ?_, _, _, _, e', v'⟩
  unfold Format.div
  rw [ex, ey]
  simp only [Datum.quotient]
  rw [if_neg vy.1]
  rfl

/-- a bound told of a closed word -/
def bdB (w : Nat) (e : Int) : Bool := match double.read w with
  | .number _ m i => decide (m = 0) || (decide (i ≤ e) && decide (m ≤ 2 ^ (e - i).toNat))
  | _ => false
theorem bd_of {w : Nat} {e : Int} (h : bdB w e = true) : Bd double w e := by
  unfold bdB at h
  split at h
  · rename_i s m i e'
    refine ⟨s, m, i, e', ?_⟩
    simp at h
    rcases h with h | ⟨h1, h2⟩
    · exact .inl h
    · exact .inr ⟨h1, h2⟩
  · cases h
/-- not too small, told of a closed word -/
def geB (w : Nat) (e : Int) : Bool := match double.read w with
  | .number false m i => decide (m ≠ 0) && decide (2 ^ (e - i).toNat ≤ m)
  | _ => false
theorem ge_of {w : Nat} {e : Int} (h : geB w e = true) : Ge double w e := by
  unfold geB at h
  split at h
  · rename_i m i e'
    simp at h
    exact ⟨m, i, e', h.1, h.2⟩
  · cases h

/-! ### the same of an option -/
/-- a number (no NaN, no infinity) of at most '2 ^ e' -/
def OB (o : Option Nat) (e : Int) : Prop := ∃ x, o = some x ∧ Bd double x e
def OG (o : Option Nat) (e : Int) : Prop := ∃ x, o = some x ∧ Ge double x e

theorem OB.mono {o : Option Nat} {e e' : Int} (h : OB o e) (he : e ≤ e') : OB o e' := let ⟨x, h1, h2⟩ := h; ⟨x, h1, h2.mono he⟩
theorem OB.add {a b : Option Nat} {e : Int} (ha : OB a e) (hb : OB b e) (h1 : -1022 ≤ e) (h2 : e ≤ 1022) : OB (oop .add .f64 a b) (e + 1) := by
  obtain ⟨x, rfl, hx⟩ := ha; obtain ⟨y, rfl, hy⟩ := hb
  exact bd_add hx hy h1 h2
theorem OB.sub {a b : Option Nat} {e : Int} (ha : OB a e) (hb : OB b e) (h1 : -1022 ≤ e) (h2 : e ≤ 1022) : OB (oop .sub .f64 a b) (e + 1) := by
  obtain ⟨x, rfl, hx⟩ := ha; obtain ⟨y, rfl, hy⟩ := hb
  exact bd_sub hx hy h1 h2
theorem OB.mul {a b : Option Nat} {e e' : Int} (ha : OB a e) (hb : OB b e') (h1 : -1021 ≤ e + e') (h2 : e + e' ≤ 1023) : OB (oop .mul .f64 a b) (e + e') := by
  obtain ⟨x, rfl, hx⟩ := ha; obtain ⟨y, rfl, hy⟩ := hb
  exact bd_mul hx hy h1 h2
theorem OB.quo {a b : Option Nat} {e e' : Int} (ha : OB a e) (hb : OG b e') (h1 : -1021 ≤ e - e') (h2 : e - e' ≤ 1023) : OB (oop .quo .f64 a b) (e - e') := by
  obtain ⟨x, rfl, hx⟩ := ha; obtain ⟨y, rfl, hy⟩ := hb
  exact bd_div hx hy.far h1 h2
theorem OB.of {w : Nat} {e : Int} (h : bdB w e = true) : OB (some w) e := ⟨w, rfl, bd_of h⟩
theorem OG.of {w : Nat} {e : Int} (h : geB w e = true) : OG (some w) e := ⟨w, rfl, ge_of h⟩
theorem OB.fits {o : Option Nat} (h : OB o 127) : ∀ v, o = some v → Fits v := by
  obtain ⟨x, rfl, hx⟩ := h
  intro v hv; cases hv
  exact .inr hx

/-- what is positive, and at least '2 ^ e', added to what is not negative -/
theorem ge_add {x y : Nat} {e c : Int} (hx : Ge double x e) (hy : Pos double y) (bx : Bd double x c) (by_ : Bd double y c) (h1 : -1021 ≤ e) (h2 : e ≤ 1022) (h3 : -1022 ≤ c) (h4 : c ≤ 1022) : ∃ r, double.add x y = some r ∧ Ge double r e ∧ Bd double r (c + 1) := by
  obtain ⟨m, i, ex, vx⟩ := hx
  obtain ⟨n, j, ey⟩ := hy
  obtain ⟨s, m1, i1, ex1, vx1⟩ := bx
  obtain ⟨t, n1, j1, ey1, vy1⟩ := by_
  rw [ex] at ex1; cases ex1
  rw [ey] at ey1; cases ey1
  have hv := sum_vle (s := false) (t := false) vx1 vy1
  have hs : signed false m (i - min i j).toNat + signed false n (j - min i j).toNat = ((m * 2 ^ (i - min i j).toNat + n * 2 ^ (j - min i j).toNat : Nat) : Int) := by
    unfold signed; simp [Nat.shiftLeft_eq]
  rw [hs, Int.natAbs_natCast] at hv
  have hg : Vge (m * 2 ^ (i - min i j).toNat + n * 2 ^ (j - min i j).toNat) (min i j) e := by
    obtain ⟨hm, hle⟩ := vx
    have h5 : 0 < m * 2 ^ (i - min i j).toNat := Nat.mul_pos (Nat.pos_of_ne_zero hm) (Nat.two_pow_pos _)
    refine ⟨by omega, Nat.le_trans ?_ (Nat.le_add_right _ _)⟩
    refine Nat.le_trans ?_ (Nat.mul_le_mul_right _ hle)
    rw [← Nat.pow_add]
    exact Nat.pow_le_pow_right (by omega) (by omega)
  obtain ⟨m', i', e', v'⟩ := ge_nearest (f := double) (s := false) hg (by rw [dl, df]; omega) hv (by rw [dl, df]; omega) (rung_lt (c + 1) (by omega) (by omega)) (Nat.le_of_lt (rung_lt e (by omega) (by omega)))
  obtain ⟨m2, i2, e2, v2⟩ := bd_write (s := false) hv (by omega) (by omega)
  refine ⟨double.nearest false (m * 2 ^ (i - min i j).toNat + n * 2 ^ (j - min i j).toNat) (min i j), ?_, ⟨_, _, e', v'⟩, ⟨_, _, _, e2, v2⟩⟩
  unfold Format.add
  rw [ex, ey]
  simp only [Datum.sum, Option.map_some]
  rw [hs, Int.natAbs_natCast]
  congr 1
  show double.nearest _ _ _ = _
  congr 1
  split
  · rfl
  · rw [decide_eq_false_iff_not]; exact Int.not_lt.2 (Int.natCast_nonneg _)

theorem pos_nearest {m : Nat} {p e : Int} (h : Vle m p e) (h1 : -1021 ≤ e) (h2 : e ≤ 1023) : Pos double (double.nearest false m p) := by
  obtain ⟨m', i', e', _⟩ := bd_write (s := false) h h1 h2
  exact ⟨m', i', e'⟩

/-- a square is not negative -/
theorem pos_sq {x : Nat} {e : Int} (h : Bd double x e) (h1 : -1021 ≤ e + e) (h2 : e + e ≤ 1023) : ∃ r, double.mul x x = some r ∧ Pos double r ∧ Bd double r (e + e) := by
  obtain ⟨s, m, i, ex, vx⟩ := h
  have hv := vle_mul vx vx
  obtain ⟨m', i', e', v'⟩ := bd_write (s := s ^^ s) hv h1 h2
  refine ⟨double.nearest (s ^^ s) (m * m) (i + i), ?_, ?_, ⟨_, _, _, e', v'⟩⟩
  · unfold Format.mul
    rw [ex]
    rfl
  · have hs : (s ^^ s) = false := by cases s <;> rfl
    rw [hs]
    exact pos_nearest hv h1 h2

end Go.FL
