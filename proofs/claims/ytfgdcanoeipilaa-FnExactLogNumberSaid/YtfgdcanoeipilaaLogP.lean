/-
  The logarithm's plain law: the two scalings in words of float64, the sum's rounds, what they are bounded by.
  No conditions but those that each lemma names.
-/
import Derived.Test.YtfgdcanoeipilaaBd
namespace Go.FL
open Ieee

/-! ### the logarithm's plain law -/
def one64 : Nat := 4607182418800017408
def two64 : Nat := 4611686018427387904
def lo64 : Nat := 4604930618986332160
def ln2 : Nat := 4604418534313441775
/-- the float64 of an integer -/
def flI (n : Int) : Nat := FloatKind.f64.nearest n

theorem sg_small {x : Nat} (h : x < 9223372036854775808) : sg double x = false := by
  unfold sg
  rw [show double.signWeight = 9223372036854775808 by decide, Nat.div_eq_of_lt h]; rfl
theorem rg_small {x : Nat} (h : x < 9223372036854775808) : rg double x = x := by
  unfold rg
  rw [show double.signWeight = 9223372036854775808 by decide, Nat.mod_eq_of_lt h]
theorem rg64 (x : Nat) : rg double x = x % 9223372036854775808 := by unfold rg; rw [show double.signWeight = 9223372036854775808 by decide]

theorem read_norm (n : Nat) (h1 : 4503599627370496 ≤ n) (h2 : n < 9218868437227405312) : double.read n = .number false (4503599627370496 + n % 4503599627370496) (-1074 + (n / 4503599627370496 - 1 : Nat)) := by
  have hs := sg_small (x := n) (by omega)
  have hr := rg_small (x := n) (by omega)
  unfold sg at hs
  unfold rg at hr
  unfold Format.read
  simp only [hs, hr]
  rw [db, di, dl, if_neg (by omega), if_pos h2]

theorem scaled (n n' : Nat) (p : Int) (k : Nat) (h1' : 4503599627370496 ≤ n') (h2' : n' < 9218868437227405312)
    (hm : n' % 4503599627370496 = n % 4503599627370496) (hp : p = -1074 + ((n' / 4503599627370496 - 1 : Nat) : Int) - (k : Int)) :
    double.nearest false ((4503599627370496 + n % 4503599627370496) * 2 ^ k) p = n' := by
  have e := read_norm n' h1' h2'
  rw [hm] at e
  have := nearest_read double n' (by rw [show double.width = 64 by decide]; omega) (by rw [rg_small (by omega), di]; omega) e
  rw [nearest_rnd, hp, rnd_scale, ← nearest_rnd, this]

theorem mul_two (n : Nat) (h1 : 4503599627370496 ≤ n) (h2 : n + 4503599627370496 < 9218868437227405312) : double.mul n two64 = some (n + 4503599627370496) := by
  unfold Format.mul
  rw [read_norm n h1 (by omega), show double.read two64 = .number false (2 ^ 52) (-51) by decide]
  simp only [Datum.product, Option.map_some]
  refine congrArg some ?_
  refine scaled n (n + 4503599627370496) _ 52 (by omega) h2 (by omega) ?_
  omega

theorem quo_two64 (n : Nat) (h1 : 9007199254740992 ≤ n) (h2 : n < 9218868437227405312) : double.div n two64 = some (n - 4503599627370496) := by
  rw [div_mul double (by decide) n two64 4602678819172646912 52 (-51) (-53) (by decide) (by decide) (by decide)]
  unfold Format.mul
  rw [read_norm n (by omega) (by omega), show double.read 4602678819172646912 = .number false (2 ^ 52) (-53) by decide]
  simp only [Datum.product, Option.map_some]
  have hc : ∀ a b : Nat, 2 ^ 52 * (a + b) = (a + b) * 2 ^ 52 := fun a b => Nat.mul_comm _ _
  rw [hc]
  refine congrArg some ?_
  refine scaled n (n - 4503599627370496) _ 52 (by omega) (by omega) (by omega) ?_
  omega

theorem flI_step_all : (List.range 1100).all (fun k => (double.add (flI (k : Int)) one64 == some (flI ((k : Int) + 1))) && (double.sub (flI (-(k : Int))) one64 == some (flI (-(k : Int) - 1))) && (double.add (flI (-(k : Int) - 1)) one64 == some (flI (-(k : Int))))
    && bdB (flI (k : Int)) 11 && bdB (flI (-(k : Int))) 11) = true := by decide +kernel

theorem flI_up {e : Int} (h : -1100 ≤ e) (h' : e < 1100) : double.add (flI e) one64 = some (flI (e + 1)) := by
  rcases Int.lt_or_le e 0 with hn | hn
  · have := List.all_eq_true.1 flI_step_all (-e - 1).toNat (List.mem_range.2 (by omega))
    simp only [Bool.and_eq_true, beq_iff_eq] at this
    have h3 := this.1.1.2
    rw [show -(((-e - 1).toNat : Nat) : Int) - 1 = e by omega, show -(((-e - 1).toNat : Nat) : Int) = e + 1 by omega] at h3
    exact h3
  · have := List.all_eq_true.1 flI_step_all e.toNat (List.mem_range.2 (by omega))
    simp only [Bool.and_eq_true, beq_iff_eq] at this
    have h3 := this.1.1.1.1
    rw [show ((e.toNat : Nat) : Int) = e by omega] at h3
    exact h3
theorem flI_down {e : Int} (h : -1100 < e) (h' : e ≤ 0) : double.sub (flI e) one64 = some (flI (e - 1)) := by
  have := List.all_eq_true.1 flI_step_all (-e).toNat (List.mem_range.2 (by omega))
  simp only [Bool.and_eq_true, beq_iff_eq] at this
  have h3 := this.1.1.1.2
  rw [show -(((-e).toNat : Nat) : Int) = e by omega] at h3
  exact h3
theorem flI_bd {e : Int} (h : -1100 < e) (h' : e < 1100) : OB (some (flI e)) 11 := by
  rcases Int.lt_or_le e 0 with hn | hn
  · have := List.all_eq_true.1 flI_step_all (-e).toNat (List.mem_range.2 (by omega))
    simp only [Bool.and_eq_true, beq_iff_eq] at this
    have h3 := this.2
    rw [show -(((-e).toNat : Nat) : Int) = e by omega] at h3
    exact OB.of h3
  · have := List.all_eq_true.1 flI_step_all e.toNat (List.mem_range.2 (by omega))
    simp only [Bool.and_eq_true, beq_iff_eq] at this
    have h3 := this.1.2
    rw [show ((e.toNat : Nat) : Int) = e by omega] at h3
    exact OB.of h3

def logE (n : Nat) : Int := ((n : Int) - 4604930618986332160) / 4503599627370496
def logM (n : Nat) : Nat := ((n : Int) - logE n * 4503599627370496).toNat
theorem log_split {n m : Nat} {e : Int} (h : (n : Int) = m + e * 4503599627370496) (h1 : 4604930618986332160 ≤ m) (h2 : m < 4609434218613702656) : m = logM n ∧ e = logE n := by
  unfold logM logE
  omega
theorem log_bounds {n : Nat} (h1 : 4503599627370496 ≤ n) (h2 : n < 9218868437227405312) : -1025 ≤ logE n ∧ logE n ≤ 1025 ∧ 4604930618986332160 ≤ logM n ∧ logM n < 4609434218613702656 := by
  unfold logM logE
  omega

/-- the sum's rounds -/
def qL (u : Option Nat) : Nat → Option Nat
  | 0 => some 0
  | j + 1 => oop .add .f64 (oop .quo .f64 (some one64) (some (flI (25 - 2 * (j : Int))))) (oop .mul .f64 u (qL u j))
def logS (m : Nat) : Option Nat := oop .quo .f64 (oop .sub .f64 (some m) (some one64)) (oop .add .f64 (some m) (some one64))
def logFin (m : Nat) (e : Int) : Option Nat :=
  oop .add .f64 (oop .mul .f64 (some two64) (oop .mul .f64 (logS m) (qL (oop .mul .f64 (logS m) (logS m)) 13))) (oop .mul .f64 (some (flI e)) (some ln2))
/-- the logarithm of a float64, up to which NaN it is -/
def wlog (o : Option Nat) : Option Nat := o.bind fun x =>
  if rg double x = 0 then some 18442240474082181120 else if sg double x then none else if rg double x = 9218868437227405312 then some x else logFin (logM (rg double x)) (logE (rg double x))

theorem bd_logM {m : Nat} (h1 : 4604930618986332160 ≤ m) (h2 : m < 4609434218613702656) : Bd double m 1 ∧ Pos double m := by
  have e := read_norm m (by omega) (by omega)
  refine ⟨⟨_, _, _, e, .inr ⟨by omega, ?_⟩⟩, ⟨_, _, e⟩⟩
  have : (53 : Nat) ≤ (1 - (-1074 + ((m / 4503599627370496 - 1 : Nat) : Int))).toNat := by omega
  refine Nat.le_trans ?_ (Nat.pow_le_pow_right (by omega) this)
  rw [show (2 : Nat) ^ 53 = 9007199254740992 by decide]
  omega

theorem qL_bd {u : Option Nat} (hu : OB u 6) : ∀ j, j ≤ 13 → OB (qL u j) (7 * j)
  | 0, _ => OB.of (by decide +kernel)
  | j + 1, hj => by
    have h1 : OB (oop .quo .f64 (some one64) (some (flI (25 - 2 * (j : Int))))) 0 := by
      have hk : geB (flI (25 - 2 * (j : Int))) 0 = true := by
        have : j < 13 := hj
        rcases (show j = 0 ∨ j = 1 ∨ j = 2 ∨ j = 3 ∨ j = 4 ∨ j = 5 ∨ j = 6 ∨ j = 7 ∨ j = 8 ∨ j = 9 ∨ j = 10 ∨ j = 11 ∨ j = 12 by omega) with rfl | rfl | rfl | rfl | rfl | rfl | rfl | rfl | rfl | rfl | rfl | rfl | rfl <;> decide +kernel
      have := OB.quo (a := some one64) (e := 0) (OB.of (by decide +kernel)) (OG.of hk) (by omega) (by omega)
      exact this.mono (by omega)
    have h2 := OB.mul hu (qL_bd hu j (by omega)) (by omega) (by omega)
    have h3 := OB.add (h1.mono (show (0 : Int) ≤ 6 + 7 * j by omega)) h2 (by omega) (by omega)
    exact h3.mono (by omega)

theorem logFin_bd {m : Nat} {e : Int} (h1 : 4604930618986332160 ≤ m) (h2 : m < 4609434218613702656) (h3 : -1100 < e) (h4 : e < 1100) : OB (logFin m e) 127 := by
  obtain ⟨b, p⟩ := bd_logM h1 h2
  have hs : OB (logS m) 2 := by
    have ha := OB.sub (a := some m) (b := some one64) (e := 1) ⟨_, rfl, b⟩ (OB.of (by decide +kernel)) (by omega) (by omega)
    obtain ⟨r, hr, hg, _⟩ := ge_add (x := one64) (y := m) (e := 0) (c := 1) (ge_of (by decide +kernel)) p (bd_of (by decide +kernel)) b (by omega) (by omega) (by omega) (by omega)
    have hc : oop .add .f64 (some m) (some one64) = some r := by
      show double.add m one64 = some r
      rw [← hr]
      unfold Format.add
      obtain ⟨mm, ii, ee⟩ := p
      rw [ee, show double.read one64 = .number false (2 ^ 52) (-52) by decide +kernel]
      simp only [Datum.sum, Option.map_some]
      rw [Int.min_comm, Int.add_comm]
    have := OB.quo ha ⟨r, hc, hg⟩ (by omega) (by omega)
    exact this.mono (by omega)
  have hu := (OB.mul hs hs (by omega) (by omega)).mono (show (2 : Int) + 2 ≤ 6 by omega)
  have hq := qL_bd hu 13 (by omega)
  have h5 := OB.mul hs hq (by omega) (by omega)
  have h6 := OB.mul (a := some two64) (e := 1) (OB.of (by decide +kernel)) h5 (by omega) (by omega)
  have h7 := OB.mul (flI_bd h3 h4) (OB.of (w := ln2) (e := 0) (by decide +kernel)) (by omega) (by omega)
  have h8 := OB.add h6 (h7.mono (show (11 : Int) + 0 ≤ 1 + (2 + 7 * (13 : Nat)) by omega)) (by omega) (by omega)
  exact h8.mono (by omega)

theorem wlog_fits {x : Nat} (h : 4503599627370496 ≤ rg double x ∨ rg double x = 0) : ∀ v, wlog (ab .f64 x) = some v → Fits v := by
  intro v hv
  cases ha : ab .f64 x with
  | none => rw [ha] at hv; cases hv
  | some y =>
    obtain ⟨hle, rfl⟩ := ab_some.1 ha
    rw [ha] at hv
    change (if rg double x = 0 then some 18442240474082181120 else if sg double x then none else if rg double x = 9218868437227405312 then some x else logFin (logM (rg double x)) (logE (rg double x))) = some v at hv
    by_cases h0 : rg double x = 0
    · rw [if_pos h0] at hv; cases hv; left; decide
    · rw [if_neg h0] at hv
      by_cases hs : sg double x = true
      · rw [if_pos hs] at hv; cases hv
      · rw [if_neg hs] at hv
        by_cases hi : rg double x = 9218868437227405312
        · rw [if_pos hi] at hv; cases hv; left; rw [hi, di]
        · rw [if_neg hi] at hv
          change rg double x ≤ double.infRung at hle
          rw [di] at hle
          obtain ⟨b1, b2, b3, b4⟩ := log_bounds (n := rg double x) (by omega) (by omega)
          exact (logFin_bd b3 b4 (by omega) (by omega)).fits v hv

/-- a float32 made float64 is nought or no subnormal -/
theorem wide_norm (b : Nat) (h : rg single b ≤ single.infRung) : 4503599627370496 ≤ rg double (wide b) ∨ rg double (wide b) = 0 := by
  rcases Nat.lt_or_eq_of_le h with h | h
  · obtain ⟨_, h2, h3⟩ := wide_num b h
    rcases Nat.lt_or_ge (rg double (wide b)) 4503599627370496 with hl | hl
    · right
      rw [show mg double (rg double (wide b)) = rg double (wide b) by unfold mg; rw [if_pos (by rw [db]; exact hl)]] at h3
      by_cases hz : mg single (rg single b) = 0
      · rw [hz, Nat.zero_mul] at h3; exact h3
      · exfalso
        have h4 : fine ≤ rg double (wide b) := by rw [h3]; exact Nat.le_mul_of_pos_left _ (Nat.pos_of_ne_zero hz)
        have h5 : 4503599627370496 ≤ fine := by decide +kernel
        omega
    · exact .inl hl
  · left; rw [(wide_inf b h).2, di]; omega


/-! ### the two scalings, a state each round -/
def hi64 : Nat := 4609434218613702656
def fltOf : Value → Nat
  | .float _ b => b
  | _ => 0
/-- the half, in words -/
def dn64 (m : Nat) : Nat := m - 4503599627370496
/-- the program's first scaling: upwards -/
structure LogU (x m : Nat) (e : Int) : Prop where
  eq : (x : Int) = m + e * 4503599627370496
  lo : 4503599627370496 ≤ x ∧ 4503599627370496 ≤ m
  hi : x < 9218868437227405312 ∧ m < 9218868437227405312
  le : e ≤ 0
  or : e = 0 ∨ m < 4609434218613702656
/-- the program's second scaling: downwards -/
structure LogD (x m : Nat) (e : Int) : Prop where
  eq : (x : Int) = m + e * 4503599627370496
  lo : 4503599627370496 ≤ x ∧ 4604930618986332160 ≤ m
  hi : x < 9218868437227405312 ∧ m < 9218868437227405312
  or : 0 ≤ e ∨ m < 4609434218613702656
/-- the specification's first scaling: downwards -/
structure LogD' (x m : Nat) (e : Int) : Prop where
  eq : (x : Int) = m + e * 4503599627370496
  lo : 4503599627370496 ≤ x ∧ 4503599627370496 ≤ m
  hi : x < 9218868437227405312 ∧ m < 9218868437227405312
  ge : 0 ≤ e
  or : e = 0 ∨ 4604930618986332160 ≤ m
/-- the specification's second scaling: upwards -/
structure LogU' (x m : Nat) (e : Int) : Prop where
  eq : (x : Int) = m + e * 4503599627370496
  lo : 4503599627370496 ≤ x ∧ 4503599627370496 ≤ m
  hi : x < 9218868437227405312 ∧ m < 4609434218613702656
  or : e ≤ 0 ∨ 4604930618986332160 ≤ m

/-- below, at least, of words -/
theorem ord64 {x y : Nat} (hx : x < 9218868437227405313) (hy : y < 9218868437227405313) : FloatKind.f64.format.order x y = some (compare (x : Int) (y : Int)) := by
  have e := order_key double (by decide) x y (by rw [rg_small (by omega), di]; omega) (by rw [rg_small (by omega), di]; omega)
  unfold key at e
  rw [sg_small (by omega), sg_small (by omega), rg_small (by omega), rg_small (by omega)] at e
  exact e
theorem lss_lo {m : Nat} (h : m < 9218868437227405312) (b : Bool) (hb : decide (m < 4604930618986332160) = b) : (FloatKind.f64.format.order m 4604930618986332160 == some .lt) = b := by
  rw [ord64 (by omega) (by omega), ← hb]
  rcases Nat.lt_trichotomy m 4604930618986332160 with h | h | h
  · rw [cmp_lt (by omega), decide_eq_true h]; rfl
  · rw [cmp_eq (by omega), decide_eq_false (by omega)]; rfl
  · rw [cmp_gt (by omega), decide_eq_false (by omega)]; rfl
theorem lss_hi {m : Nat} (h : m < 9218868437227405312) : ∃ o, FloatKind.f64.format.order m 4609434218613702656 = some o ∧ (m < 4609434218613702656 → o = .lt) ∧ (¬ m < 4609434218613702656 → o = .eq ∨ o = .gt) := by
  refine ⟨_, ord64 (by omega) (by omega), fun h => ?_, fun h => ?_⟩
  · exact cmp_lt (by omega)
  · rcases Nat.lt_or_eq_of_le (Nat.not_lt.1 h) with h | h
    · right; exact cmp_gt (by omega)
    · left; exact cmp_eq (by omega)

theorem LogU.start {x : Nat} (h1 : 4503599627370496 ≤ x) (h2 : x < 9218868437227405312) : LogU x x 0 := ⟨by omega, ⟨h1, h1⟩, ⟨h2, h2⟩, by omega, .inl rfl⟩
theorem LogU.mul {x m : Nat} {e : Int} (h : LogU x m e) (hm : m < 4604930618986332160) : oop .mul .f64 (some m) (some two64) = some (m + 4503599627370496) := by
  exact mul_two m h.lo.2 (by omega)
theorem LogU.sub {x m : Nat} {e : Int} (h : LogU x m e) (hm : m < 4604930618986332160) : oop .sub .f64 (some (flI e)) (some one64) = some (flI (e - 1)) := by
  obtain ⟨h1, h2, h3, h4, h5⟩ := h
  exact flI_down (by omega) h4
theorem LogU.step {x m : Nat} {e : Int} (h : LogU x m e) (hm : m < 4604930618986332160) : LogU x (m + 4503599627370496) (e - 1) := by
  obtain ⟨h1, h2, h3, h4, h5⟩ := h
  exact ⟨by omega, by omega, by omega, by omega, .inr (by omega)⟩
theorem LogU.low {x m : Nat} {e : Int} (_ : LogU x m e) (hm : m < 4604930618986332160) : hi64 - (m + 4503599627370496) < hi64 - m := by unfold hi64; omega
theorem LogU.done {x m : Nat} {e : Int} (h : LogU x m e) (hm : ¬ m < 4604930618986332160) : LogD x m e := by
  obtain ⟨h1, h2, h3, h4, h5⟩ := h
  exact ⟨by omega, by omega, by omega, by omega⟩
theorem LogD.quo {x m : Nat} {e : Int} (h : LogD x m e) (hm : ¬ m < 4609434218613702656) : oop .quo .f64 (some m) (some two64) = some (dn64 m) := by
  exact quo_two64 m (by have := h.lo; omega) h.hi.2
theorem LogD.add {x m : Nat} {e : Int} (h : LogD x m e) (hm : ¬ m < 4609434218613702656) : oop .add .f64 (some (flI e)) (some one64) = some (flI (e + 1)) := by
  obtain ⟨h1, h2, h3, h4⟩ := h
  exact flI_up (by omega) (by omega)
theorem LogD.step {x m : Nat} {e : Int} (h : LogD x m e) (hm : ¬ m < 4609434218613702656) : LogD x (dn64 m) (e + 1) := by
  unfold dn64
  obtain ⟨h1, h2, h3, h4⟩ := h
  exact ⟨by omega, by omega, by omega, .inl (by omega)⟩
theorem LogD.low {x m : Nat} {e : Int} (_ : LogD x m e) (hm : ¬ m < 4609434218613702656) : dn64 m < m := by unfold dn64; omega
theorem LogD.fin {x m : Nat} {e : Int} (h : LogD x m e) (hm : m < 4609434218613702656) : m = logM x ∧ e = logE x := log_split h.eq h.lo.2 hm

theorem LogD'.start {x : Nat} (h1 : 4503599627370496 ≤ x) (h2 : x < 9218868437227405312) : LogD' x x 0 := ⟨by omega, ⟨h1, h1⟩, ⟨h2, h2⟩, by omega, .inl rfl⟩
theorem LogD'.quo {x m : Nat} {e : Int} (h : LogD' x m e) (hm : ¬ m < 4609434218613702656) : oop .quo .f64 (some m) (some two64) = some (dn64 m) := by
  exact quo_two64 m (by omega) h.hi.2
theorem LogD'.step {x m : Nat} {e : Int} (h : LogD' x m e) (hm : ¬ m < 4609434218613702656) : LogD' x (dn64 m) (e + 1) := by
  unfold dn64
  obtain ⟨h1, h2, h3, h4, h5⟩ := h
  exact ⟨by omega, by omega, by omega, by omega, .inr (by omega)⟩
theorem LogD'.low {x m : Nat} {e : Int} (_ : LogD' x m e) (hm : ¬ m < 4609434218613702656) : dn64 m < m := by unfold dn64; omega
theorem LogD'.small {x m : Nat} {e : Int} (h : LogD' x m e) : 0 ≤ e ∧ e ≤ 3000 := by
  obtain ⟨h1, h2, h3, h4, h5⟩ := h
  omega
theorem LogD'.done {x m : Nat} {e : Int} (h : LogD' x m e) (hm : m < 4609434218613702656) : LogU' x m e := by
  obtain ⟨h1, h2, h3, h4, h5⟩ := h
  exact ⟨by omega, by omega, by omega, by omega⟩
theorem LogU'.mul {x m : Nat} {e : Int} (h : LogU' x m e) (hm : m < 4604930618986332160) : oop .mul .f64 (some m) (some two64) = some (m + 4503599627370496) := by
  exact mul_two m h.lo.2 (by omega)
theorem LogU'.step {x m : Nat} {e : Int} (h : LogU' x m e) (hm : m < 4604930618986332160) : LogU' x (m + 4503599627370496) (e - 1) := by
  obtain ⟨h1, h2, h3, h4⟩ := h
  exact ⟨by omega, by omega, by omega, .inl (by omega)⟩
theorem LogU'.low {x m : Nat} {e : Int} (_ : LogU' x m e) (hm : m < 4604930618986332160) : hi64 - (m + 4503599627370496) < hi64 - m := by unfold hi64; omega
theorem LogU'.small {x m : Nat} {e : Int} (h : LogU' x m e) : -3000 ≤ e ∧ e ≤ 3000 := by
  obtain ⟨h1, h2, h3, h4⟩ := h
  omega
theorem LogU'.fin {x m : Nat} {e : Int} (h : LogU' x m e) (hm : ¬ m < 4604930618986332160) : m = logM x ∧ e = logE x := log_split h.eq (Nat.not_lt.1 hm) h.hi.2

end Go.FL
