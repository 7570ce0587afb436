/-
  Plain lemmas on floating-point words: how two of them stand to each other, which NaN a result is left out, what float64 makes of a float32, when a number needs no rounding, bounds by powers of two; and the walk's laws for arithmetic on floats.
  No conditions but those that each lemma names.
-/
import Derived.Laws.FloatArith
import Derived.Laws.NewFold
import Derived.Deep.Draws
import Derived.WalkKit
import Derived.ProofKit
import Derived.Deep.Slices
import Derived.Lib.SmallJoins
import Derived.Laws.Cover2
import Derived.Orders
namespace Go.FL
open Ieee

/-! ### a word of a format: its sign and its rung -/
def sg (f : Format) (w : Nat) : Bool := w / f.signWeight % 2 == 1
def rg (f : Format) (w : Nat) : Nat := w % f.signWeight
def isN (f : Format) (w : Nat) : Bool := decide (f.infRung < rg f w)
def key (f : Format) (w : Nat) : Int := if sg f w then -(rg f w : Int) else (rg f w : Int)

theorem binade_pos (f : Format) : 0 < f.binade := Nat.two_pow_pos _
theorem sw_pos (f : Format) : 0 < f.signWeight := Nat.two_pow_pos _

/-- the number of a rung, in units of the least place -/
def mg (f : Format) (r : Nat) : Nat := if r < f.binade then r else (f.binade + r % f.binade) * 2 ^ (r / f.binade - 1)

theorem mg_succ (f : Format) (r : Nat) : mg f r < mg f (r + 1) := by
  have hB := binade_pos f
  generalize hb : f.binade = B at hB
  unfold mg
  rw [hb]
  by_cases h1 : r + 1 < B
  · rw [if_pos (by omega), if_pos h1]; omega
  · by_cases h2 : r < B
    · have : r + 1 = B := by omega
      rw [if_pos h2, if_neg h1, this]
      simp [Nat.mod_self, Nat.div_self hB]
      omega
    · rw [if_neg h2, if_neg h1]
      have hq : 1 ≤ r / B := (Nat.le_div_iff_mul_le hB).2 (by omega)
      have hr := Nat.div_add_mod r B
      have hs := Nat.mod_lt r hB
      generalize hq' : r / B = q at *
      generalize hs' : r % B = s at *
      by_cases h3 : s + 1 < B
      · have e1 : (r + 1) / B = q := by
          rw [← hr, Nat.add_assoc, Nat.mul_add_div hB, Nat.div_eq_of_lt h3]; omega
        have e2 : (r + 1) % B = s + 1 := by
          rw [← hr, Nat.add_assoc, Nat.mul_add_mod, Nat.mod_eq_of_lt h3]
        rw [e1, e2]
        exact Nat.mul_lt_mul_of_pos_right (by omega) (Nat.two_pow_pos _)
      · have h4 : s + 1 = B := by omega
        have e1 : (r + 1) / B = q + 1 := by
          rw [← hr, Nat.add_assoc, Nat.mul_add_div hB, h4, Nat.div_self hB]
        have e2 : (r + 1) % B = 0 := by
          rw [← hr, Nat.add_assoc, Nat.mul_add_mod, h4, Nat.mod_self]
        rw [e1, e2]
        obtain ⟨p, rfl⟩ : ∃ p, q = p + 1 := ⟨q - 1, by omega⟩
        simp only [Nat.add_sub_cancel, Nat.add_zero]
        rw [Nat.pow_succ, Nat.mul_comm (2 ^ p) 2, ← Nat.mul_assoc]
        exact Nat.mul_lt_mul_of_pos_right (by omega) (Nat.two_pow_pos _)

theorem mg_mono {f : Format} {r s : Nat} (h : r < s) : mg f r < mg f s := by
  induction s with
  | zero => omega
  | succ s ih =>
    rcases Nat.lt_succ_iff_lt_or_eq.1 h with h | rfl
    · exact Nat.lt_trans (ih h) (mg_succ f s)
    · exact mg_succ f _

theorem mg_le {f : Format} {r s : Nat} (h : r ≤ s) : mg f r ≤ mg f s := by
  rcases Nat.lt_or_eq_of_le h with h | rfl
  · exact Nat.le_of_lt (mg_mono h)
  · exact Nat.le_refl _

theorem mg_lt_iff {f : Format} {r s : Nat} : mg f r < mg f s ↔ r < s := by
  constructor
  · intro h
    rcases Nat.lt_or_ge r s with h' | h'
    · exact h'
    · have := mg_le (f := f) h'; omega
  · exact mg_mono

theorem mg_inj {f : Format} {r s : Nat} (h : mg f r = mg f s) : r = s := by
  rcases Nat.lt_trichotomy r s with h' | h' | h'
  · have := mg_mono (f := f) h'; omega
  · exact h'
  · have := mg_mono (f := f) h'; omega

theorem mg_zero (f : Format) : mg f 0 = 0 := by unfold mg; rw [if_pos (binade_pos f)]

/-- A finite word, read. -/
theorem read_num (f : Format) (w : Nat) (h : rg f w < f.infRung) :
    ∃ m i, f.read w = .number (sg f w) m i ∧ f.leastPlace ≤ i ∧ m * 2 ^ (i - f.leastPlace).toNat = mg f (rg f w) := by
  unfold Format.read
  simp only
  change rg f w < f.infRung at h
  by_cases hb : rg f w < f.binade
  · refine ⟨rg f w, f.leastPlace, ?_, Int.le_refl _, ?_⟩
    · have hb' : w % f.signWeight < f.binade := hb
      rw [if_pos hb']; rfl
    · rw [Int.sub_self]; simp [mg, hb]
  · refine ⟨f.binade + rg f w % f.binade, f.leastPlace + ((rg f w / f.binade - 1 : Nat) : Int), ?_, by omega, ?_⟩
    · have hb' : ¬ w % f.signWeight < f.binade := hb
      have h' : w % f.signWeight < f.infRung := h
      rw [if_neg hb', if_pos h']; rfl
    · rw [show f.leastPlace + ((rg f w / f.binade - 1 : Nat) : Int) - f.leastPlace = ((rg f w / f.binade - 1 : Nat) : Int) by omega]
      simp [mg, hb]

theorem binade_le_inf (f : Format) (he : 1 ≤ f.exponentBits) : f.binade ≤ f.infRung := by
  unfold Format.infRung
  have : 2 ^ 1 ≤ 2 ^ f.exponentBits := Nat.pow_le_pow_right (by omega) he
  exact Nat.le_mul_of_pos_left _ (by omega)

theorem read_inf (f : Format) (he : 1 ≤ f.exponentBits) (w : Nat) (h : rg f w = f.infRung) : f.read w = .infinity (sg f w) := by
  unfold Format.read
  have := binade_le_inf f he
  have h' : w % f.signWeight = f.infRung := h
  simp only [h']
  rw [if_neg (by omega), if_neg (by omega), if_pos trivial]; rfl

theorem read_nan (f : Format) (he : 1 ≤ f.exponentBits) (w : Nat) (h : f.infRung < rg f w) : f.read w = .nan (sg f w) (rg f w - f.infRung) := by
  unfold Format.read
  have := binade_le_inf f he
  have h' : f.infRung < w % f.signWeight := h
  simp only
  rw [if_neg (by omega), if_neg (by omega), if_neg (by omega)]; rfl

def sz (s : Bool) (n : Nat) : Int := if s then -(n : Int) else (n : Int)

theorem signed_mul (s : Bool) (m up a : Nat) : signed s m up * (2 ^ a : Nat) = sz s (m * 2 ^ (up + a)) := by
  unfold signed sz
  rw [Nat.shiftLeft_eq, Nat.pow_add, ← Nat.mul_assoc]
  generalize 2 ^ a = c
  generalize m * 2 ^ up = d
  cases s
  · simp
  · simp [Int.neg_mul]

theorem compare_mul (x y : Int) (c : Nat) (hc : 0 < c) : compare (x * (c : Int)) (y * (c : Int)) = compare x y := by
  show compareOfLessAndEq _ _ = compareOfLessAndEq _ _
  unfold compareOfLessAndEq
  have hc' : (0 : Int) < c := by omega
  have h1 : x * (c : Int) < y * (c : Int) ↔ x < y := ⟨fun h => Int.lt_of_mul_lt_mul_right h (by omega), fun h => Int.mul_lt_mul_of_pos_right h hc'⟩
  have h2 : x * (c : Int) = y * (c : Int) ↔ x = y := ⟨fun h => Int.eq_of_mul_eq_mul_right (by omega) h, fun h => by rw [h]⟩
  by_cases a : x < y
  · rw [if_pos a, if_pos (h1.2 a)]
  · rw [if_neg a, if_neg (fun h => a (h1.1 h))]
    by_cases b : x = y
    · rw [if_pos b, if_pos (h2.2 b)]
    · rw [if_neg b, if_neg (fun h => b (h2.1 h))]

theorem cmp_congr {x y x' y' : Int} (h1 : x < y ↔ x' < y') (h2 : x = y ↔ x' = y') : compare x y = compare x' y' := by
  show compareOfLessAndEq _ _ = compareOfLessAndEq _ _
  unfold compareOfLessAndEq
  by_cases a : x < y
  · rw [if_pos a, if_pos (h1.1 a)]
  · rw [if_neg a, if_neg (fun h => a (h1.2 h))]
    by_cases b : x = y
    · rw [if_pos b, if_pos (h2.1 b)]
    · rw [if_neg b, if_neg (fun h => b (h2.2 h))]

theorem order_numbers (l : Int) (s t : Bool) (m n : Nat) (i j : Int) (hi : l ≤ i) (hj : l ≤ j) :
    Datum.order (.number s m i) (.number t n j) = some (compare (sz s (m * 2 ^ (i - l).toNat)) (sz t (n * 2 ^ (j - l).toNat))) := by
  unfold Datum.order
  simp only
  congr 1
  rw [← compare_mul _ _ (2 ^ (min i j - l).toNat) (Nat.two_pow_pos _), signed_mul, signed_mul]
  rw [show (i - min i j).toNat + (min i j - l).toNat = (i - l).toNat by omega, show (j - min i j).toNat + (min i j - l).toNat = (j - l).toNat by omega]

theorem key_sz (f : Format) (w : Nat) : key f w = sz (sg f w) (rg f w) := rfl

theorem sz_lt {f : Format} {s t : Bool} {a b : Nat} : sz s (mg f a) < sz t (mg f b) ↔ sz s a < sz t b := by
  have h1 := @mg_lt_iff f a b
  have h2 := @mg_lt_iff f b a
  have e1 := @mg_lt_iff f 0 a
  have e2 := @mg_lt_iff f 0 b
  rw [mg_zero] at e1 e2
  unfold sz
  cases s <;> cases t <;> simp <;> omega

theorem sz_eq {f : Format} {s t : Bool} {a b : Nat} : sz s (mg f a) = sz t (mg f b) ↔ sz s a = sz t b := by
  have h1 := @sz_lt f s t a b
  have h2 := @sz_lt f t s b a
  omega

theorem cmp_lt {x y : Int} (h : x < y) : compare x y = .lt := by
  show compareOfLessAndEq _ _ = _; unfold compareOfLessAndEq; rw [if_pos h]
theorem cmp_eq {x y : Int} (h : x = y) : compare x y = .eq := by
  show compareOfLessAndEq _ _ = _; unfold compareOfLessAndEq; rw [if_neg (by omega), if_pos h]
theorem cmp_gt {x y : Int} (h : y < x) : compare x y = .gt := by
  show compareOfLessAndEq _ _ = _; unfold compareOfLessAndEq; rw [if_neg (by omega), if_neg (by omega)]

/-- HOW TWO WORDS THAT ARE NO NaN STAND TO EACH OTHER: as their signed rungs do. -/
theorem order_key (f : Format) (he : 1 ≤ f.exponentBits) (x y : Nat) (hx : rg f x ≤ f.infRung) (hy : rg f y ≤ f.infRung) :
    f.order x y = some (compare (key f x) (key f y)) := by
  have hi : 0 < f.infRung := Nat.lt_of_lt_of_le (binade_pos f) (binade_le_inf f he)
  unfold Format.order
  rw [key_sz, key_sz]
  rcases Nat.lt_or_eq_of_le hx with hx' | hx' <;> rcases Nat.lt_or_eq_of_le hy with hy' | hy'
  · obtain ⟨m, i, e1, l1, v1⟩ := read_num f x hx'
    obtain ⟨n, j, e2, l2, v2⟩ := read_num f y hy'
    rw [e1, e2, order_numbers f.leastPlace _ _ _ _ _ _ l1 l2, v1, v2]
    exact congrArg some (cmp_congr sz_lt sz_eq)
  · obtain ⟨m, i, e1, l1, v1⟩ := read_num f x hx'
    rw [e1, read_inf f he y hy']
    unfold Datum.order
    simp only
    congr 1
    cases hs : sg f y
    · exact (cmp_lt (by unfold sz; cases sg f x <;> simp <;> omega)).symm
    · exact (cmp_gt (by unfold sz; cases sg f x <;> simp <;> omega)).symm
  · obtain ⟨m, i, e1, l1, v1⟩ := read_num f y hy'
    rw [e1, read_inf f he x hx']
    unfold Datum.order
    simp only
    congr 1
    cases hs : sg f x
    · exact (cmp_gt (by unfold sz; cases sg f y <;> simp <;> omega)).symm
    · exact (cmp_lt (by unfold sz; cases sg f y <;> simp <;> omega)).symm
  · rw [read_inf f he x hx', read_inf f he y hy']
    unfold Datum.order
    simp only
    congr 1
    rw [hx', hy']
    cases sg f x <;> cases sg f y
    · exact (cmp_eq rfl).symm
    · exact (cmp_gt (by unfold sz; simp; omega)).symm
    · exact (cmp_lt (by unfold sz; simp; omega)).symm
    · exact (cmp_eq rfl).symm

theorem order_nan_left (f : Format) (he : 1 ≤ f.exponentBits) (x y : Nat) (hx : f.infRung < rg f x) : f.order x y = none := by
  unfold Format.order
  rw [read_nan f he x hx]; rfl

theorem order_nan_right (f : Format) (he : 1 ≤ f.exponentBits) (x y : Nat) (hy : f.infRung < rg f y) : f.order x y = none := by
  unfold Format.order
  rw [read_nan f he y hy]
  unfold Datum.order
  cases f.read x <;> rfl



/-! ### words that are written -/
theorem rg_word (f : Format) (s : Bool) {r : Nat} (h : r < f.signWeight) : rg f (f.word s r) = r := by
  unfold rg Format.word
  cases s
  · simp [Nat.mod_eq_of_lt h]
  · simp [Nat.mod_eq_of_lt h]

theorem sg_word (f : Format) (s : Bool) {r : Nat} (h : r < f.signWeight) : sg f (f.word s r) = s := by
  have hp := sw_pos f
  unfold sg Format.word
  cases s
  · simp [Nat.div_eq_of_lt h]
  · simp only [if_true]
    rw [Nat.add_div_left _ hp, Nat.div_eq_of_lt h]; rfl

theorem word_of (f : Format) {w : Nat} (h : w < 2 ^ f.width) : f.word (sg f w) (rg f w) = w := by
  have two : 2 ^ f.width = 2 * f.signWeight := by
    unfold Format.width Format.signWeight
    rw [Nat.add_assoc, Nat.add_comm 1, Nat.pow_succ, Nat.mul_comm]
  have hp := sw_pos f
  rw [two] at h
  unfold sg rg Format.word
  generalize f.signWeight = S at *
  have hd := Nat.div_add_mod w S
  have hq : w / S < 2 := Nat.div_lt_of_lt_mul (by omega)
  have hz : w / S = 0 ∨ w / S = 1 := by
    generalize w / S = q at hq
    omega
  rcases hz with h0 | h0
  · rw [h0] at hd ⊢
    rw [Nat.mul_zero, Nat.zero_add] at hd
    exact hd
  · rw [h0] at hd ⊢
    rw [Nat.mul_one] at hd
    exact hd

/-- the rung of what is nearest -/
def rnd (f : Format) (m : Nat) (p : Int) : Nat :=
  if m = 0 then 0 else
  let last := max (p + m.log2 - f.fractionBits) f.leastPlace
  min ((last - f.leastPlace).toNat * f.binade + Toward.even.cut false (m <<< (p - last).toNat) (last - p).toNat) f.infRung

theorem cut_even (s t : Bool) (n d : Nat) : Toward.even.cut s n d = Toward.even.cut t n d := rfl

theorem nearest_rnd (f : Format) (s : Bool) (m : Nat) (p : Int) : f.nearest s m p = f.word s (rnd f m p) := by
  unfold Format.nearest rnd
  by_cases h : m = 0
  · rw [if_pos h, if_pos h]
  · rw [if_neg h, if_neg h]; rfl

theorem rnd_le_inf (f : Format) (m : Nat) (p : Int) : rnd f m p ≤ f.infRung := by
  unfold rnd
  split
  · exact Nat.zero_le _
  · exact Nat.min_le_right _ _

theorem rg_nearest (f : Format) (s : Bool) (m : Nat) (p : Int) : rg f (f.nearest s m p) = rnd f m p := by
  rw [nearest_rnd]
  exact rg_word f s (Nat.lt_of_le_of_lt (rnd_le_inf f m p) f.infRung_lt)

theorem sg_nearest (f : Format) (s : Bool) (m : Nat) (p : Int) : sg f (f.nearest s m p) = s := by
  rw [nearest_rnd]
  exact sg_word f s (Nat.lt_of_le_of_lt (rnd_le_inf f m p) f.infRung_lt)

/-- no NaN is written of a datum that is none -/
def Plain (d : Datum) : Prop := ∀ s t, d ≠ .nan s t

theorem rg_write (f : Format) {d : Datum} (h : Plain d) : rg f (f.write d) ≤ f.infRung := by
  cases d with
  | number s m i => show rg f (f.nearest s m i) ≤ _; rw [rg_nearest]; exact rnd_le_inf f m i
  | infinity s => show rg f (f.word s f.infRung) ≤ _; rw [rg_word f s f.infRung_lt]; exact Nat.le_refl _
  | nan s t => exact absurd rfl (h s t)

theorem plain_sum {a b d : Datum} (h : a.sum b = some d) : Plain d := by
  intro s t e
  subst e
  cases a <;> cases b <;> simp [Datum.sum] at h

theorem plain_product {a b d : Datum} (h : a.product b = some d) : Plain d := by
  intro s t e
  subst e
  cases a <;> cases b <;> simp [Datum.product] at h

theorem plain_quotient {n : Nat} {a b d : Datum} (h : a.quotient n b = some d) : Plain d := by
  intro s t e
  subst e
  cases a <;> cases b <;> simp [Datum.quotient] at h
  split at h
  · split at h <;> simp at h
  · simp at h

theorem plain_root {n : Nat} {a d : Datum} (h : a.root n = some d) : Plain d := by
  intro s t e
  subst e
  cases a with
  | nan s' t' => simp [Datum.root] at h
  | infinity s' => simp [Datum.root] at h
  | number s' m i =>
    simp only [Datum.root] at h
    split at h
    · simp at h
    · split at h
      · simp at h
      · simp at h

theorem map_write_plain {f : Format} {o : Option Datum} {r : Nat} (hp : ∀ d, o = some d → Plain d) (h : o.map f.write = some r) : rg f r ≤ f.infRung := by
  cases o with
  | none => cases h
  | some d => cases h; exact rg_write f (hp d rfl)

/-! ### a float up to which NaN it is -/
theorem ebits (k : FloatKind) : 1 ≤ k.format.exponentBits := by cases k <;> decide

/-- the bits, but of a NaN nothing -/
def ab (k : FloatKind) (b : Nat) : Option Nat := if isN k.format b then none else some b

theorem ab_none {k : FloatKind} {b : Nat} : ab k b = none ↔ k.format.infRung < rg k.format b := by
  unfold ab isN; by_cases h : k.format.infRung < rg k.format b <;> simp [h]

theorem ab_some {k : FloatKind} {b x : Nat} : ab k b = some x ↔ rg k.format b ≤ k.format.infRung ∧ b = x := by
  unfold ab isN
  by_cases h : k.format.infRung < rg k.format b
  · simp [h]; omega
  · simp [h]; omega

theorem ab_of {k : FloatKind} {b : Nat} (h : rg k.format b ≤ k.format.infRung) : ab k b = some b := ab_some.2 ⟨h, rfl⟩

theorem read_nan_iff {k : FloatKind} {b : Nat} (h : ab k b = none) : ∃ s t, k.format.read b = .nan s t :=
  ⟨_, _, read_nan _ (ebits k) b (ab_none.1 h)⟩

/-- an operation on floats up to which NaN comes -/
def oop (op : BinOp) (k : FloatKind) (x y : Option Nat) : Option Nat := x.bind fun a => y.bind fun b => floatBits op k a b

theorem floatBits_nan_left {op : BinOp} {k : FloatKind} {x y : Nat} (h : ab k x = none) : floatBits op k x y = none := by
  obtain ⟨s, t, e⟩ := read_nan_iff h
  cases op <;> simp [floatBits, Format.add, Format.sub, Format.mul, Format.div, e, Datum.sum, Datum.product, Datum.quotient]

theorem floatBits_nan_right {op : BinOp} {k : FloatKind} {x y : Nat} (h : ab k y = none) : floatBits op k x y = none := by
  obtain ⟨s, t, e⟩ := read_nan_iff h
  cases op <;> simp [floatBits, Format.add, Format.sub, Format.mul, Format.div, e] <;> cases k.format.read x <;> simp [Datum.opposite, Datum.sum, Datum.product, Datum.quotient]

theorem floatBits_ab (op : BinOp) (k : FloatKind) (x y : Nat) : floatBits op k x y = oop op k (ab k x) (ab k y) := by
  cases hx : ab k x with
  | none => rw [floatBits_nan_left hx]; rfl
  | some a =>
    obtain ⟨_, rfl⟩ := ab_some.1 hx
    cases hy : ab k y with
    | none => rw [floatBits_nan_right hy]; rfl
    | some b => obtain ⟨_, rfl⟩ := ab_some.1 hy; rfl

theorem floatBits_plain {op : BinOp} {k : FloatKind} {x y r : Nat} (h : floatBits op k x y = some r) : ab k r = some r := by
  refine ab_of ?_
  cases op <;> simp only [floatBits] at h <;> first | (exact absurd h (by simp)) | skip
  · exact map_write_plain (fun d hd => plain_sum hd) h
  · exact map_write_plain (fun d hd => plain_sum hd) h
  · exact map_write_plain (fun d hd => plain_product hd) h
  · exact map_write_plain (fun d hd => plain_quotient hd) h

/-- WHAT A FLOAT IS UP TO WHICH NaN IT IS; its bits fit the kind. -/
structure Is (k : FloatKind) (r : Nat) (o : Option Nat) : Prop where
  ab : ab k r = o
  lt : r < 2 ^ k.format.width

def arith : BinOp → Bool
  | .add | .sub | .mul | .quo => true
  | _ => false

theorem nan_cut (k : FloatKind) (q : Question) (t : Nat) (hq : (∃ x y, q = .nanBits k x y) ∨ (∃ b, q = .nanConv k b)) : ab k (q.cut t) = none ∧ q.cut t < 2 ^ k.format.width := by
  have h32 : ∀ t : Nat, ab .f32 ((t % 2) * 2 ^ 31 + 0x7f800000 + 1 + (t / 2) % (2 ^ 23 - 1)) = none ∧ (t % 2) * 2 ^ 31 + 0x7f800000 + 1 + (t / 2) % (2 ^ 23 - 1) < 2 ^ FloatKind.f32.format.width := by
    intro t
    have e1 : FloatKind.f32.format.infRung = 2139095040 := by decide
    have e2 : FloatKind.f32.format.signWeight = 2147483648 := by decide
    have e3 : FloatKind.f32.format.width = 32 := by decide
    constructor
    · rw [ab_none]; unfold rg; rw [e1, e2]
      have : t % 2 = 0 ∨ t % 2 = 1 := by omega
      rcases this with e | e <;> rw [e] <;> omega
    · rw [e3]; omega
  have h64 : ∀ t : Nat, ab .f64 ((t % 2) * 2 ^ 63 + 0x7ff0000000000000 + 1 + (t / 2) % (2 ^ 52 - 1)) = none ∧ (t % 2) * 2 ^ 63 + 0x7ff0000000000000 + 1 + (t / 2) % (2 ^ 52 - 1) < 2 ^ FloatKind.f64.format.width := by
    intro t
    have e1 : FloatKind.f64.format.infRung = 9218868437227405312 := by decide
    have e2 : FloatKind.f64.format.signWeight = 9223372036854775808 := by decide
    have e3 : FloatKind.f64.format.width = 64 := by decide
    constructor
    · rw [ab_none]; unfold rg; rw [e1, e2]
      have : t % 2 = 0 ∨ t % 2 = 1 := by omega
      rcases this with e | e <;> rw [e] <;> omega
    · rw [e3]; omega
  rcases hq with ⟨x, y, rfl⟩ | ⟨b, rfl⟩ <;> cases k
  · exact h32 t
  · exact h64 t
  · exact h32 t
  · exact h64 t

theorem wf_lt {k : FloatKind} {r : Nat} (h : (Lit.float k r).wf = true) : r < 2 ^ k.format.width := by
  cases k
  · have e : FloatKind.f32.format.width = 32 := by decide
    rw [e]; simpa [Lit.wf] using h
  · have e : FloatKind.f64.format.width = 64 := by decide
    rw [e]; simpa [Lit.wf] using h

theorem floatBits_lt {op : BinOp} {k : FloatKind} {x y r : Nat} (h : floatBits op k x y = some r) : r < 2 ^ k.format.width := wf_lt (floatBits_wf h)

/-- '+', '-', '*', '/' ON FLOATS, WHATEVER THE OPERANDS. -/
theorem run_arith {P : Program} (op : BinOp) (h : arith op = true) (t : TypeId) (k : FloatKind) (x y : Nat) (w : World) :
    ∃ r n, (binOp op t (.float k x) (.float k y)).run P w = .ok (.float k r) (w.drewN n) ∧ Is k r (oop op k (ab k x) (ab k y)) := by
  cases hf : floatBits op k x y with
  | some r =>
    refine ⟨r, 0, run_float_arith w op t k x y r hf, ?_, floatBits_lt hf⟩
    rw [← floatBits_ab, hf]; exact floatBits_plain hf
  | none =>
    refine ⟨(Question.nanBits k x y).cut (w.tape w.drawn (.nanBits k x y)), 1, ?_, ?_⟩
    · unfold floatBits at hf
      cases op <;> simp only [arith] at h <;> first | (cases h; done) | skip
      all_goals
        simp only at hf
        simp [binOp, Op.floatArith, hf, Question.forced, World.drew_is_drewN]
    · have := nan_cut k (.nanBits k x y) (w.tape w.drawn (.nanBits k x y)) (.inl ⟨x, y, rfl⟩)
      rw [← floatBits_ab, hf]
      exact ⟨this.1, this.2⟩



/-! ### numbers that the format has -/
theorem mg_at (f : Format) (q n : Nat) (h : n < 2 * f.binade) (h' : q = 0 ∨ f.binade ≤ n) : mg f (q * f.binade + n) = n * 2 ^ q := by
  have hB := binade_pos f
  unfold mg
  generalize f.binade = B at *
  by_cases hn : n < B
  · have hq : q = 0 := by omega
    subst hq
    simp [hn]
  · have hge : ¬ q * B + n < B := by
      have := Nat.zero_le (q * B); omega
    rw [if_neg hge]
    have e1 : q * B + n = (q + 1) * B + (n - B) := by rw [Nat.add_mul]; omega
    rw [e1]
    have d1 : ((q + 1) * B + (n - B)) / B = q + 1 := by
      rw [Nat.mul_comm, Nat.mul_add_div hB, Nat.div_eq_of_lt (by omega)]
    have d2 : ((q + 1) * B + (n - B)) % B = n - B := by
      rw [Nat.mul_comm, Nat.mul_add_mod, Nat.mod_eq_of_lt (by omega)]
    rw [d1, d2]
    simp only [Nat.add_sub_cancel]
    congr 1; omega

theorem cut_zero (s : Bool) (n : Nat) : Toward.even.cut s n 0 = n := by
  simp [Toward.cut, Nat.mod_one]

theorem log2_lt (m : Nat) : m < 2 ^ (m.log2 + 1) := Nat.lt_log2_self
theorem log2_le {m : Nat} (h : m ≠ 0) : 2 ^ m.log2 ≤ m := Nat.log2_self_le h

/-- What needs no rounding. 'R' is the rung, were there no end. -/
theorem rnd_exact (f : Format) (m : Nat) (p : Int) (hm : m ≠ 0) (hl : m.log2 ≤ f.fractionBits) (hp : f.leastPlace ≤ p) :
    ∃ R, rnd f m p = min R f.infRung ∧ mg f R = m * 2 ^ (p - f.leastPlace).toNat := by
  unfold rnd
  rw [if_neg hm]
  simp only
  have hlast : max (p + m.log2 - f.fractionBits) f.leastPlace ≤ p := by omega
  rw [show (max (p + m.log2 - f.fractionBits) f.leastPlace - p).toNat = 0 by omega, cut_zero, Nat.shiftLeft_eq]
  refine ⟨_, rfl, ?_⟩
  rw [mg_at]
  · rw [Nat.mul_assoc, ← Nat.pow_add]
    congr 2; omega
  · have h1 : m * 2 ^ (p - max (p + m.log2 - f.fractionBits) f.leastPlace).toNat < 2 ^ (m.log2 + 1) * 2 ^ (p - max (p + m.log2 - f.fractionBits) f.leastPlace).toNat :=
      Nat.mul_lt_mul_of_pos_right (log2_lt m) (Nat.two_pow_pos _)
    rw [← Nat.pow_add] at h1
    refine Nat.lt_of_lt_of_le h1 ?_
    rw [show 2 * f.binade = 2 ^ (f.fractionBits + 1) by rw [Format.binade, Nat.pow_succ, Nat.mul_comm]]
    exact Nat.pow_le_pow_right (by omega) (by omega)
  · by_cases hq : f.leastPlace < p + m.log2 - f.fractionBits
    · right
      rw [show max (p + (m.log2 : Int) - f.fractionBits) f.leastPlace = p + m.log2 - f.fractionBits by omega]
      have h1 : 2 ^ m.log2 * 2 ^ (p - (p + m.log2 - f.fractionBits)).toNat ≤ m * 2 ^ (p - (p + m.log2 - f.fractionBits)).toNat := Nat.mul_le_mul_right _ (log2_le hm)
      rw [← Nat.pow_add] at h1
      refine Nat.le_trans (Nat.pow_le_pow_right (by omega) ?_) h1
      omega
    · left; omega

theorem read_num_log (f : Format) (w : Nat) (h : rg f w < f.infRung) :
    ∃ m i, f.read w = .number (sg f w) m i ∧ f.leastPlace ≤ i ∧ m * 2 ^ (i - f.leastPlace).toNat = mg f (rg f w) ∧ m.log2 ≤ f.fractionBits ∧ (m = 0 ↔ rg f w = 0) := by
  have hB := binade_pos f
  unfold Format.read
  simp only
  change rg f w < f.infRung at h
  by_cases hb : rg f w < f.binade
  · refine ⟨rg f w, f.leastPlace, ?_, Int.le_refl _, ?_, ?_, Iff.rfl⟩
    · have hb' : w % f.signWeight < f.binade := hb
      rw [if_pos hb']; rfl
    · rw [Int.sub_self]; simp [mg, hb]
    · by_cases h0 : rg f w = 0
      · rw [h0]; simp
      · have := (Nat.log2_lt h0).2 hb; omega
  · have hmod := Nat.mod_lt (rg f w) hB
    refine ⟨f.binade + rg f w % f.binade, f.leastPlace + ((rg f w / f.binade - 1 : Nat) : Int), ?_, by omega, ?_, ?_, ?_⟩
    · have hb' : ¬ w % f.signWeight < f.binade := hb
      have h' : w % f.signWeight < f.infRung := h
      rw [if_neg hb', if_pos h']; rfl
    · rw [show f.leastPlace + ((rg f w / f.binade - 1 : Nat) : Int) - f.leastPlace = ((rg f w / f.binade - 1 : Nat) : Int) by omega]
      simp [mg, hb]
    · have : (f.binade + rg f w % f.binade).log2 < f.fractionBits + 1 := (Nat.log2_lt (by omega)).2 (by
        have e : 2 ^ (f.fractionBits + 1) = 2 * f.binade := by rw [Format.binade, Nat.pow_succ, Nat.mul_comm]
        omega)
      omega
    · omega

/-- A finite word, read and written, is as it was. -/
theorem nearest_read (f : Format) (w : Nat) (hw : w < 2 ^ f.width) (h : rg f w < f.infRung) {s : Bool} {m : Nat} {i : Int} (e : f.read w = .number s m i) : f.nearest s m i = w := by
  obtain ⟨m', i', e', hi, hv, hl, hz⟩ := read_num_log f w h
  rw [e] at e'
  injection e' with e1 e2 e3
  subst e1 e2 e3
  rw [nearest_rnd]
  have hr : rnd f m i = rg f w := by
    by_cases hm : m = 0
    · have := hz.1 hm
      rw [this]; simp [rnd, hm]
    · obtain ⟨R, h1, h2⟩ := rnd_exact f m i hm hl hi
      rw [h1]
      have : R = rg f w := mg_inj (h2.trans hv)
      rw [this]; exact Nat.min_eq_left (Nat.le_of_lt h)
  rw [hr]
  exact word_of f hw

/-! ### float32 to float64 -/
/-- the bits of the float64 of a float32 -/
def wide (b : Nat) : Nat := FloatKind.f64.encode (FloatKind.f32.decode b)

/-- how much finer float64's least place is than float32's -/
def fineDigits : Nat := 925
def fine : Nat := 2 ^ fineDigits
theorem fine_pos : 0 < fine := Nat.two_pow_pos _
theorem fine_of {n : Nat} (h : n = fineDigits) : 2 ^ n = fine := by rw [h]; rfl

theorem wide_num (b : Nat) (h : rg single b < single.infRung) :
    sg double (wide b) = sg single b ∧ rg double (wide b) < double.infRung ∧ mg double (rg double (wide b)) = mg single (rg single b) * fine := by
  obtain ⟨m, i, e, hi, hv, hl, hz⟩ := read_num_log single b h
  have hw : wide b = double.nearest (sg single b) m i := by
    show double.write (single.read b) = _
    rw [e]; rfl
  rw [hw, sg_nearest, rg_nearest]
  refine ⟨rfl, ?_⟩
  have l1 : single.leastPlace = -149 := by decide
  have l2 : double.leastPlace = -1074 := by decide
  have b1 : single.fractionBits = 23 := rfl
  have b2 : double.fractionBits = 52 := rfl
  by_cases hm : m = 0
  · have hz' := hz.1 hm
    rw [hz', hm]
    refine ⟨by simp [rnd]; decide, ?_⟩
    have h0 : rnd double 0 i = 0 := by simp [rnd]
    rw [h0, mg_zero, mg_zero, Nat.zero_mul]
  · obtain ⟨R, h1, h2⟩ := rnd_exact double m i hm (by omega) (by omega)
    have h3 : mg double R = mg single (rg single b) * fine := by
      rw [h2, ← hv, ← fine_of (n := (i - double.leastPlace).toNat - (i - single.leastPlace).toNat) (by have : fineDigits = 925 := rfl; omega), Nat.mul_assoc, ← Nat.pow_add]
      congr 2; omega
    have h4 : mg double R < mg double double.infRung := by
      rw [h3]
      refine Nat.lt_of_lt_of_le (Nat.mul_lt_mul_of_pos_right (mg_mono h) fine_pos) ?_
      decide +kernel
    have h5 := mg_lt_iff.1 h4
    rw [h1, Nat.min_eq_left (Nat.le_of_lt h5)]
    exact ⟨h5, h3⟩

theorem wide_inf (b : Nat) (h : rg single b = single.infRung) : sg double (wide b) = sg single b ∧ rg double (wide b) = double.infRung := by
  have hw : wide b = double.word (sg single b) double.infRung := by
    show double.write (single.read b) = _
    rw [read_inf single (by decide) b h]; rfl
  rw [hw]
  exact ⟨sg_word _ _ double.infRung_lt, rg_word _ _ double.infRung_lt⟩

theorem wide_le (b : Nat) (h : rg single b ≤ single.infRung) : rg double (wide b) ≤ double.infRung := by
  rcases Nat.lt_or_eq_of_le h with h | h
  · exact Nat.le_of_lt (wide_num b h).2.1
  · exact Nat.le_of_eq (wide_inf b h).2

theorem ab_wide {b x : Nat} (h : ab .f32 b = some x) : ab .f64 (wide b) = some (wide b) := ab_of (wide_le b (ab_some.1 h).1)

/-- 'float64(x)' OF A float32, WHATEVER IT IS. -/
theorem run_widen {P : Program} (src dst : TypeId) (b : Nat) (w : World) (hs : (P.underlying src).isSome = true) (hd : P.underlying dst = some (.float .f64)) :
    ∃ r n, (convert src dst (.float .f32 b)).run P w = .ok (.float .f64 r) (w.drewN n) ∧ Is .f64 r ((ab .f32 b).map wide) := by
  obtain ⟨u, hs'⟩ := Option.isSome_iff_exists.1 hs
  have hc : (convert src dst (.float .f32 b)).run P w = (Conv.floatToFloat .f32 b .f64).run P w := by
    cases u <;> simp [convert, run_underlying hs', run_underlying hd]
  rw [hc]
  cases ha : ab .f32 b with
  | none =>
    obtain ⟨s, t, e⟩ := read_nan_iff ha
    have e' : FloatKind.f32.decode b = .nan s t := e
    refine ⟨(Question.nanConv .f64 b).cut (w.tape w.drawn (.nanConv .f64 b)), 1, ?_, ?_⟩
    · simp [Conv.floatToFloat, e', Question.forced, World.drew_is_drewN]
    · have := nan_cut .f64 (.nanConv .f64 b) (w.tape w.drawn (.nanConv .f64 b)) (.inr ⟨b, rfl⟩)
      exact ⟨this.1, this.2⟩
  | some x =>
    obtain ⟨hr, rfl⟩ := ab_some.1 ha
    refine ⟨wide b, 0, ?_, ab_wide ha, ?_⟩
    · rcases Nat.lt_or_eq_of_le (show rg single b ≤ single.infRung from hr) with h | h
      · obtain ⟨m, i, e, _⟩ := read_num single b h
        have e' : FloatKind.f32.decode b = .number (sg single b) m i := e
        have hw : FloatKind.f64.encode (.number (sg single b) m i) = wide b := by
          show _ = FloatKind.f64.encode (FloatKind.f32.decode b)
          rw [e']
        have hn : (FloatKind.f64.decode (wide b)).isInfinity = false := by
          obtain ⟨m', i', e2, _⟩ := read_num double (wide b) (wide_num b h).2.1
          show (double.read (wide b)).isInfinity = false
          rw [e2]; rfl
        simp [Conv.floatToFloat, e', hw, hn]; rfl
      · have e' : FloatKind.f32.decode b = .infinity (sg single b) := read_inf single (by decide) b h
        have hw : FloatKind.f64.encode (.infinity (sg single b)) = wide b := by
          show _ = FloatKind.f64.encode (FloatKind.f32.decode b)
          rw [e']
        simp [Conv.floatToFloat, e', hw]; rfl
    · exact Format.write_lt double _



/-! ### how two floats stand to each other, up to which NaN they are -/
def oord (k : FloatKind) (x y : Option Nat) : Option Ordering := x.bind fun a => y.bind fun b => some (compare (key k.format a) (key k.format b))

theorem order_ab (k : FloatKind) (x y : Nat) : k.format.order x y = oord k (ab k x) (ab k y) := by
  cases hx : ab k x with
  | none => rw [order_nan_left _ (ebits k) _ _ (ab_none.1 hx)]; rfl
  | some a =>
    obtain ⟨h1, rfl⟩ := ab_some.1 hx
    cases hy : ab k y with
    | none => rw [order_nan_right _ (ebits k) _ _ (ab_none.1 hy)]; rfl
    | some b => obtain ⟨h2, rfl⟩ := ab_some.1 hy; exact order_key _ (ebits k) _ _ h1 h2

theorem oord_self (k : FloatKind) (x : Nat) : oord k (some x) (some x) = some .eq := by
  show some (compare _ _) = _; rw [cmp_eq rfl]

/-- x != x -/
theorem order_self (k : FloatKind) (x : Nat) : (k.format.order x x != some .eq) = (ab k x).isNone := by
  rw [order_ab]
  cases ab k x with
  | none => rfl
  | some a => rw [oord_self]; rfl

theorem order_self_eq (k : FloatKind) (x : Nat) : (k.format.order x x == some .eq) = (ab k x).isSome := by
  rw [order_ab]
  cases ab k x with
  | none => rfl
  | some a => rw [oord_self]; rfl

/-! ### the walk's laws -/
section
variable {P : Program} {ops : Array Oper} {rest : List Oper} {o : Oper} {a : Act} {w : World} {Q : Exit → Act → World → Prop}

theorem wpList_wanted (hw : Region.wanted o (yielded ops a.tmps) = true)
    (h : ∀ K : Act → World → Prop, (∀ a w, wpList P ops Q rest a w → K a w) → o.wp P a w K Q) : wpList P ops Q (o :: rest) a w :=
  wpList_step fun K hK => by simp only [hw, if_true]; exact h K hK

/-- '+', '-', '*', '/' ON FLOATS. -/
theorem wpList_arith (op : BinOp) (t t' : TypeId) (x y : Operand) (hop : o.op = .binOp op t x y t') (hw : Region.wanted o (yielded ops a.tmps) = true)
    (k : FloatKind) (p q : Nat) (hx : a.eval x = .float k p) (hy : a.eval y = .float k q) (har : arith op = true)
    (h : ∀ r n, Is k r (oop op k (ab k p) (ab k q)) → wpList P ops Q rest (a.put o.dst (.float k r)) (w.drewN n)) : wpList P ops Q (o :: rest) a w := by
  refine wpList_wanted hw fun K hK => ?_
  obtain ⟨r, n, hrun, hres⟩ := run_arith (P := P) op har t k p q w
  unfold Oper.wp
  simp [execOp, hop, hx, hy, eqGuard_at_float, hrun, Result.andThen]
  exact hK _ _ (h r n hres)

/-- 'float64(x)' OF A float32. -/
theorem wpList_widen (src dst : TypeId) (x : Operand) (hop : o.op = .convert src dst x) (hw : Region.wanted o (yielded ops a.tmps) = true)
    (p : Nat) (hx : a.eval x = .float .f32 p) (hs : (P.underlying src).isSome = true) (hd : P.underlying dst = some (.float .f64))
    (h : ∀ r n, Is .f64 r ((ab .f32 p).map wide) → wpList P ops Q rest (a.put o.dst (.float .f64 r)) (w.drewN n)) : wpList P ops Q (o :: rest) a w := by
  refine wpList_wanted hw fun K hK => ?_
  obtain ⟨r, n, hrun, hres⟩ := run_widen (P := P) src dst p w hs hd
  unfold Oper.wp
  simp [execOp, hop, hx, hrun, Result.andThen]
  exact hK _ _ (h r n hres)
end

@[go_sem] theorem run_store_float {P : Program} (w : World) (a : Addr) (m : Mode) (k : FloatKind) (b : Nat) : (store a (.float k b) m).run P w = stored P w a (.float k b) m := run_store P w a _ m rfl
@[go_sem] theorem setCell_drewN (w : World) (n : Nat) (a : Addr) (v : Value) : (w.drewN n).setCell a v = (w.setCell a v).drewN n := rfl
@[go_sem] theorem alloc_drewN (w : World) (n : Nat) (o : Obj) : (w.drewN n).alloc o = (w.alloc o).drewN n := rfl

@[go_sem] theorem unary_neg_float (k : FloatKind) (b : Nat) : Op.unary .neg (.float k b) = pure (.float k (Op.negFloat k b)) := rfl

/-- A conversion of a float to its own kind. -/
@[go_sem] theorem run_convert_same {P : Program} (w : World) (src dst : TypeId) (k : FloatKind) (b : Nat) (hs : (P.underlying src).isSome = true) (hd : P.underlying dst = some (.float k)) :
    (convert src dst (.float k b)).run P w = .ok (.float k b) w := by
  obtain ⟨u, hs'⟩ := Option.isSome_iff_exists.1 hs
  cases u <;> simp [convert, run_underlying hs', run_underlying hd, Conv.floatToFloat]



/-! ### a number does not hang on how it is written -/
theorem cut_scale (s : Bool) (m k d : Nat) : Toward.even.cut s (m * 2 ^ k) (d + k) = Toward.even.cut s m d := by
  by_cases hm : m = 0
  · subst hm
    have hz : ∀ d, Toward.even.cut s 0 d = 0 := by
      intro d
      have : 0 < 1 <<< min d 2 := by rw [Nat.shiftLeft_eq]; simpa using Nat.two_pow_pos _
      simp [Toward.cut]
    rw [Nat.zero_mul, hz, hz]
  · unfold Toward.cut
    simp only [Nat.shiftLeft_eq, Nat.one_mul]
    have hl : (m * 2 ^ k).log2 = m.log2 + k := by
      rw [Nat.log2_eq_iff (Nat.ne_of_gt (Nat.mul_pos (Nat.pos_of_ne_zero hm) (Nat.two_pow_pos _)))]
      have h1 := Nat.mul_le_mul_right (2 ^ k) (log2_le hm)
      have h2 := Nat.mul_lt_mul_of_pos_right (log2_lt m) (Nat.two_pow_pos k)
      rw [← Nat.pow_add] at h1 h2
      exact ⟨h1, by rw [show m.log2 + k + 1 = m.log2 + 1 + k by omega]; exact h2⟩
    have hmin : min (d + k) (m.log2 + k + 2) = min d (m.log2 + 2) + k := by omega
    rw [hl, hmin, Nat.pow_add]
    generalize 2 ^ min d (m.log2 + 2) = g
    have hk := Nat.two_pow_pos k
    generalize 2 ^ k = c at *
    rw [Nat.mul_div_mul_right _ _ hk, Nat.mul_mod_mul_right]
    have e1 : (g * c < 2 * (m % g * c)) ↔ (g < 2 * (m % g)) := by
      rw [← Nat.mul_assoc]; exact Nat.mul_lt_mul_right hk
    have e2 : (g * c == 2 * (m % g * c)) = (g == 2 * (m % g)) := by
      rw [← Nat.mul_assoc, Bool.eq_iff_iff, beq_iff_eq, beq_iff_eq]
      exact ⟨fun h => Nat.eq_of_mul_eq_mul_right hk h, fun h => congrArg (· * c) h⟩
    simp only [e1, e2]

theorem rnd_scale (f : Format) (m k : Nat) (p : Int) : rnd f (m * 2 ^ k) (p - k) = rnd f m p := by
  by_cases hm : m = 0
  · subst hm; simp [rnd]
  · have hl : (m * 2 ^ k).log2 = m.log2 + k := by
      rw [Nat.log2_eq_iff (Nat.ne_of_gt (Nat.mul_pos (Nat.pos_of_ne_zero hm) (Nat.two_pow_pos _)))]
      have h1 := Nat.mul_le_mul_right (2 ^ k) (log2_le hm)
      have h2 := Nat.mul_lt_mul_of_pos_right (log2_lt m) (Nat.two_pow_pos k)
      rw [← Nat.pow_add] at h1 h2
      exact ⟨h1, by rw [show m.log2 + k + 1 = m.log2 + 1 + k by omega]; exact h2⟩
    have hne : m * 2 ^ k ≠ 0 := Nat.ne_of_gt (Nat.mul_pos (Nat.pos_of_ne_zero hm) (Nat.two_pow_pos _))
    unfold rnd
    rw [if_neg hm, if_neg hne, hl]
    simp only
    rw [show p - (k : Int) + ((m.log2 + k : Nat) : Int) - f.fractionBits = p + m.log2 - f.fractionBits by omega]
    generalize max (p + m.log2 - f.fractionBits) f.leastPlace = last
    congr 2
    simp only [Nat.shiftLeft_eq]
    by_cases h1 : last ≤ p - k
    · rw [show (last - (p - (k : Int))).toNat = 0 by omega, show (last - p).toNat = 0 by omega, cut_zero, cut_zero, Nat.mul_assoc, ← Nat.pow_add]
      congr 2; omega
    · by_cases h2 : last ≤ p
      · rw [show (p - (k : Int) - last).toNat = 0 by omega, show (last - p).toNat = 0 by omega, cut_zero, Nat.pow_zero, Nat.mul_one]
        have hd : k = (p - last).toNat + (last - (p - (k : Int))).toNat := by omega
        have := cut_scale false (m * 2 ^ (p - last).toNat) (last - (p - (k : Int))).toNat 0
        rw [Nat.zero_add, cut_zero, Nat.mul_assoc, ← Nat.pow_add, ← hd] at this
        exact this
      · rw [show (p - (k : Int) - last).toNat = 0 by omega, show (p - last).toNat = 0 by omega, Nat.pow_zero, Nat.mul_one, Nat.mul_one]
        have := cut_scale false m k (last - p).toNat
        rw [show (last - p).toNat + k = (last - (p - (k : Int))).toNat by omega] at this
        exact this

/-- A QUOTIENT BY A POWER OF TWO IS A PRODUCT. -/
theorem div_mul (f : Format) (he : 1 ≤ f.exponentBits) (x y z a : Nat) (j j' : Int) (hy : f.read y = .number false (2 ^ a) j) (hz : f.read z = .number false (2 ^ a) j') (hj : j' = -j - 2 * a) :
    f.div x y = f.mul z x := by
  unfold Format.div Format.mul
  rw [hy, hz]
  have ha : (2 ^ a : Nat) ≠ 0 := Nat.ne_of_gt (Nat.two_pow_pos a)
  rcases Nat.lt_trichotomy (rg f x) f.infRung with h | h | h
  · obtain ⟨m, i, e, hi, hv, hl, hm0⟩ := read_num_log f x h
    rw [e]
    simp only [Datum.quotient, Datum.product, ha, if_false, Option.map_some]
    congr 1
    show f.nearest _ _ _ = f.nearest _ _ _
    rw [nearest_rnd, nearest_rnd]
    have hs : (sg f x ^^ false) = (false ^^ sg f x) := by cases sg f x <;> rfl
    rw [hs]
    congr 1
    have hlog : (2 ^ a : Nat).log2 = a := Nat.log2_two_pow
    rw [hlog, Nat.shiftLeft_eq]
    have hmore : f.fractionBits + 2 + a - m.log2 = (f.fractionBits + 2 - m.log2) + a := by omega
    generalize f.fractionBits + 2 - m.log2 = c at hmore
    rw [hmore, Nat.pow_add, ← Nat.mul_assoc, Nat.mul_div_cancel _ (Nat.two_pow_pos a), Nat.mul_mod_left]
    have e1 : 2 * (m * 2 ^ c) + ((0 != 0 : Bool)).toNat = m * 2 ^ (c + 1) := by
      rw [Nat.pow_succ]; simp; rw [Nat.mul_comm 2, Nat.mul_assoc]
    rw [e1, show i - j - ((c + a : Nat) : Int) - 1 = (i - j - a) - ((c + 1 : Nat) : Int) by omega, rnd_scale, Nat.mul_comm (2 ^ a) m,
      show j' + i = (i - j - a) - (a : Int) by omega, rnd_scale]
  · rw [read_inf f he x h]
    simp only [Datum.quotient, Datum.product, ha, if_false, Option.map_some]
    done
  · rw [read_nan f he x h]
    rfl

def half32 : Nat := 1056964608
def two32 : Nat := 1073741824
def quarter32 : Nat := 1048576000
def four32 : Nat := 1082130432

theorem quo_two (x : Option Nat) : oop .quo .f32 x (some two32) = oop .mul .f32 (some half32) x := by
  cases x with
  | none => rfl
  | some a =>
    show single.div a two32 = single.mul half32 a
    exact div_mul single (by decide) a two32 half32 23 (-22) (-24) (by decide) (by decide) (by decide)

theorem quo_four (x : Option Nat) : oop .quo .f32 x (some four32) = oop .mul .f32 (some quarter32) x := by
  cases x with
  | none => rfl
  | some a =>
    show single.div a four32 = single.mul quarter32 a
    exact div_mul single (by decide) a four32 quarter32 23 (-21) (-25) (by decide) (by decide) (by decide)



/-! ### bounds: a number is at most, at least, a power of two -/
/-- 'm * 2 ^ p' is at most '2 ^ e' -/
def Vle (m : Nat) (p e : Int) : Prop := m = 0 ∨ (p ≤ e ∧ m ≤ 2 ^ (e - p).toNat)
/-- 'm * 2 ^ p' is at least '2 ^ e' -/
def Vge (m : Nat) (p e : Int) : Prop := m ≠ 0 ∧ 2 ^ (e - p).toNat ≤ m

theorem Vle.mono {m : Nat} {p e e' : Int} (h : Vle m p e) (he : e ≤ e') : Vle m p e' := by
  rcases h with h | ⟨h1, h2⟩
  · exact .inl h
  · exact .inr ⟨by omega, Nat.le_trans h2 (Nat.pow_le_pow_right (by omega) (by omega))⟩

/-- the rung of '2 ^ e' -/
def rungOf (f : Format) (e : Int) : Nat := (e - f.fractionBits - f.leastPlace).toNat * f.binade + f.binade

theorem cut_le (s : Bool) (n d N : Nat) (h : n < 2 ^ N * 2 ^ d) : Toward.even.cut s n d ≤ 2 ^ N := by
  have hc : ∀ g, (n % g : Nat) = n % g := fun _ => rfl
  unfold Toward.cut
  simp only [Nat.shiftLeft_eq, Nat.one_mul]
  by_cases hd : d ≤ n.log2 + 2
  · rw [Nat.min_eq_left hd]
    have h1 : n / 2 ^ d < 2 ^ N := Nat.div_lt_of_lt_mul (by rw [Nat.mul_comm]; exact h)
    have h2 : ∀ b : Bool, b.toNat ≤ 1 := by intro b; cases b <;> simp
    have := h2 (decide (2 ^ d < 2 * (n % 2 ^ d)) || 2 ^ d == 2 * (n % 2 ^ d) && n / 2 ^ d % 2 == 1)
    omega
  · rw [Nat.min_eq_right (by omega)]
    have h0 : n < 2 ^ (n.log2 + 1) := log2_lt n
    have e4 : 2 ^ (n.log2 + 2) = 2 * 2 ^ (n.log2 + 1) := by rw [Nat.pow_succ 2 (n.log2 + 1), Nat.mul_comm]
    rw [e4, Nat.div_eq_of_lt (by omega), Nat.mod_eq_of_lt (by omega)]
    have := Nat.two_pow_pos N
    have h3 : ¬ 2 * 2 ^ (n.log2 + 1) < 2 * n := by omega
    have h4 : (2 * 2 ^ (n.log2 + 1) == 2 * n) = false := by rw [beq_eq_false_iff_ne]; omega
    simp [h3, h4]

theorem rnd_le {f : Format} {m : Nat} {p e : Int} (h : Vle m p e) (he : f.leastPlace + f.fractionBits + 1 ≤ e) : rnd f m p ≤ rungOf f e := by
  rcases h with h | ⟨hpe, hme⟩
  · simp [rnd, h]
  · by_cases hm : m = 0
    · simp [rnd, hm]
    · have hL := log2_le hm
      have hU := log2_lt m
      have hle : m.log2 ≤ (e - p).toNat := by
        rcases Nat.lt_or_ge (e - p).toNat m.log2 with h | h
        · have := Nat.pow_lt_pow_right (a := 2) (by omega) h
          omega
        · exact h
      unfold rnd rungOf
      rw [if_neg hm]
      simp only
      refine Nat.le_trans (Nat.min_le_left _ _) ?_
      have hB : f.binade = 2 ^ f.fractionBits := rfl
      by_cases hlt : m.log2 < (e - p).toNat
      · -- below
        have hcut : Toward.even.cut false (m <<< (p - max (p + m.log2 - f.fractionBits) f.leastPlace).toNat) (max (p + m.log2 - f.fractionBits) f.leastPlace - p).toNat ≤ 2 ^ (f.fractionBits + 1) := by
          refine cut_le _ _ _ _ ?_
          rw [Nat.shiftLeft_eq, ← Nat.pow_add]
          have h1 : m * 2 ^ (p - max (p + m.log2 - f.fractionBits) f.leastPlace).toNat < 2 ^ (m.log2 + 1) * 2 ^ (p - max (p + m.log2 - f.fractionBits) f.leastPlace).toNat := Nat.mul_lt_mul_of_pos_right hU (Nat.two_pow_pos _)
          rw [← Nat.pow_add] at h1
          exact Nat.lt_of_lt_of_le h1 (Nat.pow_le_pow_right (by omega) (by omega))
        have hq : (max (p + m.log2 - f.fractionBits) f.leastPlace - f.leastPlace).toNat + 1 ≤ (e - f.fractionBits - f.leastPlace).toNat := by omega
        have h2 : ((max (p + m.log2 - f.fractionBits) f.leastPlace - f.leastPlace).toNat + 1) * f.binade ≤ (e - f.fractionBits - f.leastPlace).toNat * f.binade := Nat.mul_le_mul_right _ hq
        rw [Nat.pow_succ, ← hB] at hcut
        rw [Nat.add_mul] at h2
        omega
      · -- the power itself
        have heq : m.log2 = (e - p).toNat := by omega
        have hm2 : m = 2 ^ m.log2 := by rw [heq]; rw [heq] at hL; omega
        have hlast : max (p + m.log2 - f.fractionBits) f.leastPlace = e - f.fractionBits := by omega
        rw [hlast, Nat.shiftLeft_eq]
        refine Nat.add_le_add_left ?_ _
        by_cases hp : e - f.fractionBits ≤ p
        · rw [show (e - f.fractionBits - p).toNat = 0 by omega, cut_zero, hm2, ← Nat.pow_add, hB]
          exact Nat.pow_le_pow_right (by omega) (by omega)
        · rw [show (p - (e - f.fractionBits)).toNat = 0 by omega, Nat.pow_zero, Nat.mul_one, hm2, hB]
          have hd : m.log2 = f.fractionBits + (e - f.fractionBits - p).toNat := by omega
          have := cut_scale false (2 ^ f.fractionBits) (e - f.fractionBits - p).toNat 0
          rw [Nat.zero_add, cut_zero, ← Nat.pow_add, ← hd] at this
          rw [this]
          exact Nat.le_refl _

theorem rnd_ge {f : Format} {m : Nat} {p e : Int} (h : Vge m p e) (he : f.leastPlace + f.fractionBits ≤ e) (hi : rungOf f e ≤ f.infRung) : rungOf f e ≤ rnd f m p := by
  obtain ⟨hm, hme⟩ := h
  have hL := log2_le hm
  have hU := log2_lt m
  have hle : (e - p).toNat ≤ m.log2 := by
    rcases Nat.lt_or_ge m.log2 (e - p).toNat with h | h
    · have := Nat.pow_le_pow_right (n := 2) (by omega) (show m.log2 + 1 ≤ (e - p).toNat by omega)
      omega
    · exact h
  unfold rnd
  rw [if_neg hm]
  simp only
  refine Nat.le_min.2 ⟨?_, hi⟩
  unfold rungOf
  have hlast : max (p + m.log2 - f.fractionBits) f.leastPlace = p + m.log2 - f.fractionBits := by omega
  rw [hlast]
  have hB : f.binade = 2 ^ f.fractionBits := rfl
  refine Nat.add_le_add (Nat.mul_le_mul_right _ (by omega)) ?_
  rw [Nat.shiftLeft_eq, hB]
  by_cases hp : p + m.log2 - f.fractionBits ≤ p
  · rw [show (p + (m.log2 : Int) - f.fractionBits - p).toNat = 0 by omega, cut_zero]
    have h1 : 2 ^ m.log2 * 2 ^ (p - (p + m.log2 - f.fractionBits)).toNat ≤ m * 2 ^ (p - (p + m.log2 - f.fractionBits)).toNat := Nat.mul_le_mul_right _ hL
    rw [← Nat.pow_add] at h1
    exact Nat.le_trans (Nat.pow_le_pow_right (by omega) (by omega)) h1
  · rw [show (p - (p + (m.log2 : Int) - f.fractionBits)).toNat = 0 by omega, Nat.pow_zero, Nat.mul_one]
    unfold Toward.cut
    simp only [Nat.shiftLeft_eq, Nat.one_mul]
    refine Nat.le_trans ?_ (Nat.le_add_right _ _)
    rw [Nat.min_eq_left (by omega)]
    refine (Nat.le_div_iff_mul_le (Nat.two_pow_pos _)).2 ?_
    rw [← Nat.pow_add]
    refine Nat.le_trans (Nat.pow_le_pow_right (by omega) ?_) hL
    omega

theorem mg_rungOf (f : Format) (e : Int) (he : f.leastPlace + f.fractionBits ≤ e) : mg f (rungOf f e) = 2 ^ (e - f.leastPlace).toNat := by
  unfold rungOf
  rw [mg_at f _ _ (by have := binade_pos f; omega) (.inr (Nat.le_refl _))]
  show 2 ^ f.fractionBits * _ = _
  rw [← Nat.pow_add]; congr 1; omega

/-- A finite word, of a sign, whose number is at most '2 ^ e'. -/
def Bd (f : Format) (w : Nat) (e : Int) : Prop := ∃ s m i, f.read w = .number s m i ∧ Vle m i e
/-- A finite word, not negative. -/
def Pos (f : Format) (w : Nat) : Prop := ∃ m i, f.read w = .number false m i
/-- A finite word, not negative, at least '2 ^ e'. -/
def Ge (f : Format) (w : Nat) (e : Int) : Prop := ∃ m i, f.read w = .number false m i ∧ Vge m i e

theorem Bd.mono {f : Format} {w : Nat} {e e' : Int} (h : Bd f w e) (he : e ≤ e') : Bd f w e' :=
  let ⟨s, m, i, h1, h2⟩ := h; ⟨s, m, i, h1, h2.mono he⟩
theorem Ge.pos {f : Format} {w : Nat} {e : Int} (h : Ge f w e) : Pos f w := let ⟨m, i, h1, _⟩ := h; ⟨m, i, h1⟩

theorem vle_of_mg {f : Format} {m : Nat} {i e : Int} (hi : f.leastPlace ≤ i) (he : f.leastPlace ≤ e) (h : m * 2 ^ (i - f.leastPlace).toNat ≤ 2 ^ (e - f.leastPlace).toNat) : Vle m i e := by
  by_cases hm : m = 0
  · exact .inl hm
  · have h1 : 2 ^ (i - f.leastPlace).toNat ≤ 2 ^ (e - f.leastPlace).toNat := Nat.le_trans (Nat.le_mul_of_pos_left _ (Nat.pos_of_ne_zero hm)) h
    have h2 : (i - f.leastPlace).toNat ≤ (e - f.leastPlace).toNat := by
      rcases Nat.lt_or_ge (e - f.leastPlace).toNat (i - f.leastPlace).toNat with h | h
      · have := Nat.pow_lt_pow_right (a := 2) (by omega) h; omega
      · exact h
    refine .inr ⟨by omega, ?_⟩
    rw [show (e - f.leastPlace).toNat = (e - i).toNat + (i - f.leastPlace).toNat by omega, Nat.pow_add] at h
    exact Nat.le_of_mul_le_mul_right h (Nat.two_pow_pos _)

theorem vge_of_mg {f : Format} {m : Nat} {i e : Int} (hi : f.leastPlace ≤ i) (he : f.leastPlace ≤ e) (h : 2 ^ (e - f.leastPlace).toNat ≤ m * 2 ^ (i - f.leastPlace).toNat) : Vge m i e := by
  have hm : m ≠ 0 := by
    intro h0; subst h0
    have := Nat.two_pow_pos (e - f.leastPlace).toNat
    omega
  refine ⟨hm, ?_⟩
  by_cases hle : e ≤ i
  · rw [show (e - i).toNat = 0 by omega]; simp; omega
  · rw [show (e - f.leastPlace).toNat = (e - i).toNat + (i - f.leastPlace).toNat by omega, Nat.pow_add] at h
    exact Nat.le_of_mul_le_mul_right h (Nat.two_pow_pos _)

theorem bd_nearest {f : Format} {s : Bool} {m : Nat} {p e : Int} (h : Vle m p e) (he : f.leastPlace + f.fractionBits + 1 ≤ e) (hi : rungOf f e < f.infRung) :
    ∃ m' i', f.read (f.nearest s m p) = .number s m' i' ∧ Vle m' i' e := by
  have h1 := rnd_le (f := f) h he
  have hr : rg f (f.nearest s m p) = rnd f m p := rg_nearest f s m p
  obtain ⟨m', i', e1, l1, v1⟩ := read_num f (f.nearest s m p) (by omega)
  rw [sg_nearest] at e1
  refine ⟨m', i', e1, vle_of_mg l1 (by omega) ?_⟩
  rw [v1, hr, ← mg_rungOf f e (by omega)]
  exact mg_le h1

theorem ge_nearest {f : Format} {s : Bool} {m : Nat} {p e e' : Int} (h : Vge m p e) (he : f.leastPlace + f.fractionBits ≤ e) (h' : Vle m p e') (he' : f.leastPlace + f.fractionBits + 1 ≤ e') (hi : rungOf f e' < f.infRung) (hee : rungOf f e ≤ f.infRung) :
    ∃ m' i', f.read (f.nearest s m p) = .number s m' i' ∧ Vge m' i' e := by
  have h1 := rnd_ge (f := f) h he hee
  have h2 := rnd_le (f := f) h' he'
  have hr : rg f (f.nearest s m p) = rnd f m p := rg_nearest f s m p
  obtain ⟨m', i', e1, l1, v1⟩ := read_num f (f.nearest s m p) (by omega)
  rw [sg_nearest] at e1
  refine ⟨m', i', e1, vge_of_mg l1 (by omega) ?_⟩
  rw [v1, hr, ← mg_rungOf f e (by omega)]
  exact mg_le h1



/-! ### what a call gives back, the world as it was but for draws -/
def RetB (b : Bool) (w : World) (e : Ending) (w' : World) : Prop := ∃ n, e = .returned (.bool b) ∧ w' = w.drewN n
def RetF (k : FloatKind) (o : Option Nat) (w : World) (e : Ending) (w' : World) : Prop := ∃ r n, Is k r o ∧ e = .returned (.float k r) ∧ w' = w.drewN n

theorem RetB.mk {b b' : Bool} {w : World} (n : Nat) (h : b = b') : RetB b w (.returned (.bool b')) (w.drewN n) := ⟨n, by rw [h], rfl⟩
theorem RetB.mk0 {b b' : Bool} {w : World} (h : b = b') : RetB b w (.returned (.bool b')) w := ⟨0, by rw [h], rfl⟩
theorem RetF.mk {k : FloatKind} {o : Option Nat} {w : World} {r : Nat} (n : Nat) (h : Is k r o) : RetF k o w (.returned (.float k r)) (w.drewN n) := ⟨r, n, h, rfl, rfl⟩
theorem RetF.mk0 {k : FloatKind} {o : Option Nat} {w : World} {r : Nat} (h : Is k r o) : RetF k o w (.returned (.float k r)) w := ⟨r, 0, h, rfl, rfl⟩

theorem ret_bool {a b : Bool} (h : a = b) : Ending.returned (.bool a) = .returned (.bool b) := by rw [h]
theorem ret_int {k : IntKind} {a b : Int} (h : a = b) : Ending.returned (.int k a) = .returned (.int k b) := by rw [h]
theorem ret_float {k : FloatKind} {a b : Nat} (h : a = b) : Ending.returned (.float k a) = .returned (.float k b) := by rw [h]
theorem neq_true {o p : Option Ordering} (h : (o == p) = true) : (o != p) = false := by rw [bne, h]; rfl
theorem neq_false {o p : Option Ordering} (h : (o == p) = false) : (o != p) = true := by rw [bne, h]; rfl

theorem Is.of {k : FloatKind} {b : Nat} (h : b < 2 ^ k.format.width) : Is k b (FL.ab k b) := ⟨rfl, h⟩
theorem Is.some {k : FloatKind} {r x : Nat} (h : Is k r (some x)) : r = x := (ab_some.1 h.ab).2

/-- Behind a call that has only made blocks: the old cells, the old marks. -/
theorem bcell {W w1 : World} (hb : RowKit.Below W.heap.size W w1) : (∀ b o, b < W.heap.size → w1.cell? ⟨b, o, none⟩ = W.cell? ⟨b, o, none⟩) ∧ (∀ b o, b < W.heap.size → w1.frozen? ⟨b, o, none⟩ = W.frozen? ⟨b, o, none⟩) :=
  ⟨fun b o h => hb.cell (p := ⟨b, o, none⟩) h, fun b o h => hb.frozen (p := ⟨b, o, none⟩) h⟩

/-- 'x - x == 0' -/
def fin (k : FloatKind) (o : Option Nat) : Bool := oord k (oop .sub k o o) (some 0) == some .eq

theorem ab_zero (k : FloatKind) : ab k 0 = some 0 := by cases k <;> decide



/-! ### bits -/
theorem i64_and_nat (a b : Nat) (ha : a < 9223372036854775808) (hb : b < 9223372036854775808) : bits .and .i64 (a : Int) (b : Int) = ((a &&& b : Nat) : Int) := by
  have e : ∀ n : Nat, n < 9223372036854775808 → (BitVec.ofInt 64 (n : Int)).toNat = n := by
    intro n hn
    rw [BitVec.toNat_ofInt]; omega
  unfold bits
  simp only
  change IntKind.i64.wrap (((BitVec.ofInt 64 (a : Int)) &&& (BitVec.ofInt 64 (b : Int))).toNat : Int) = _
  rw [BitVec.toNat_and, e a ha, e b hb, IntKind.wrap_i64]
  have := @Nat.and_le_left a b
  omega

theorem nat_mask_at (x i n : Nat) : x &&& ((2 ^ n - 1) * 2 ^ i) = x / 2 ^ i % 2 ^ n * 2 ^ i := by
  apply Nat.eq_of_testBit_eq
  intro j
  rw [Nat.testBit_and, Nat.testBit_mul_two_pow, Nat.testBit_mul_two_pow, Nat.testBit_two_pow_sub_one, Nat.testBit_mod_two_pow, Nat.testBit_div_two_pow]
  by_cases h : i ≤ j
  · simp [h, show j - i + i = j by omega]
    cases x.testBit j <;> simp
  · simp [h]

theorem and_exp (x : Nat) : x &&& 2139095040 = x / 8388608 % 256 * 8388608 := nat_mask_at x 23 8
theorem and_low (x : Nat) : x &&& 2147483647 = x % 2147483648 := Nat.and_two_pow_sub_one_eq_mod x 31
theorem and_top (x : Nat) : x &&& 2147483648 = x / 2147483648 % 2 * 2147483648 := nat_bit 31 x

theorem andNot_top (x : Nat) (h : x < 4294967296) : bits .andNot .u32 (x : Int) 2147483648 = ((x % 2147483648 : Nat) : Int) := by
  have := u32_andNot_nat x 2147483648 h (by omega)
  rw [show (4294967295 - 2147483648 : Nat) = 2147483647 by decide, and_low] at this
  exact this
theorem and_top_u32 (x : Nat) (h : x < 4294967296) : bits .and .u32 (x : Int) 2147483648 = ((x / 2147483648 % 2 * 2147483648 : Nat) : Int) := by
  have := u32_and_nat x 2147483648 h (by omega)
  rw [and_top] at this
  exact this
theorem and_top_i64 (x : Nat) (h : x < 4294967296) : bits .and .i64 (x : Int) 2147483648 = ((x / 2147483648 % 2 * 2147483648 : Nat) : Int) := by
  have := i64_and_nat x 2147483648 (by omega) (by omega)
  rw [and_top] at this
  exact this
theorem and_exp_i64 (x : Nat) (h : x < 4294967296) : bits .and .i64 (x : Int) 2139095040 = ((x / 8388608 % 256 * 8388608 : Nat) : Int) := by
  have := i64_and_nat x 2139095040 (by omega) (by omega)
  rw [and_exp] at this
  exact this

/-! ### float32, by its bits -/
theorem width32 : FloatKind.f32.format.width = 32 := by decide
theorem lt32 {r : Nat} {o : Option Nat} (h : Is .f32 r o) : r < 4294967296 := by have := h.lt; rw [width32] at this; exact this
theorem wf32 {r : Nat} (h : (Lit.float .f32 r).wf = true) : r < 4294967296 := by simpa [Lit.wf] using h
theorem is32 {r : Nat} (h : r < 4294967296) : Is .f32 r (FL.ab .f32 r) := ⟨rfl, by rw [width32]; exact h⟩
theorem rg32 (x : Nat) : rg single x = x % 2147483648 := by unfold rg; rw [show single.signWeight = 2147483648 by decide]
theorem sg32 (x : Nat) : sg single x = (x / 2147483648 % 2 == 1) := by unfold sg; rw [show single.signWeight = 2147483648 by decide]
theorem ab32 (x : Nat) : FL.ab .f32 x = if 2139095040 < x % 2147483648 then none else some x := by
  unfold FL.ab isN
  show (if decide (single.infRung < rg single x) = true then none else some x) = _
  rw [rg32, show single.infRung = 2139095040 by decide]
  by_cases h : 2139095040 < x % 2147483648 <;> simp [h]

/-- the bits of a float32 as its function says: one NaN's for each -/
def bitsOf (x : Nat) : Nat := if (FL.ab .f32 x).isNone then 2143289344 else x
theorem bitsOf_lt {x : Nat} (h : x < 4294967296) : bitsOf x < 4294967296 := by unfold bitsOf; split <;> omega

/-- subnormal or not: a NaN is not, nor is zero -/
def subn (x : Nat) : Bool := decide (0 < x % 2147483648) && decide (x % 2147483648 < 8388608)

theorem order_zero32 (x : Nat) : (FloatKind.f32.format.order x 0 == some .eq) = decide (x % 2147483648 = 0) := by
  rw [order_ab, ab_zero]
  rw [ab32]
  split
  · rename_i h
    rw [decide_eq_false (by omega)]; rfl
  · rename_i h
    show (some (compare (key single x) (key single 0)) == some Ordering.eq) = _
    rw [show key single 0 = 0 by decide, key_sz, rg32]
    by_cases h0 : x % 2147483648 = 0
    · rw [cmp_eq (by rw [h0]; unfold sz; split <;> rfl)]; simp [h0]
    · have : compare (sz (sg single x) (x % 2147483648)) 0 ≠ .eq := by
        intro hc
        have hz : sz (sg single x) (x % 2147483648) ≠ 0 := by unfold sz; split <;> omega
        rcases Int.lt_trichotomy (sz (sg single x) (x % 2147483648)) 0 with h1 | h1 | h1
        · rw [cmp_lt h1] at hc; cases hc
        · exact hz h1
        · rw [cmp_gt h1] at hc; cases hc
      cases hc : compare (sz (sg single x) (x % 2147483648)) 0 <;> simp_all

theorem order_least32 (x : Nat) : (FloatKind.f32.format.order (x % 2147483648) 8388608 == some .lt) = decide (x % 2147483648 < 8388608) := by
  rw [order_ab, ab32, ab32]
  have hm : x % 2147483648 % 2147483648 = x % 2147483648 := by omega
  rw [hm]
  split
  · rename_i h
    rw [decide_eq_false (by omega)]; rfl
  · rename_i h
    rw [if_neg (by decide)]
    show (some (compare (key single (x % 2147483648)) (key single 8388608)) == some Ordering.lt) = _
    have k1 : key single (x % 2147483648) = ((x % 2147483648 : Nat) : Int) := by
      rw [key_sz, rg32, hm, sg32]
      have : (x % 2147483648 / 2147483648 % 2 == 1) = false := by rw [beq_eq_false_iff_ne]; omega
      rw [this]; rfl
    rw [k1, show key single 8388608 = 8388608 by decide]
    by_cases h0 : x % 2147483648 < 8388608
    · rw [cmp_lt (by omega)]; simp [h0]
    · by_cases h1 : x % 2147483648 = 8388608
      · rw [cmp_eq (by omega)]; simp [h1]
      · rw [cmp_gt (by omega)]; simp [h0]

/-- the signed rung of a float32 -/
def k32 (x : Nat) : Int := if x / 2147483648 % 2 = 1 then -((x % 2147483648 : Nat) : Int) else ((x % 2147483648 : Nat) : Int)
theorem key32 (x : Nat) : key single x = k32 x := by
  rw [key_sz, rg32, sg32]
  unfold sz k32
  by_cases h : x / 2147483648 % 2 = 1
  · simp [h]
  · simp [h]
theorem order32 {x y : Nat} (hx : x % 2147483648 ≤ 2139095040) (hy : y % 2147483648 ≤ 2139095040) : FloatKind.f32.format.order x y = some (compare (k32 x) (k32 y)) := by
  rw [order_ab, ab32, ab32, if_neg (by omega), if_neg (by omega), ← key32, ← key32]; rfl

theorem ord_lt {x y : Int} {o : Option Ordering} (e : o = some (compare x y)) (h : x < y) : o = some .lt := by rw [e, cmp_lt h]
theorem ord_eq {x y : Int} {o : Option Ordering} (e : o = some (compare x y)) (h : x = y) : o = some .eq := by rw [e, cmp_eq h]
theorem ord_gt {x y : Int} {o : Option Ordering} (e : o = some (compare x y)) (h : y < x) : o = some .gt := by rw [e, cmp_gt h]

theorem neg_lt32 {x : Nat} (h : x < 4294967296) : Op.negFloat .f32 x < 4294967296 := Nat.xor_lt_two_pow (n := 32) h (by decide)

/-- a subnormal float32 made a zero of its sign -/
def flush (x : Nat) : Nat := if x % 2147483648 < 8388608 then x / 2147483648 % 2 * 2147483648 else x
/-- the next greater float32 -/
def nextUp (x : Nat) : Nat := if 2139095040 < x % 2147483648 ∨ x = 2139095040 then x else if x % 2147483648 = 0 then 1 else if 2147483648 ≤ x then x - 1 else x + 1

theorem exp_zero (x : Nat) : ((bitsOf x / 8388608 % 256 * 8388608 : Nat) : Int) = 0 ↔ x % 2147483648 < 8388608 := by
  unfold bitsOf
  rw [ab32]
  by_cases hn : 2139095040 < x % 2147483648
  · simp [hn]; omega
  · simp [hn]; omega



/-! ### arguments, opened -/
section
open Go.ChangeShapes Go.WideShapes Go.Deep Go.Joins
variable {H : Type} {enc : TypeId × Value → H} {P : Program} {w : World} {base : Nat} {spare : Nat → Bool} {held : Bool}

theorem trod_float {t : TypeId} {k : FloatKind} {fuel : Nat} {c : Value} {y : DataW H × List MemPlace} (ht : P.underlying t = some (.float k)) (h : DataW.trod enc P w base spare held fuel t [c] = some y) :
    ∃ b, c = .float k b ∧ (Lit.float k b).wf = true := by
  cases fuel with
  | zero => simp [DataW.trod] at h
  | succ n =>
    unfold DataW.trod at h
    rw [ht] at h
    split at h <;> simp_all

/-- a vector's three floats fit -/
def VecOk (x y z : Nat) : Prop := x < 4294967296 ∧ y < 4294967296 ∧ z < 4294967296

theorem open_vector {r : Reach} {b0 : Nat} {t e : TypeId} {f0 f1 f2 : Field} {v : Value} {d : DataW H} {p : List MemPlace} (hs : P.underlying t = some (.struct #[f0, f1, f2])) (hone : oneCellFields P #[f0, f1, f2] = true) (hC : P.cellsOf t = 3)
    (he : P.underlying e = some (.float .f32)) (hf : f0.type = e ∧ f1.type = e ∧ f2.type = e) (hv : Value.okWide P w r b0 t v) (h : DataW.Trod enc P w base spare held t v d p) :
    ∃ x y z, v = .agg #[.float .f32 x, .float .f32 y, .float .f32 z] ∧ VecOk x y z := by
  obtain ⟨v0, v1, v2, y0, y1, y2, n, rfl, rfl, rfl, h0, h1, h2⟩ := open_agg3 hs hone hC hv h
  rw [hf.1] at h0; rw [hf.2.1] at h1; rw [hf.2.2] at h2
  obtain ⟨x, rfl, wx⟩ := trod_float he h0
  obtain ⟨y, rfl, wy⟩ := trod_float he h1
  obtain ⟨z, rfl, wz⟩ := trod_float he h2
  exact ⟨x, y, z, rfl, wf32 wx, wf32 wy, wf32 wz⟩

/-- A slice of floats that came in: empty, or a row of cells of which the first are 'zs'. -/
def IsFRow (w : World) (a : Option Addr) (len cap : Nat) (zs : List Nat) : Prop :=
  zs.length = len ∧ len ≤ cap ∧ cap ≤ maxLen ∧ (∀ z ∈ zs, z < 4294967296) ∧
  (len = 0 ∨ ∃ b off, a = some ⟨b, off, none⟩ ∧ b < w.heap.size ∧ ∀ i, i < len → w.cell? ⟨b, off + i, none⟩ = some (.float .f32 (zs.getD i 0)))

theorem open_floats_cells {t e : TypeId} {fuel : Nat} {cs : List Value} {y : DataW H × List MemPlace} (ht : P.underlying t = some (.slice e)) (he : P.underlying e = some (.float .f32)) (hc : P.cellsOf e = 1)
    (h : DataW.trod enc P w base spare held fuel t cs = some y) : ∃ a len cap zs, cs = [.slice a len cap] ∧ IsFRow w a len cap zs := by
  rcases open_slice1 ht hc h with ⟨rfl, rfl⟩ | ⟨a, len, cap, m, n, V, D, Pl, rfl, hb, hl, hm, hmm, rfl, hx⟩
  · exact ⟨none, 0, 0, [], rfl, rfl, Nat.le_refl _, Nat.zero_le _, by simp, .inl rfl⟩
  · have hlm : len ≤ m := by rw [hmm]; split <;> omega
    obtain ⟨Z, hZ⟩ := choose_lt (n := len) (p := fun i z => V i = .float .f32 z ∧ z < 4294967296) (fun i hi => by
      obtain ⟨b, hb, hw⟩ := trod_float he (hx i (by omega)).2
      exact ⟨b, hb, wf32 hw⟩)
    refine ⟨some a, len, cap, (List.range len).map Z, rfl, by simp, hl, hm, ?_, ?_⟩
    · intro z hz
      obtain ⟨i, hi, rfl⟩ := List.mem_map.1 hz
      exact (hZ i (by simpa using hi)).2
    · by_cases h0 : len = 0
      · exact .inl h0
      · right
        have c0 := (hx 0 (by omega)).1
        have hsp : a.spot = none := by
          have e : a.add 0 = a := by simp [Addr.add]
          rw [e] at c0
          unfold World.cell? at c0
          split at c0
          · cases hs : a.spot with
            | none => rfl
            | some s => rw [hs] at c0; simp at c0
          · cases c0
        have ha : a = ⟨a.block, a.off, none⟩ := by cases a; simp at hsp; subst hsp; rfl
        have hadd : ∀ i, a.add i = ⟨a.block, a.off + i, none⟩ := by
          intro i
          unfold Addr.add
          by_cases hi : i = 0
          · rw [if_pos hi, hi]; exact ha
          · rw [if_neg hi]
        refine ⟨a.block, a.off, by rw [← ha], ?_, ?_⟩
        · have := World.block_lt_of_cell? w _ c0
          rw [hadd 0] at this
          exact this
        · intro i hi
          have := (hx i (by omega)).1
          rw [hadd i, (hZ i hi).1] at this
          rw [this]
          simp [List.getD, hi]

theorem open_floats {r : Reach} {b0 : Nat} {t e : TypeId} {v : Value} {d : DataW H} {p : List MemPlace} (ht : P.underlying t = some (.slice e)) (he : P.underlying e = some (.float .f32)) (hc : P.cellsOf e = 1)
    (hv : Value.okWide P w r b0 t v) (h : DataW.Trod enc P w base spare held t v d p) : ∃ a len cap zs, v = .slice a len cap ∧ IsFRow w a len cap zs := by
  obtain ⟨a, len, cap, rfl⟩ := okWide_slice ht hv
  obtain ⟨fuel, hf⟩ := h
  obtain ⟨a', len', cap', zs, hcs, hr⟩ := open_floats_cells ht he hc hf
  simp [Value.cells] at hcs
  obtain ⟨rfl, rfl, rfl⟩ := hcs
  exact ⟨a, len, cap, zs, rfl, hr⟩

/-- A slice of int64 that came in. -/
def IsIRow (w : World) (a : Option Addr) (len cap : Nat) (zs : List Int) : Prop :=
  zs.length = len ∧ len ≤ cap ∧ cap ≤ maxLen ∧ (∀ z ∈ zs, -9223372036854775808 ≤ z ∧ z ≤ 9223372036854775807) ∧
  (len = 0 ∨ ∃ b off, a = some ⟨b, off, none⟩ ∧ b < w.heap.size ∧ ∀ i, i < len → w.cell? ⟨b, off + i, none⟩ = some (.int .i64 (zs.getD i 0)))

/-- a picture's numbers fit; its greys are a row -/
def PicOk (w : World) (wide high : Int) (a : Option Addr) (len cap : Nat) (zs : List Nat) : Prop :=
  (-9223372036854775808 ≤ wide ∧ wide ≤ 9223372036854775807) ∧ (-9223372036854775808 ≤ high ∧ high ≤ 9223372036854775807) ∧ IsFRow w a len cap zs

theorem i64_bounds {n : Int} (h : (Lit.int .i64 n).wf = true) : -9223372036854775808 ≤ n ∧ n ≤ 9223372036854775807 := by
  simpa [Lit.wf, IntKind.min, IntKind.max, IntKind.signed, IntKind.bits] using h

theorem open_picture {r : Reach} {b0 : Nat} {t i s e : TypeId} {f0 f1 f2 : Field} {v : Value} {d : DataW H} {p : List MemPlace} (hs : P.underlying t = some (.struct #[f0, f1, f2])) (hone : oneCellFields P #[f0, f1, f2] = true) (hC : P.cellsOf t = 3)
    (hi : P.underlying i = some (.int .i64)) (hsl : P.underlying s = some (.slice e)) (he : P.underlying e = some (.float .f32)) (hc : P.cellsOf e = 1) (hf : f0.type = i ∧ f1.type = i ∧ f2.type = s) (hv : Value.okWide P w r b0 t v) (h : DataW.Trod enc P w base spare held t v d p) :
    ∃ x y a len cap zs, v = .agg #[.int .i64 x, .int .i64 y, .slice a len cap] ∧ PicOk w x y a len cap zs := by
  obtain ⟨v0, v1, v2, y0, y1, y2, n, rfl, rfl, rfl, h0, h1, h2⟩ := open_agg3 hs hone hC hv h
  rw [hf.1] at h0; rw [hf.2.1] at h1; rw [hf.2.2] at h2
  obtain ⟨x, e0, -, wx⟩ := DataW.trod_int hi h0
  obtain ⟨y, e1, -, wy⟩ := DataW.trod_int hi h1
  obtain ⟨a, len, cap, zs, e2, hr⟩ := open_floats_cells hsl he hc h2
  simp only [List.cons.injEq, and_true] at e0 e1 e2
  subst e0 e1 e2
  exact ⟨x, y, a, len, cap, zs, rfl, i64_bounds wx, i64_bounds wy, hr⟩

theorem open_i64s {r : Reach} {b0 : Nat} {t e : TypeId} {v : Value} {d : DataW H} {p : List MemPlace} (ht : P.underlying t = some (.slice e)) (he : P.underlying e = some (.int .i64)) (hc : P.cellsOf e = 1)
    (hv : Value.okWide P w r b0 t v) (h : DataW.Trod enc P w base spare held t v d p) : ∃ a len cap zs, v = .slice a len cap ∧ IsIRow w a len cap zs := by
  obtain ⟨a, len, cap, rfl⟩ := okWide_slice ht hv
  obtain ⟨fuel, hf⟩ := h
  rcases open_slice1 ht hc hf with ⟨hcs, -⟩ | ⟨a', len', cap', m, n, V, D, Pl, hcs, hb, hl, hm, hmm, -, hx⟩
  · simp [Value.cells] at hcs
    obtain ⟨rfl, rfl, rfl⟩ := hcs
    exact ⟨none, 0, 0, [], rfl, rfl, Nat.le_refl _, Nat.zero_le _, by simp, .inl rfl⟩
  · simp [Value.cells] at hcs
    obtain ⟨rfl, rfl, rfl⟩ := hcs
    have hlm : len ≤ m := by rw [hmm]; split <;> omega
    obtain ⟨Z, hZ⟩ := choose_lt (n := len) (p := fun i z => V i = .int .i64 z ∧ -9223372036854775808 ≤ z ∧ z ≤ 9223372036854775807) (fun i hi => by
      obtain ⟨b, hb, _, hw⟩ := DataW.trod_int he (hx i (by omega)).2
      simp only [List.cons.injEq, and_true] at hb
      exact ⟨b, hb, i64_bounds hw⟩)
    refine ⟨some a', len, cap, (List.range len).map Z, rfl, by simp, hl, hm, ?_, ?_⟩
    · intro z hz
      obtain ⟨i, hi, rfl⟩ := List.mem_map.1 hz
      exact (hZ i (by simpa using hi)).2
    · by_cases h0 : len = 0
      · exact .inl h0
      · right
        have c0 := (hx 0 (by omega)).1
        have hsp : a'.spot = none := by
          have e : a'.add 0 = a' := by simp [Addr.add]
          rw [e] at c0
          unfold World.cell? at c0
          split at c0
          · cases hs : a'.spot with
            | none => rfl
            | some s => rw [hs] at c0; simp at c0
          · cases c0
        have ha : a' = ⟨a'.block, a'.off, none⟩ := by cases a'; simp at hsp; subst hsp; rfl
        have hadd : ∀ i, a'.add i = ⟨a'.block, a'.off + i, none⟩ := by
          intro i
          unfold Addr.add
          by_cases hi : i = 0
          · rw [if_pos hi, hi]; exact ha
          · rw [if_neg hi]
        refine ⟨a'.block, a'.off, by rw [← ha], ?_, ?_⟩
        · have := World.block_lt_of_cell? w _ c0
          rw [hadd 0] at this
          exact this
        · intro i hi
          have := (hx i (by omega)).1
          rw [hadd i, (hZ i hi).1] at this
          rw [this]
          simp [List.getD, hi]
end



/-! ### a statement whose order is open, by what each operation leaves: no order is looked at -/
section
variable {P : Program} {ops : Array Oper} {Q : Exit → Act → World → Prop}

theorem wpAny_inv (Inv : (Nat → Bool) → Act → World → Prop)
    (hstep : ∀ (L : Nat → Bool) a w i o, Inv L a w → ops[i]? = some o → L i = false → (∀ e ∈ o.after, Region.binds .any e = true → L e.on = true) →
      wpOp P ops Q i (fun a' w' => Inv (fun j => j == i || L j) a' w') a w)
    (hend : ∀ (L : Nat → Bool) a w, Inv L a w → (∀ i, i < ops.size → L i = true) → Q .normal a w)
    (hdown : ∀ (i : Nat) (o : Oper), ops[i]? = some o → ∀ e ∈ o.after, e.on < i) :
    ∀ (fuel : Nat) (listed : Array Bool) (a : Act) (w : World), listed.size = ops.size → listed.toList.countP (!·) ≤ fuel → Inv (fun j => listed.getD j true) a w → wpAny P .any ops Q fuel listed a w := by
  have hall : ∀ (listed : Array Bool), listed.size = ops.size → Region.ready .any ops listed = [] → ∀ i, i < ops.size → listed.getD i true = true := by
    intro listed hsz hr i
    induction i using Nat.strongRecOn with
    | ind i ih =>
      intro hi
      cases hc : listed.getD i true with
      | true => rfl
      | false =>
        exfalso
        have hm : i ∈ Region.ready .any ops listed := by
          refine mem_ready.2 ⟨hc, ops[i], by simp [hi], fun e he _ => ?_⟩
          have h1 := hdown i ops[i] (by simp [hi]) e he
          have h2 := ih e.on h1 (by omega)
          rw [Array.getD_eq_getD_getElem?] at h2 ⊢
          rw [Array.getElem?_eq_getElem (by omega)] at h2 ⊢
          exact h2
        rw [hr] at hm
        cases hm
  intro fuel
  induction fuel with
  | zero =>
    intro listed a w hsz hcnt hI
    have h0 : ∀ i, i < ops.size → listed.getD i true = true := by
      intro i hi
      have := List.countP_eq_zero.1 (Nat.le_zero.1 hcnt) (listed[i]'(by omega)) (by simp)
      simp only [Array.getD_eq_getD_getElem?]
      rw [Array.getElem?_eq_getElem (by omega)]
      simpa using this
    have hr : Region.ready .any ops listed = [] := by
      rw [List.eq_nil_iff_forall_not_mem]
      intro j hj
      obtain ⟨h1, o, h2, _⟩ := mem_ready.1 hj
      have hj' : j < ops.size := (Array.getElem?_eq_some_iff.1 h2).1
      rw [h0 j hj'] at h1
      cases h1
    exact ⟨hr, hend _ a w hI h0⟩
  | succ fuel ih =>
    intro listed a w hsz hcnt hI
    refine ⟨fun hr => hend _ a w hI (hall listed hsz hr), fun i hi => ?_⟩
    obtain ⟨h1, o, h2, h3⟩ := mem_ready.1 hi
    have hi' : i < ops.size := (Array.getElem?_eq_some_iff.1 h2).1
    have hs := hstep _ a w i o hI h2 h1 (fun e he hb => by
      have h4 := h3 e he hb
      simp only [Array.getD_eq_getD_getElem?] at h4 ⊢
      cases hx : listed[e.on]? with
      | none => rw [hx] at h4; simp at h4
      | some x => rw [hx] at h4; simpa using h4)
    refine wpOp_mono (fun a' w' hI' => ih _ a' w' (by simpa using hsz) ?_ ?_) hs
    · have hli : listed[i]'(by omega) = false := by
        simp only [Array.getD_eq_getD_getElem?] at h1
        rw [Array.getElem?_eq_getElem (by omega)] at h1
        simpa using h1
      have hset : (listed.setIfInBounds i true).toList = listed.toList.set i true := by simp
      rw [hset, List.countP_set (by simpa using (by omega : i < listed.size))]
      simp only [hli, Array.getElem_toList, Bool.not_false, Bool.not_true]
      have : 0 < listed.toList.countP (!·) := List.countP_pos_iff.2 ⟨listed[i]'(by omega), by simp, by simp [hli]⟩
      simp
      simp at this hcnt
      omega
    · have : (fun j => (listed.setIfInBounds i true).getD j true) = fun j => j == i || listed.getD j true := by
        funext j
        simp only [Array.getD_eq_getD_getElem?, Array.getElem?_setIfInBounds]
        by_cases hj : j = i
        · subst hj
          have : j < listed.size := by omega
          simp [this]
        · have : ¬ i = j := fun h => hj h.symm
          simp [hj, this]
      rw [this]
      exact hI'

/-- the edges lead back -/
def edgesDown (ops : Array Oper) : Bool := (List.range ops.size).all fun i => ((ops[i]?).map fun o => o.after.all fun e => decide (e.on < i)).getD true

/-- A REGION THAT DRAWS ITS ORDER: 'Inv L' says what is known when the operations in L have been carried out. -/
theorem wp_region_inv {id : Nat} {a : Act} {w : World} (hm : P.follows .mixedOrders = true) (hdown : edgesDown ops = true) (Inv : (Nat → Bool) → Act → World → Prop)
    (h0 : Inv (fun _ => false) a w.drew)
    (hstep : ∀ (L : Nat → Bool) a w i o, Inv L a w → ops[i]? = some o → L i = false → (∀ e ∈ o.after, Region.binds .any e = true → L e.on = true) →
      wpOp P ops Q i (fun a' w' => Inv (fun j => j == i || L j) a' w') a w)
    (hend : ∀ (L : Nat → Bool) a w, Inv L a w → (∀ i, i < ops.size → L i = true) → Q .normal a w) : (Code.region id ops true).wp P Q a w := by
  have hd : ∀ (i : Nat) (o : Oper), ops[i]? = some o → ∀ e ∈ o.after, e.on < i := by
    intro i o ho e he
    have hi : i < ops.size := (Array.getElem?_eq_some_iff.1 ho).1
    have := List.all_eq_true.1 hdown i (by simpa using hi)
    rw [ho] at this
    simp only [Option.map_some, Option.getD_some, Array.all_eq_true_iff_forall_mem] at this
    simpa using this e he
  -- whatever lies outside the region counts as carried out
  refine wp_region_any hm (wpAny_inv (fun L a w => ∃ L', (∀ i, i < ops.size → L' i = L i) ∧ Inv L' a w) ?_ ?_ hd ops.size _ a _ (by simp) (by simp [List.countP_replicate]) ⟨fun _ => false, fun i hi => by simp [hi], h0⟩)
  · rintro L a w i o ⟨L', hL, hI⟩ ho hLi hdep
    have hi : i < ops.size := (Array.getElem?_eq_some_iff.1 ho).1
    refine wpOp_mono (fun a' w' hI' => ⟨_, ?_, hI'⟩) (hstep L' a w i o hI ho (by rw [hL i hi]; exact hLi) (fun e he hb => by rw [hL e.on (Nat.lt_trans (hd i o ho e he) hi)]; exact hdep e he hb))
    intro j hj
    simp only [hL j hj]
  · rintro L a w ⟨L', hL, hI⟩ hall
    exact hend L' a w hI (fun i hi => by rw [hL i hi]; exact hall i hi)

theorem wpOp_run {i : Nat} {o : Oper} {K : Act → World → Prop} {a : Act} {w : World} (ho : ops[i]? = some o) (hw : Region.wanted o (yielded ops a.tmps) = true) (h : o.wp P a w K Q) : wpOp P ops Q i K a w := by
  unfold wpOp
  rw [ho]
  simp only [hw, if_true]
  exact .inl h
end



/-! ### the same, operation by operation -/
def upd (vals : Nat → Value) (i : Nat) (v : Value) : Nat → Value := fun j => if j = i then v else vals j

@[go_sem] theorem upd_at (vals : Nat → Value) (i : Nat) (v : Value) (j : Nat) : upd vals i v j = if j = i then v else vals j := rfl

/-- the last operation waits for all others -/
def lastWaits (ops : Array Oper) (fin : Nat) : Bool := (ops.size == fin + 1) && (List.range fin).all fun j => ((ops[fin]?).map fun o => o.after.toList.any fun e => e.on == j && Region.binds .any e).getD false

/-- An operation has been run: its value lies in its slot, new blocks at most. -/
def Ran (act : Act → (Nat → Value) → Act) (G : World → Prop) (R : Nat → World → Value → Prop) (a : Act) (vals : Nat → Value) (W : World) (i : Nat) (a' : Act) (W' : World) : Prop :=
  ∃ v, a' = act a (upd vals i v) ∧ RowKit.Below W.heap.size W W' ∧ G W' ∧ R i W' v

section
variable {P : Program} {ops : Array Oper} {Q : Exit → Act → World → Prop}

/-- A REGION THAT DRAWS ITS ORDER, whose operations make new blocks at most and whose last waits for all others: each operation is run once. 'R i': what is known of operation i's value; it must outlast new blocks. -/
theorem wp_region_steps {id : Nat} {a : Act} {w : World} (hm : P.follows .mixedOrders = true) (hdown : edgesDown ops = true) (fin : Nat) (hlast : lastWaits ops fin = true)
    (act : Act → (Nat → Value) → Act) (G : World → Prop) (R : Nat → World → Value → Prop)
    (hst : ∀ j W W' v, RowKit.Below W.heap.size W W' → R j W v → R j W' v)
    (h0 : ∃ vals, a = act a vals) (hG : G w.drew)
    (hstep : ∀ i o, ops[i]? = some o → i < fin → ∀ vals W, G W → (∀ e ∈ o.after, Region.binds .any e = true → R e.on W (vals e.on)) →
      wpOp P ops Q i (Ran act G R a vals W i) (act a vals) W)
    (hfin : ∀ vals W, G W → (∀ j, j < fin → R j W (vals j)) → wpOp P ops Q fin (fun a' W' => Q .normal a' W') (act a vals) W) :
    (Code.region id ops true).wp P Q a w := by
  unfold lastWaits at hlast
  rw [Bool.and_eq_true, beq_iff_eq, List.all_eq_true] at hlast
  obtain ⟨hsz, hwait⟩ := hlast
  refine wp_region_inv hm hdown (fun L a' W => if L fin = true then Q .normal a' W ∧ ∀ j, j < ops.size → L j = true else ∃ vals, a' = act a vals ∧ G W ∧ ∀ j, j < fin → L j = true → R j W (vals j)) ?_ ?_ ?_
  · simp only [Bool.false_eq_true, if_false]
    obtain ⟨vals, h0⟩ := h0
    exact ⟨vals, h0, hG, fun j _ h => by cases h⟩
  · intro L a' W i o hI ho hLi hd
    have hi : i < ops.size := (Array.getElem?_eq_some_iff.1 ho).1
    by_cases hf : L fin = true
    · rw [if_pos hf] at hI
      rw [hI.2 i hi] at hLi
      cases hLi
    · rw [if_neg hf] at hI
      obtain ⟨vals, rfl, hGW, hR⟩ := hI
      by_cases hif : i = fin
      · subst hif
        have hall : ∀ j, j < i → L j = true := by
          intro j hj
          have := hwait j (by simpa using hj)
          rw [ho] at this
          simp only [Option.map_some, Option.getD_some, List.any_eq_true, Bool.and_eq_true, beq_iff_eq] at this
          obtain ⟨e, he, hej, hb⟩ := this
          rw [← hej]
          exact hd e (Array.mem_toList_iff.1 he) hb
        refine wpOp_mono (fun a'' W' hQ => ?_) (hfin vals W hGW fun j hj => hR j hj (hall j hj))
        simp only [beq_self_eq_true, Bool.true_or, if_true]
        refine ⟨hQ, fun j hj => ?_⟩
        by_cases hji : j = i
        · simp [hji]
        · simp [hall j (by omega)]
      · have hlt : i < fin := by omega
        have hdn : ∀ e ∈ o.after, e.on < i := by
          intro e he
          unfold edgesDown at hdown
          have := List.all_eq_true.1 hdown i (by simpa using hi)
          rw [ho] at this
          simp only [Option.map_some, Option.getD_some, Array.all_eq_true_iff_forall_mem] at this
          simpa using this e he
        refine wpOp_mono (fun a'' W' h => ?_) (hstep i o ho hlt vals W hGW fun e he hb => hR e.on (Nat.lt_trans (hdn e he) hlt) (hd e he hb))
        obtain ⟨v, rfl, hb, hG', hRi⟩ := h
        have hne : ((fin == i) || L fin) = false := by
          have : (fin == i) = false := by rw [beq_eq_false_iff_ne]; omega
          rw [this]; simpa using hf
        rw [if_neg (show ¬ ((fin == i) || L fin) = true by rw [hne]; simp)]
        refine ⟨_, rfl, hG', fun j hj hLj => ?_⟩
        unfold upd
        by_cases hji : j = i
        · subst hji; simpa using hRi
        · rw [if_neg hji]
          have : (j == i) = false := by rw [beq_eq_false_iff_ne]; exact hji
          simp only [this, Bool.false_or] at hLj
          exact hst j W W' _ hb (hR j hj hLj)
  · intro L a' W hI hall
    rw [if_pos (hall fin (by omega))] at hI
    exact hI.1

/-- The same of a region whose order is that of the text. -/
theorem wp_region_steps_seq {id : Nat} {a : Act} {w : World} (hdown : edgesDown ops = true) (fin : Nat) (hsz : (ops.size == fin + 1) = true)
    (act : Act → (Nat → Value) → Act) (G : World → Prop) (R : Nat → World → Value → Prop)
    (hst : ∀ j W W' v, RowKit.Below W.heap.size W W' → R j W v → R j W' v)
    (h0 : ∃ vals, a = act a vals) (hG : G w)
    (hstep : ∀ i o, ops[i]? = some o → i < fin → ∀ vals W, G W → (∀ e ∈ o.after, Region.binds .any e = true → R e.on W (vals e.on)) →
      wpOp P ops Q i (Ran act G R a vals W i) (act a vals) W)
    (hfin : ∀ vals W, G W → (∀ j, j < fin → R j W (vals j)) → wpOp P ops Q fin (fun a' W' => Q .normal a' W') (act a vals) W) :
    (Code.region id ops false).wp P Q a w := by
  rw [beq_iff_eq] at hsz
  obtain ⟨vals, h0⟩ := h0
  have key : ∀ d k, k + d = fin → ∀ vals W, G W → (∀ j, j < k → R j W (vals j)) → wpOps P ops Q (List.range' k (d + 1)) (act a vals) W := by
    intro d
    induction d with
    | zero =>
      intro k hk vals W hGW hR
      obtain rfl : k = fin := by omega
      rw [List.range'_succ, List.range'_zero, wpOps_cons]
      exact hfin vals W hGW hR
    | succ d ih =>
      intro k hk vals W hGW hR
      rw [List.range'_succ, wpOps_cons]
      have hi : k < ops.size := by omega
      have ho : ops[k]? = some ops[k] := by simp [hi]
      refine wpOp_mono (fun a' W' h => ?_) (hstep k _ ho (by omega) vals W hGW fun e he _ => hR e.on ?_)
      · obtain ⟨v, rfl, hb, hG', hRi⟩ := h
        refine ih (k + 1) (by omega) _ W' hG' fun j hj => ?_
        unfold upd
        by_cases hjk : j = k
        · subst hjk; simpa using hRi
        · rw [if_neg hjk]; exact hst j W W' _ hb (hR j (by omega))
      · unfold edgesDown at hdown
        have := List.all_eq_true.1 hdown k (by simpa using hi)
        rw [ho] at this
        simp only [Option.map_some, Option.getD_some, Array.all_eq_true_iff_forall_mem] at this
        simpa using this e he
  refine wp_region ?_
  rw [List.range_eq_range', hsz, h0]
  have := key fin 0 (by omega) vals w hG (fun j hj => absurd hj (by omega))
  exact this
end

/-! ### what the call's own variables hold -/
/-- The cells 'l' are as listed, all in blocks below N; below B the world is as it was at w. -/
structure GG (l : List (Nat × Nat × Value)) (N B : Nat) (w W : World) : Prop where
  cells : ∀ p ∈ l, W.cell? ⟨p.1, p.2.1, none⟩ = some p.2.2
  low : ∀ p ∈ l, p.1 < N
  base : B ≤ N
  size : N ≤ W.heap.size
  below : RowKit.Below B w W

section
variable {l : List (Nat × Nat × Value)} {N B : Nat} {w W W' : World}
open RowKit

theorem GG.at (h : GG l N B w W) {b o : Nat} {v : Value} (hm : (b, o, v) ∈ l) : W.cell? ⟨b, o, none⟩ = some v := h.cells _ hm

theorem GG.call (h : GG l N B w W) (hb : Below W.heap.size W W') : GG l N B w W' := by
  obtain ⟨hc, _⟩ := bcell hb
  exact ⟨fun p hp => (hc _ _ (Nat.lt_of_lt_of_le (h.low p hp) h.size)).trans (h.cells p hp), h.low, h.base, Nat.le_trans h.size hb.size, h.below.trans (hb.mono (Nat.le_trans h.base h.size))⟩

theorem GG.drew (h : GG l N B w W) : GG l N B w W.drew := ⟨h.cells, h.low, h.base, h.size, h.below.drew⟩
theorem GG.drewN (h : GG l N B w W) (n : Nat) : GG l N B w (W.drewN n) := ⟨h.cells, h.low, h.base, h.size, ⟨h.below.os, h.below.tape, h.below.output, h.below.size, h.below.block⟩⟩

theorem GG.set (h : GG l N B w W) {g o : Nat} (hg : N ≤ g) (v : Value) : GG l N B w (W.setCell ⟨g, o, none⟩ v) :=
  ⟨fun p hp => (World.cell?_of_block (w := W) (Below.heap_setCell W ⟨g, o, none⟩ v p.1 (by have := h.low p hp; show p.1 ≠ g; omega))).trans (h.cells p hp), h.low, h.base, by simpa [World.setCell] using h.size, h.below.setCell (by show B ≤ g; have := h.base; omega) v⟩

/-- More cells, listed; the bound is the heap's end. -/
theorem GG.more (h : GG l N B w W) (l' : List (Nat × Nat × Value)) (hc : ∀ p ∈ l', W.cell? ⟨p.1, p.2.1, none⟩ = some p.2.2) : GG (l' ++ l) W.heap.size B w W := by
  refine ⟨fun p hp => ?_, fun p hp => ?_, Nat.le_trans h.base h.size, Nat.le_refl _, h.below⟩
  · rcases List.mem_append.1 hp with hp | hp
    · exact hc p hp
    · exact h.cells p hp
  · rcases List.mem_append.1 hp with hp | hp
    · exact World.block_lt_of_cell? W _ (hc p hp)
    · exact Nat.lt_of_lt_of_le (h.low p hp) h.size
end

def At3 (W : World) (g : Nat) (a b c : Value) : Prop := W.cell? ⟨g, 0, none⟩ = some a ∧ W.cell? ⟨g, 1, none⟩ = some b ∧ W.cell? ⟨g, 2, none⟩ = some c

/-- a new variable of three cells -/
def New3 (N : Nat) (W : World) (s : Value) : Prop := ∃ g, s = .pointer (some ⟨g, 0, none⟩) ∧ N ≤ g ∧ g < W.heap.size ∧ (∀ i, W.frozen? ⟨g, i, none⟩ = false) ∧ ∃ a b c, At3 W g a b c

theorem New3.call {N : Nat} {W W' : World} {s : Value} (hb : RowKit.Below W.heap.size W W') (h : New3 N W s) : New3 N W' s := by
  obtain ⟨hc, hf⟩ := bcell hb
  obtain ⟨g, e, h1, h2, h3, a, b, c, k0, k1, k2⟩ := h
  exact ⟨g, e, h1, Nat.lt_of_lt_of_le h2 hb.size, fun i => (hf g i h2).trans (h3 i), a, b, c, (hc _ _ h2).trans k0, (hc _ _ h2).trans k1, (hc _ _ h2).trans k2⟩
theorem New3.mk {N : Nat} {W : World} (hN : N ≤ W.heap.size) (a b c : Value) (t : TypeId) : New3 N (W.alloc (.cells #[a, b, c] t)) (.pointer (some ⟨W.heap.size, 0, none⟩)) :=
  ⟨W.heap.size, rfl, hN, by simp, fun i => World.frozen?_alloc_new .., a, b, c, by unfold At3; go_simp⟩

theorem at3_set (W : World) (g : Nat) (a b c x y z : Value) (h : At3 W g x y z) : At3 (((W.setCell ⟨g, 0, none⟩ a).setCell ⟨g, 1, none⟩ b).setCell ⟨g, 2, none⟩ c) g a b c := by
  obtain ⟨h0, h1, h2⟩ := h
  unfold At3
  go_simp



/-! ### float64 to float32; the root -/
/-- the bits of the float32 of a float64 that is not too great -/
def nar (b : Nat) : Nat := FloatKind.f32.encode (FloatKind.f64.decode b)
/-- not too great for float32 -/
def Fits (b : Nat) : Prop := rg double b = double.infRung ∨ Bd double b 127

theorem nar_inf {b : Nat} (h : rg double b = double.infRung) : FloatKind.f32.encode (.infinity (sg double b)) = nar b ∧ rg single (nar b) ≤ single.infRung := by
  have e : FloatKind.f64.decode b = .infinity (sg double b) := read_inf double (by decide) b h
  have e2 : nar b = single.word (sg double b) single.infRung := by
    show FloatKind.f32.encode (FloatKind.f64.decode b) = _
    rw [e]; rfl
  exact ⟨e2.symm, by rw [e2, rg_word _ _ single.infRung_lt]; exact Nat.le_refl _⟩

theorem nar_bd {b : Nat} {s : Bool} {m : Nat} {i : Int} (e : double.read b = .number s m i) (h : Vle m i 127) : nar b = single.nearest s m i ∧ rg single (nar b) < single.infRung := by
  have e2 : nar b = single.nearest s m i := by
    show FloatKind.f32.encode (FloatKind.f64.decode b) = _
    rw [show FloatKind.f64.decode b = .number s m i from e]; rfl
  refine ⟨e2, ?_⟩
  rw [e2, rg_nearest]
  exact Nat.lt_of_le_of_lt (rnd_le (f := single) h (by decide)) (by decide)

theorem run_narrow {P : Program} (src dst : TypeId) (b : Nat) (w : World) (hs : (P.underlying src).isSome = true) (hd : P.underlying dst = some (.float .f32)) (hfit : ∀ x, ab .f64 b = some x → Fits x) :
    ∃ r n, (convert src dst (.float .f64 b)).run P w = .ok (.float .f32 r) (w.drewN n) ∧ Is .f32 r ((ab .f64 b).map nar) := by
  obtain ⟨u, hs'⟩ := Option.isSome_iff_exists.1 hs
  have hc : (convert src dst (.float .f64 b)).run P w = (Conv.floatToFloat .f64 b .f32).run P w := by
    cases u <;> simp [convert, run_underlying hs', run_underlying hd]
  rw [hc]
  cases ha : ab .f64 b with
  | none =>
    obtain ⟨s, t, e⟩ := read_nan_iff ha
    have e' : FloatKind.f64.decode b = .nan s t := e
    refine ⟨(Question.nanConv .f32 b).cut (w.tape w.drawn (.nanConv .f32 b)), 1, ?_, ?_⟩
    · simp [Conv.floatToFloat, e', Question.forced, World.drew_is_drewN]
    · have := nan_cut .f32 (.nanConv .f32 b) (w.tape w.drawn (.nanConv .f32 b)) (.inr ⟨b, rfl⟩)
      exact ⟨this.1, this.2⟩
  | some x =>
    obtain ⟨hr, rfl⟩ := ab_some.1 ha
    rcases hfit b ha with h | ⟨s, m, i, e, hv⟩
    · obtain ⟨h1, h2⟩ := nar_inf h
      refine ⟨nar b, 0, ?_, ab_of h2, Format.write_lt single _⟩
      have e' : FloatKind.f64.decode b = .infinity (sg double b) := read_inf double (by decide) b h
      simp [Conv.floatToFloat, e', h1]; rfl
    · obtain ⟨h1, h2⟩ := nar_bd e hv
      refine ⟨nar b, 0, ?_, ab_of (Nat.le_of_lt h2), Format.write_lt single _⟩
      have e' : FloatKind.f64.decode b = .number s m i := e
      have hw : FloatKind.f32.encode (.number s m i) = nar b := h1.symm
      have hn : (FloatKind.f32.decode (nar b)).isInfinity = false := by
        obtain ⟨m', i', e2, _⟩ := read_num single (nar b) h2
        show (single.read (nar b)).isInfinity = false
        rw [e2]; rfl
      simp [Conv.floatToFloat, e', hw, hn]; rfl

/-- the root, up to which NaN it is -/
def osqrt (o : Option Nat) : Option Nat := o.bind double.sqrt

theorem sqrt_is (x : Nat) : Extern.MathSqrt.sqrt #[.float .f64 x] = (match double.sqrt x with
    | some r => pure (.float .f64 r)
    | none => do pure (.float .f64 (← choose (.nanBits .f64 x x)))) := rfl

theorem run_sqrt {P : Program} (x : Nat) (w : World) : ∃ r n, (Extern.MathSqrt.sqrt #[.float .f64 x]).run P w = .ok (.float .f64 r) (w.drewN n) ∧ Is .f64 r (osqrt (ab .f64 x)) := by
  cases hf : double.sqrt x with
  | some r =>
    refine ⟨r, 0, ?_, ?_, ?_⟩
    · rw [sqrt_is, hf]; rfl
    · have hx : ab .f64 x = some x := by
        cases ha : ab .f64 x with
        | some y => obtain ⟨_, rfl⟩ := ab_some.1 ha; rfl
        | none =>
          obtain ⟨s, t, e⟩ := read_nan_iff ha
          exfalso
          unfold Format.sqrt at hf
          rw [show double.read x = .nan s t from e] at hf
          simp [Datum.root] at hf
      rw [hx]
      show ab .f64 r = double.sqrt x
      rw [hf]
      exact ab_of (map_write_plain (fun d hd => plain_root hd) hf)
    · exact double.sqrt_lt hf
  | none =>
    refine ⟨(Question.nanBits .f64 x x).cut (w.tape w.drawn (.nanBits .f64 x x)), 1, ?_, ?_⟩
    · rw [sqrt_is, hf]; simp [Question.forced, World.drew_is_drewN]
    · have := nan_cut .f64 (.nanBits .f64 x x) (w.tape w.drawn (.nanBits .f64 x x)) (.inl ⟨x, x, rfl⟩)
      have hz : osqrt (ab .f64 x) = none := by
        cases ha : ab .f64 x with
        | none => rfl
        | some y => obtain ⟨_, rfl⟩ := ab_some.1 ha; exact hf
      rw [hz]
      exact ⟨this.1, this.2⟩

section
variable {P : Program} {ops : Array Oper} {rest : List Oper} {o : Oper} {a : Act} {w : World} {Q : Exit → Act → World → Prop}

/-- 'float32(x)' OF A float64 THAT IS NOT TOO GREAT. -/
theorem wpList_narrow (src dst : TypeId) (x : Operand) (hop : o.op = .convert src dst x) (hw : Region.wanted o (yielded ops a.tmps) = true)
    (p : Nat) (hx : a.eval x = .float .f64 p) (hs : (P.underlying src).isSome = true) (hd : P.underlying dst = some (.float .f32)) (hfit : ∀ x, ab .f64 p = some x → Fits x)
    (h : ∀ r n, Is .f32 r ((ab .f64 p).map nar) → wpList P ops Q rest (a.put o.dst (.float .f32 r)) (w.drewN n)) : wpList P ops Q (o :: rest) a w := by
  refine wpList_wanted hw fun K hK => ?_
  obtain ⟨r, n, hrun, hres⟩ := run_narrow (P := P) src dst p w hs hd hfit
  unfold Oper.wp
  simp [execOp, hop, hx, hrun, Result.andThen]
  exact hK _ _ (h r n hres)

/-- the root's entry -/
theorem wpList_sqrt (f : FuncId) (x : Operand) (ts : Array TypeId) (hop : o.op = .call { callee := .value (.func f), args := #[x], argTypes := ts }) (hw : Region.wanted o (yielded ops a.tmps) = true)
    (p : Nat) (hx : a.eval x = .float .f64 p) (hf : ∀ v w, (callFunc f #[v]).run P w = ((Extern.MathSqrt.sqrt #[v]).run P w).andThen fun u w' => .ok (.value u) w')
    (h : ∀ r n, Is .f64 r (osqrt (ab .f64 p)) → wpList P ops Q rest (a.put o.dst (.float .f64 r)) (w.drewN n)) : wpList P ops Q (o :: rest) a w := by
  refine wpList_wanted hw fun K hK => ?_
  obtain ⟨r, n, hrun, hres⟩ := run_sqrt (P := P) p w
  have hev : a.eval (.func f) = .func (.func f) #[] #[] := rfl
  unfold Oper.wp
  simp [execOp, hop, resolve, Deferred.ofValue, invoke, hx, hev, hf, hrun, Result.andThen]
  exact hK _ _ (h r n hres)
end

theorem rootFrom_sq (n : Nat) : ∀ (todo root : Nat), root * root ≤ n → Datum.rootFrom n todo root * Datum.rootFrom n todo root ≤ n := by
  intro todo
  induction todo with
  | zero => intro root h; exact h
  | succ t ih =>
    intro root h
    unfold Datum.rootFrom
    simp only
    refine ih _ ?_
    split
    · assumption
    · exact h

theorem sq_le {a b : Nat} (h : a * a ≤ b * b) : a ≤ b := Nat.mul_self_le_mul_self_iff.1 h

/-- the root of what is at most '2 ^ (2 * c)' is at most '2 ^ c' -/
theorem root_bd {x r : Nat} {c : Int} (hx : Bd double x (2 * c)) (hc : -500 ≤ c) (hc' : c ≤ 1000) (h : double.sqrt x = some r) : Bd double r c := by
  obtain ⟨s, m, i, e, hv⟩ := hx
  have l1 : double.leastPlace = -1074 := by decide
  have b1 : double.fractionBits = 52 := rfl
  have hinf : ∀ e : Int, -1021 ≤ e → e ≤ 1023 → rungOf double e < double.infRung := by
    intro e h1 h2
    unfold rungOf
    rw [l1, b1, show double.binade = 4503599627370496 by decide, show double.infRung = 9218868437227405312 by decide]
    omega
  unfold Format.sqrt at h
  rw [e] at h
  simp only [Datum.root] at h
  by_cases hm : m = 0
  · rw [if_pos hm] at h
    simp only [Option.map_some, Option.some.injEq] at h
    subst h
    obtain ⟨m', i', e', hv'⟩ := bd_nearest (f := double) (s := s) (m := m) (p := i) (e := c) (.inl hm) (by rw [l1, b1]; omega) (hinf c (by omega) (by omega))
    exact ⟨s, m', i', e', hv'⟩
  · rw [if_neg hm] at h
    by_cases hs : s = true
    · rw [if_pos hs] at h; simp at h
    · rw [if_neg hs] at h
      simp only [Option.map_some, Option.some.injEq] at h
      generalize hmo : 2 * (double.fractionBits + 2) - m.log2 = more0 at h
      generalize hmm : more0 + ((i - (more0 : Int)) % 2).toNat = more at h
      have heven : (i - (more : Int)) % 2 = 0 := by omega
      obtain ⟨t, ht⟩ : ∃ t : Int, i - (more : Int) = 2 * t := ⟨(i - more) / 2, by omega⟩
      have hdiv : (i - (more : Int)) / 2 = t := by omega
      rw [hdiv] at h
      rcases hv with hv | ⟨hp, hle⟩
      · exact absurd hv hm
      · have hn : m <<< more ≤ 2 ^ (c - t).toNat * 2 ^ (c - t).toNat := by
          rw [Nat.shiftLeft_eq, ← Nat.pow_add]
          refine Nat.le_trans (Nat.mul_le_mul_right _ hle) ?_
          rw [← Nat.pow_add]
          exact Nat.pow_le_pow_right (by omega) (by omega)
        have hsq := rootFrom_sq (m <<< more) ((m <<< more).log2 / 2 + 1) 0 (Nat.zero_le _)
        generalize Datum.rootFrom (m <<< more) ((m <<< more).log2 / 2 + 1) 0 = whole at h hsq
        have hw := sq_le (Nat.le_trans hsq hn)
        have hres : 2 * whole + (whole * whole != m <<< more).toNat ≤ 2 ^ (c - t + 1).toNat := by
          have e2 : 2 ^ (c - t + 1).toNat = 2 * 2 ^ (c - t).toNat := by
            rw [show (c - t + 1).toNat = (c - t).toNat + 1 by omega, Nat.pow_succ, Nat.mul_comm]
          rw [e2]
          by_cases heq : whole * whole = m <<< more
          · simp [heq]; omega
          · have hlt : whole < 2 ^ (c - t).toNat := by
              rcases Nat.lt_or_eq_of_le hw with h | h
              · exact h
              · exfalso
                apply heq
                rw [← h] at hn
                exact Nat.le_antisymm hsq hn
            have hb : (whole * whole != m <<< more) = true := by simp [heq]
            rw [hb]
            show 2 * whole + 1 ≤ _
            omega
        have hv2 : Vle (2 * whole + (whole * whole != m <<< more).toNat) (t - 1) c := .inr ⟨by omega, by rw [show (c - (t - 1)).toNat = (c - t + 1).toNat by omega]; exact hres⟩
        obtain ⟨m', i', e', hv'⟩ := bd_nearest (f := double) (s := false) hv2 (by rw [l1, b1]; omega) (hinf c (by omega) (by omega))
        rw [← h]
        exact ⟨false, m', i', e', hv'⟩

theorem wide_bd {x : Nat} (h : rg single x < single.infRung) : Bd double (wide x) 128 := by
  obtain ⟨h1, h2, h3⟩ := wide_num x h
  obtain ⟨m, i, e, l1, v1⟩ := read_num double (wide x) h2
  refine ⟨_, m, i, e, vle_of_mg l1 (by decide) ?_⟩
  rw [v1, h3]
  refine Nat.le_trans (Nat.mul_le_mul_right fine (mg_le (Nat.le_of_lt h))) ?_
  decide +kernel

/-- the root of a float32, made float64, fits float32 -/
theorem root_fits {x v : Nat} (h : osqrt ((ab .f32 x).map wide) = some v) : Fits v := by
  cases ha : ab .f32 x with
  | none => rw [ha] at h; cases h
  | some y =>
    obtain ⟨hle, rfl⟩ := ab_some.1 ha
    rw [ha] at h
    change double.sqrt (wide x) = some v at h
    rcases Nat.lt_or_eq_of_le (show rg single x ≤ single.infRung from hle) with hl | hl
    · exact .inr ((root_bd (c := 64) (wide_bd hl) (by omega) (by omega) h).mono (by omega))
    · left
      obtain ⟨h1, h2⟩ := wide_inf x hl
      unfold Format.sqrt at h
      rw [read_inf double (by decide) _ h2] at h
      simp only [Datum.root] at h
      split at h
      · cases h
      · simp only [Option.map_some, Option.some.injEq] at h
        rw [← h]
        exact rg_word double _ double.infRung_lt



section
variable {P : Program} {ops : Array Oper} {Q : Exit → Act → World → Prop}

/-- A REGION THAT DRAWS ITS ORDER, whose operations make new blocks at most: each operation is run once, and behind the region the values of all are known. -/
theorem wp_region_all {id : Nat} {a : Act} {w : World} (hm : P.follows .mixedOrders = true) (hdown : edgesDown ops = true) (n : Nat) (hsz : (ops.size == n) = true)
    (act : Act → (Nat → Value) → Act) (G : World → Prop) (R : Nat → World → Value → Prop)
    (hst : ∀ j W W' v, RowKit.Below W.heap.size W W' → R j W v → R j W' v)
    (h0 : ∃ vals, a = act a vals) (hG : G w.drew)
    (hstep : ∀ i o, ops[i]? = some o → i < n → ∀ vals W, G W → (∀ e ∈ o.after, Region.binds .any e = true → R e.on W (vals e.on)) →
      wpOp P ops Q i (Ran act G R a vals W i) (act a vals) W)
    (hfin : ∀ vals W, G W → (∀ j, j < n → R j W (vals j)) → Q .normal (act a vals) W) :
    (Code.region id ops true).wp P Q a w := by
  rw [beq_iff_eq] at hsz
  refine wp_region_inv hm hdown (fun L a' W => ∃ vals, a' = act a vals ∧ G W ∧ ∀ j, j < n → L j = true → R j W (vals j)) ?_ ?_ ?_
  · obtain ⟨vals, h0⟩ := h0
    exact ⟨vals, h0, hG, fun j _ h => by cases h⟩
  · intro L a' W i o hI ho hLi hd
    have hi : i < ops.size := (Array.getElem?_eq_some_iff.1 ho).1
    obtain ⟨vals, rfl, hGW, hR⟩ := hI
    have hdn : ∀ e ∈ o.after, e.on < i := by
      intro e he
      unfold edgesDown at hdown
      have := List.all_eq_true.1 hdown i (by simpa using hi)
      rw [ho] at this
      simp only [Option.map_some, Option.getD_some, Array.all_eq_true_iff_forall_mem] at this
      simpa using this e he
    refine wpOp_mono (fun a'' W' h => ?_) (hstep i o ho (by omega) vals W hGW fun e he hb => hR e.on (by have := hdn e he; omega) (hd e he hb))
    obtain ⟨v, rfl, hb, hG', hRi⟩ := h
    refine ⟨_, rfl, hG', fun j hj hLj => ?_⟩
    unfold upd
    by_cases hji : j = i
    · subst hji; simpa using hRi
    · rw [if_neg hji]
      have : (j == i) = false := by rw [beq_eq_false_iff_ne]; exact hji
      simp only [this, Bool.false_or] at hLj
      exact hst j W W' _ hb (hR j hj hLj)
  · intro L a' W hI hall
    obtain ⟨vals, rfl, hGW, hR⟩ := hI
    exact hfin vals W hGW fun j hj => hR j hj (hall j (by omega))
end


end Go.FL
