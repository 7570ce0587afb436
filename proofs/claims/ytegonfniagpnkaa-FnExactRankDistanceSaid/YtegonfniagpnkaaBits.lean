/-
  The ones among 24 binary digits: what math/bits counts and what halving counts; and the law of the distance of two ranks.
-/
import Derived.Test.YtegonfniagpnkaaRows
import Derived.Test.YtegonfniagpnkaaFloat
import Derived.WalkKit
import Derived.WalkSpells
import Derived.WalkLawsBesides
import Derived.Lib.Hide
namespace Go.FL
open Go

theorem and_split (a b c d : Nat) (ha : a < 256) (hc : c < 256) : (a + 256 * b) &&& (c + 256 * d) = (a &&& c) + 256 * (b &&& d) := by
  have h1 := Nat.and_mod_two_pow (a := a + 256 * b) (b := c + 256 * d) (n := 8)
  have h2 := Nat.and_div_two_pow (a := a + 256 * b) (b := c + 256 * d) (n := 8)
  have e1 : (a + 256 * b) % 2 ^ 8 = a := by omega
  have e2 : (c + 256 * d) % 2 ^ 8 = c := by omega
  have e3 : (a + 256 * b) / 2 ^ 8 = b := by omega
  have e4 : (c + 256 * d) / 2 ^ 8 = d := by omega
  rw [e1, e2] at h1
  rw [e3, e4] at h2
  omega

theorem and_bytes (a b c m M : Nat) (ha : a < 256) (hb : b < 256) (hm : m < 256) (hM : M = m + 256 * (m + 256 * (m + 256 * (M / 16777216)))) (hc : c < 256) :
    (a + 256 * (b + 256 * c)) &&& M = (a &&& m) + 256 * ((b &&& m) + 256 * (c &&& m)) := by
  rw [hM, and_split _ _ _ _ ha hm, and_split _ _ _ _ hb hm]
  have : c &&& (m + 256 * (M / 16777216)) = c &&& m := by
    have := and_split c 0 m (M / 16777216) hc hm
    simpa using this
  rw [this]

/-- the ones among the first f digits -/
def pop : Nat → Nat → Nat
  | 0, _ => 0
  | f + 1, x => x % 2 + pop f (x / 2)

theorem pop_zero : ∀ f, pop f 0 = 0
  | 0 => rfl
  | f + 1 => by simp [pop, pop_zero f]
theorem pop_more : ∀ (f x : Nat), x < 2 ^ f → pop (f + 1) x = pop f x
  | 0, x, h => by have : x = 0 := by omega
                  subst this; rfl
  | f + 1, x, h => by
    have := pop_more f (x / 2) (by rw [Nat.pow_succ] at h; omega)
    show x % 2 + pop (f + 1) (x / 2) = x % 2 + pop f (x / 2)
    rw [this]
theorem pop_step (x : Nat) (h : x < 2 ^ 24) : pop 24 x = x % 2 + pop 24 (x / 2) := by
  rw [← pop_more 24 x h]; rfl
theorem pop_split : ∀ (k f a h : Nat), a < 2 ^ k → pop (k + f) (a + 2 ^ k * h) = pop k a + pop f h
  | 0, f, a, h, ha => by have : a = 0 := by omega
                         subst this; simp [pop]
  | k + 1, f, a, h, ha => by
    have e1 : (a + 2 ^ (k + 1) * h) % 2 = a % 2 := by rw [Nat.pow_succ, Nat.mul_comm (2 ^ k) 2, Nat.mul_assoc]; omega
    have e2 : (a + 2 ^ (k + 1) * h) / 2 = a / 2 + 2 ^ k * h := by rw [Nat.pow_succ, Nat.mul_comm (2 ^ k) 2, Nat.mul_assoc]; omega
    rw [show k + 1 + f = (k + f) + 1 by omega]
    show (a + 2 ^ (k + 1) * h) % 2 + pop (k + f) ((a + 2 ^ (k + 1) * h) / 2) = a % 2 + pop k (a / 2) + pop f h
    rw [e1, e2, pop_split k f (a / 2) h (by rw [Nat.pow_succ] at ha; omega)]
    omega

theorem pop_le : ∀ (f x : Nat), pop f x ≤ f
  | 0, _ => Nat.le_refl _
  | f + 1, x => by
    have := pop_le f (x / 2)
    show x % 2 + pop f (x / 2) ≤ f + 1
    omega

def s1 (x : Nat) : Nat := (x / 2 &&& 6148914691236517205) + (x &&& 6148914691236517205)
def s2 (x : Nat) : Nat := (x / 4 &&& 3689348814741910323) + (x &&& 3689348814741910323)
def s3 (x : Nat) : Nat := (x / 16 + x) &&& 1085102592571150095
def s4 (x : Nat) : Nat := x + x / 256
def s5 (x : Nat) : Nat := x + x / 65536
def s6 (x : Nat) : Nat := x + x / 4294967296

def b1 (x : Nat) : Nat := (x / 2 &&& 85) + (x &&& 85)
def b2 (x : Nat) : Nat := (x / 4 &&& 51) + (x &&& 51)

theorem b1_lt : ∀ x : Fin 256, b1 x.val < 171 := by decide +kernel
theorem b2_lt : ∀ x : Fin 256, b2 x.val < 103 := by decide +kernel
theorem b2b1_lt : ∀ x : Fin 256, b2 (b1 x.val) < 69 ∧ b2 (b1 x.val) % 16 < 5 := by decide +kernel
theorem low1 : ∀ x : Fin 256, x.val / 2 + 128 &&& 85 = x.val / 2 &&& 85 := by decide +kernel
theorem low2 : ∀ x : Fin 256, ∀ k : Fin 4, x.val / 4 + 64 * k.val &&& 51 = x.val / 4 &&& 51 := by decide +kernel
theorem all3 : ∀ x : Fin 256, (b2 (b1 x.val) / 16 + b2 (b1 x.val)) % 16 = pop 8 x.val ∧ pop 8 x.val < 9 := by decide +kernel

theorem s1_bytes (a b c : Nat) (ha : a < 256) (hb : b < 256) (hc : c < 256) : s1 (a + 256 * (b + 256 * c)) = b1 a + 256 * (b1 b + 256 * b1 c) := by
  unfold s1
  have e : (a + 256 * (b + 256 * c)) / 2 = (a / 2 + 128 * (b % 2)) + 256 * ((b / 2 + 128 * (c % 2)) + 256 * (c / 2)) := by omega
  rw [e, and_bytes _ _ _ 85 _ (by omega) (by omega) (by omega) (by decide) (by omega), and_bytes _ _ _ 85 _ ha hb (by omega) (by decide) hc]
  have l : ∀ x k, x < 256 → k < 2 → x / 2 + 128 * k &&& 85 = x / 2 &&& 85 := by
    intro x k hx hk
    rcases (show k = 0 ∨ k = 1 by omega) with rfl | rfl
    · simp
    · exact low1 ⟨x, hx⟩
  rw [l a (b % 2) ha (by omega), l b (c % 2) hb (by omega)]
  unfold b1
  omega

theorem s2_bytes (a b c : Nat) (ha : a < 256) (hb : b < 256) (hc : c < 256) : s2 (a + 256 * (b + 256 * c)) = b2 a + 256 * (b2 b + 256 * b2 c) := by
  unfold s2
  have e : (a + 256 * (b + 256 * c)) / 4 = (a / 4 + 64 * (b % 4)) + 256 * ((b / 4 + 64 * (c % 4)) + 256 * (c / 4)) := by omega
  rw [e, and_bytes _ _ _ 51 _ (by omega) (by omega) (by omega) (by decide) (by omega), and_bytes _ _ _ 51 _ ha hb (by omega) (by decide) hc]
  have l : ∀ x k, x < 256 → k < 4 → x / 4 + 64 * k &&& 51 = x / 4 &&& 51 := fun x k hx hk => low2 ⟨x, hx⟩ ⟨k, hk⟩
  rw [l a (b % 4) ha (by omega), l b (c % 4) hb (by omega)]
  unfold b2
  omega

theorem s3_bytes (a b c : Nat) (ha : a < 69 ∧ a % 16 < 5) (hb : b < 69 ∧ b % 16 < 5) (hc : c < 69 ∧ c % 16 < 5) : s3 (a + 256 * (b + 256 * c)) = (a / 16 + a) % 16 + 256 * ((b / 16 + b) % 16 + 256 * ((c / 16 + c) % 16)) := by
  unfold s3
  have e : (a + 256 * (b + 256 * c)) / 16 + (a + 256 * (b + 256 * c)) = (a / 16 + a + 16 * (b % 16)) + 256 * ((b / 16 + b + 16 * (c % 16)) + 256 * (c / 16 + c)) := by omega
  rw [e, and_bytes _ _ _ 15 _ (by omega) (by omega) (by omega) (by decide) (by omega)]
  have l : ∀ x, x &&& 15 = x % 16 := fun x => Nat.and_two_pow_sub_one_eq_mod x 4
  simp only [l]
  omega

/-- THE ONES OF 24 DIGITS, as math/bits counts them. -/
theorem pop24 (x : Nat) (hx : x < 16777216) : s1 x < 16777216 ∧ s2 (s1 x) < 8388608 ∧ s3 (s2 (s1 x)) < 16777216 ∧ s4 (s3 (s2 (s1 x))) < 16777216 ∧ s5 (s4 (s3 (s2 (s1 x)))) < 16777216 ∧ s6 (s5 (s4 (s3 (s2 (s1 x))))) < 16777216 ∧
    s6 (s5 (s4 (s3 (s2 (s1 x))))) % 128 = pop 24 x := by
  obtain ⟨a, b, c, ha, hb, hc, rfl⟩ : ∃ a b c, a < 256 ∧ b < 256 ∧ c < 256 ∧ x = a + 256 * (b + 256 * c) := ⟨x % 256, x / 256 % 256, x / 65536, by omega, by omega, by omega, by omega⟩
  have A := all3 ⟨a, ha⟩
  have B := all3 ⟨b, hb⟩
  have C := all3 ⟨c, hc⟩
  have A1 := b1_lt ⟨a, ha⟩
  have B1 := b1_lt ⟨b, hb⟩
  have C1 := b1_lt ⟨c, hc⟩
  have A2 := b2b1_lt ⟨a, ha⟩
  have B2 := b2b1_lt ⟨b, hb⟩
  have C2 := b2b1_lt ⟨c, hc⟩
  simp only at A B C A1 B1 C1 A2 B2 C2
  rw [s1_bytes a b c ha hb hc, s2_bytes _ _ _ (by omega) (by omega) (by omega), s3_bytes _ _ _ A2 B2 C2, A.1, B.1, C.1]
  have hp : pop 24 (a + 256 * (b + 256 * c)) = pop 8 a + (pop 8 b + pop 8 c) := by
    rw [show (24 : Nat) = 8 + (8 + 8) by omega]
    have h1 := pop_split 8 (8 + 8) a (b + 256 * c) (by omega)
    have h2 := pop_split 8 8 b c (by omega)
    rw [show (2 : Nat) ^ 8 = 256 by omega] at h1 h2
    rw [h1, h2]
  rw [hp]
  obtain ⟨-, A⟩ := A
  obtain ⟨-, B⟩ := B
  obtain ⟨-, C⟩ := C
  generalize pop 8 a = p at *
  generalize pop 8 b = q at *
  generalize pop 8 c = r at *
  have e4 : s4 (p + 256 * (q + 256 * r)) = (p + q) + 256 * (q + r) + 65536 * r := by unfold s4; omega
  have e5 : s5 ((p + q) + 256 * (q + r) + 65536 * r) = (p + q + r) + 256 * (q + r) + 65536 * r := by unfold s5; omega
  have e6 : s6 ((p + q + r) + 256 * (q + r) + 65536 * r) = (p + q + r) + 256 * (q + r) + 65536 * r := by unfold s6; omega
  rw [e4, e5, e6]
  omega
end Go.FL
namespace Go.FL
open Go
theorem u64_and_nat (a b : Nat) (ha : a < 16777216) (hb : b < 18446744073709551616) : bits .and .u64 (a : Int) (b : Int) = ((a &&& b : Nat) : Int) := by
  have e : ∀ n : Nat, n < 18446744073709551616 → (BitVec.ofInt 64 (n : Int)).toNat = n := by
    intro n hn
    rw [BitVec.toNat_ofInt]; omega
  unfold bits
  simp only
  change IntKind.u64.wrap (((BitVec.ofInt 64 (a : Int)) &&& (BitVec.ofInt 64 (b : Int))).toNat : Int) = _
  rw [BitVec.toNat_and, e a (by omega), e b hb, IntKind.wrap_u64]
  have := @Nat.and_le_left a b
  omega

theorem wrap_nat (a : Nat) (ha : a < 18446744073709551616) : IntKind.u64.wrap (a : Int) = (a : Int) := by
  rw [IntKind.wrap_u64]; omega

theorem i1 (x : Nat) (hx : x < 16777216) : IntKind.u64.wrap (bits .and .u64 ((x : Int) / 2) 6148914691236517205 + bits .and .u64 (x : Int) 6148914691236517205) = ((s1 x : Nat) : Int) := by
  have e1 := u64_and_nat (x / 2) 6148914691236517205 (by omega) (by omega)
  have e2 := u64_and_nat x 6148914691236517205 (by omega) (by omega)
  have l1 := Nat.and_le_left (n := x / 2) (m := 6148914691236517205)
  have l2 := Nat.and_le_left (n := x) (m := 6148914691236517205)
  rw [show ((x / 2 : Nat) : Int) = (x : Int) / 2 by omega] at e1
  rw [show ((6148914691236517205 : Nat) : Int) = 6148914691236517205 from rfl] at e1 e2
  rw [e1, e2, ← Int.natCast_add, wrap_nat _ (by omega)]
  rfl
theorem i2 (x : Nat) (hx : x < 16777216) : IntKind.u64.wrap (bits .and .u64 ((x : Int) / 4) 3689348814741910323 + bits .and .u64 (x : Int) 3689348814741910323) = ((s2 x : Nat) : Int) := by
  have e1 := u64_and_nat (x / 4) 3689348814741910323 (by omega) (by omega)
  have e2 := u64_and_nat x 3689348814741910323 (by omega) (by omega)
  have l1 := Nat.and_le_left (n := x / 4) (m := 3689348814741910323)
  have l2 := Nat.and_le_left (n := x) (m := 3689348814741910323)
  rw [show ((x / 4 : Nat) : Int) = (x : Int) / 4 by omega] at e1
  rw [show ((3689348814741910323 : Nat) : Int) = 3689348814741910323 from rfl] at e1 e2
  rw [e1, e2, ← Int.natCast_add, wrap_nat _ (by omega)]
  rfl
theorem i3 (x : Nat) (hx : x / 16 + x < 16777216) : bits .and .u64 (IntKind.u64.wrap ((x : Int) / 16 + (x : Int))) 1085102592571150095 = ((s3 x : Nat) : Int) := by
  have e1 := u64_and_nat (x / 16 + x) 1085102592571150095 (by omega) (by omega)
  rw [show ((1085102592571150095 : Nat) : Int) = 1085102592571150095 from rfl] at e1
  rw [show (x : Int) / 16 + (x : Int) = ((x / 16 + x : Nat) : Int) by omega, wrap_nat _ (by omega), e1]
  rfl
theorem i4 (x : Nat) (hx : x < 16777216) : IntKind.u64.wrap ((x : Int) + (x : Int) / 256) = ((s4 x : Nat) : Int) := by
  rw [show (x : Int) + (x : Int) / 256 = ((x + x / 256 : Nat) : Int) by omega, wrap_nat _ (by omega)]; rfl
theorem i5 (x : Nat) (hx : x < 16777216) : IntKind.u64.wrap ((x : Int) + (x : Int) / 65536) = ((s5 x : Nat) : Int) := by
  rw [show (x : Int) + (x : Int) / 65536 = ((x + x / 65536 : Nat) : Int) by omega, wrap_nat _ (by omega)]; rfl
theorem i6 (x : Nat) (hx : x < 16777216) : IntKind.u64.wrap ((x : Int) + (x : Int) / 4294967296) = ((s6 x : Nat) : Int) := by
  rw [show (x : Int) + (x : Int) / 4294967296 = ((x + x / 4294967296 : Nat) : Int) by omega, wrap_nat _ (by omega)]; rfl
end Go.FL
namespace Go.Proofs.Ytegonfniagpnkaa
open Go.RowKit Go.FL

attribute [local irreducible] pop
theorem OnesCount64 (x : Nat) (w : World) (hx : x < 16777216) : Calls Try.prog 48 #[.int .u64 (x : Int)] w fun e w' => e = .returned (.int .i64 (pop 24 x : Nat)) ∧ w = w' := by
  go_enter Try.func48, Try.ntmps48
  go_wp2
  go_ret
  obtain ⟨h1, h2, h3, h4, h5, h6, h7⟩ := pop24 x hx
  simp only [i1 x hx, i2 _ h1, i3 _ (by omega : s2 (s1 x) / 16 + s2 (s1 x) < 16777216), i4 _ h3, i5 _ h4, i6 _ h5]
  refine ⟨?_, trivial⟩
  show Ending.returned (Value.int .i64 (bits BinOp.and IntKind.i64 (wrap64 ↑(s6 (s5 (s4 (s3 (s2 (s1 x))))))) 127)) = _
  have i7 : bits BinOp.and IntKind.i64 (wrap64 ((s6 (s5 (s4 (s3 (s2 (s1 x))))) : Nat) : Int)) 127 = ((s6 (s5 (s4 (s3 (s2 (s1 x))))) % 128 : Nat) : Int) := by
    have := i64_and_nat (s6 (s5 (s4 (s3 (s2 (s1 x)))))) 127 (by omega) (by omega)
    rw [show ∀ n : Nat, n &&& 127 = n % 128 from fun n => Nat.and_two_pow_sub_one_eq_mod n 7] at this
    rw [← this]
    congr 1
    unfold wrap64
    omega
  rw [i7, h7]


/-- the digits in which two ranks differ -/
theorem xor_i64 (a b : Int) : ∃ d : Nat, d < 16777216 ∧ bits .and .i64 (bits .xor .i64 a b) 16777215 = (d : Int) ∧ bits .and .u64 (IntKind.u64.wrap (bits .xor .i64 a b)) 16777215 = (d : Int) := by
  have hx : ∃ v : Nat, v < 18446744073709551616 ∧ bits .xor .i64 a b = IntKind.i64.wrap (v : Int) := ⟨(BitVec.ofInt 64 a ^^^ BitVec.ofInt 64 b).toNat, (BitVec.ofInt 64 a ^^^ BitVec.ofInt 64 b).isLt, rfl⟩
  obtain ⟨v, hv, e⟩ := hx
  have hand := @Nat.and_le_right v 16777215
  have e2 : (BitVec.ofInt 64 (16777215 : Int)).toNat = 16777215 := by decide
  refine ⟨v &&& 16777215, by omega, ?_, ?_⟩
  · rw [e]
    unfold bits
    simp only
    change IntKind.i64.wrap (((BitVec.ofInt 64 (IntKind.i64.wrap (v : Int))) &&& (BitVec.ofInt 64 16777215)).toNat : Int) = _
    have e1 : (BitVec.ofInt 64 (IntKind.i64.wrap (v : Int))).toNat = v := by
      rw [BitVec.toNat_ofInt, IntKind.wrap_i64]; omega
    rw [BitVec.toNat_and, e1, e2, IntKind.wrap_i64]
    omega
  · rw [e]
    unfold bits
    simp only
    change IntKind.u64.wrap (((BitVec.ofInt 64 (IntKind.u64.wrap (IntKind.i64.wrap (v : Int)))) &&& (BitVec.ofInt 64 16777215)).toNat : Int) = _
    have e1 : (BitVec.ofInt 64 (IntKind.u64.wrap (IntKind.i64.wrap (v : Int)))).toNat = v := by
      rw [BitVec.toNat_ofInt, IntKind.wrap_i64, IntKind.wrap_u64]; omega
    rw [BitVec.toNat_and, e1, e2, IntKind.wrap_u64]
    omega

theorem impl_RankDistance (a b : Int) (w : World) : Calls Try.prog 24 #[.int .i64 a, .int .i64 b] w fun e w' => (∀ d : Nat, bits .and .i64 (bits .xor .i64 a b) 16777215 = (d : Int) → e = .returned (.int .i64 (pop 24 d : Nat))) ∧ w = w' := by
  obtain ⟨d, hd, e1, e2⟩ := xor_i64 a b
  go_enter Try.func24, Try.ntmps24
  go_wp2_with fail
  refine (OnesCount64 d _ hd).mono ?_
  rintro e w' ⟨rfl, rfl⟩
  go_wp2_with fail
  go_ret
  refine ⟨fun d' h => ?_, rfl⟩
  rw [e1] at h
  have : d = d' := by omega
  rw [this]
  rfl

theorem spec_RankDistance (a b : Int) (w : World) : Calls Try.prog 23 #[.int .i64 a, .int .i64 b] w fun e w' => (∃ d : Nat, bits .and .i64 (bits .xor .i64 a b) 16777215 = (d : Int) ∧ e = .returned (.int .i64 (pop 24 d : Nat)) ∧ pop 24 d < 25) ∧ w = w' := by
  obtain ⟨d, hd, e1, -⟩ := xor_i64 a b
  go_enter Try.func23, Try.ntmps23
  go_wp2
  go_loop [5, 6] (fun n m => ∃ k j : Nat, j < 16777216 ∧ n = .int .i64 k ∧ m = .int .i64 j ∧ k + pop 24 j = pop 24 d) (fun _ m => (intOf m).toNat)
  case atStart => exact ⟨0, d, hd, rfl, rfl, by omega⟩
  case round =>
    obtain ⟨k, j, hj, rfl, rfl, hk⟩ := hrel
    have hm := pop_le 24 d
    by_cases hlt : 0 < j
    · have hs := Lib.hid (pop_step j hj)
      have hK := Lib.hid hk
      clear hk e1
      go_wp2
      go_round
      case rel =>
        have h1 := hs.out
        have h2 := hK.out
        refine ⟨k + j % 2, j / 2, by omega, ?_, ?_, by omega⟩
        · have h3 := pop_le 24 d
          exact congrArg (Value.int .i64) (by unfold wrap64; omega)
        · exact congrArg (Value.int .i64) (by go_num)
      case measure => simp [intOf]; omega
    · have h0 : j = 0 := by omega
      subst h0
      have hK := Lib.hid hk
      have hE := Lib.hid e1
      clear hk e1
      go_wp2
      go_ret
      have h2 := hK.out
      have h3 : pop 24 0 = 0 := pop_zero 24
      exact ⟨⟨d, hE.out, by rw [show k = pop 24 d by omega]; rfl, by omega⟩, rfl⟩

theorem FnExactRankDistance_walk (a b : Int) (w : World) (_ : (Lit.int .i64 a).wf = true) (_ : (Lit.int .i64 b).wf = true) : Calls Try.prog 6 #[.int .i64 a, .int .i64 b] w fun e w' => e = .returned (.bool true) ∧ Below w.heap.size w w' := by
  go_enter Try.func6, Try.ntmps6
  go_wp2_with fail
  refine (spec_RankDistance a b _).mono ?_
  rintro e w' ⟨⟨d, hd, rfl, hl⟩, rfl⟩
  go_wp2_with fail
  refine (impl_RankDistance a b _).mono ?_
  rintro e w' ⟨he, rfl⟩
  rw [he d hd]
  go_wp2_with fail
  go_ret
  exact ⟨rfl, Below.refl _ _⟩
end Go.Proofs.Ytegonfniagpnkaa
