/-
  The walks of the functions on single floats.
-/
import Derived.Test.YtbhbdnpcljbfdaaRows
import Derived.Test.YtbhbdnpcljbfdaaFloat
import Derived.WalkKit
import Derived.WalkSpells
import Derived.WalkLawsBesides
import Derived.Lib.Hide
namespace Go.Proofs.Ytbhbdnpcljbfdaa
open Go.RowKit Go.FL

@[go_sem] theorem run_bits32 (b : Nat) (w : World) : (callFunc 45 #[.float .f32 b]).run Try.prog w = .ok (.value (.int .u32 b)) w := by kernel_rfl
@[go_sem] theorem run_frombits32 (b : Int) (w : World) : (callFunc 52 #[.int .u32 b]).run Try.prog w = .ok (.value (.float .f32 b.toNat)) w := by kernel_rfl

theorem impl_IsFinite (x : Nat) (w : World) : Calls Try.prog 16 #[.float .f32 x] w (RetB (fin .f32 (ab .f32 x)) w) := by
  go_enter Try.func16, Try.ntmps16
  go_wp2_with (refine wpList_arith _ _ _ _ _ rfl rfl _ _ _ rfl rfl rfl ?_; intro r n hr)
  go_ret
  exact RetB.mk _ (by rw [order_ab, hr.ab, ab_zero]; rfl)

theorem l01Finite (x : Nat) (w : World) : Calls Try.prog 40 #[.float .f32 x] w (RetB (fin .f32 (ab .f32 x)) w) := by
  go_enter Try.func40, Try.ntmps40
  go_wp2_with (refine wpList_arith _ _ _ _ _ rfl rfl _ _ _ rfl rfl rfl ?_; intro r n hr)
  go_ret
  exact RetB.mk _ (by rw [order_ab, hr.ab, ab_zero]; rfl)

theorem isNaN (x : Nat) (w : World) : Calls Try.prog 44 #[.float .f32 x] w (RetB (ab .f32 x).isNone w) := by
  go_enter Try.func44, Try.ntmps44
  go_wp2
  go_ret
  exact RetB.mk0 (by rw [order_self])

theorem BitsOf (x : Nat) (w : World) (hx : x < 4294967296) : Calls Try.prog 23 #[.float .f32 x] w fun e w' => e = .returned (.int .i64 (bitsOf x : Int)) ∧ w = w' := by
  unfold bitsOf
  cases ha : ab .f32 x with
  | none =>
    have e1 : (FloatKind.f32.format.order x x != some .eq) = true := by rw [order_self, ha]; rfl
    clear ha
    go_enter Try.func23, Try.ntmps23
    go_wp2
    go_ret
    exact ⟨rfl, rfl⟩
  | some y =>
    have e1 : (FloatKind.f32.format.order x x != some .eq) = false := by rw [order_self, ha]; rfl
    clear ha
    go_enter Try.func23, Try.ntmps23
    go_wp2
    go_ret
    exact ⟨rfl, rfl⟩

theorem l01Bits (x : Nat) (w : World) (hx : x < 4294967296) : Calls Try.prog 42 #[.float .f32 x] w fun e w' => e = .returned (.int .i64 (bitsOf x : Int)) ∧ w = w' := by
  unfold bitsOf
  cases ha : ab .f32 x with
  | none =>
    have e1 : (FloatKind.f32.format.order x x != some .eq) = true := by rw [order_self, ha]; rfl
    clear ha
    go_enter Try.func42, Try.ntmps42
    go_wp2
    go_ret
    exact ⟨rfl, rfl⟩
  | some y =>
    have e1 : (FloatKind.f32.format.order x x != some .eq) = false := by rw [order_self, ha]; rfl
    clear ha
    go_enter Try.func42, Try.ntmps42
    go_wp2
    go_ret
    exact ⟨rfl, rfl⟩

theorem abs_any (x : Nat) (w : World) (hx : x < 4294967296) : Calls Try.prog 43 #[.float .f32 x] w fun e w' => e = .returned (.float .f32 (x % 2147483648)) ∧ w = w' := by
  have h := andNot_top x hx
  go_enter Try.func43, Try.ntmps43
  go_wp2
  go_ret
  exact ⟨rfl, rfl⟩

theorem IsSubnormal (x : Nat) (w : World) (hx : x < 4294967296) : Calls Try.prog 21 #[.float .f32 x] w fun e w' => e = .returned (.bool (subn x)) ∧ w = w' := by
  have e1 := order_zero32 x
  have e2 := order_least32 x
  unfold subn
  by_cases h0 : x % 2147483648 = 0
  · rw [decide_eq_true h0] at e1
    have e3 := neq_true e1
    go_enter Try.func21, Try.ntmps21
    go_wp2_with fail
    go_ret
    exact ⟨ret_bool (by simp [h0]), rfl⟩
  · rw [decide_eq_false h0] at e1
    have e3 := neq_false e1
    go_enter Try.func21, Try.ntmps21
    go_wp2_with (go_at_call 43; refine (abs_any _ _ hx).mono ?_; rintro e w' ⟨rfl, rfl⟩)
    go_ret
    exact ⟨ret_bool (by simp; omega), rfl⟩

theorem spec_IsSubnormal (x : Nat) (w : World) (hx : x < 4294967296) : Calls Try.prog 20 #[.float .f32 x] w fun e w' => e = .returned (.bool (subn x)) ∧ w = w' := by
  have e1 := order_zero32 x
  unfold subn
  by_cases h0 : x % 2147483648 = 0
  · rw [decide_eq_true h0] at e1
    have e3 := neq_true e1
    go_enter Try.func20, Try.ntmps20
    go_wp2_with fail
    go_ret
    exact ⟨ret_bool (by simp [h0]), rfl⟩
  · rw [decide_eq_false h0] at e1
    have e3 := neq_false e1
    have e2 := and_exp_i64 (bitsOf x) (bitsOf_lt hx)
    have e4 := exp_zero x
    go_enter Try.func20, Try.ntmps20
    go_wp2_with (go_at_call 42; refine (l01Bits _ _ hx).mono ?_; rintro e w' ⟨rfl, rfl⟩)
    go_ret
    refine ⟨ret_bool ?_, rfl⟩
    show ((bitsOf x : Int) / 8388608 % 256 * 8388608 == 0) = _
    rw [Bool.eq_iff_iff, beq_iff_eq]
    simp only [Bool.and_eq_true, decide_eq_true_eq]
    omega

theorem sameFloat (a b : Nat) (w : World) (h : ab .f64 a = ab .f64 b) : Calls Try.prog 19 #[.float .f64 a, .float .f64 b] w (RetB true w) := by
  cases ha : ab .f64 a with
  | none =>
    have hb : ab .f64 b = none := by rw [← h, ha]
    have e1 : (FloatKind.f64.format.order a a != some .eq) = true := by rw [order_self, ha]; rfl
    have e2 : (FloatKind.f64.format.order b b != some .eq) = true := by rw [order_self, hb]; rfl
    clear h ha hb
    go_enter Try.func19, Try.ntmps19
    go_wp2
    go_ret
    exact RetB.mk0 rfl
  | some x =>
    obtain ⟨_, rfl⟩ := ab_some.1 ha
    obtain ⟨_, rfl⟩ := ab_some.1 (h.symm.trans ha)
    have e1 : (FloatKind.f64.format.order b b != some .eq) = false := by rw [order_self, ha]; rfl
    have e3 : (FloatKind.f64.format.order b b == some .eq) = true := by rw [order_self_eq, ha]; rfl
    clear h ha
    cases e0 : (FloatKind.f64.format.order b 0 == some .eq)
    · go_enter Try.func19, Try.ntmps19
      go_wp2_with (refine wpList_arith _ _ _ _ _ rfl rfl _ _ _ rfl rfl rfl ?_; intro r n hr)
      go_ret
      exact RetB.mk0 rfl
    · go_enter Try.func19, Try.ntmps19
      go_wp2_with (refine wpList_arith _ _ _ _ _ rfl rfl _ _ _ rfl rfl rfl ?_; intro r n hr)
      rename_i r1 n1 h1
      go_ret
      exact RetB.mk _ (by rw [order_ab, order_ab, h1.ab, hr.ab, ab_zero]; simp)

theorem sameFloat_is {a b : Nat} {o p : Option Nat} (w : World) (ha : Is .f64 a o) (hb : Is .f64 b p) (h : o = p) : Calls Try.prog 19 #[.float .f64 a, .float .f64 b] w (RetB true w) :=
  sameFloat a b w (by rw [ha.ab, hb.ab, h])

/-- the same number or not -/
theorem impl_SameNumber (x y : Nat) (w : World) : Calls Try.prog 27 #[.float .f32 x, .float .f32 y] w fun e w' => e = .returned (.bool (decide (bitsOf x = bitsOf y))) ∧ w = w' := by
  have bx : bitsOf x = if (ab .f32 x).isNone then 2143289344 else x := rfl
  have bY : bitsOf y = if (ab .f32 y).isNone then 2143289344 else y := rfl
  have nx := ab32 x
  have ny := ab32 y
  cases ha : ab .f32 x with
  | none =>
    have e1 : (FloatKind.f32.format.order x x != some .eq) = true := by rw [order_self, ha]; rfl
    cases hb : ab .f32 y with
    | none =>
      have e2 : (FloatKind.f32.format.order y y != some .eq) = true := by rw [order_self, hb]; rfl
      have hfin : decide (bitsOf x = bitsOf y) = true := by rw [bx, bY, ha, hb]; rfl
      rw [hfin]
      clear ha hb bx bY nx ny hfin
      go_enter Try.func27, Try.ntmps27
      go_wp2
      go_ret
      exact ⟨rfl, rfl⟩
    | some b =>
      have e2 : (FloatKind.f32.format.order y y != some .eq) = false := by rw [order_self, hb]; rfl
      have hfin : decide (bitsOf x = bitsOf y) = false := by
        rw [bx, bY, ha, hb]
        rw [hb] at ny
        split at ny
        · cases ny
        · simp; omega
      rw [hfin]
      clear ha hb bx bY nx ny hfin
      go_enter Try.func27, Try.ntmps27
      go_wp2
      go_ret
      exact ⟨rfl, rfl⟩
  | some a =>
    have e1 : (FloatKind.f32.format.order x x != some .eq) = false := by rw [order_self, ha]; rfl
    cases hb : ab .f32 y with
    | none =>
      have e2 : (FloatKind.f32.format.order y y != some .eq) = true := by rw [order_self, hb]; rfl
      have hfin : decide (bitsOf x = bitsOf y) = false := by
        rw [bx, bY, ha, hb]
        rw [ha] at nx
        split at nx
        · cases nx
        · simp; omega
      rw [hfin]
      clear ha hb bx bY nx ny hfin
      go_enter Try.func27, Try.ntmps27
      go_wp2
      go_ret
      exact ⟨rfl, rfl⟩
    | some b =>
      have e2 : (FloatKind.f32.format.order y y != some .eq) = false := by rw [order_self, hb]; rfl
      have hfin : decide (bitsOf x = bitsOf y) = ((x : Int) == (y : Int)) := by
        rw [bx, bY, ha, hb]
        rw [Bool.eq_iff_iff]
        simp
        omega
      rw [hfin]
      clear ha hb bx bY nx ny hfin
      go_enter Try.func27, Try.ntmps27
      go_wp2
      go_ret
      exact ⟨rfl, rfl⟩

theorem l01Same (x y : Nat) (w : World) (hx : x < 4294967296) (hy : y < 4294967296) : Calls Try.prog 46 #[.float .f32 x, .float .f32 y] w fun e w' => e = .returned (.bool (decide (bitsOf x = bitsOf y))) ∧ w = w' := by
  have hfin : decide (bitsOf x = bitsOf y) = ((bitsOf x : Int) == (bitsOf y : Int)) := by
    rw [Bool.eq_iff_iff]; simp; omega
  rw [hfin]
  clear hfin
  go_enter Try.func46, Try.ntmps46
  go_wp2_with (first | (go_at_call 42; refine (l01Bits _ _ (by assumption)).mono ?_; rintro e w' ⟨rfl, rfl⟩))
  go_ret
  exact ⟨rfl, rfl⟩

theorem spec_SameNumber (x y : Nat) (w : World) (hx : x < 4294967296) (hy : y < 4294967296) : Calls Try.prog 26 #[.float .f32 x, .float .f32 y] w fun e w' => e = .returned (.bool (decide (bitsOf x = bitsOf y))) ∧ w = w' := by
  go_enter Try.func26, Try.ntmps26
  go_wp2_with (first | (go_at_call 46; refine (l01Same _ _ _ hx hy).mono ?_; rintro e w' ⟨rfl, rfl⟩))
  go_ret
  exact ⟨rfl, rfl⟩

theorem FnExactSameNumber_walk (x y : Nat) (w : World) (wx : (Lit.float .f32 x).wf = true) (wy : (Lit.float .f32 y).wf = true) : Calls Try.prog 9 #[.float .f32 x, .float .f32 y] w fun e w' => e = .returned (.bool true) ∧ Below w.heap.size w w' := by
  have hx := wf32 wx
  have hy := wf32 wy
  go_enter Try.func9, Try.ntmps9
  go_wp2_with (first | (go_at_call 26; refine (spec_SameNumber _ _ _ hx hy).mono ?_; rintro e w' ⟨rfl, rfl⟩) | (go_at_call 27; refine (impl_SameNumber _ _ _).mono ?_; rintro e w' ⟨rfl, rfl⟩))
  go_ret
  exact ⟨rfl, Below.refl _ _⟩

theorem impl_FromBits (n : Int) (w : World) : Calls Try.prog 34 #[.int .i64 n] w fun e w' => e = .returned (.tuple #[.float .f32 (if 0 ≤ n ∧ n ≤ 4294967295 then n.toNat else 0), .bool (decide (0 ≤ n ∧ n ≤ 4294967295))]) ∧ w = w' := by
  by_cases h0 : 0 ≤ n
  · by_cases h1 : n ≤ 4294967295
    · rw [if_pos ⟨h0, h1⟩, decide_eq_true ⟨h0, h1⟩]
      go_enter Try.func34, Try.ntmps34
      go_wp2
      go_ret2
      exact ⟨rfl, rfl⟩
    · rw [if_neg (by omega), decide_eq_false (by omega)]
      have h2 : decide (n ≤ 4294967295) = false := by simp; omega
      go_enter Try.func34, Try.ntmps34
      go_wp2
      go_ret2
      exact ⟨rfl, rfl⟩
  · rw [if_neg (by omega), decide_eq_false (by omega)]
    have h2 : n < 0 := by omega
    go_enter Try.func34, Try.ntmps34
    go_wp2
    go_ret2
    exact ⟨rfl, rfl⟩

theorem spec_FromBits (n : Int) (w : World) : Calls Try.prog 33 #[.int .i64 n] w fun e w' => e = .returned (.tuple #[.float .f32 (if 0 ≤ n ∧ n ≤ 4294967295 then n.toNat else 0), .bool (decide (0 ≤ n ∧ n ≤ 4294967295))]) ∧ w = w' := by
  by_cases h0 : 0 ≤ n
  · by_cases h1 : n ≤ 4294967295
    · rw [if_pos ⟨h0, h1⟩, decide_eq_true ⟨h0, h1⟩]
      go_enter Try.func33, Try.ntmps33
      go_wp2
      go_ret2
      exact ⟨rfl, rfl⟩
    · rw [if_neg (by omega), decide_eq_false (by omega)]
      have h2 : decide (n ≤ 4294967295) = false := by simp; omega
      go_enter Try.func33, Try.ntmps33
      go_wp2
      go_ret2
      exact ⟨rfl, rfl⟩
  · rw [if_neg (by omega), decide_eq_false (by omega)]
    have h2 : n < 0 := by omega
    go_enter Try.func33, Try.ntmps33
    go_wp2
    go_ret2
    exact ⟨rfl, rfl⟩

theorem FnExactFromBits_walk (n : Int) (w : World) (_ : (Lit.int .i64 n).wf = true) : Calls Try.prog 12 #[.int .i64 n] w fun e w' => e = .returned (.bool true) ∧ Below w.heap.size w w' := by
  have hid : ∃ m : Nat, (if 0 ≤ n ∧ n ≤ 4294967295 then n.toNat else 0) = m := ⟨_, rfl⟩
  obtain ⟨m, hm⟩ := hid
  have hb : ∃ b : Bool, decide (0 ≤ n ∧ n ≤ 4294967295) = b := ⟨_, rfl⟩
  obtain ⟨b, hb⟩ := hb
  have c1 := impl_FromBits n
  have c2 := spec_FromBits n
  rw [hm, hb] at c1 c2
  have C1 := Lib.hid c1
  have C2 := Lib.hid c2
  clear c1 c2 hm hb
  go_enter Try.func12, Try.ntmps12
  go_wp2_with (first | (go_at_call 33; refine (C2.out _).mono ?_; rintro e w' ⟨rfl, rfl⟩) | (go_at_call 34; refine (C1.out _).mono ?_; rintro e w' ⟨rfl, rfl⟩) | (refine wpList_widen _ _ _ rfl rfl _ rfl (by rw [Try.underlying23]; rfl) Try.underlying25 ?_; intro r n hr; have er := hr.ab) | (go_at_call 19; refine (sameFloat _ _ _ ?_).mono ?_; (simp only [*]); rintro e w' ⟨n, rfl, rfl⟩))
  go_ret
  exact ⟨rfl, below_drewN (Below.refl _ _) _⟩

theorem spec_IsFinite (x : Nat) (w : World) : Calls Try.prog 15 #[.float .f32 x] w (RetB (fin .f32 (ab .f32 x)) w) := by
  go_enter Try.func15, Try.ntmps15
  go_wp2_with (go_at_call 40; refine (l01Finite _ _).mono ?_; rintro e w' ⟨n, rfl, rfl⟩)
  go_ret
  exact RetB.mk _ rfl

theorem spec_BitsOf (x : Nat) (w : World) (hx : x < 4294967296) : Calls Try.prog 22 #[.float .f32 x] w fun e w' => e = .returned (.int .i64 (bitsOf x : Int)) ∧ w = w' := by
  go_enter Try.func22, Try.ntmps22
  go_wp2_with (go_at_call 42; refine (l01Bits _ _ hx).mono ?_; rintro e w' ⟨rfl, rfl⟩)
  go_ret
  exact ⟨rfl, rfl⟩

theorem FnExactConstants_walk (w : World) : Calls Try.prog 3 #[] w fun e w' => e = .returned (.bool true) ∧ Below w.heap.size w w' := by
  go_enter Try.func3, Try.ntmps3
  go_wp2
  go_ret
  exact ⟨rfl, Below.refl _ _⟩

theorem FnExactIsFinite_walk (x : Nat) (w : World) (_ : (Lit.float .f32 x).wf = true) : Calls Try.prog 4 #[.float .f32 x] w fun e w' => e = .returned (.bool true) ∧ Below w.heap.size w w' := by
  go_enter Try.func4, Try.ntmps4
  go_wp2_with (first | (go_at_call 15; refine (spec_IsFinite _ _).mono ?_; rintro e w' ⟨n, rfl, rfl⟩) | (go_at_call 16; refine (impl_IsFinite _ _).mono ?_; rintro e w' ⟨n, rfl, rfl⟩))
  go_ret
  exact ⟨rfl, below_drewN (Below.refl _ _) _⟩

theorem FnExactBitsOf_walk (x : Nat) (w : World) (wx : (Lit.float .f32 x).wf = true) : Calls Try.prog 7 #[.float .f32 x] w fun e w' => e = .returned (.bool true) ∧ Below w.heap.size w w' := by
  have hx := wf32 wx
  go_enter Try.func7, Try.ntmps7
  go_wp2_with (first | (go_at_call 22; refine (spec_BitsOf _ _ hx).mono ?_; rintro e w' ⟨rfl, rfl⟩) | (go_at_call 23; refine (BitsOf _ _ hx).mono ?_; rintro e w' ⟨rfl, rfl⟩))
  go_ret
  exact ⟨rfl, Below.refl _ _⟩

theorem FnExactIsSubnormal_walk (x : Nat) (w : World) (wx : (Lit.float .f32 x).wf = true) : Calls Try.prog 6 #[.float .f32 x] w fun e w' => e = .returned (.bool true) ∧ Below w.heap.size w w' := by
  have hx := wf32 wx
  go_enter Try.func6, Try.ntmps6
  go_wp2_with (first | (go_at_call 20; refine (spec_IsSubnormal _ _ hx).mono ?_; rintro e w' ⟨rfl, rfl⟩) | (go_at_call 21; refine (IsSubnormal _ _ hx).mono ?_; rintro e w' ⟨rfl, rfl⟩))
  go_ret
  exact ⟨rfl, Below.refl _ _⟩

end Go.Proofs.Ytbhbdnpcljbfdaa
