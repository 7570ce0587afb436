/-
  The walks of the functions on single floats.
-/
import Derived.Test.YtegonfniagpnkaaRows
import Derived.Test.YtegonfniagpnkaaFloat
import Derived.WalkKit
import Derived.WalkSpells
import Derived.WalkLawsBesides
import Derived.Lib.Hide
namespace Go.Proofs.Ytegonfniagpnkaa
open Go.RowKit Go.FL

@[go_sem] theorem run_bits32 (b : Nat) (w : World) : (callFunc 47 #[.float .f32 b]).run Try.prog w = .ok (.value (.int .u32 b)) w := by kernel_rfl
@[go_sem] theorem run_frombits32 (b : Int) (w : World) : (callFunc 46 #[.int .u32 b]).run Try.prog w = .ok (.value (.float .f32 b.toNat)) w := by kernel_rfl



theorem isNaN (x : Nat) (w : World) : Calls Try.prog 53 #[.float .f32 x] w (RetB (ab .f32 x).isNone w) := by
  go_enter Try.func53, Try.ntmps53
  go_wp2
  go_ret
  exact RetB.mk0 (by rw [order_self])


theorem l01Bits (x : Nat) (w : World) (hx : x < 4294967296) : Calls Try.prog 65 #[.float .f32 x] w fun e w' => e = .returned (.int .i64 (bitsOf x : Int)) ∧ w = w' := by
  unfold bitsOf
  cases ha : ab .f32 x with
  | none =>
    have e1 : (FloatKind.f32.format.order x x != some .eq) = true := by rw [order_self, ha]; rfl
    clear ha
    go_enter Try.func65, Try.ntmps65
    go_wp2
    go_ret
    exact ⟨rfl, rfl⟩
  | some y =>
    have e1 : (FloatKind.f32.format.order x x != some .eq) = false := by rw [order_self, ha]; rfl
    clear ha
    go_enter Try.func65, Try.ntmps65
    go_wp2
    go_ret
    exact ⟨rfl, rfl⟩

theorem abs_any (x : Nat) (w : World) (hx : x < 4294967296) : Calls Try.prog 67 #[.float .f32 x] w fun e w' => e = .returned (.float .f32 (x % 2147483648)) ∧ w = w' := by
  have h := andNot_top x hx
  go_enter Try.func67, Try.ntmps67
  go_wp2
  go_ret
  exact ⟨rfl, rfl⟩

theorem IsSubnormal (x : Nat) (w : World) (hx : x < 4294967296) : Calls Try.prog 45 #[.float .f32 x] w fun e w' => e = .returned (.bool (subn x)) ∧ w = w' := by
  have e1 := order_zero32 x
  have e2 := order_least32 x
  unfold subn
  by_cases h0 : x % 2147483648 = 0
  · rw [decide_eq_true h0] at e1
    have e3 := neq_true e1
    go_enter Try.func45, Try.ntmps45
    go_wp2_with fail
    go_ret
    exact ⟨ret_bool (by simp [h0]), rfl⟩
  · rw [decide_eq_false h0] at e1
    have e3 := neq_false e1
    go_enter Try.func45, Try.ntmps45
    go_wp2_with (go_at_call 67; refine (abs_any _ _ hx).mono ?_; rintro e w' ⟨rfl, rfl⟩)
    go_ret
    exact ⟨ret_bool (by simp; omega), rfl⟩


theorem sameFloat (a b : Nat) (w : World) (h : ab .f64 a = ab .f64 b) : Calls Try.prog 22 #[.float .f64 a, .float .f64 b] w (RetB true w) := by
  cases ha : ab .f64 a with
  | none =>
    have hb : ab .f64 b = none := by rw [← h, ha]
    have e1 : (FloatKind.f64.format.order a a != some .eq) = true := by rw [order_self, ha]; rfl
    have e2 : (FloatKind.f64.format.order b b != some .eq) = true := by rw [order_self, hb]; rfl
    clear h ha hb
    go_enter Try.func22, Try.ntmps22
    go_wp2
    go_ret
    exact RetB.mk0 rfl
  | some x =>
    obtain ⟨_, rfl⟩ := ab_some.1 ha
    obtain ⟨_, rfl⟩ := ab_some.1 (h.symm.trans ha)
    have e1 : (FloatKind.f64.format.order b b != some .eq) = false := by rw [order_self, ha]; rfl
    have e3 : (FloatKind.f64.format.order b b == some .eq) = true := by rw [order_self_eq, ha]; rfl
    clear h ha
    cases e0 : (FloatKind.f64.format.order b 0 == some .eq)
    · go_enter Try.func22, Try.ntmps22
      go_wp2_with (refine wpList_arith _ _ _ _ _ rfl rfl _ _ _ rfl rfl rfl ?_; intro r n hr)
      go_ret
      exact RetB.mk0 rfl
    · go_enter Try.func22, Try.ntmps22
      go_wp2_with (refine wpList_arith _ _ _ _ _ rfl rfl _ _ _ rfl rfl rfl ?_; intro r n hr)
      rename_i r1 n1 h1
      go_ret
      exact RetB.mk _ (by rw [order_ab, order_ab, h1.ab, hr.ab, ab_zero]; simp)

theorem sameFloat_is {a b : Nat} {o p : Option Nat} (w : World) (ha : Is .f64 a o) (hb : Is .f64 b p) (h : o = p) : Calls Try.prog 22 #[.float .f64 a, .float .f64 b] w (RetB true w) :=
  sameFloat a b w (by rw [ha.ab, hb.ab, h])



theorem impl_FlushNumber (x : Nat) (w : World) (hx : x < 4294967296) : Calls Try.prog 21 #[.float .f32 x] w fun e w' => e = .returned (.float .f32 (flush x)) ∧ w = w' := by
  have hb := and_top_u32 x hx
  unfold flush
  by_cases h : subn x = true
  · have h' := h
    unfold subn at h'
    simp only [Bool.and_eq_true, decide_eq_true_eq] at h'
    rw [if_pos h'.2]
    clear h'
    go_enter Try.func21, Try.ntmps21
    go_wp2_with (go_at_call 45; refine (IsSubnormal _ _ hx).mono ?_; rintro e w' ⟨rfl, rfl⟩)
    go_ret
    exact ⟨rfl, rfl⟩
  · have hf : (if x % 2147483648 < 8388608 then x / 2147483648 % 2 * 2147483648 else x) = x := by
      unfold subn at h
      simp only [Bool.and_eq_true, decide_eq_true_eq] at h
      split <;> omega
    rw [hf]
    have h' : subn x = false := by simpa using h
    clear h hf
    go_enter Try.func21, Try.ntmps21
    go_wp2_with (go_at_call 45; refine (IsSubnormal _ _ hx).mono ?_; rintro e w' ⟨rfl, rfl⟩)
    go_ret
    exact ⟨rfl, rfl⟩

theorem l01Flush (x : Nat) (w : World) (hx : x < 4294967296) : Calls Try.prog 44 #[.float .f32 x] w fun e w' => e = .returned (.float .f32 (flush x)) ∧ w = w' := by
  have hb := and_top_i64 (bitsOf x) (bitsOf_lt hx)
  have hz := exp_zero x
  have he := and_exp_i64 (bitsOf x) (bitsOf_lt hx)
  unfold flush
  by_cases h : x % 2147483648 < 8388608
  · have hax : ab .f32 x = some x := by rw [ab32, if_neg (by omega)]
    have hbx : bitsOf x = x := by unfold bitsOf; rw [hax]; rfl
    clear hax
    rw [if_pos h]
    have e0 : ((bitsOf x : Int) / 8388608 % 256 * 8388608 == 0) = true := by rw [beq_iff_eq]; have h0 := hz.2 h; omega
    rw [hbx] at e0 hb he
    have hc := l01Bits x w hx
    rw [hbx] at hc
    have HC := Lib.hid hc
    clear hc hbx hz
    go_enter Try.func44, Try.ntmps44
    go_wp2_with (first | (go_at_call 65; refine HC.out.mono ?_; rintro e w' ⟨rfl, rfl⟩) | go_in)
    go_ret
    exact ⟨rfl, rfl⟩
  · rw [if_neg h]
    have e0 : ((bitsOf x : Int) / 8388608 % 256 * 8388608 == 0) = false := by rw [beq_eq_false_iff_ne]; intro h0; exact h (hz.1 (by omega))
    clear hz hb
    go_enter Try.func44, Try.ntmps44
    go_wp2_with (first | (go_at_call 65; refine (l01Bits x _ hx).mono ?_; rintro e w' ⟨rfl, rfl⟩) | go_in)
    go_ret
    exact ⟨rfl, rfl⟩

theorem spec_FlushNumber (x : Nat) (w : World) (hx : x < 4294967296) : Calls Try.prog 20 #[.float .f32 x] w fun e w' => e = .returned (.float .f32 (flush x)) ∧ w = w' := by
  go_enter Try.func20, Try.ntmps20
  go_wp2_with (go_at_call 44; refine (l01Flush _ _ hx).mono ?_; rintro e w' ⟨rfl, rfl⟩)
  go_ret
  exact ⟨rfl, rfl⟩

theorem FnExactFlushNumber_walk (x : Nat) (w : World) (wx : (Lit.float .f32 x).wf = true) : Calls Try.prog 5 #[.float .f32 x] w fun e w' => e = .returned (.bool true) ∧ Below w.heap.size w w' := by
  have hx := wf32 wx
  go_enter Try.func5, Try.ntmps5
  go_wp2_with (first | (go_at_call 20; refine (spec_FlushNumber _ _ hx).mono ?_; rintro e w' ⟨rfl, rfl⟩) | (go_at_call 21; refine (impl_FlushNumber _ _ hx).mono ?_; rintro e w' ⟨rfl, rfl⟩) | (refine wpList_widen _ _ _ rfl rfl _ rfl (by rw [Try.underlying22]; rfl) Try.underlying34 ?_; intro r n hr; have er := hr.ab) | (go_at_call 22; refine (sameFloat _ _ _ ?_).mono ?_; (simp only [*]); rintro e w' ⟨n, rfl, rfl⟩))
  go_ret
  exact ⟨rfl, below_drewN (Below.refl _ _) _⟩

theorem impl_NextUp (x : Nat) (w : World) (hx : x < 4294967296) : Calls Try.prog 28 #[.float .f32 x] w fun e w' => e = .returned (.float .f32 (nextUp x)) ∧ w = w' := by
  unfold nextUp
  by_cases hn : 2139095040 < x % 2147483648
  · rw [if_pos (.inl hn)]
    have ha : ab .f32 x = none := by rw [ab32, if_pos hn]
    have e1 : (FloatKind.f32.format.order x x != some .eq) = true := by rw [order_self, ha]; rfl
    clear ha hn
    go_enter Try.func28, Try.ntmps28
    go_wp2
    go_ret
    exact ⟨rfl, rfl⟩
  · have hle : x % 2147483648 ≤ 2139095040 := by omega
    have ha : ab .f32 x = some x := by rw [ab32, if_neg hn]
    have e1 : (FloatKind.f32.format.order x x != some .eq) = false := by rw [order_self, ha]; rfl
    have o1 := order32 (y := 2139095039) hle (by decide)
    have o0 := order32 (y := 0) hle (by decide)
    rw [show k32 2139095039 = 2139095039 by decide] at o1
    rw [show k32 0 = 0 by decide] at o0
    by_cases hi : x = 2139095040
    · rw [if_pos (.inr hi)]
      have g1 := ord_gt o1 (by rw [hi]; decide)
      clear o1 o0 hi ha hle hn
      go_enter Try.func28, Try.ntmps28
      go_wp2
      go_ret
      exact ⟨rfl, rfl⟩
    · rw [if_neg (by omega)]
      have g1 : (FloatKind.f32.format.order x 2139095039 == some .gt) = false := by
        have hk : k32 x ≤ 2139095039 := by unfold k32; split <;> omega
        rcases Int.lt_or_eq_of_le hk with h | h
        · rw [ord_lt o1 h]; rfl
        · rw [ord_eq o1 h]; rfl
      by_cases hz : x % 2147483648 = 0
      · rw [if_pos hz]
        have g2 := ord_eq o0 (by unfold k32; split <;> omega)
        clear o1 o0 ha hi hz hle hn
        go_enter Try.func28, Try.ntmps28
        go_wp2
        go_ret
        exact ⟨rfl, rfl⟩
      · rw [if_neg hz]
        by_cases hs : 2147483648 ≤ x
        · rw [if_pos hs]
          have g2 := ord_lt o0 (by unfold k32; rw [if_pos (by omega)]; omega)
          have hw : ((x : Int) - 1) % 4294967296 = x - 1 := by omega
          clear o1 o0 ha hi hz hle hn
          go_enter Try.func28, Try.ntmps28
          go_wp2
          go_ret
          exact ⟨rfl, rfl⟩
        · rw [if_neg hs]
          have g2 := ord_gt o0 (by unfold k32; rw [if_neg (by omega)]; omega)
          clear o1 o0 ha hi hz hle hn
          go_enter Try.func28, Try.ntmps28
          go_wp2
          go_ret
          exact ⟨rfl, rfl⟩

theorem l01Next (x : Nat) (w : World) (hx : x < 4294967296) : Calls Try.prog 52 #[.float .f32 x] w fun e w' => e = .returned (.float .f32 (nextUp x)) ∧ w = w' := by
  have hbits := l01Bits x
  unfold nextUp
  by_cases hn : 2139095040 < x % 2147483648
  · rw [if_pos (.inl hn)]
    have ha : ab .f32 x = none := by rw [ab32, if_pos hn]
    have e1 : (FloatKind.f32.format.order x x != some .eq) = true := by rw [order_self, ha]; rfl
    clear ha hn hbits
    go_enter Try.func52, Try.ntmps52
    go_wp2_with (go_at_call 65; refine (l01Bits x _ hx).mono ?_; rintro e w' ⟨rfl, rfl⟩)
    go_ret
    exact ⟨rfl, rfl⟩
  · have hle : x % 2147483648 ≤ 2139095040 := by omega
    have ha : ab .f32 x = some x := by rw [ab32, if_neg hn]
    have e1 : (FloatKind.f32.format.order x x != some .eq) = false := by rw [order_self, ha]; rfl
    have hbx : bitsOf x = x := by unfold bitsOf; rw [ha]; rfl
    rw [hbx] at hbits
    have HB := Lib.hid hbits
    have o0 := order32 (y := 0) hle (by decide)
    rw [show k32 0 = 0 by decide] at o0
    by_cases hi : x = 2139095040
    · rw [if_pos (.inr hi)]
      have g1 : ((x : Int) == 2139095040) = true := by rw [beq_iff_eq]; omega
      clear o0 hi ha hle hn hbx hbits
      go_enter Try.func52, Try.ntmps52
      go_wp2_with (go_at_call 65; refine (HB.out _ hx).mono ?_; rintro e w' ⟨rfl, rfl⟩)
      go_ret
      exact ⟨rfl, rfl⟩
    · rw [if_neg (by omega)]
      have g1 : ((x : Int) == 2139095040) = false := by rw [beq_eq_false_iff_ne]; omega
      by_cases hz : x % 2147483648 = 0
      · rw [if_pos hz]
        have g2 := ord_eq o0 (by unfold k32; split <;> omega)
        clear o0 ha hi hz hle hn hbx hbits
        go_enter Try.func52, Try.ntmps52
        go_wp2_with (first | (go_at_call 65; refine (HB.out _ hx).mono ?_; rintro e w' ⟨rfl, rfl⟩) | go_in)
        go_ret
        exact ⟨rfl, rfl⟩
      · rw [if_neg hz]
        by_cases hs : 2147483648 ≤ x
        · rw [if_pos hs]
          have g2 := ord_lt o0 (by unfold k32; rw [if_pos (by omega)]; omega)
          clear o0 ha hi hz hle hn hbx hbits
          go_enter Try.func52, Try.ntmps52
          go_wp2_with (first | (go_at_call 65; refine (HB.out _ hx).mono ?_; rintro e w' ⟨rfl, rfl⟩) | go_in)
          go_ret
          exact ⟨rfl, rfl⟩
        · rw [if_neg hs]
          have g2 := ord_gt o0 (by unfold k32; rw [if_neg (by omega)]; omega)
          clear o0 ha hi hz hle hn hbx hbits
          go_enter Try.func52, Try.ntmps52
          go_wp2_with (first | (go_at_call 65; refine (HB.out _ hx).mono ?_; rintro e w' ⟨rfl, rfl⟩) | go_in)
          go_ret
          exact ⟨rfl, rfl⟩

theorem spec_NextUp (x : Nat) (w : World) (hx : x < 4294967296) : Calls Try.prog 27 #[.float .f32 x] w fun e w' => e = .returned (.float .f32 (nextUp x)) ∧ w = w' := by
  go_enter Try.func27, Try.ntmps27
  go_wp2_with (go_at_call 52; refine (l01Next _ _ hx).mono ?_; rintro e w' ⟨rfl, rfl⟩)
  go_ret
  exact ⟨rfl, rfl⟩

theorem FnExactNextUp_walk (x : Nat) (w : World) (wx : (Lit.float .f32 x).wf = true) : Calls Try.prog 8 #[.float .f32 x] w fun e w' => e = .returned (.bool true) ∧ Below w.heap.size w w' := by
  have hx := wf32 wx
  go_enter Try.func8, Try.ntmps8
  go_wp2_with (first | (go_at_call 27; refine (spec_NextUp _ _ hx).mono ?_; rintro e w' ⟨rfl, rfl⟩) | (go_at_call 28; refine (impl_NextUp _ _ hx).mono ?_; rintro e w' ⟨rfl, rfl⟩) | (refine wpList_widen _ _ _ rfl rfl _ rfl (by rw [Try.underlying22]; rfl) Try.underlying34 ?_; intro r n hr; have er := hr.ab) | (go_at_call 22; refine (sameFloat _ _ _ ?_).mono ?_; (simp only [*]); rintro e w' ⟨n, rfl, rfl⟩))
  go_ret
  exact ⟨rfl, below_drewN (Below.refl _ _) _⟩

theorem impl_NextDown (x : Nat) (w : World) (hx : x < 4294967296) : Calls Try.prog 30 #[.float .f32 x] w fun e w' => e = .returned (.float .f32 (Op.negFloat .f32 (nextUp (Op.negFloat .f32 x)))) ∧ w = w' := by
  have hy : Op.negFloat .f32 x < 4294967296 := neg_lt32 hx
  go_enter Try.func30, Try.ntmps30
  go_wp2_with (go_at_call 28; refine (impl_NextUp _ _ hy).mono ?_; rintro e w' ⟨rfl, rfl⟩)
  go_ret
  exact ⟨rfl, rfl⟩

theorem spec_NextDown (x : Nat) (w : World) (hx : x < 4294967296) : Calls Try.prog 29 #[.float .f32 x] w fun e w' => e = .returned (.float .f32 (Op.negFloat .f32 (nextUp (Op.negFloat .f32 x)))) ∧ w = w' := by
  have hy : Op.negFloat .f32 x < 4294967296 := neg_lt32 hx
  go_enter Try.func29, Try.ntmps29
  go_wp2_with (go_at_call 52; refine (l01Next _ _ hy).mono ?_; rintro e w' ⟨rfl, rfl⟩)
  go_ret
  exact ⟨rfl, rfl⟩

theorem FnExactNextDown_walk (x : Nat) (w : World) (wx : (Lit.float .f32 x).wf = true) : Calls Try.prog 9 #[.float .f32 x] w fun e w' => e = .returned (.bool true) ∧ Below w.heap.size w w' := by
  have hx := wf32 wx
  go_enter Try.func9, Try.ntmps9
  go_wp2_with (first | (go_at_call 29; refine (spec_NextDown _ _ hx).mono ?_; rintro e w' ⟨rfl, rfl⟩) | (go_at_call 30; refine (impl_NextDown _ _ hx).mono ?_; rintro e w' ⟨rfl, rfl⟩) | (refine wpList_widen _ _ _ rfl rfl _ rfl (by rw [Try.underlying22]; rfl) Try.underlying34 ?_; intro r n hr; have er := hr.ab) | (go_at_call 22; refine (sameFloat _ _ _ ?_).mono ?_; (simp only [*]); rintro e w' ⟨n, rfl, rfl⟩))
  go_ret
  exact ⟨rfl, below_drewN (Below.refl _ _) _⟩







end Go.Proofs.Ytegonfniagpnkaa
