/-
  The walks of the functions on single floats.
-/
import Derived.Test.YtohpklakhkfebaaRows
import Derived.Test.YtohpklakhkfebaaFloat
import Derived.WalkKit
import Derived.WalkSpells
import Derived.WalkLawsBesides
import Derived.Lib.Hide
namespace Go.Proofs.Ytohpklakhkfebaa
open Go.RowKit Go.FL










theorem sameFloat (a b : Nat) (w : World) (h : ab .f64 a = ab .f64 b) : Calls Try.prog 36 #[.float .f64 a, .float .f64 b] w (RetB true w) := by
  cases ha : ab .f64 a with
  | none =>
    have hb : ab .f64 b = none := by rw [← h, ha]
    have e1 : (FloatKind.f64.format.order a a != some .eq) = true := by rw [order_self, ha]; rfl
    have e2 : (FloatKind.f64.format.order b b != some .eq) = true := by rw [order_self, hb]; rfl
    clear h ha hb
    go_enter Try.func36, Try.ntmps36
    go_wp2
    go_ret
    exact RetB.mk0 rfl
  | some x =>
    obtain ⟨_, rfl⟩ := ab_some.1 ha
    obtain ⟨_, rfl⟩ := ab_some.1 (h.symm.trans ha)
    have e1 : (FloatKind.f64.format.order b b != some .eq) = false := by rw [order_self, ha]; rfl
    have e3 : (FloatKind.f64.format.order b b == some .eq) = true := by rw [order_self_eq, ha]; rfl
    clear h ha
    cases e0 : (FloatKind.f64.format.order b 0 == some .eq)
    · go_enter Try.func36, Try.ntmps36
      go_wp2_with (refine wpList_arith _ _ _ _ _ rfl rfl _ _ _ rfl rfl rfl ?_; intro r n hr)
      go_ret
      exact RetB.mk0 rfl
    · go_enter Try.func36, Try.ntmps36
      go_wp2_with (refine wpList_arith _ _ _ _ _ rfl rfl _ _ _ rfl rfl rfl ?_; intro r n hr)
      rename_i r1 n1 h1
      go_ret
      exact RetB.mk _ (by rw [order_ab, order_ab, h1.ab, hr.ab, ab_zero]; simp)

theorem sameFloat_is {a b : Nat} {o p : Option Nat} (w : World) (ha : Is .f64 a o) (hb : Is .f64 b p) (h : o = p) : Calls Try.prog 36 #[.float .f64 a, .float .f64 b] w (RetB true w) :=
  sameFloat a b w (by rw [ha.ab, hb.ab, h])











end Go.Proofs.Ytohpklakhkfebaa
