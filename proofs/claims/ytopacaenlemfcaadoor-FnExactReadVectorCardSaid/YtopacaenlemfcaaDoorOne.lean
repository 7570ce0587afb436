/-
  The walks of the functions on single floats.
-/
import Derived.Test.YtopacaenlemfcaaDoorRows
import Derived.Test.YtopacaenlemfcaaDoorFloat
import Derived.WalkKit
import Derived.WalkSpells
import Derived.WalkLawsBesides
import Derived.Lib.Hide
namespace Go.Proofs.YtopacaenlemfcaaDoor
open Go.RowKit Go.FL

@[go_sem] theorem run_bits32 (b : Nat) (w : World) : (callFunc 56 #[.float .f32 b]).run Tryd.prog w = .ok (.value (.int .u32 b)) w := by kernel_rfl
@[go_sem] theorem run_frombits32 (b : Int) (w : World) : (callFunc 55 #[.int .u32 b]).run Tryd.prog w = .ok (.value (.float .f32 b.toNat)) w := by kernel_rfl



theorem isNaN (x : Nat) (w : World) : Calls Tryd.prog 59 #[.float .f32 x] w (RetB (ab .f32 x).isNone w) := by
  go_enter Tryd.func59, Tryd.ntmps59
  go_wp2
  go_ret
  exact RetB.mk0 (by rw [order_self])

theorem BitsOf (x : Nat) (w : World) (hx : x < 4294967296) : Calls Tryd.prog 49 #[.float .f32 x] w fun e w' => e = .returned (.int .i64 (bitsOf x : Int)) ∧ w = w' := by
  unfold bitsOf
  cases ha : ab .f32 x with
  | none =>
    have e1 : (FloatKind.f32.format.order x x != some .eq) = true := by rw [order_self, ha]; rfl
    clear ha
    go_enter Tryd.func49, Tryd.ntmps49
    go_wp2
    go_ret
    exact ⟨rfl, rfl⟩
  | some y =>
    have e1 : (FloatKind.f32.format.order x x != some .eq) = false := by rw [order_self, ha]; rfl
    clear ha
    go_enter Tryd.func49, Tryd.ntmps49
    go_wp2
    go_ret
    exact ⟨rfl, rfl⟩

theorem l01Bits (x : Nat) (w : World) (hx : x < 4294967296) : Calls Tryd.prog 45 #[.float .f32 x] w fun e w' => e = .returned (.int .i64 (bitsOf x : Int)) ∧ w = w' := by
  unfold bitsOf
  cases ha : ab .f32 x with
  | none =>
    have e1 : (FloatKind.f32.format.order x x != some .eq) = true := by rw [order_self, ha]; rfl
    clear ha
    go_enter Tryd.func45, Tryd.ntmps45
    go_wp2
    go_ret
    exact ⟨rfl, rfl⟩
  | some y =>
    have e1 : (FloatKind.f32.format.order x x != some .eq) = false := by rw [order_self, ha]; rfl
    clear ha
    go_enter Tryd.func45, Tryd.ntmps45
    go_wp2
    go_ret
    exact ⟨rfl, rfl⟩




theorem sameFloat (a b : Nat) (w : World) (h : ab .f64 a = ab .f64 b) : Calls Tryd.prog 32 #[.float .f64 a, .float .f64 b] w (RetB true w) := by
  cases ha : ab .f64 a with
  | none =>
    have hb : ab .f64 b = none := by rw [← h, ha]
    have e1 : (FloatKind.f64.format.order a a != some .eq) = true := by rw [order_self, ha]; rfl
    have e2 : (FloatKind.f64.format.order b b != some .eq) = true := by rw [order_self, hb]; rfl
    clear h ha hb
    go_enter Tryd.func32, Tryd.ntmps32
    go_wp2
    go_ret
    exact RetB.mk0 rfl
  | some x =>
    obtain ⟨_, rfl⟩ := ab_some.1 ha
    obtain ⟨_, rfl⟩ := ab_some.1 (h.symm.trans ha)
    have e1 : (FloatKind.f64.format.order b b != some .eq) = false := by rw [order_self, ha]; rfl
    have e3 : (FloatKind.f64.format.order b b == some .eq) = true := by rw [order_self_eq, ha]; rfl
    clear h ha
    cases e0 : (FloatKind.f64.format.order b 0 == some .eq)
    · go_enter Tryd.func32, Tryd.ntmps32
      go_wp2_with (refine wpList_arith _ _ _ _ _ rfl rfl _ _ _ rfl rfl rfl ?_; intro r n hr)
      go_ret
      exact RetB.mk0 rfl
    · go_enter Tryd.func32, Tryd.ntmps32
      go_wp2_with (refine wpList_arith _ _ _ _ _ rfl rfl _ _ _ rfl rfl rfl ?_; intro r n hr)
      rename_i r1 n1 h1
      go_ret
      exact RetB.mk _ (by rw [order_ab, order_ab, h1.ab, hr.ab, ab_zero]; simp)

theorem sameFloat_is {a b : Nat} {o p : Option Nat} (w : World) (ha : Is .f64 a o) (hb : Is .f64 b p) (h : o = p) : Calls Tryd.prog 32 #[.float .f64 a, .float .f64 b] w (RetB true w) :=
  sameFloat a b w (by rw [ha.ab, hb.ab, h])











end Go.Proofs.YtopacaenlemfcaaDoor
