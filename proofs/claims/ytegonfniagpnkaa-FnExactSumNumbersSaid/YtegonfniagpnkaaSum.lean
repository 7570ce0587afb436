/-
  The law of the sum of a list.
-/
import Derived.Test.YtegonfniagpnkaaRow
namespace Go.Proofs.Ytegonfniagpnkaa
open Go.RowKit Go.FL

theorem FnExactSumNumbers_walk (a : Option Addr) (len cap : Nat) (zs : List Nat) (w : World) (h : IsFRow w a len cap zs) : Calls Try.prog 12 #[.slice a len cap] w fun e w' => e = .returned (.bool true) ∧ Below w.heap.size w w' := by
  by_cases hl : len ≤ 1048576
  · have H := Lib.hid h
    clear h
    go_enter Try.func12, Try.ntmps12
    go_wp2_with fail
    refine (toFloat32S a len cap zs _ H.out hl).mono ?_
    rintro e w1 ⟨rfl, f1, b1, -⟩
    go_wp2_with fail
    refine (spec_SumNumbers _ _ _ zs _ f1).mono ?_
    rintro e w' ⟨r1, n1, hr1, rfl, rfl⟩
    have B1 := Lib.hid (below_drewN b1 n1)
    clear b1 f1
    go_wp2_with fail
    refine (toFloat32S a len cap zs _ (IsFRow.below H.out B1.out) hl).mono ?_
    rintro e w2 ⟨rfl, f2, b2, -⟩
    have B2 := Lib.hid (B1.out.trans (b2.mono B1.out.size))
    clear b2 B1
    go_wp2_with fail
    refine (impl_SumNumbers _ _ _ zs _ f2).mono ?_
    rintro e w' ⟨r2, n2, hr2, rfl, rfl⟩
    have B3 := Lib.hid (below_drewN B2.out n2)
    have F2 := Lib.hid f2
    clear f2
    have E1 := Lib.hid hr1.ab
    have E2 := Lib.hid hr2.ab
    clear hr1 hr2
    go_wp2_with (first | (refine wpList_widen _ _ _ rfl rfl _ rfl (by rw [Try.underlying22]; rfl) Try.underlying34 ?_; intro r n hr; have er := hr.ab) | (go_at_call 22; refine (sameFloat _ _ _ ?_).mono ?_; (simp only [*]; rw [E1.out, E2.out]); rintro e w' ⟨n, rfl, rfl⟩))
    refine (toFloat32S a len cap zs _ (IsFRow.below H.out (below_drewN B2.out _)) hl).mono ?_
    rintro e w3 ⟨rfl, f3, b3, -⟩
    have B4 := Lib.hid ((below_drewN B2.out _).trans (b3.mono B2.out.size))
    have B5 := Lib.hid ((below_drewN (Below.refl w2.heap.size w2) _).trans b3)
    clear b3 B2 B3
    go_wp2_with fail
    refine (eqFloat32S _ _ len _ _ zs _ (IsFRow.below F2.out B5.out) f3).mono ?_
    rintro e w' ⟨n', rfl, rfl⟩
    go_wp2_with fail
    go_ret
    exact ⟨rfl, below_drewN B4.out _⟩
  · go_enter Try.func12, Try.ntmps12
    go_wp2
    go_ret
    exact ⟨rfl, Below.refl _ _⟩
end Go.Proofs.Ytegonfniagpnkaa
