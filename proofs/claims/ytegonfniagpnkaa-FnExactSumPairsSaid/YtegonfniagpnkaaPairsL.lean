/-
  The law of the sum of a list by halves.
-/
import Derived.Test.YtegonfniagpnkaaPairs
namespace Go.Proofs.Ytegonfniagpnkaa
open Go.RowKit Go.FL
theorem spec_SumPairs (a : Option Addr) (len cap : Nat) (zs : List Nat) (w : World) (h : IsFRow w a len cap zs) : Calls Try.prog 39 #[.slice a len cap] w (RetFT (if len ≤ 256 then prs (len + 1) zs else ab .f32 0) (decide (len ≤ 256)) w) := by
  have H := Lib.hid h
  clear h
  by_cases hl : len ≤ 256
  · rw [if_pos hl, decide_eq_true hl]
    have hd : decide ((len : Int) ≤ 256) = true := by simp; omega
    go_enter Try.func39, Try.ntmps39
    go_wp2_with (first | (go_at_call 57; refine (spec_l01Few _ _ _ _).mono ?_; rintro e w' ⟨rfl, rfl⟩) | (go_at_call 63; refine (spec_l01SumPairs len _ _ _ zs _ H.out (Nat.le_refl _) (by omega)).mono ?_; rintro e w' ⟨r, n, hr, rfl, rfl⟩))
    go_ret2
    exact ⟨_, _, hr, rfl, rfl⟩
  · rw [if_neg hl, decide_eq_false hl]
    have hd : decide ((len : Int) ≤ 256) = false := by simp; omega
    go_enter Try.func39, Try.ntmps39
    go_wp2_with (first | (go_at_call 57; refine (spec_l01Few _ _ _ _).mono ?_; rintro e w' ⟨rfl, rfl⟩))
    go_ret2
    exact ⟨0, 0, is32 (by omega), rfl, rfl⟩
theorem impl_SumPairs (a : Option Addr) (len cap : Nat) (zs : List Nat) (w : World) (h : IsFRow w a len cap zs) : Calls Try.prog 40 #[.slice a len cap] w (RetFT (if len ≤ 256 then prs (len + 1) zs else ab .f32 0) (decide (len ≤ 256)) w) := by
  have H := Lib.hid h
  clear h
  by_cases hl : len ≤ 256
  · rw [if_pos hl, decide_eq_true hl]
    have hd : decide ((len : Int) ≤ 256) = true := by simp; omega
    go_enter Try.func40, Try.ntmps40
    go_wp2_with (first | (go_at_call 59; refine (impl_listOk _ _ _ _).mono ?_; rintro e w' ⟨rfl, rfl⟩) | (go_at_call 64; refine (impl_sumPairs len _ _ _ zs _ H.out (Nat.le_refl _) (by omega)).mono ?_; rintro e w' ⟨r, n, hr, rfl, rfl⟩))
    go_ret2
    exact ⟨_, _, hr, rfl, rfl⟩
  · rw [if_neg hl, decide_eq_false hl]
    have hd : decide ((len : Int) ≤ 256) = false := by simp; omega
    go_enter Try.func40, Try.ntmps40
    go_wp2_with (first | (go_at_call 59; refine (impl_listOk _ _ _ _).mono ?_; rintro e w' ⟨rfl, rfl⟩))
    go_ret2
    exact ⟨0, 0, is32 (by omega), rfl, rfl⟩
theorem FnExactSumPairs_walk (a : Option Addr) (len cap : Nat) (zs : List Nat) (w : World) (h0 : IsFRow w a len cap zs) : Calls Try.prog 13 #[.slice a len cap] w fun e w' => e = .returned (.bool true) ∧ Below w.heap.size w w' := by
  by_cases hl0 : len ≤ 1048576
  case neg =>
    go_enter Try.func13, Try.ntmps13
    go_wp2
    go_ret
    exact ⟨rfl, Below.refl _ _⟩
  have H0 := Lib.hid h0
  clear h0
  have B := Lib.hid (Below.refl w.heap.size w)
  go_enter Try.func13, Try.ntmps13
  go_wp2_with fail
  refine (toFloat32S a len cap zs _ H0.out hl0).mono ?_
  rintro e v1 ⟨rfl, f, c0, -⟩
  have c := c0
  replace H0 := Lib.hid (IsFRow.below H0.out c)
  replace B := Lib.hid (B.out.trans (c.mono B.out.size))
  have F0 := Lib.hid f
  clear f c c0
  go_wp2_with fail
  refine (spec_SumPairs _ _ _ zs _ F0.out).mono ?_
  rintro e w' ⟨r1, n1, hr, rfl, rfl⟩
  have E1 := Lib.hid hr.ab
  clear hr
  go_wp2_with fail
  clear F0
  refine (toFloat32S a len cap zs _ (IsFRow.below H0.out (below_drewN (Below.refl _ _) _)) hl0).mono ?_
  rintro e v2 ⟨rfl, f, c0, -⟩
  have c := (below_drewN (Below.refl _ _) _).trans c0
  replace H0 := Lib.hid (IsFRow.below H0.out c)
  replace B := Lib.hid (B.out.trans (c.mono B.out.size))
  have X0 := Lib.hid f
  clear f c c0
  go_wp2_with fail
  refine (impl_SumPairs _ _ _ zs _ X0.out).mono ?_
  rintro e w' ⟨r2, n2, hr, rfl, rfl⟩
  have E2 := Lib.hid hr.ab
  clear hr
  go_wp2_with (first | (refine wpList_widen _ _ _ rfl rfl _ rfl (by rw [Try.underlying22]; rfl) Try.underlying34 ?_; intro r n hr; have er := hr.ab) | (go_at_call 22; refine (sameFloat _ _ _ ?_).mono ?_; (simp only [*]; rw [E1.out, E2.out]); rintro e w' ⟨n, rfl, rfl⟩))
  refine (toFloat32S a len cap zs _ (IsFRow.below H0.out (below_drewN (Below.refl _ _) _)) hl0).mono ?_
  rintro e v3 ⟨rfl, f, c0, -⟩
  have c := (below_drewN (Below.refl _ _) _).trans c0
  replace H0 := Lib.hid (IsFRow.below H0.out c)
  replace X0 := Lib.hid (IsFRow.below X0.out c)
  replace B := Lib.hid (B.out.trans (c.mono B.out.size))
  have Y0 := Lib.hid f
  clear f c c0
  go_wp2_with fail
  refine (eqFloat32S _ _ len _ _ zs _ X0.out Y0.out).mono ?_
  rintro e w' ⟨q0, rfl, rfl⟩
  go_wp2_with fail
  go_ret
  exact ⟨rfl, below_drewN B.out _⟩
end Go.Proofs.Ytegonfniagpnkaa
