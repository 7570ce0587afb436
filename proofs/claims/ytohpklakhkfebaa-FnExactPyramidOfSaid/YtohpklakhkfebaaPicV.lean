/-
  Whether a picture is valid: the walks and the law.
-/
import Derived.Test.YtohpklakhkfebaaPic
import Derived.BigQuiet
import Derived.Deep.QuietTactic
namespace Go.Proofs.Ytohpklakhkfebaa
open Go.RowKit Go.FL

def validB (x y : Int) (len : Nat) : Bool := sizeB x y && ((len : Int) == x * y)

theorem sizeB_bounds {x y : Int} (h : sizeB x y = true) : 1 ≤ x ∧ x ≤ 24 ∧ 1 ≤ y ∧ y ≤ 24 ∧ 1 ≤ x * y ∧ x * y ≤ 256 := by
  unfold sizeB at h
  simp only [Bool.and_eq_true, decide_eq_true_eq] at h
  obtain ⟨⟨hx, hy⟩, hm⟩ := h
  have := mul_bounds hx hy
  exact ⟨hx.1, hx.2, hy.1, hy.2, this.1, hm⟩

set_option maxHeartbeats 600000 in
theorem spec_l02Is (b : Nat) (x y : Int) (a : Option Addr) (len cap : Nat) (w : World) (c0 : w.cell? ⟨b, 0, none⟩ = some (.int .i64 x)) (c1 : w.cell? ⟨b, 1, none⟩ = some (.int .i64 y)) (c2 : w.cell? ⟨b, 2, none⟩ = some (.slice a len cap)) :
    Calls Try.prog 14 #[.pointer (some ⟨b, 0, none⟩)] w (RetB (validB x y len) w) := by
  unfold validB
  by_cases hs : sizeB x y = true
  · obtain ⟨-, -, -, -, m0, m1⟩ := sizeB_bounds hs
    rw [hs]
    have hw : IntKind.i64.wrap (x * y) = x * y := by rw [IntKind.wrap_i64]; omega
    go_enter Try.func14, Try.ntmps14
    go_wp2_with fail
    go_quiet (first | (go_at_call 28; refine Calls.quiet_of_same ((spec_l02Size x y _).mono fun e w' ⟨h1, h2⟩ => ⟨(show e = .returned (.bool true) by rw [h1, hs]), h2.symm⟩)))
    go_wp2
    go_ret
    exact RetB.mk _ rfl
  · have hs' : sizeB x y = false := by simpa using hs
    clear hs
    rw [hs']
    go_enter Try.func14, Try.ntmps14
    go_wp2_with fail
    go_quiet (first | (go_at_call 28; refine Calls.quiet_of_same ((spec_l02Size x y _).mono fun e w' ⟨h1, h2⟩ => ⟨(show e = .returned (.bool false) by rw [h1, hs']), h2.symm⟩)))
    go_wp2
    go_ret
    exact RetB.mk _ rfl
theorem impl_ValidPicture (x y : Int) (a : Option Addr) (len cap : Nat) (w : World) : Calls Try.prog 20 #[.agg #[.int .i64 x, .int .i64 y, .slice a len cap]] w fun e w' =>
    e = .returned (.bool (validB x y len)) ∧ Below w.heap.size w w' := by
  unfold validB
  by_cases hs : sizeB x y = true
  · obtain ⟨-, -, -, -, m0, m1⟩ := sizeB_bounds hs
    rw [hs]
    go_enter Try.func20, Try.ntmps20
    go_wp2_with (go_at_call 31; refine (impl_sizeOk x y _).mono ?_; rintro e w' ⟨rfl, rfl⟩)
    go_ret
    exact ⟨rfl, (by repeat (first | exact Below.refl _ _ | refine Below.setCell ?_ (by first | (simp; done) | (simp; omega)) _ | refine Below.trans ?_ (Below.mono (by assumption) (by first | (simp; done) | (simp; omega))) | refine Below.alloc ?_ (by first | (simp; done) | (simp; omega)) _ | refine Below.alloc ?_ (Nat.le_refl _) _ | refine below_drewN ?_ _))⟩
  · have hs' : sizeB x y = false := by simpa using hs
    clear hs
    rw [hs']
    go_enter Try.func20, Try.ntmps20
    go_wp2_with (go_at_call 31; refine (impl_sizeOk x y _).mono ?_; rintro e w' ⟨rfl, rfl⟩)
    go_ret
    exact ⟨rfl, (by repeat (first | exact Below.refl _ _ | refine Below.setCell ?_ (by first | (simp; done) | (simp; omega)) _ | refine Below.trans ?_ (Below.mono (by assumption) (by first | (simp; done) | (simp; omega))) | refine Below.alloc ?_ (by first | (simp; done) | (simp; omega)) _ | refine Below.alloc ?_ (Nat.le_refl _) _ | refine below_drewN ?_ _))⟩
end Go.Proofs.Ytohpklakhkfebaa
