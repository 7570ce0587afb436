/-
  How many cells of two pictures are not near: the walks.
-/
import Derived.Test.YtbjahmfijlkajaaImpl
import Derived.Deep.QuietTactic
import Derived.BigQuiet
namespace Go.Proofs.Ytbjahmfijlkajaa
open Go.RowKit Go.FL Ieee
def pairB (x y x1 y1 : Int) (len len2 : Nat) : Bool := validB x y len && validB x1 y1 len2 && (x == x1) && (y == y1)

theorem spec_l02Two (b b1 : Nat) (x y x1 y1 : Int) (a a2 : Option Addr) (len len2 cap cap2 : Nat) (w : World) (c00 : w.cell? ⟨b, 0, none⟩ = some (.int .i64 x)) (c01 : w.cell? ⟨b, 1, none⟩ = some (.int .i64 y)) (c02 : w.cell? ⟨b, 2, none⟩ = some (.slice a len cap)) (c10 : w.cell? ⟨b1, 0, none⟩ = some (.int .i64 x1)) (c11 : w.cell? ⟨b1, 1, none⟩ = some (.int .i64 y1)) (c12 : w.cell? ⟨b1, 2, none⟩ = some (.slice a2 len2 cap2)) : Calls Try.prog 49 #[.pointer (some ⟨b, 0, none⟩), .pointer (some ⟨b1, 0, none⟩)] w (RetB (pairB x y x1 y1 len len2) w) := by
  unfold pairB
  have hq1 : ∀ m, Calls Try.prog 37 #[.pointer (some ⟨b, 0, none⟩)] (w.drewN m) fun e w' => e = .returned (.bool (validB x y len)) ∧ ∃ n, w' = (w.drewN m).drewN n := fun m => (spec_l02Is b x y a len cap (w.drewN m) (by go_simp) (by go_simp) (by go_simp)).mono fun e w' h => by obtain ⟨n, h1, h2⟩ := h; exact ⟨h1, n, h2⟩
  have hq2 : ∀ m, Calls Try.prog 37 #[.pointer (some ⟨b1, 0, none⟩)] (w.drewN m) fun e w' => e = .returned (.bool (validB x1 y1 len2)) ∧ ∃ n, w' = (w.drewN m).drewN n := fun m => (spec_l02Is b1 x1 y1 a2 len2 cap2 (w.drewN m) (by go_simp) (by go_simp) (by go_simp)).mono fun e w' h => by obtain ⟨n, h1, h2⟩ := h; exact ⟨h1, n, h2⟩
  cases hv1 : validB x y len with
  | false =>
    rw [hv1] at hq1
    clear hv1 hq2
    go_enter Try.func49, Try.ntmps49
    go_wp2_with fail
    go_quiet (first | (go_at_call 37; with_reducible refine Calls.quiet_of (hq1 _)) | (go_at_call 37; with_reducible refine Calls.quiet_of (hq2 _)))
    go_wp2
    go_ret
    exact RetB.mk _ rfl
  | true =>
  cases hv2 : validB x1 y1 len2 with
  | false =>
    rw [hv1] at hq1
    rw [hv2] at hq2
    clear hv1 hv2
    go_enter Try.func49, Try.ntmps49
    go_wp2_with fail
    go_quiet (first | (go_at_call 37; with_reducible refine Calls.quiet_of (hq1 _)) | (go_at_call 37; with_reducible refine Calls.quiet_of (hq2 _)))
    go_wp2
    go_ret
    exact RetB.mk _ rfl
  | true =>
  rw [hv1] at hq1
  rw [hv2] at hq2
  clear hv1 hv2
  cases hx : (x == x1) with
  | false =>
    have hx' : x ≠ x1 := by simpa using hx
    go_enter Try.func49, Try.ntmps49
    go_wp2_with fail
    go_quiet (first | (go_at_call 37; with_reducible refine Calls.quiet_of (hq1 _)) | (go_at_call 37; with_reducible refine Calls.quiet_of (hq2 _)))
    go_wp2
    go_ret
    exact RetB.mk _ rfl
  | true =>
  have hx' : x = x1 := by simpa using hx
  subst hx'
  clear hx
  cases hy : (y == y1) with
  | false =>
    have hy' : y ≠ y1 := by simpa using hy
    go_enter Try.func49, Try.ntmps49
    go_wp2_with fail
    go_quiet (first | (go_at_call 37; with_reducible refine Calls.quiet_of (hq1 _)) | (go_at_call 37; with_reducible refine Calls.quiet_of (hq2 _)))
    go_wp2
    go_ret
    exact RetB.mk _ rfl
  | true =>
    have hy' : y = y1 := by simpa using hy
    subst hy'
    clear hy
    go_enter Try.func49, Try.ntmps49
    go_wp2_with fail
    go_quiet (first | (go_at_call 37; with_reducible refine Calls.quiet_of (hq1 _)) | (go_at_call 37; with_reducible refine Calls.quiet_of (hq2 _)))
    go_wp2
    go_ret
    exact RetB.mk _ rfl

theorem impl_pairOk (x y x1 y1 : Int) (a a2 : Option Addr) (len len2 cap cap2 : Nat) (w : World) : Calls Try.prog 50 #[.agg #[.int .i64 x, .int .i64 y, .slice a len cap], .agg #[.int .i64 x1, .int .i64 y1, .slice a2 len2 cap2]] w fun e w' => e = .returned (.bool (pairB x y x1 y1 len len2)) ∧ Below w.heap.size w w' := by
  unfold pairB
  cases hv1 : validB x y len with
  | false =>
    go_enter Try.func50, Try.ntmps50
    go_wp2_with fail
    have hq := impl_ValidPicture x y a len cap ((w.alloc (.cells #[.int .i64 x, .int .i64 y, .slice a len cap] 27)).alloc (.cells #[.int .i64 x1, .int .i64 y1, .slice a2 len2 cap2] 27))
    rw [hv1] at hq
    refine hq.mono ?_
    clear hq
    rintro e w1 ⟨rfl, b1⟩
    clear hv1
    go_wp2_with fail
    go_ret
    exact ⟨rfl, (by repeat (first | exact Below.refl _ _ | refine Below.setCell ?_ (by first | (simp; done) | (simp; omega)) _ | refine Below.trans ?_ (Below.mono (by assumption) (by first | (simp; done) | (simp; omega))) | refine Below.alloc ?_ (by first | (simp; done) | (simp; omega)) _ | refine Below.alloc ?_ (Nat.le_refl _) _ | refine below_drewN ?_ _))⟩
  | true =>
  cases hv2 : validB x1 y1 len2 with
  | false =>
    go_enter Try.func50, Try.ntmps50
    go_wp2_with fail
    have hq := impl_ValidPicture x y a len cap ((w.alloc (.cells #[.int .i64 x, .int .i64 y, .slice a len cap] 27)).alloc (.cells #[.int .i64 x1, .int .i64 y1, .slice a2 len2 cap2] 27))
    rw [hv1] at hq
    refine hq.mono ?_
    clear hq
    rintro e w1 ⟨rfl, b1⟩
    have k00 : w1.cell? ⟨w.heap.size, 0, none⟩ = some (.int .i64 x) := (b1.cell (p := ⟨w.heap.size, 0, none⟩) (by first | (simp; done) | (simp; omega))).trans (by go_simp)
    have k01 : w1.cell? ⟨w.heap.size, 1, none⟩ = some (.int .i64 y) := (b1.cell (p := ⟨w.heap.size, 1, none⟩) (by first | (simp; done) | (simp; omega))).trans (by go_simp)
    have k02 : w1.cell? ⟨w.heap.size, 2, none⟩ = some (.slice a len cap) := (b1.cell (p := ⟨w.heap.size, 2, none⟩) (by first | (simp; done) | (simp; omega))).trans (by go_simp)
    have k10 : w1.cell? ⟨w.heap.size + 1, 0, none⟩ = some (.int .i64 x1) := (b1.cell (p := ⟨w.heap.size + 1, 0, none⟩) (by first | (simp; done) | (simp; omega))).trans (by go_simp)
    have k11 : w1.cell? ⟨w.heap.size + 1, 1, none⟩ = some (.int .i64 y1) := (b1.cell (p := ⟨w.heap.size + 1, 1, none⟩) (by first | (simp; done) | (simp; omega))).trans (by go_simp)
    have k12 : w1.cell? ⟨w.heap.size + 1, 2, none⟩ = some (.slice a2 len2 cap2) := (b1.cell (p := ⟨w.heap.size + 1, 2, none⟩) (by first | (simp; done) | (simp; omega))).trans (by go_simp)
    go_wp2_with fail
    have hq := impl_ValidPicture x1 y1 a2 len2 cap2 w1
    rw [hv2] at hq
    refine hq.mono ?_
    clear hq
    rintro e w2 ⟨rfl, b2⟩
    have B2 := b1.trans (b2.mono b1.size)
    clear k00 k01 k02 k10 k11 k12
    have k00 : w2.cell? ⟨w.heap.size, 0, none⟩ = some (.int .i64 x) := (B2.cell (p := ⟨w.heap.size, 0, none⟩) (by first | (simp; done) | (simp; omega))).trans (by go_simp)
    have k01 : w2.cell? ⟨w.heap.size, 1, none⟩ = some (.int .i64 y) := (B2.cell (p := ⟨w.heap.size, 1, none⟩) (by first | (simp; done) | (simp; omega))).trans (by go_simp)
    have k02 : w2.cell? ⟨w.heap.size, 2, none⟩ = some (.slice a len cap) := (B2.cell (p := ⟨w.heap.size, 2, none⟩) (by first | (simp; done) | (simp; omega))).trans (by go_simp)
    have k10 : w2.cell? ⟨w.heap.size + 1, 0, none⟩ = some (.int .i64 x1) := (B2.cell (p := ⟨w.heap.size + 1, 0, none⟩) (by first | (simp; done) | (simp; omega))).trans (by go_simp)
    have k11 : w2.cell? ⟨w.heap.size + 1, 1, none⟩ = some (.int .i64 y1) := (B2.cell (p := ⟨w.heap.size + 1, 1, none⟩) (by first | (simp; done) | (simp; omega))).trans (by go_simp)
    have k12 : w2.cell? ⟨w.heap.size + 1, 2, none⟩ = some (.slice a2 len2 cap2) := (B2.cell (p := ⟨w.heap.size + 1, 2, none⟩) (by first | (simp; done) | (simp; omega))).trans (by go_simp)
    have BB : Below w.heap.size w w2 := (by repeat (first | exact Below.refl _ _ | refine Below.setCell ?_ (by first | (simp; done) | (simp; omega)) _ | refine Below.trans ?_ (Below.mono (by assumption) (by first | (simp; done) | (simp; omega))) | refine Below.alloc ?_ (by first | (simp; done) | (simp; omega)) _ | refine Below.alloc ?_ (Nat.le_refl _) _ | refine below_drewN ?_ _))
    clear b1 b2 B2 hv1 hv2
    go_wp2_with fail
    go_ret
    exact ⟨rfl, BB⟩
  | true =>
  cases hx : (x == x1) with
  | false =>
    have hx' : x ≠ x1 := by simpa using hx
    go_enter Try.func50, Try.ntmps50
    go_wp2_with fail
    have hq := impl_ValidPicture x y a len cap ((w.alloc (.cells #[.int .i64 x, .int .i64 y, .slice a len cap] 27)).alloc (.cells #[.int .i64 x1, .int .i64 y1, .slice a2 len2 cap2] 27))
    rw [hv1] at hq
    refine hq.mono ?_
    clear hq
    rintro e w1 ⟨rfl, b1⟩
    have k00 : w1.cell? ⟨w.heap.size, 0, none⟩ = some (.int .i64 x) := (b1.cell (p := ⟨w.heap.size, 0, none⟩) (by first | (simp; done) | (simp; omega))).trans (by go_simp)
    have k01 : w1.cell? ⟨w.heap.size, 1, none⟩ = some (.int .i64 y) := (b1.cell (p := ⟨w.heap.size, 1, none⟩) (by first | (simp; done) | (simp; omega))).trans (by go_simp)
    have k02 : w1.cell? ⟨w.heap.size, 2, none⟩ = some (.slice a len cap) := (b1.cell (p := ⟨w.heap.size, 2, none⟩) (by first | (simp; done) | (simp; omega))).trans (by go_simp)
    have k10 : w1.cell? ⟨w.heap.size + 1, 0, none⟩ = some (.int .i64 x1) := (b1.cell (p := ⟨w.heap.size + 1, 0, none⟩) (by first | (simp; done) | (simp; omega))).trans (by go_simp)
    have k11 : w1.cell? ⟨w.heap.size + 1, 1, none⟩ = some (.int .i64 y1) := (b1.cell (p := ⟨w.heap.size + 1, 1, none⟩) (by first | (simp; done) | (simp; omega))).trans (by go_simp)
    have k12 : w1.cell? ⟨w.heap.size + 1, 2, none⟩ = some (.slice a2 len2 cap2) := (b1.cell (p := ⟨w.heap.size + 1, 2, none⟩) (by first | (simp; done) | (simp; omega))).trans (by go_simp)
    go_wp2_with fail
    have hq := impl_ValidPicture x1 y1 a2 len2 cap2 w1
    rw [hv2] at hq
    refine hq.mono ?_
    clear hq
    rintro e w2 ⟨rfl, b2⟩
    have B2 := b1.trans (b2.mono b1.size)
    clear k00 k01 k02 k10 k11 k12
    have k00 : w2.cell? ⟨w.heap.size, 0, none⟩ = some (.int .i64 x) := (B2.cell (p := ⟨w.heap.size, 0, none⟩) (by first | (simp; done) | (simp; omega))).trans (by go_simp)
    have k01 : w2.cell? ⟨w.heap.size, 1, none⟩ = some (.int .i64 y) := (B2.cell (p := ⟨w.heap.size, 1, none⟩) (by first | (simp; done) | (simp; omega))).trans (by go_simp)
    have k02 : w2.cell? ⟨w.heap.size, 2, none⟩ = some (.slice a len cap) := (B2.cell (p := ⟨w.heap.size, 2, none⟩) (by first | (simp; done) | (simp; omega))).trans (by go_simp)
    have k10 : w2.cell? ⟨w.heap.size + 1, 0, none⟩ = some (.int .i64 x1) := (B2.cell (p := ⟨w.heap.size + 1, 0, none⟩) (by first | (simp; done) | (simp; omega))).trans (by go_simp)
    have k11 : w2.cell? ⟨w.heap.size + 1, 1, none⟩ = some (.int .i64 y1) := (B2.cell (p := ⟨w.heap.size + 1, 1, none⟩) (by first | (simp; done) | (simp; omega))).trans (by go_simp)
    have k12 : w2.cell? ⟨w.heap.size + 1, 2, none⟩ = some (.slice a2 len2 cap2) := (B2.cell (p := ⟨w.heap.size + 1, 2, none⟩) (by first | (simp; done) | (simp; omega))).trans (by go_simp)
    have BB : Below w.heap.size w w2 := (by repeat (first | exact Below.refl _ _ | refine Below.setCell ?_ (by first | (simp; done) | (simp; omega)) _ | refine Below.trans ?_ (Below.mono (by assumption) (by first | (simp; done) | (simp; omega))) | refine Below.alloc ?_ (by first | (simp; done) | (simp; omega)) _ | refine Below.alloc ?_ (Nat.le_refl _) _ | refine below_drewN ?_ _))
    clear b1 b2 B2 hv1 hv2
    go_wp2_with fail
    go_ret
    exact ⟨rfl, BB⟩
  | true =>
  have hx' : x = x1 := by simpa using hx
  subst hx'
  clear hx
  cases hy : (y == y1) with
  | false =>
    have hy' : y ≠ y1 := by simpa using hy
    go_enter Try.func50, Try.ntmps50
    go_wp2_with fail
    have hq := impl_ValidPicture x y a len cap ((w.alloc (.cells #[.int .i64 x, .int .i64 y, .slice a len cap] 27)).alloc (.cells #[.int .i64 x, .int .i64 y1, .slice a2 len2 cap2] 27))
    rw [hv1] at hq
    refine hq.mono ?_
    clear hq
    rintro e w1 ⟨rfl, b1⟩
    have k00 : w1.cell? ⟨w.heap.size, 0, none⟩ = some (.int .i64 x) := (b1.cell (p := ⟨w.heap.size, 0, none⟩) (by first | (simp; done) | (simp; omega))).trans (by go_simp)
    have k01 : w1.cell? ⟨w.heap.size, 1, none⟩ = some (.int .i64 y) := (b1.cell (p := ⟨w.heap.size, 1, none⟩) (by first | (simp; done) | (simp; omega))).trans (by go_simp)
    have k02 : w1.cell? ⟨w.heap.size, 2, none⟩ = some (.slice a len cap) := (b1.cell (p := ⟨w.heap.size, 2, none⟩) (by first | (simp; done) | (simp; omega))).trans (by go_simp)
    have k10 : w1.cell? ⟨w.heap.size + 1, 0, none⟩ = some (.int .i64 x) := (b1.cell (p := ⟨w.heap.size + 1, 0, none⟩) (by first | (simp; done) | (simp; omega))).trans (by go_simp)
    have k11 : w1.cell? ⟨w.heap.size + 1, 1, none⟩ = some (.int .i64 y1) := (b1.cell (p := ⟨w.heap.size + 1, 1, none⟩) (by first | (simp; done) | (simp; omega))).trans (by go_simp)
    have k12 : w1.cell? ⟨w.heap.size + 1, 2, none⟩ = some (.slice a2 len2 cap2) := (b1.cell (p := ⟨w.heap.size + 1, 2, none⟩) (by first | (simp; done) | (simp; omega))).trans (by go_simp)
    go_wp2_with fail
    have hq := impl_ValidPicture x y1 a2 len2 cap2 w1
    rw [hv2] at hq
    refine hq.mono ?_
    clear hq
    rintro e w2 ⟨rfl, b2⟩
    have B2 := b1.trans (b2.mono b1.size)
    clear k00 k01 k02 k10 k11 k12
    have k00 : w2.cell? ⟨w.heap.size, 0, none⟩ = some (.int .i64 x) := (B2.cell (p := ⟨w.heap.size, 0, none⟩) (by first | (simp; done) | (simp; omega))).trans (by go_simp)
    have k01 : w2.cell? ⟨w.heap.size, 1, none⟩ = some (.int .i64 y) := (B2.cell (p := ⟨w.heap.size, 1, none⟩) (by first | (simp; done) | (simp; omega))).trans (by go_simp)
    have k02 : w2.cell? ⟨w.heap.size, 2, none⟩ = some (.slice a len cap) := (B2.cell (p := ⟨w.heap.size, 2, none⟩) (by first | (simp; done) | (simp; omega))).trans (by go_simp)
    have k10 : w2.cell? ⟨w.heap.size + 1, 0, none⟩ = some (.int .i64 x) := (B2.cell (p := ⟨w.heap.size + 1, 0, none⟩) (by first | (simp; done) | (simp; omega))).trans (by go_simp)
    have k11 : w2.cell? ⟨w.heap.size + 1, 1, none⟩ = some (.int .i64 y1) := (B2.cell (p := ⟨w.heap.size + 1, 1, none⟩) (by first | (simp; done) | (simp; omega))).trans (by go_simp)
    have k12 : w2.cell? ⟨w.heap.size + 1, 2, none⟩ = some (.slice a2 len2 cap2) := (B2.cell (p := ⟨w.heap.size + 1, 2, none⟩) (by first | (simp; done) | (simp; omega))).trans (by go_simp)
    have BB : Below w.heap.size w w2 := (by repeat (first | exact Below.refl _ _ | refine Below.setCell ?_ (by first | (simp; done) | (simp; omega)) _ | refine Below.trans ?_ (Below.mono (by assumption) (by first | (simp; done) | (simp; omega))) | refine Below.alloc ?_ (by first | (simp; done) | (simp; omega)) _ | refine Below.alloc ?_ (Nat.le_refl _) _ | refine below_drewN ?_ _))
    clear b1 b2 B2 hv1 hv2
    go_wp2_with fail
    go_ret
    exact ⟨rfl, BB⟩
  | true =>
    have hy' : y = y1 := by simpa using hy
    subst hy'
    clear hy
    go_enter Try.func50, Try.ntmps50
    go_wp2_with fail
    have hq := impl_ValidPicture x y a len cap ((w.alloc (.cells #[.int .i64 x, .int .i64 y, .slice a len cap] 27)).alloc (.cells #[.int .i64 x, .int .i64 y, .slice a2 len2 cap2] 27))
    rw [hv1] at hq
    refine hq.mono ?_
    clear hq
    rintro e w1 ⟨rfl, b1⟩
    have k00 : w1.cell? ⟨w.heap.size, 0, none⟩ = some (.int .i64 x) := (b1.cell (p := ⟨w.heap.size, 0, none⟩) (by first | (simp; done) | (simp; omega))).trans (by go_simp)
    have k01 : w1.cell? ⟨w.heap.size, 1, none⟩ = some (.int .i64 y) := (b1.cell (p := ⟨w.heap.size, 1, none⟩) (by first | (simp; done) | (simp; omega))).trans (by go_simp)
    have k02 : w1.cell? ⟨w.heap.size, 2, none⟩ = some (.slice a len cap) := (b1.cell (p := ⟨w.heap.size, 2, none⟩) (by first | (simp; done) | (simp; omega))).trans (by go_simp)
    have k10 : w1.cell? ⟨w.heap.size + 1, 0, none⟩ = some (.int .i64 x) := (b1.cell (p := ⟨w.heap.size + 1, 0, none⟩) (by first | (simp; done) | (simp; omega))).trans (by go_simp)
    have k11 : w1.cell? ⟨w.heap.size + 1, 1, none⟩ = some (.int .i64 y) := (b1.cell (p := ⟨w.heap.size + 1, 1, none⟩) (by first | (simp; done) | (simp; omega))).trans (by go_simp)
    have k12 : w1.cell? ⟨w.heap.size + 1, 2, none⟩ = some (.slice a2 len2 cap2) := (b1.cell (p := ⟨w.heap.size + 1, 2, none⟩) (by first | (simp; done) | (simp; omega))).trans (by go_simp)
    go_wp2_with fail
    have hq := impl_ValidPicture x y a2 len2 cap2 w1
    rw [hv2] at hq
    refine hq.mono ?_
    clear hq
    rintro e w2 ⟨rfl, b2⟩
    have B2 := b1.trans (b2.mono b1.size)
    clear k00 k01 k02 k10 k11 k12
    have k00 : w2.cell? ⟨w.heap.size, 0, none⟩ = some (.int .i64 x) := (B2.cell (p := ⟨w.heap.size, 0, none⟩) (by first | (simp; done) | (simp; omega))).trans (by go_simp)
    have k01 : w2.cell? ⟨w.heap.size, 1, none⟩ = some (.int .i64 y) := (B2.cell (p := ⟨w.heap.size, 1, none⟩) (by first | (simp; done) | (simp; omega))).trans (by go_simp)
    have k02 : w2.cell? ⟨w.heap.size, 2, none⟩ = some (.slice a len cap) := (B2.cell (p := ⟨w.heap.size, 2, none⟩) (by first | (simp; done) | (simp; omega))).trans (by go_simp)
    have k10 : w2.cell? ⟨w.heap.size + 1, 0, none⟩ = some (.int .i64 x) := (B2.cell (p := ⟨w.heap.size + 1, 0, none⟩) (by first | (simp; done) | (simp; omega))).trans (by go_simp)
    have k11 : w2.cell? ⟨w.heap.size + 1, 1, none⟩ = some (.int .i64 y) := (B2.cell (p := ⟨w.heap.size + 1, 1, none⟩) (by first | (simp; done) | (simp; omega))).trans (by go_simp)
    have k12 : w2.cell? ⟨w.heap.size + 1, 2, none⟩ = some (.slice a2 len2 cap2) := (B2.cell (p := ⟨w.heap.size + 1, 2, none⟩) (by first | (simp; done) | (simp; omega))).trans (by go_simp)
    have BB : Below w.heap.size w w2 := (by repeat (first | exact Below.refl _ _ | refine Below.setCell ?_ (by first | (simp; done) | (simp; omega)) _ | refine Below.trans ?_ (Below.mono (by assumption) (by first | (simp; done) | (simp; omega))) | refine Below.alloc ?_ (by first | (simp; done) | (simp; omega)) _ | refine Below.alloc ?_ (Nat.le_refl _) _ | refine below_drewN ?_ _))
    clear b1 b2 B2 hv1 hv2
    go_wp2_with fail
    go_ret
    exact ⟨rfl, BB⟩

def leB (a b : Nat) : Bool := FloatKind.f32.format.order a b == some .lt || FloatKind.f32.format.order a b == some .eq
def nearO (o : Option Nat) (near : Nat) : Bool := match o with | none => false | some z => leB (z % 2147483648) near

theorem leB_nan {a b : Nat} (h : 2139095040 < a % 2147483648 ∨ 2139095040 < b % 2147483648) : leB a b = false := by
  have e : FloatKind.f32.format.order a b = none := by
    rw [order_ab, ab32, ab32]
    rcases h with h | h
    · rw [if_pos h]; rfl
    · rw [if_pos h]
      split <;> rfl
  unfold leB
  rw [e]; rfl
theorem leB_num {a b : Nat} (ha : a % 2147483648 ≤ 2139095040) (hb : b % 2147483648 ≤ 2139095040) : leB a b = decide (k32 a ≤ k32 b) := by
  unfold leB
  have e := order32 ha hb
  rcases Int.lt_trichotomy (k32 a) (k32 b) with h | h | h
  · rw [ord_lt e h, decide_eq_true (by omega)]; rfl
  · rw [ord_eq e h, decide_eq_true (by omega)]; rfl
  · rw [ord_gt e h, decide_eq_false (by omega)]; rfl
theorem neg_mod (x : Nat) : Op.negFloat .f32 x % 2147483648 = x % 2147483648 := by
  show (x ^^^ 2147483648) % 2 ^ 31 = x % 2 ^ 31
  rw [Nat.xor_mod_two_pow]
  simp
theorem neg_div {x : Nat} (h : x < 4294967296) : Op.negFloat .f32 x / 2147483648 = 1 - x / 2147483648 := by
  show (x ^^^ 2147483648) / 2 ^ 31 = 1 - x / 2 ^ 31
  rw [← Nat.shiftRight_eq_div_pow, Nat.shiftRight_xor_distrib, Nat.shiftRight_eq_div_pow]
  have h2 : x / 2 ^ 31 = 0 ∨ x / 2 ^ 31 = 1 := by omega
  rcases h2 with h2 | h2 <;> rw [h2] <;> decide
theorem k32_neg {x : Nat} (h : x < 4294967296) : k32 (Op.negFloat .f32 x) = - k32 x := by
  unfold k32
  rw [neg_mod, neg_div h]
  have h2 : x / 2147483648 = 0 ∨ x / 2147483648 = 1 := by omega
  rcases h2 with h2 | h2 <;> rw [h2] <;> simp
theorem k32_abs (x : Nat) : k32 (x % 2147483648) = ((x % 2147483648 : Nat) : Int) := by
  unfold k32
  have h1 : x % 2147483648 / 2147483648 = 0 := by omega
  have h2 : x % 2147483648 % 2147483648 = x % 2147483648 := by omega
  rw [h1, h2]
  rfl
theorem near_abs (r near : Nat) : leB (r % 2147483648) near = nearO (ab .f32 r) near := by
  rw [ab32]
  by_cases h : 2139095040 < r % 2147483648
  · rw [if_pos h]
    exact leB_nan (.inl (by omega))
  · rw [if_neg h]; rfl
theorem near_two {r : Nat} (hr : r < 4294967296) (near : Nat) : (leB r near && leB (Op.negFloat .f32 r) near) = nearO (ab .f32 r) near := by
  rw [← near_abs]
  by_cases h : 2139095040 < r % 2147483648
  · rw [leB_nan (a := r) (.inl h), leB_nan (a := r % 2147483648) (.inl (by omega))]; rfl
  · by_cases h2 : 2139095040 < near % 2147483648
    · rw [leB_nan (a := r) (.inr h2), leB_nan (a := r % 2147483648) (.inr h2)]; rfl
    · have hm : r % 2147483648 % 2147483648 ≤ 2139095040 := by omega
      rw [leB_num (by omega) (by omega), leB_num (by rw [neg_mod]; omega) (by omega), leB_num hm (by omega), k32_neg hr, k32_abs]
      have hk : k32 r = ((r % 2147483648 : Nat) : Int) ∨ k32 r = -((r % 2147483648 : Nat) : Int) := by unfold k32; split <;> simp
      rw [← Bool.decide_and]
      apply decide_eq_decide.2
      rcases hk with hk | hk <;> rw [hk] <;> omega

/-- how many of the first k cells are not near -/
def cnt (zs ys : List Nat) (near : Nat) : Nat → Nat
  | 0 => 0
  | k + 1 => cnt zs ys near k + (if nearO (oop .sub .f32 (ab .f32 (zs.getD k 0)) (ab .f32 (ys.getD k 0))) near then 0 else 1)
theorem cnt_le (zs ys : List Nat) (near k : Nat) : cnt zs ys near k ≤ k := by
  induction k with
  | zero => exact Nat.le_refl _
  | succ k ih => unfold cnt; split <;> omega

theorem impl_nearTo (x z near : Nat) (w : World) : Calls Try.prog 67 #[.float .f32 x, .float .f32 z, .float .f32 near] w (RetB (nearO (oop .sub .f32 (ab .f32 x) (ab .f32 z)) near) w) := by
  go_enter Try.func67, Try.ntmps67
  go_wp2_with (first | (go_at_call 74; refine (abs_any _ _ (lt32 g1)).mono ?_; rintro e w' ⟨rfl, rfl⟩) | ((fail_if_success (have := g1)); refine wpList_arith _ _ _ _ _ rfl rfl _ _ _ rfl rfl rfl ?_; intro r1 n1 g1))
  go_ret
  rw [← g1.ab, ← near_abs]
  exact RetB.mk _ rfl

theorem impl_unlike (a a2 : Option Addr) (len cap cap2 : Nat) (zs ys : List Nat) (near : Nat) (w : World) (h : IsFRow w a len cap zs) (h2 : IsFRow w a2 len cap2 ys) : Calls Try.prog 51 #[.slice a len cap, .slice a2 len cap2, .float .f32 near] w fun e w' => ∃ n, e = .returned (.int .i64 (cnt zs ys near len)) ∧ w' = w.drewN n := by
  obtain ⟨hz, hlc, hcm, hzl, hrow⟩ := h
  obtain ⟨-, hlc2, hcm2, -, hrow2⟩ := h2
  unfold maxLen at hcm hcm2
  go_enter Try.func51, Try.ntmps51
  go_wp2
  go_loopw [7, 12] (fun s i wr => ∃ k n : Nat, k ≤ len ∧ i = .int .i64 k ∧ wr = w.drewN n ∧ s = .int .i64 (cnt zs ys near k)) (fun _ i _ => len - (intOf i).toNat)
  case atStart => exact ⟨0, 0, Nat.zero_le _, rfl, rfl, rfl⟩
  case round =>
    obtain ⟨k, m, hk, rfl, rfl, rfl⟩ := hrel
    by_cases hlt : k < len
    · obtain ⟨b, off, rfl, hbl, hc⟩ := hrow.resolve_left (by omega)
      obtain ⟨b2, off2, rfl, hbl2, hc2⟩ := hrow2.resolve_left (by omega)
      have hcx := hc k hlt
      have hcy := hc2 k hlt
      have hst : cnt zs ys near (k + 1) = cnt zs ys near k + (if nearO (oop .sub .f32 (ab .f32 (zs.getD k 0)) (ab .f32 (ys.getD k 0))) near then 0 else 1) := rfl
      have hle := cnt_le zs ys near k
      generalize zs.getD k 0 = z at hcx hst
      generalize ys.getD k 0 = z2 at hcy hst
      generalize cnt zs ys near k = cn at hst hle
      have hq := fun W' => impl_nearTo z z2 near W'
      cases hnr : nearO (oop .sub .f32 (ab .f32 z) (ab .f32 z2)) near with
      | true =>
        rw [hnr] at hq hst
        have HQ := Lib.hid hq
        have HST := Lib.hid hst
        clear hc hc2 hq hst hnr hzl
        go_wp2_with (first | (go_at_call 67; refine (HQ.out _).mono ?_; rintro e w' ⟨q, rfl, rfl⟩))
        go_roundw
        case rel => exact ⟨k + 1, _, by omega, rfl, rfl, by rw [HST.out]; simp⟩
        case measure => simp [intOf]; omega
      | false =>
        rw [hnr] at hq hst
        have HQ := Lib.hid hq
        have HST := Lib.hid hst
        clear hc hc2 hq hst hnr hzl
        go_wp2_with (first | (go_at_call 67; refine (HQ.out _).mono ?_; rintro e w' ⟨q, rfl, rfl⟩))
        go_roundw
        case rel => exact ⟨k + 1, _, by omega, rfl, rfl, by rw [HST.out]; simp⟩
        case measure => simp [intOf]; omega
    · have hkl : k = len := by omega
      subst hkl
      go_wp2
      go_ret
      exact ⟨_, rfl, rfl⟩
end Go.Proofs.Ytbjahmfijlkajaa
