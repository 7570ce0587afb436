/-
  Pictures: what a law counts, copies and compares; the right sizes.
-/
import Derived.Test.YtohpklakhkfebaaRow
namespace Go.Proofs.Ytohpklakhkfebaa
open Go.RowKit Go.FL

theorem szFloat32S_ok (a : Option Addr) (len cap : Nat) (left : Int) (w : World) (h0 : (len : Int) ≤ left) (h1 : left ≤ 1048576) : Calls Try.prog 13 #[.slice a len cap, .int .i64 left] w fun e w' => e = .returned (.int .i64 (left - len)) ∧ w = w' := by
  go_enter Try.func13, Try.ntmps13
  go_wp2
  go_ret
  exact ⟨rfl, rfl⟩

theorem szFloat32S_no (a : Option Addr) (len cap : Nat) (left : Int) (w : World) (hc : len ≤ 9223372036854775807) (h0 : left < (len : Int)) (h1 : 0 ≤ left) : Calls Try.prog 13 #[.slice a len cap, .int .i64 left] w fun e w' => e = .returned (.int .i64 (-1)) ∧ w = w' := by
  go_enter Try.func13, Try.ntmps13
  go_wp2
  go_ret
  exact ⟨rfl, rfl⟩

theorem szPicture_ok (x y : Int) (a : Option Addr) (len cap : Nat) (left : Int) (w : World) (h0 : (len : Int) ≤ left) (h1 : left ≤ 1048576) : Calls Try.prog 4 #[.agg #[.int .i64 x, .int .i64 y, .slice a len cap], .int .i64 left] w fun e w' =>
    e = .returned (.int .i64 (left - len)) ∧ Below w.heap.size w w' := by
  go_enter Try.func4, Try.ntmps4
  go_wp2_with (go_at_call 13; refine (szFloat32S_ok _ _ _ _ _ h0 h1).mono ?_; rintro e w' ⟨rfl, rfl⟩)
  go_ret
  exact ⟨rfl, (by repeat (first | exact Below.refl _ _ | refine Below.setCell ?_ (by first | (simp; done) | (simp; omega)) _ | refine Below.trans ?_ (Below.mono (by assumption) (by first | (simp; done) | (simp; omega))) | refine Below.alloc ?_ (by first | (simp; done) | (simp; omega)) _ | refine Below.alloc ?_ (Nat.le_refl _) _ | refine below_drewN ?_ _))⟩

theorem szPicture_no (x y : Int) (a : Option Addr) (len cap : Nat) (left : Int) (w : World) (hc : len ≤ 9223372036854775807) (h0 : left < (len : Int)) (h1 : 0 ≤ left) : Calls Try.prog 4 #[.agg #[.int .i64 x, .int .i64 y, .slice a len cap], .int .i64 left] w fun e w' =>
    e = .returned (.int .i64 (-1)) ∧ Below w.heap.size w w' := by
  go_enter Try.func4, Try.ntmps4
  go_wp2_with (go_at_call 13; refine (szFloat32S_no _ _ _ _ _ hc h0 h1).mono ?_; rintro e w' ⟨rfl, rfl⟩)
  go_ret
  exact ⟨rfl, (by repeat (first | exact Below.refl _ _ | refine Below.setCell ?_ (by first | (simp; done) | (simp; omega)) _ | refine Below.trans ?_ (Below.mono (by assumption) (by first | (simp; done) | (simp; omega))) | refine Below.alloc ?_ (by first | (simp; done) | (simp; omega)) _ | refine Below.alloc ?_ (Nat.le_refl _) _ | refine below_drewN ?_ _))⟩

theorem IsFRow.setCell {w : World} {b off len cap : Nat} {zs : List Nat} (h : IsFRow w (some ⟨b, off, none⟩) len cap zs) {p : Addr} (hp : b ≠ p.block) (u : Value) : IsFRow (w.setCell p u) (some ⟨b, off, none⟩) len cap zs := by
  obtain ⟨h1, h2, h3, h4, h5⟩ := h
  refine ⟨h1, h2, h3, h4, ?_⟩
  rcases h5 with h5 | ⟨b', off', e, hbl, hc⟩
  · exact .inl h5
  · simp only [Option.some.injEq, Addr.mk.injEq, and_true] at e
    obtain ⟨rfl, rfl⟩ := e
    exact .inr ⟨b, off, rfl, by simpa using hbl, fun i hi => (World.cell?_of_block (w := w) (Below.heap_setCell w p u b hp)).trans (hc i hi)⟩

theorem toPicture (x y : Int) (a : Option Addr) (len cap : Nat) (zs : List Nat) (w : World) (h : IsFRow w a len cap zs) (hl : len ≤ 1048576) : Calls Try.prog 6 #[.agg #[.int .i64 x, .int .i64 y, .slice a len cap]] w fun e w' =>
    ∃ g, e = .returned (.agg #[.int .i64 x, .int .i64 y, .slice (some ⟨g, 0, none⟩) len len]) ∧ IsFRow w' (some ⟨g, 0, none⟩) len len zs ∧ Below w.heap.size w w' := by
  have H := Lib.hid h
  clear h
  go_enter Try.func6, Try.ntmps6
  go_wp2_with fail
  refine (toFloat32S a len cap zs _ (IsFRow.below H.out (by repeat (first | exact Below.refl _ _ | refine Below.setCell ?_ (by first | (simp; done) | (simp; omega)) _ | refine Below.trans ?_ (Below.mono (by assumption) (by first | (simp; done) | (simp; omega))) | refine Below.alloc ?_ (by first | (simp; done) | (simp; omega)) _ | refine Below.alloc ?_ (Nat.le_refl _) _ | refine below_drewN ?_ _))) hl).mono ?_
  rintro e w1 ⟨rfl, f, hb, hlt⟩
  obtain ⟨hc, hf⟩ := bcell hb
  have HF := Lib.hid f
  have HL := Lib.hid hlt
  clear f hlt
  go_wp2_with fail
  refine bodyPost_ret (v := .agg #[.int .i64 x, .int .i64 y, .slice (some ⟨w.heap.size + 1 + 1 + 1, 0, none⟩) len len]) ?_ rfl ⟨_, rfl, ?_, ?_⟩
  · simp [results, Try.results6, go_sem, hc]
  · refine IsFRow.setCell (IsFRow.setCell (IsFRow.setCell (IsFRow.setCell ?_ ?_ _) ?_ _) ?_ _) ?_ _
    · simpa using HF.out
    all_goals (simp; try omega)
  · exact (by repeat (first | exact Below.refl _ _ | refine Below.setCell ?_ (by first | (simp; done) | (simp; omega)) _ | refine Below.trans ?_ (Below.mono (by assumption) (by first | (simp; done) | (simp; omega))) | refine Below.alloc ?_ (by first | (simp; done) | (simp; omega)) _ | refine Below.alloc ?_ (Nat.le_refl _) _ | refine below_drewN ?_ _))
theorem eqPicture (x y : Int) (a b : Option Addr) (len cap cap2 : Nat) (zs : List Nat) (w : World) (h : IsFRow w a len cap zs) (h2 : IsFRow w b len cap2 zs) : Calls Try.prog 9 #[.agg #[.int .i64 x, .int .i64 y, .slice a len cap], .agg #[.int .i64 x, .int .i64 y, .slice b len cap2]] w fun e w' =>
    e = .returned (.bool true) ∧ Below w.heap.size w w' := by
  have H := Lib.hid h
  have H2 := Lib.hid h2
  clear h h2
  go_enter Try.func9, Try.ntmps9
  go_wp2_with fail
  refine (eqFloat32S _ _ len _ _ zs _ (IsFRow.below H.out (by repeat (first | exact Below.refl _ _ | refine Below.setCell ?_ (by first | (simp; done) | (simp; omega)) _ | refine Below.trans ?_ (Below.mono (by assumption) (by first | (simp; done) | (simp; omega))) | refine Below.alloc ?_ (by first | (simp; done) | (simp; omega)) _ | refine Below.alloc ?_ (Nat.le_refl _) _ | refine below_drewN ?_ _))) (IsFRow.below H2.out (by repeat (first | exact Below.refl _ _ | refine Below.setCell ?_ (by first | (simp; done) | (simp; omega)) _ | refine Below.trans ?_ (Below.mono (by assumption) (by first | (simp; done) | (simp; omega))) | refine Below.alloc ?_ (by first | (simp; done) | (simp; omega)) _ | refine Below.alloc ?_ (Nat.le_refl _) _ | refine below_drewN ?_ _)))).mono ?_
  rintro e w' ⟨n, rfl, rfl⟩
  go_wp2_with fail
  go_ret
  exact ⟨rfl, (by repeat (first | exact Below.refl _ _ | refine Below.setCell ?_ (by first | (simp; done) | (simp; omega)) _ | refine Below.trans ?_ (Below.mono (by assumption) (by first | (simp; done) | (simp; omega))) | refine Below.alloc ?_ (by first | (simp; done) | (simp; omega)) _ | refine Below.alloc ?_ (Nat.le_refl _) _ | refine below_drewN ?_ _))⟩

/-- the right sizes -/
def sizeB (x y : Int) : Bool := decide (1 ≤ x) && decide (x ≤ 24) && (decide (1 ≤ y) && decide (y ≤ 24)) && decide (x * y ≤ 256)

theorem mul_bounds {x y : Int} (h : 1 ≤ x ∧ x ≤ 24) (k : 1 ≤ y ∧ y ≤ 24) : 1 ≤ x * y ∧ x * y ≤ 576 := by
  have h1 : 1 * 1 ≤ x * y := Int.mul_le_mul h.1 k.1 (by omega) (by omega)
  have h2 : x * y ≤ 24 * 24 := Int.mul_le_mul h.2 k.2 (by omega) (by omega)
  omega

theorem impl_in (n low high : Int) (w : World) : Calls Try.prog 19 #[.int .i64 n, .int .i64 low, .int .i64 high] w fun e w' => e = .returned (.bool (decide (low ≤ n) && decide (n ≤ high))) ∧ w = w' := by
  by_cases h : low ≤ n
  · have hd : decide (low ≤ n) = true := decide_eq_true h
    go_enter Try.func19, Try.ntmps19
    go_wp2
    go_ret
    exact ⟨by rw [hd]; rfl, rfl⟩
  · have hd : decide (low ≤ n) = false := decide_eq_false h
    go_enter Try.func19, Try.ntmps19
    go_wp2
    go_ret
    exact ⟨rfl, rfl⟩
theorem spec_l00In (n low high : Int) (w : World) : Calls Try.prog 15 #[.int .i64 n, .int .i64 low, .int .i64 high] w fun e w' => e = .returned (.bool (decide (low ≤ n) && decide (n ≤ high))) ∧ w = w' := by
  by_cases h : low ≤ n
  · have hd : decide (low ≤ n) = true := decide_eq_true h
    go_enter Try.func15, Try.ntmps15
    go_wp2
    go_ret
    exact ⟨by rw [hd]; rfl, rfl⟩
  · have hd : decide (low ≤ n) = false := decide_eq_false h
    go_enter Try.func15, Try.ntmps15
    go_wp2
    go_ret
    exact ⟨rfl, rfl⟩
theorem impl_sizeOk (x y : Int) (w : World) : Calls Try.prog 31 #[.int .i64 x, .int .i64 y] w fun e w' => e = .returned (.bool (sizeB x y)) ∧ w = w' := by
  unfold sizeB
  by_cases hx : 1 ≤ x ∧ x ≤ 24
  · have qx : (decide (1 ≤ x) && decide (x ≤ 24)) = true := by simp [hx]
    by_cases hy : 1 ≤ y ∧ y ≤ 24
    · have qy : (decide (1 ≤ y) && decide (y ≤ 24)) = true := by simp [hy]
      obtain ⟨m0, m1⟩ := mul_bounds hx hy
      rw [qx, qy]
      clear hx hy
      go_enter Try.func31, Try.ntmps31
      go_wp2_with (first | (go_at_call 19; refine (impl_in _ _ _ _).mono ?_; rintro e w' ⟨rfl, rfl⟩))
      go_ret
      exact ⟨rfl, rfl⟩
    · have qy : (decide (1 ≤ y) && decide (y ≤ 24)) = false := by rw [Bool.and_eq_false_iff]; simp only [decide_eq_false_iff_not]; omega
      rw [qx, qy]
      clear hx hy
      go_enter Try.func31, Try.ntmps31
      go_wp2_with (first | (go_at_call 19; refine (impl_in _ _ _ _).mono ?_; rintro e w' ⟨rfl, rfl⟩))
      go_ret
      exact ⟨rfl, rfl⟩
  · have qx : (decide (1 ≤ x) && decide (x ≤ 24)) = false := by rw [Bool.and_eq_false_iff]; simp only [decide_eq_false_iff_not]; omega
    rw [qx]
    clear hx
    go_enter Try.func31, Try.ntmps31
    go_wp2_with (first | (go_at_call 19; refine (impl_in _ _ _ _).mono ?_; rintro e w' ⟨rfl, rfl⟩))
    go_ret
    exact ⟨rfl, rfl⟩
theorem spec_l02Size (x y : Int) (w : World) : Calls Try.prog 28 #[.int .i64 x, .int .i64 y] w fun e w' => e = .returned (.bool (sizeB x y)) ∧ w = w' := by
  unfold sizeB
  by_cases hx : 1 ≤ x ∧ x ≤ 24
  · have qx : (decide (1 ≤ x) && decide (x ≤ 24)) = true := by simp [hx]
    by_cases hy : 1 ≤ y ∧ y ≤ 24
    · have qy : (decide (1 ≤ y) && decide (y ≤ 24)) = true := by simp [hy]
      obtain ⟨m0, m1⟩ := mul_bounds hx hy
      rw [qx, qy]
      clear hx hy
      go_enter Try.func28, Try.ntmps28
      go_wp2_with (first | (go_at_call 15; refine (spec_l00In _ _ _ _).mono ?_; rintro e w' ⟨rfl, rfl⟩))
      go_ret
      exact ⟨rfl, rfl⟩
    · have qy : (decide (1 ≤ y) && decide (y ≤ 24)) = false := by rw [Bool.and_eq_false_iff]; simp only [decide_eq_false_iff_not]; omega
      rw [qx, qy]
      clear hx hy
      go_enter Try.func28, Try.ntmps28
      go_wp2_with (first | (go_at_call 15; refine (spec_l00In _ _ _ _).mono ?_; rintro e w' ⟨rfl, rfl⟩))
      go_ret
      exact ⟨rfl, rfl⟩
  · have qx : (decide (1 ≤ x) && decide (x ≤ 24)) = false := by rw [Bool.and_eq_false_iff]; simp only [decide_eq_false_iff_not]; omega
    rw [qx]
    clear hx
    go_enter Try.func28, Try.ntmps28
    go_wp2_with (first | (go_at_call 15; refine (spec_l00In _ _ _ _).mono ?_; rintro e w' ⟨rfl, rfl⟩))
    go_ret
    exact ⟨rfl, rfl⟩
end Go.Proofs.Ytohpklakhkfebaa
