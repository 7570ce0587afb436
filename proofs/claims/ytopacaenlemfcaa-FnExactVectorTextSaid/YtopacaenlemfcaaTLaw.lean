/-
  The walks of the laws NumbersText and VectorText.
-/
import Derived.Test.YtopacaenlemfcaaTText
import Derived.Test.YtopacaenlemfcaaVecA
namespace Go.Proofs.Ytopacaenlemfcaa
open Go.RowKit Go.FL Go.TX

theorem RetB.below {b : Bool} {w w' : World} {e : Ending} (h : RetB b w e w') : e = .returned (.bool b) ∧ Below w.heap.size w w' := by
  obtain ⟨n, rfl, rfl⟩ := h
  exact ⟨rfl, below_drewN (Below.refl _ _) n⟩
theorem FnExactNumbersText_walk (a : Option Addr) (len cap : Nat) (zs : List Nat) (w : World) (h : IsFRow w a len cap zs) : Calls Try.prog 3 #[.slice a len cap] w fun e w' => e = .returned (.bool true) ∧ Below w.heap.size w w' := by
  have hcm : len ≤ 9223372036854775807 := by have h1 := h.2.1; have h2 := h.2.2.1; unfold maxLen at h2; omega
  obtain ⟨t, ok, hs, hi⟩ := NumbersText_pair len zs
  have H := Lib.hid h
  have HS := Lib.hid hs
  have HI := Lib.hid hi
  clear h hs hi
  by_cases hl : (len : Int) ≤ 1048576
  case neg =>
    go_enter Try.func3, Try.ntmps3
    go_wp2_with fail
    go_ret
    exact ⟨rfl, (by repeat (first | exact Below.refl _ _ | refine Below.setCell ?_ (by first | (simp; done) | (simp; omega)) _ | refine Below.trans ?_ (Below.mono (by assumption) (by first | omega | (simp; done) | (simp; omega))) | refine Below.alloc ?_ (by first | omega | (simp; done) | (simp; omega)) _ | refine Below.alloc ?_ (Nat.le_refl _) _ | refine below_drewN ?_ _))⟩
  have hl' : len ≤ 1048576 := by omega
  go_enter Try.func3, Try.ntmps3
  go_wp2_with fail
  refine (toFloat32S a len cap zs _ H.out hl').mono ?_
  rintro e w1 ⟨rfl, r1, b1, s1⟩
  have R1 := Lib.hid r1
  clear r1
  go_wp2_with fail
  refine (HS.out _ _ _ R1.out).mono ?_
  rintro e w2 ⟨rfl, b2⟩
  have BB : Below w.heap.size w w2 := b1.trans (b2.mono b1.size)
  go_wp2_with fail
  refine (toFloat32S a len cap zs _ (IsFRow.below H.out BB) hl').mono ?_
  rintro e w3 ⟨rfl, r3, b3, s3⟩
  have R3 := Lib.hid r3
  clear r3
  go_wp2_with fail
  refine (HI.out _ _ _ R3.out).mono ?_
  rintro e w4 ⟨rfl, b4⟩
  have BC : Below w.heap.size w w4 := BB.trans ((b3.trans (b4.mono b3.size)).mono BB.size)
  have R4 := Lib.hid (IsFRow.below R3.out b4)
  clear R3
  go_wp2_with fail
  refine (toFloat32S a len cap zs _ (IsFRow.below H.out BC) hl').mono ?_
  rintro e w5 ⟨rfl, r5, b5, s5⟩
  have R5 := Lib.hid r5
  have R6 := Lib.hid (IsFRow.below R4.out b5)
  have BD : Below w.heap.size w w5 := BC.trans (b5.mono BC.size)
  clear r5 R4 R1
  go_wp2_with fail
  refine (eqFloat32S _ _ len _ _ zs _ R6.out R5.out).mono ?_
  rintro e w6 hq
  obtain ⟨rfl, b6⟩ := RetB.below hq
  clear hq
  go_wp2_with fail
  go_ret
  exact ⟨rfl, BD.trans (b6.mono BD.size)⟩

theorem numbers (x y z : Nat) (w : World) (hv : VecOk x y z) : Calls Try.prog 19 #[.agg #[.float .f32 x, .float .f32 y, .float .f32 z]] w fun e w' =>
    ∃ g, e = .returned (.slice (some ⟨g, 0, none⟩) 3 3) ∧ IsFRow w' (some ⟨g, 0, none⟩) 3 3 [x, y, z] ∧ Below w.heap.size w w' := by
  go_enter Try.func19, Try.ntmps19
  go_wp2
  go_ret
  refine ⟨w.heap.size + 1, rfl, ⟨rfl, by omega, by unfold maxLen; omega, ?_, .inr ⟨_, 0, rfl, by simp, ?_⟩⟩, (by repeat (first | exact Below.refl _ _ | refine Below.setCell ?_ (by first | (simp; done) | (simp; omega)) _ | refine Below.trans ?_ (Below.mono (by assumption) (by first | omega | (simp; done) | (simp; omega))) | refine Below.alloc ?_ (by first | omega | (simp; done) | (simp; omega)) _ | refine Below.alloc ?_ (Nat.le_refl _) _ | refine below_drewN ?_ _))⟩
  · intro q hq
    simp only [List.mem_cons, List.not_mem_nil, or_false] at hq
    rcases hq with rfl | rfl | rfl
    · exact hv.1
    · exact hv.2.1
    · exact hv.2.2
  · intro i hi
    rcases i with _ | _ | _ | i
    · go_simp
    · go_simp
    · go_simp
    · omega

theorem vecText (x y z : Nat) : ∃ t : ByteArray, t = ⟨(listText (hxs [x, y, z])).toArray⟩ := ⟨_, rfl⟩

theorem spec_l01VText (x y z : Nat) (w : World) (hv : VecOk x y z) : Calls Try.prog 18 #[.agg #[.float .f32 x, .float .f32 y, .float .f32 z]] w fun e w' => e = .returned (.string ⟨(listText (hxs [x, y, z])).toArray⟩) ∧ Below w.heap.size w w' := by
  obtain ⟨t, ht⟩ := vecText x y z
  rw [← ht]
  have HT := Lib.hid ht
  clear ht
  have HV := Lib.hid hv
  clear hv
  go_enter Try.func18, Try.ntmps18
  go_wp2_with fail
  have h2 : IsFRow ((w.alloc (.cells #[.float .f32 x, .float .f32 y, .float .f32 z] 32)).alloc (.cells #[.float .f32 x, .float .f32 y, .float .f32 z] 28)) (some ⟨w.heap.size + 1, 0, none⟩) 3 3 [x, y, z] := by
    refine ⟨rfl, by omega, by unfold maxLen; omega, ?_, .inr ⟨_, 0, rfl, by simp, ?_⟩⟩
    · intro q hq
      simp only [List.mem_cons, List.not_mem_nil, or_false] at hq
      rcases hq with rfl | rfl | rfl
      · exact HV.out.1
      · exact HV.out.2.1
      · exact HV.out.2.2
    · intro i hi
      rcases i with _ | _ | _ | i
      · go_simp
      · go_simp
      · go_simp
      · omega
  have hc := spec_l01NText (some ⟨w.heap.size + 1, 0, none⟩) 3 3 [x, y, z] _ h2 (by omega)
  rw [← HT.out] at hc
  clear h2
  refine hc.mono ?_
  rintro e w1 ⟨rfl, b1⟩
  go_wp2_with fail
  go_ret
  exact ⟨rfl, (by repeat (first | exact Below.refl _ _ | refine Below.setCell ?_ (by first | (simp; done) | (simp; omega)) _ | refine Below.trans ?_ (Below.mono (by assumption) (by first | omega | (simp; done) | (simp; omega))) | refine Below.alloc ?_ (by first | omega | (simp; done) | (simp; omega)) _ | refine Below.alloc ?_ (Nat.le_refl _) _ | refine below_drewN ?_ _))⟩

theorem spec_VectorText (x y z : Nat) (w : World) (hv : VecOk x y z) : Calls Try.prog 9 #[.agg #[.float .f32 x, .float .f32 y, .float .f32 z]] w fun e w' => e = .returned (.string ⟨(listText (hxs [x, y, z])).toArray⟩) ∧ Below w.heap.size w w' := by
  obtain ⟨t, ht⟩ := vecText x y z
  have hc := fun w => spec_l01VText x y z w hv
  rw [← ht]
  simp only [← ht] at hc
  have HC := Lib.hid hc
  clear ht hv hc
  go_enter Try.func9, Try.ntmps9
  go_wp2_with fail
  refine (HC.out _).mono ?_
  rintro e w1 ⟨rfl, b1⟩
  go_wp2_with fail
  go_ret
  exact ⟨rfl, (by repeat (first | exact Below.refl _ _ | refine Below.setCell ?_ (by first | (simp; done) | (simp; omega)) _ | refine Below.trans ?_ (Below.mono (by assumption) (by first | omega | (simp; done) | (simp; omega))) | refine Below.alloc ?_ (by first | omega | (simp; done) | (simp; omega)) _ | refine Below.alloc ?_ (Nat.le_refl _) _ | refine below_drewN ?_ _))⟩

theorem impl_VectorText (x y z : Nat) (w : World) (hv : VecOk x y z) : Calls Try.prog 11 #[.agg #[.float .f32 x, .float .f32 y, .float .f32 z]] w fun e w' => e = .returned (.string ⟨(listText (hxs [x, y, z])).toArray⟩) ∧ Below w.heap.size w w' := by
  obtain ⟨t, ht⟩ := vecText x y z
  have hc := fun a cap w h => impl_NumbersText a 3 cap [x, y, z] w h (by omega)
  rw [← ht]
  simp only [← ht] at hc
  have HC := Lib.hid hc
  have HV := Lib.hid hv
  clear ht hv hc
  go_enter Try.func11, Try.ntmps11
  go_wp2_with fail
  refine (numbers x y z _ HV.out).mono ?_
  rintro e w1 ⟨g, rfl, h1, b1⟩
  have H1 := Lib.hid h1
  clear h1
  go_wp2_with fail
  refine (HC.out _ _ _ H1.out).mono ?_
  rintro e w2 ⟨rfl, b2⟩
  have BB : Below w.heap.size w w2 := (Below.alloc (Below.refl _ _) (Nat.le_refl _) _).trans ((b1.trans (b2.mono b1.size)).mono (by simp))
  clear b1 b2
  go_wp2_with fail
  go_ret
  exact ⟨rfl, BB⟩

theorem FnExactVectorText_walk (x y z : Nat) (w : World) (hv : VecOk x y z) : Calls Try.prog 4 #[.agg #[.float .f32 x, .float .f32 y, .float .f32 z]] w fun e w' => e = .returned (.bool true) ∧ Below w.heap.size w w' := by
  obtain ⟨t, ht⟩ := vecText x y z
  have hc := fun w => spec_VectorText x y z w hv
  have hd := fun w => impl_VectorText x y z w hv
  simp only [← ht] at hc hd
  have HC := Lib.hid hc
  have HD := Lib.hid hd
  clear ht hv hc hd
  go_enter Try.func4, Try.ntmps4
  go_wp2_with fail
  refine (toVector x y z _).mono ?_
  rintro e w1 ⟨rfl, b1⟩
  go_wp2_with fail
  refine (HC.out _).mono ?_
  rintro e w2 ⟨rfl, b2⟩
  have s1 : w.heap.size + 1 ≤ w1.heap.size := by have := b1.size; simp at this; omega
  have s2 := b2.size
  have k0 := ((b1.trans (b2.mono b1.size)).cell (p := ⟨w.heap.size, 0, none⟩) (by simp)).trans (show _ = some (.float .f32 x) from by go_simp)
  have k1 := ((b1.trans (b2.mono b1.size)).cell (p := ⟨w.heap.size, 1, none⟩) (by simp)).trans (show _ = some (.float .f32 y) from by go_simp)
  have k2 := ((b1.trans (b2.mono b1.size)).cell (p := ⟨w.heap.size, 2, none⟩) (by simp)).trans (show _ = some (.float .f32 z) from by go_simp)
  have BB : Below w.heap.size w w2 := (Below.alloc (Below.refl _ _) (Nat.le_refl _) _).trans ((b1.trans (b2.mono b1.size)).mono (by simp))
  clear b1 b2
  go_wp2_with fail
  refine (toVector x y z _).mono ?_
  rintro e w3 ⟨rfl, b3⟩
  go_wp2_with fail
  refine (HD.out _).mono ?_
  rintro e w4 ⟨rfl, b4⟩
  have BC := BB.trans ((b3.trans (b4.mono b3.size)).mono BB.size)
  clear b3 b4
  go_wp2_with fail
  go_ret
  exact ⟨rfl, BC⟩
end Go.Proofs.Ytopacaenlemfcaa
