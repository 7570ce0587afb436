/-
  Whether two vectors are the same, bit for bit: the walks and the law.
-/
import Derived.Test.YtegonfniagpnkaaRow
import Derived.Test.YtegonfniagpnkaaVecA
namespace Go.Proofs.Ytegonfniagpnkaa
open Go.RowKit Go.FL

/-- the same number or not -/
theorem impl_SameNumber (x y : Nat) (w : World) : Calls Try.prog 70 #[.float .f32 x, .float .f32 y] w fun e w' => e = .returned (.bool (decide (bitsOf x = bitsOf y))) ∧ w = w' := by
  have bx : bitsOf x = if (ab .f32 x).isNone then 2143289344 else x := rfl
  have bY : bitsOf y = if (ab .f32 y).isNone then 2143289344 else y := rfl
  have nx := ab32 x
  have ny := ab32 y
  cases ha : ab .f32 x with
  | none =>
    have e1 : (FloatKind.f32.format.order x x != some .eq) = true := by rw [order_self, ha]; rfl
    cases hb : ab .f32 y with
    | none =>
      have e2 : (FloatKind.f32.format.order y y != some .eq) = true := by rw [order_self, hb]; rfl
      have hfin : decide (bitsOf x = bitsOf y) = true := by rw [bx, bY, ha, hb]; rfl
      rw [hfin]
      clear ha hb bx bY nx ny hfin
      go_enter Try.func70, Try.ntmps70
      go_wp2
      go_ret
      exact ⟨rfl, rfl⟩
    | some b =>
      have e2 : (FloatKind.f32.format.order y y != some .eq) = false := by rw [order_self, hb]; rfl
      have hfin : decide (bitsOf x = bitsOf y) = false := by
        rw [bx, bY, ha, hb]
        rw [hb] at ny
        split at ny
        · cases ny
        · simp; omega
      rw [hfin]
      clear ha hb bx bY nx ny hfin
      go_enter Try.func70, Try.ntmps70
      go_wp2
      go_ret
      exact ⟨rfl, rfl⟩
  | some a =>
    have e1 : (FloatKind.f32.format.order x x != some .eq) = false := by rw [order_self, ha]; rfl
    cases hb : ab .f32 y with
    | none =>
      have e2 : (FloatKind.f32.format.order y y != some .eq) = true := by rw [order_self, hb]; rfl
      have hfin : decide (bitsOf x = bitsOf y) = false := by
        rw [bx, bY, ha, hb]
        rw [ha] at nx
        split at nx
        · cases nx
        · simp; omega
      rw [hfin]
      clear ha hb bx bY nx ny hfin
      go_enter Try.func70, Try.ntmps70
      go_wp2
      go_ret
      exact ⟨rfl, rfl⟩
    | some b =>
      have e2 : (FloatKind.f32.format.order y y != some .eq) = false := by rw [order_self, hb]; rfl
      have hfin : decide (bitsOf x = bitsOf y) = ((x : Int) == (y : Int)) := by
        rw [bx, bY, ha, hb]
        rw [Bool.eq_iff_iff]
        simp
        omega
      rw [hfin]
      clear ha hb bx bY nx ny hfin
      go_enter Try.func70, Try.ntmps70
      go_wp2
      go_ret
      exact ⟨rfl, rfl⟩


theorem l01Same (x y : Nat) (w : World) (hx : x < 4294967296) (hy : y < 4294967296) : Calls Try.prog 68 #[.float .f32 x, .float .f32 y] w fun e w' => e = .returned (.bool (decide (bitsOf x = bitsOf y))) ∧ w = w' := by
  have hfin : decide (bitsOf x = bitsOf y) = ((bitsOf x : Int) == (bitsOf y : Int)) := by
    rw [Bool.eq_iff_iff]; simp; omega
  rw [hfin]
  clear hfin
  go_enter Try.func68, Try.ntmps68
  go_wp2_with (first | (go_at_call 65; refine (l01Bits _ _ (by assumption)).mono ?_; rintro e w' ⟨rfl, rfl⟩))
  go_ret
  exact ⟨rfl, rfl⟩


theorem numbers (x y z : Nat) (w : World) (hv : VecOk x y z) : Calls Try.prog 51 #[.agg #[.float .f32 x, .float .f32 y, .float .f32 z]] w fun e w' =>
    ∃ g, e = .returned (.slice (some ⟨g, 0, none⟩) 3 3) ∧ IsFRow w' (some ⟨g, 0, none⟩) 3 3 [x, y, z] ∧ Below w.heap.size w w' := by
  go_enter Try.func51, Try.ntmps51
  go_wp2
  go_ret
  refine ⟨w.heap.size + 1, rfl, ⟨rfl, by omega, by unfold maxLen; omega, ?_, .inr ⟨_, 0, rfl, by simp, ?_⟩⟩, (by repeat (first | exact Below.refl _ _ | refine Below.setCell ?_ (by first | (simp; done) | (simp; omega)) _ | refine Below.trans ?_ (Below.mono (by assumption) (by first | (simp; done) | (simp; omega))) | refine Below.alloc ?_ (by first | (simp; done) | (simp; omega)) _ | refine Below.alloc ?_ (Nat.le_refl _) _ | refine below_drewN ?_ _))⟩
  · intro q hq
    simp only [List.mem_cons, List.not_mem_nil, or_false] at hq
    rcases hq with rfl | rfl | rfl
    · exact hv.1
    · exact hv.2.1
    · exact hv.2.2
  · intro i hi
    rcases i with _ | _ | _ | i
    · go_simp
    · go_simp
    · go_simp
    · omega

def allSame (zs ys : List Nat) (k : Nat) : Prop := ∀ j, j < k → bitsOf (zs.getD j 0) = bitsOf (ys.getD j 0)
instance (zs ys : List Nat) (k : Nat) : Decidable (allSame zs ys k) := by unfold allSame; exact Nat.decidableBallLT k (fun j _ => bitsOf (zs.getD j 0) = bitsOf (ys.getD j 0))

theorem EqualFunc (a a2 : Option Addr) (len cap cap2 : Nat) (zs ys : List Nat) (w : World) (h : IsFRow w a len cap zs) (h2 : IsFRow w a2 len cap2 ys) : Calls Try.prog 69 #[.slice a len cap, .slice a2 len cap2, .func (.func 70) #[] #[]] w fun e w' =>
    e = .returned (.bool (decide (allSame zs ys len))) ∧ w = w' := by
  obtain ⟨hz, hlc, hcm, hzl, hrow⟩ := h
  obtain ⟨hy, -, -, hyl, hrow2⟩ := h2
  unfold maxLen at hcm
  go_enter Try.func69, Try.ntmps69
  go_wp2
  go_loop [17] (fun i => ∃ k : Nat, k ≤ len ∧ i = .int .i64 k ∧ allSame zs ys k) (fun i => len - (intOf i).toNat)
  case atStart => exact ⟨0, Nat.zero_le _, rfl, fun j hj => by omega⟩
  case round =>
    obtain ⟨k, hk, rfl, hs⟩ := hrel
    by_cases hlt : k < len
    · obtain ⟨b, off, rfl, hbl, hc⟩ := hrow.resolve_left (by omega)
      obtain ⟨b2, off2, rfl, hbl2, hc2⟩ := hrow2.resolve_left (by omega)
      have hcx := hc k hlt
      have hcy := hc2 k hlt
      generalize hzk : zs.getD k 0 = z at hcx
      generalize hyk : ys.getD k 0 = y at hcy
      have HS := Lib.hid hs
      have HZ := Lib.hid (And.intro hzk hyk)
      clear hc hc2 hs hzk hyk hzl hyl hz hy
      by_cases hq : bitsOf z = bitsOf y
      · have hd : decide (bitsOf z = bitsOf y) = true := decide_eq_true hq
        have HQ := Lib.hid hq
        clear hq
        go_wp2_with (first | (go_at_call 70; refine (impl_SameNumber _ _ _).mono ?_; rintro e w' ⟨rfl, rfl⟩))
        go_round
        case rel =>
          refine ⟨k + 1, by omega, rfl, fun j hj => ?_⟩
          by_cases hjk : j = k
          · subst hjk; rw [HZ.out.1, HZ.out.2]; exact HQ.out
          · exact HS.out j (by omega)
        case measure => simp [intOf]; omega
      · have hd : decide (bitsOf z = bitsOf y) = false := decide_eq_false hq
        have HQ := Lib.hid hq
        clear hq
        go_wp2_with (first | (go_at_call 70; refine (impl_SameNumber _ _ _).mono ?_; rintro e w' ⟨rfl, rfl⟩))
        go_ret
        refine ⟨?_, rfl⟩
        have : decide (allSame zs ys len) = false := decide_eq_false fun hall => HQ.out (by rw [← HZ.out.1, ← HZ.out.2]; exact hall k hlt)
        rw [this]
        rfl
    · have hkl : k = len := by omega
      subst hkl
      have HS := Lib.hid hs
      clear hs
      go_wp2
      go_ret
      exact ⟨by rw [decide_eq_true HS.out]; rfl, rfl⟩

theorem sameList (a a2 : Option Addr) (len cap cap2 : Nat) (zs ys : List Nat) (w : World) (h : IsFRow w a len cap zs) (h2 : IsFRow w a2 len cap2 ys) : Calls Try.prog 50 #[.slice a len cap, .slice a2 len cap2] w fun e w' =>
    e = .returned (.bool (decide (allSame zs ys len))) ∧ w = w' := by
  have H := Lib.hid h
  have H2 := Lib.hid h2
  clear h h2
  go_enter Try.func50, Try.ntmps50
  go_wp2_with (go_at_call 69; refine (EqualFunc _ _ _ _ _ zs ys _ H.out H2.out).mono ?_; rintro e w' ⟨rfl, rfl⟩)
  go_ret
  exact ⟨rfl, rfl⟩

theorem l01VSame (x y z x1 y1 z1 : Nat) (w : World) (hv : VecOk x y z) (hv1 : VecOk x1 y1 z1) : Calls Try.prog 49 #[.agg #[.float .f32 x, .float .f32 y, .float .f32 z], .agg #[.float .f32 x1, .float .f32 y1, .float .f32 z1]] w fun e w' =>
    e = .returned (.bool (decide (bitsOf x = bitsOf x1) && decide (bitsOf y = bitsOf y1) && decide (bitsOf z = bitsOf z1))) ∧ Below w.heap.size w w' := by
  obtain ⟨hx, hy, hz⟩ := hv
  obtain ⟨hx1, hy1, hz1⟩ := hv1
  by_cases c0 : bitsOf x = bitsOf x1
  · have d0 : decide (bitsOf x = bitsOf x1) = true := decide_eq_true c0
    clear c0
    by_cases c1 : bitsOf y = bitsOf y1
    · have d1 : decide (bitsOf y = bitsOf y1) = true := decide_eq_true c1
      clear c1
      go_enter Try.func49, Try.ntmps49
      go_wp2_with (first | (go_at_call 68; refine (l01Same _ _ _ (by assumption) (by assumption)).mono ?_; rintro e w' ⟨rfl, rfl⟩))
      go_ret
      exact ⟨by rw [d0, d1]; rfl, (by repeat (first | exact Below.refl _ _ | refine Below.setCell ?_ (by first | (simp; done) | (simp; omega)) _ | refine Below.trans ?_ (Below.mono (by assumption) (by first | (simp; done) | (simp; omega))) | refine Below.alloc ?_ (by first | (simp; done) | (simp; omega)) _ | refine Below.alloc ?_ (Nat.le_refl _) _ | refine below_drewN ?_ _))⟩
    · have d1 : decide (bitsOf y = bitsOf y1) = false := decide_eq_false c1
      clear c1
      go_enter Try.func49, Try.ntmps49
      go_wp2_with (first | (go_at_call 68; refine (l01Same _ _ _ (by assumption) (by assumption)).mono ?_; rintro e w' ⟨rfl, rfl⟩))
      go_ret
      exact ⟨by rw [d0, d1]; rfl, (by repeat (first | exact Below.refl _ _ | refine Below.setCell ?_ (by first | (simp; done) | (simp; omega)) _ | refine Below.trans ?_ (Below.mono (by assumption) (by first | (simp; done) | (simp; omega))) | refine Below.alloc ?_ (by first | (simp; done) | (simp; omega)) _ | refine Below.alloc ?_ (Nat.le_refl _) _ | refine below_drewN ?_ _))⟩
  · have d0 : decide (bitsOf x = bitsOf x1) = false := decide_eq_false c0
    clear c0
    go_enter Try.func49, Try.ntmps49
    go_wp2_with (first | (go_at_call 68; refine (l01Same _ _ _ (by assumption) (by assumption)).mono ?_; rintro e w' ⟨rfl, rfl⟩))
    go_ret
    exact ⟨by rw [d0]; rfl, (by repeat (first | exact Below.refl _ _ | refine Below.setCell ?_ (by first | (simp; done) | (simp; omega)) _ | refine Below.trans ?_ (Below.mono (by assumption) (by first | (simp; done) | (simp; omega))) | refine Below.alloc ?_ (by first | (simp; done) | (simp; omega)) _ | refine Below.alloc ?_ (Nat.le_refl _) _ | refine below_drewN ?_ _))⟩

theorem spec_SameVector (x y z x1 y1 z1 : Nat) (w : World) (hv : VecOk x y z := by assumption) (hv1 : VecOk x1 y1 z1 := by assumption) : Calls Try.prog 25 #[.agg #[.float .f32 x, .float .f32 y, .float .f32 z], .agg #[.float .f32 x1, .float .f32 y1, .float .f32 z1]] w fun e w' =>
    e = .returned (.bool (decide (bitsOf x = bitsOf x1) && decide (bitsOf y = bitsOf y1) && decide (bitsOf z = bitsOf z1))) ∧ Below w.heap.size w w' := by
  go_enter Try.func25, Try.ntmps25
  go_wp2_with fail
  refine (l01VSame _ _ _ _ _ _ _ hv hv1).mono ?_
  rintro e w1 ⟨rfl, hb⟩
  go_wp2_with fail
  go_ret
  exact ⟨rfl, (by repeat (first | exact Below.refl _ _ | refine Below.setCell ?_ (by first | (simp; done) | (simp; omega)) _ | refine Below.trans ?_ (Below.mono (by assumption) (by first | (simp; done) | (simp; omega))) | refine Below.alloc ?_ (by first | (simp; done) | (simp; omega)) _ | refine Below.alloc ?_ (Nat.le_refl _) _ | refine below_drewN ?_ _))⟩
end Go.Proofs.Ytegonfniagpnkaa
