/-
  The walks of AngleTurns and its law.
-/
import Derived.Test.YtfgdcanoeipilaaSine
import Derived.Test.YtfgdcanoeipilaaAngleP
namespace Go.Proofs.Ytfgdcanoeipilaa
open Go.RowKit Go.FL

theorem finite1 (x : Nat) (w : World) : Calls Try.prog 45 #[.float .f32 x] w (RetB (!fin .f32 (ab .f32 x)) w) := by
  go_enter Try.func45, Try.ntmps45
  go_wp2_with (go_at_call 27; refine (impl_IsFinite _ _).mono ?_; rintro e w' ⟨n, rfl, rfl⟩)
  go_ret
  exact RetB.mk _ rfl

def firstBad (x y : Nat) : Int := if fin .f32 (ab .f32 x) then (if fin .f32 (ab .f32 y) then -1 else 1) else 0

theorem indexFunc2 (b x y : Nat) (w : World) (h0 : w.cell? ⟨b, 0, none⟩ = some (.float .f32 x)) (h1 : w.cell? ⟨b, 1, none⟩ = some (.float .f32 y)) :
    Calls Try.prog 48 #[.slice (some ⟨b, 0, none⟩) 2 2, .func (.func 45) #[] #[]] w fun e w' => e = .returned (.int .i64 (firstBad x y)) ∧ ∃ n, w' = w.drewN n := by
  unfold firstBad
  cases fx : fin .f32 (ab .f32 x) <;> cases fy : fin .f32 (ab .f32 y)
  all_goals
    go_enter Try.func48, Try.ntmps48
    go_wp2
    go_loopw [8] (fun s8 wr => ∃ k n : Nat, s8 = .int .i64 k ∧ (k = 0 ∨ k = 1 ∧ fin .f32 (ab .f32 x) = true ∨ k = 2 ∧ fin .f32 (ab .f32 x) = true ∧ fin .f32 (ab .f32 y) = true) ∧ wr = w.drewN n) (fun s8 _ => 2 - (intOf s8).toNat)
    case atStart => exact ⟨0, 0, rfl, .inl rfl, rfl⟩
    case round =>
      obtain ⟨k, n, rfl, hk, rfl⟩ := hrel
      simp only [fx, fy, Bool.false_eq_true, and_false, or_false, and_true] at hk
      first
        | (obtain rfl := hk)
        | (obtain rfl | rfl := hk)
        | (obtain rfl | rfl | rfl := hk)
      all_goals
        go_wp2_with (go_at_call 45; refine (finite1 _ _).mono ?_; rintro e w' ⟨n, rfl, rfl⟩)
        first
          | (go_ret; exact ⟨by simp [*], _, rfl⟩)
          | (go_roundw
             case rel => exact ⟨_, _, by go_num, by simp [fx, fy], rfl⟩
             case measure => simp [intOf])

theorem containsFunc2 (b x y : Nat) (w : World) (h0 : w.cell? ⟨b, 0, none⟩ = some (.float .f32 x)) (h1 : w.cell? ⟨b, 1, none⟩ = some (.float .f32 y)) :
    Calls Try.prog 44 #[.slice (some ⟨b, 0, none⟩) 2 2, .func (.func 45) #[] #[]] w (RetB (!(fin .f32 (ab .f32 x) && fin .f32 (ab .f32 y))) w) := by
  have H0 := Lib.hid h0
  have H1 := Lib.hid h1
  clear h0 h1
  cases fx : fin .f32 (ab .f32 x) <;> cases fy : fin .f32 (ab .f32 y)
  all_goals
    go_enter Try.func44, Try.ntmps44
    go_wp2_with (go_at_call 48; refine (indexFunc2 _ x y _ H0.out H1.out).mono ?_; rintro e w' ⟨rfl, n, rfl⟩; unfold firstBad; rw [fx, fy])
    go_ret
    exact RetB.mk _ rfl

theorem finite2 (b x y : Nat) (w : World) (h0 : w.cell? ⟨b, 0, none⟩ = some (.float .f32 x)) (h1 : w.cell? ⟨b, 1, none⟩ = some (.float .f32 y)) :
    Calls Try.prog 32 #[.slice (some ⟨b, 0, none⟩) 2 2] w (RetB (fin .f32 (ab .f32 x) && fin .f32 (ab .f32 y)) w) := by
  have H0 := Lib.hid h0
  have H1 := Lib.hid h1
  clear h0 h1
  go_enter Try.func32, Try.ntmps32
  go_wp2_with (go_at_call 44; refine (containsFunc2 _ x y _ H0.out H1.out).mono ?_; rintro e w' ⟨n, rfl, rfl⟩)
  go_ret
  exact RetB.mk _ (by simp)


theorem angle_over {a b r : Nat} (h : (FloatKind.f64.format.order a b == some .gt) = true) (ha : ab .f64 a = some a) (hb : ab .f64 b = some b) (hr : Is .f64 r (oop .quo .f64 (ab .f64 b) (ab .f64 a))) : Is .f64 r (tN (angT a b) 0) := by
  rw [ha, hb] at hr
  show Is .f64 r (angT a b)
  unfold angT isGt
  rw [if_pos h]; exact hr
theorem angle_under {a b r : Nat} (h : (FloatKind.f64.format.order a b == some .gt) = false) (ha : ab .f64 a = some a) (hb : ab .f64 b = some b) (hr : Is .f64 r (oop .quo .f64 (ab .f64 a) (ab .f64 b))) : Is .f64 r (tN (angT a b) 0) := by
  rw [ha, hb] at hr
  show Is .f64 r (angT a b)
  unfold angT isGt
  rw [h]; exact hr
theorem ang_eight : ab .f64 4620693217682128896 = some sEight := by decide +kernel
theorem ang_turn : ab .f64 4618760256179416344 = some sTurn := by decide +kernel
theorem ang_quarter : ab .f64 4598175219545276416 = some sQuarter := by decide +kernel
theorem ang_half : ab .f64 4602678819172646912 = some sHalf := by decide +kernel
theorem ang_eq {y x g r : Nat} {over cx cy : Bool} (H : Hid (AngWay y x over cx cy g)) (h : Is .f64 r (subIf cx sHalf (subIf over sQuarter (angG (tN (angT (rg Ieee.double y) (rg Ieee.double x)) 3))))) : r = g := by
  rw [H.out.eq] at h
  exact h.some
theorem ang_end (b : Bool) {y x g r r' : Nat} {over cx : Bool} (H : Hid (AngWay y x over cx b g)) (h : r = g) (hr : Is .f32 r' ((ab .f64 (signed64 b r)).map nar)) : Is .f32 r' ((wangle (ab .f64 y) (ab .f64 x)).map nar) := by
  subst h
  rw [(signed_bd b H.out.lt H.out.bd).ab] at hr
  rw [H.out.fin]
  cases b <;> exact hr
theorem ang_end64 (b : Bool) {y x g r : Nat} {over cx : Bool} (H : Hid (AngWay y x over cx b g)) (h : r = g) : Is .f64 (signed64 b r) (wangle (ab .f64 y) (ab .f64 x)) := by
  subst h
  have hb := signed_bd b H.out.lt H.out.bd
  have hn : negIf b (some r) = some (signed64 b r) := by cases b <;> rfl
  rw [H.out.fin, hn]
  refine ⟨hb.ab, ?_⟩
  rw [show FloatKind.f64.format.width = 64 by decide]
  cases b
  · exact H.out.lt
  · exact (neg_read r H.out.lt).2.2

end Go.Proofs.Ytfgdcanoeipilaa
