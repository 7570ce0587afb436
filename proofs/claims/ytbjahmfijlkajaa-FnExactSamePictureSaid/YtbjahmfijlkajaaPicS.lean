/-
  Whether two lists are the same, bit for bit: for pictures.
-/
import Derived.Test.YtbjahmfijlkajaaPic
import Derived.BigQuiet
import Derived.Deep.QuietTactic
namespace Go.Proofs.Ytbjahmfijlkajaa
open Go.RowKit Go.FL

theorem getDlt {zs : List Nat} (h : ∀ z ∈ zs, z < 4294967296) (k : Nat) : zs.getD k 0 < 4294967296 := by
  rw [List.getD_eq_getElem?_getD]
  cases hk : zs[k]? with
  | none => simp
  | some z => exact h z (List.mem_of_getElem? hk)

/-- the same number or not -/
theorem impl_SameNumber (x y : Nat) (w : World) : Calls Try.prog 66 #[.float .f32 x, .float .f32 y] w fun e w' => e = .returned (.bool (decide (bitsOf x = bitsOf y))) ∧ w = w' := by
  have bx : bitsOf x = if (ab .f32 x).isNone then 2143289344 else x := rfl
  have bY : bitsOf y = if (ab .f32 y).isNone then 2143289344 else y := rfl
  have nx := ab32 x
  have ny := ab32 y
  cases ha : ab .f32 x with
  | none =>
    have e1 : (FloatKind.f32.format.order x x != some .eq) = true := by rw [order_self, ha]; rfl
    cases hb : ab .f32 y with
    | none =>
      have e2 : (FloatKind.f32.format.order y y != some .eq) = true := by rw [order_self, hb]; rfl
      have hfin : decide (bitsOf x = bitsOf y) = true := by rw [bx, bY, ha, hb]; rfl
      rw [hfin]
      clear ha hb bx bY nx ny hfin
      go_enter Try.func66, Try.ntmps66
      go_wp2
      go_ret
      exact ⟨rfl, rfl⟩
    | some b =>
      have e2 : (FloatKind.f32.format.order y y != some .eq) = false := by rw [order_self, hb]; rfl
      have hfin : decide (bitsOf x = bitsOf y) = false := by
        rw [bx, bY, ha, hb]
        rw [hb] at ny
        split at ny
        · cases ny
        · simp; omega
      rw [hfin]
      clear ha hb bx bY nx ny hfin
      go_enter Try.func66, Try.ntmps66
      go_wp2
      go_ret
      exact ⟨rfl, rfl⟩
  | some a =>
    have e1 : (FloatKind.f32.format.order x x != some .eq) = false := by rw [order_self, ha]; rfl
    cases hb : ab .f32 y with
    | none =>
      have e2 : (FloatKind.f32.format.order y y != some .eq) = true := by rw [order_self, hb]; rfl
      have hfin : decide (bitsOf x = bitsOf y) = false := by
        rw [bx, bY, ha, hb]
        rw [ha] at nx
        split at nx
        · cases nx
        · simp; omega
      rw [hfin]
      clear ha hb bx bY nx ny hfin
      go_enter Try.func66, Try.ntmps66
      go_wp2
      go_ret
      exact ⟨rfl, rfl⟩
    | some b =>
      have e2 : (FloatKind.f32.format.order y y != some .eq) = false := by rw [order_self, hb]; rfl
      have hfin : decide (bitsOf x = bitsOf y) = ((x : Int) == (y : Int)) := by
        rw [bx, bY, ha, hb]
        rw [Bool.eq_iff_iff]
        simp
        omega
      rw [hfin]
      clear ha hb bx bY nx ny hfin
      go_enter Try.func66, Try.ntmps66
      go_wp2
      go_ret
      exact ⟨rfl, rfl⟩


theorem l01Same (x y : Nat) (w : World) (hx : x < 4294967296) (hy : y < 4294967296) : Calls Try.prog 64 #[.float .f32 x, .float .f32 y] w fun e w' => e = .returned (.bool (decide (bitsOf x = bitsOf y))) ∧ w = w' := by
  have hfin : decide (bitsOf x = bitsOf y) = ((bitsOf x : Int) == (bitsOf y : Int)) := by
    rw [Bool.eq_iff_iff]; simp; omega
  rw [hfin]
  clear hfin
  go_enter Try.func64, Try.ntmps64
  go_wp2_with (first | (go_at_call 72; refine (l01Bits _ _ (by assumption)).mono ?_; rintro e w' ⟨rfl, rfl⟩))
  go_ret
  exact ⟨rfl, rfl⟩


def allSame (zs ys : List Nat) (k : Nat) : Prop := ∀ j, j < k → bitsOf (zs.getD j 0) = bitsOf (ys.getD j 0)
instance (zs ys : List Nat) (k : Nat) : Decidable (allSame zs ys k) := by unfold allSame; exact Nat.decidableBallLT k (fun j _ => bitsOf (zs.getD j 0) = bitsOf (ys.getD j 0))

theorem EqualFunc (a a2 : Option Addr) (len cap cap2 : Nat) (zs ys : List Nat) (w : World) (h : IsFRow w a len cap zs) (h2 : IsFRow w a2 len cap2 ys) : Calls Try.prog 65 #[.slice a len cap, .slice a2 len cap2, .func (.func 66) #[] #[]] w fun e w' =>
    e = .returned (.bool (decide (allSame zs ys len))) ∧ w = w' := by
  obtain ⟨hz, hlc, hcm, hzl, hrow⟩ := h
  obtain ⟨hy, -, -, hyl, hrow2⟩ := h2
  unfold maxLen at hcm
  go_enter Try.func65, Try.ntmps65
  go_wp2
  go_loop [17] (fun i => ∃ k : Nat, k ≤ len ∧ i = .int .i64 k ∧ allSame zs ys k) (fun i => len - (intOf i).toNat)
  case atStart => exact ⟨0, Nat.zero_le _, rfl, fun j hj => by omega⟩
  case round =>
    obtain ⟨k, hk, rfl, hs⟩ := hrel
    by_cases hlt : k < len
    · obtain ⟨b, off, rfl, hbl, hc⟩ := hrow.resolve_left (by omega)
      obtain ⟨b2, off2, rfl, hbl2, hc2⟩ := hrow2.resolve_left (by omega)
      have hcx := hc k hlt
      have hcy := hc2 k hlt
      generalize hzk : zs.getD k 0 = z at hcx
      generalize hyk : ys.getD k 0 = y at hcy
      have HS := Lib.hid hs
      have HZ := Lib.hid (And.intro hzk hyk)
      clear hc hc2 hs hzk hyk hzl hyl hz hy
      by_cases hq : bitsOf z = bitsOf y
      · have hd : decide (bitsOf z = bitsOf y) = true := decide_eq_true hq
        have HQ := Lib.hid hq
        clear hq
        go_wp2_with (first | (go_at_call 66; refine (impl_SameNumber _ _ _).mono ?_; rintro e w' ⟨rfl, rfl⟩))
        go_round
        case rel =>
          refine ⟨k + 1, by omega, rfl, fun j hj => ?_⟩
          by_cases hjk : j = k
          · subst hjk; rw [HZ.out.1, HZ.out.2]; exact HQ.out
          · exact HS.out j (by omega)
        case measure => simp [intOf]; omega
      · have hd : decide (bitsOf z = bitsOf y) = false := decide_eq_false hq
        have HQ := Lib.hid hq
        clear hq
        go_wp2_with (first | (go_at_call 66; refine (impl_SameNumber _ _ _).mono ?_; rintro e w' ⟨rfl, rfl⟩))
        go_ret
        refine ⟨?_, rfl⟩
        have : decide (allSame zs ys len) = false := decide_eq_false fun hall => HQ.out (by rw [← HZ.out.1, ← HZ.out.2]; exact hall k hlt)
        rw [this]
        rfl
    · have hkl : k = len := by omega
      subst hkl
      have HS := Lib.hid hs
      clear hs
      go_wp2
      go_ret
      exact ⟨by rw [decide_eq_true HS.out]; rfl, rfl⟩

theorem sameList_eq (a a2 : Option Addr) (len cap cap2 : Nat) (zs ys : List Nat) (w : World) (h : IsFRow w a len cap zs) (h2 : IsFRow w a2 len cap2 ys) : Calls Try.prog 48 #[.slice a len cap, .slice a2 len cap2] w fun e w' =>
    e = .returned (.bool (decide (allSame zs ys len))) ∧ w = w' := by
  have H := Lib.hid h
  have H2 := Lib.hid h2
  clear h h2
  go_enter Try.func48, Try.ntmps48
  go_wp2_with (go_at_call 65; refine (EqualFunc _ _ _ _ _ zs ys _ H.out H2.out).mono ?_; rintro e w' ⟨rfl, rfl⟩)
  go_ret
  exact ⟨rfl, rfl⟩



def sameB (zs ys : List Nat) (len len2 : Nat) : Bool := decide (len = len2) && decide (allSame zs ys len)

theorem EqualFunc_ne (a a2 : Option Addr) (len len2 cap cap2 : Nat) (w : World) (h : (len : Int) ≠ len2) : Calls Try.prog 65 #[.slice a len cap, .slice a2 len2 cap2, .func (.func 66) #[] #[]] w fun e w' =>
    e = .returned (.bool false) ∧ w = w' := by
  go_enter Try.func65, Try.ntmps65
  go_wp2
  go_ret
  exact ⟨rfl, rfl⟩

theorem sameList (a a2 : Option Addr) (len len2 cap cap2 : Nat) (zs ys : List Nat) (w : World) (h : IsFRow w a len cap zs) (h2 : IsFRow w a2 len2 cap2 ys) : Calls Try.prog 48 #[.slice a len cap, .slice a2 len2 cap2] w fun e w' =>
    e = .returned (.bool (sameB zs ys len len2)) ∧ w = w' := by
  unfold sameB
  by_cases hl : len = len2
  · subst hl
    rw [decide_eq_true rfl, Bool.true_and]
    exact sameList_eq a a2 len cap cap2 zs ys w h h2
  · rw [decide_eq_false hl, Bool.false_and]
    clear h h2
    go_enter Try.func48, Try.ntmps48
    go_wp2_with (go_at_call 65; refine (EqualFunc_ne _ _ _ _ _ _ _ (by omega)).mono ?_; rintro e w' ⟨rfl, rfl⟩)
    go_ret
    exact ⟨rfl, rfl⟩

set_option maxHeartbeats 400000 in
theorem spec_l01SameAll (a a2 : Option Addr) (len len2 cap cap2 : Nat) (zs ys : List Nat) (w : World) (h : IsFRow w a len cap zs) (h2 : IsFRow w a2 len2 cap2 ys) : Calls Try.prog 47 #[.slice a len cap, .slice a2 len2 cap2] w (RetB (sameB zs ys len len2) w) := by
  unfold sameB
  by_cases hl : len = len2
  case neg =>
    have hne : (len : Int) ≠ len2 := by omega
    rw [decide_eq_false hl, Bool.false_and]
    clear h h2 hl
    go_enter Try.func47, Try.ntmps47
    go_wp2
    go_ret
    exact RetB.mk0 rfl
  case pos =>
  subst hl
  rw [decide_eq_true rfl, Bool.true_and]
  obtain ⟨hz, hlc, hcm, hzl, hrow⟩ := h
  obtain ⟨hy, -, -, hyl, hrow2⟩ := h2
  unfold maxLen at hcm
  go_enter Try.func47, Try.ntmps47
  go_wp2
  go_loopw [5] (fun i wr => ∃ k n : Nat, k ≤ len ∧ i = .int .i64 k ∧ wr = w.drewN n ∧ allSame zs ys k) (fun i _ => len - (intOf i).toNat)
  case atStart => exact ⟨0, 0, Nat.zero_le _, rfl, rfl, fun j hj => by omega⟩
  case round =>
    obtain ⟨k, m, hk, rfl, rfl, hs⟩ := hrel
    by_cases hlt : k < len
    · obtain ⟨b, off, rfl, hbl, hc⟩ := hrow.resolve_left (by omega)
      obtain ⟨b2, off2, rfl, hbl2, hc2⟩ := hrow2.resolve_left (by omega)
      have hcx := hc k hlt
      have hcy := hc2 k hlt
      have lz : zs.getD k 0 < 4294967296 := getDlt hzl k
      have ly : ys.getD k 0 < 4294967296 := getDlt hyl k
      generalize hzk : zs.getD k 0 = z at hcx lz
      generalize hyk : ys.getD k 0 = y at hcy ly
      have h0k : (0 : Int) ≤ (k : Int) := by omega
      have hkl : (k : Int) < (len : Int) := by omega
      have HS := Lib.hid hs
      have HZ := Lib.hid (And.intro hzk hyk)
      replace hcx : (w.drewN m).cell? ⟨b, off + k, none⟩ = some (.float .f32 z) := hcx
      replace hcy : (w.drewN m).cell? ⟨b2, off2 + k, none⟩ = some (.float .f32 y) := hcy
      generalize hW : w.drewN m = W at hcx hcy ⊢
      have HW := Lib.hid hW
      clear hc hc2 hs hzk hyk hzl hyl hz hy hW hrow hrow2 hbl hbl2
      by_cases hq : bitsOf z = bitsOf y
      · have hd : decide (bitsOf z = bitsOf y) = true := decide_eq_true hq
        have HQ := Lib.hid hq
        clear hq
        go_wp2_with fail
        go_quiet (first | (go_at_call 64; refine Calls.quiet_of_same ((l01Same z y _ lz ly).mono fun e w' ⟨h1, h2⟩ => ⟨(show e = .returned (.bool true) by rw [h1, hd]), h2.symm⟩)))
        go_wp2
        go_roundw
        case rel =>
          obtain ⟨q, hq⟩ : ∃ q, W.drewN nq = w.drewN q := ⟨m + nq, by rw [← HW.out]; simp⟩
          refine ⟨k + 1, q, by omega, rfl, hq, fun j hj => ?_⟩
          by_cases hjk : j = k
          · subst hjk; rw [HZ.out.1, HZ.out.2]; exact HQ.out
          · exact HS.out j (by omega)
        case measure => simp [intOf]; omega
      · have hd : decide (bitsOf z = bitsOf y) = false := decide_eq_false hq
        have HQ := Lib.hid hq
        clear hq
        go_wp2_with fail
        go_quiet (first | (go_at_call 64; refine Calls.quiet_of_same ((l01Same z y _ lz ly).mono fun e w' ⟨h1, h2⟩ => ⟨(show e = .returned (.bool false) by rw [h1, hd]), h2.symm⟩)))
        go_wp2
        go_ret
        have hfalse : decide (allSame zs ys len) = false := decide_eq_false fun hall => HQ.out (by rw [← HZ.out.1, ← HZ.out.2]; exact hall k hlt)
        rw [hfalse]
        exact ⟨m + nq, rfl, by rw [← HW.out, World.drewN_drewN]⟩
    · have hkl : k = len := by omega
      subst hkl
      have HS := Lib.hid hs
      clear hs
      go_wp2
      go_ret
      exact RetB.mk _ (decide_eq_true HS.out)

end Go.Proofs.Ytbjahmfijlkajaa
