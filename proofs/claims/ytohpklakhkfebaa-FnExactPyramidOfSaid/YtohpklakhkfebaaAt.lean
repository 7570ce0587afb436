/-
  The grey about a place of a picture.
-/
import Derived.Test.YtohpklakhkfebaaMade
import Derived.Test.YtohpklakhkfebaaMark2
namespace Go.Proofs.Ytohpklakhkfebaa
open Go.RowKit Go.FL

/-- a place that is brought into a row of k -/
def cl (n : Int) (k : Nat) : Nat := (max 0 (min ((k : Int) - 1) n)).toNat
theorem cl_lt {n : Int} {k : Nat} (h : 1 ≤ k) : cl n k < k := by unfold cl; omega
theorem cl_max {n : Int} {k : Nat} : max 0 (min ((k : Int) - 1) n) = (cl n k : Int) := by unfold cl; omega
theorem cl_max2 {n : Int} {k : Nat} : max 0 (min n ((k : Int) - 1)) = (cl n k : Int) := by unfold cl; omega
theorem cl_self {n k : Nat} (h : n < k) : cl n k = n := by unfold cl; omega

/-- the grey about a place -/
def grey (zs : List Nat) (W H : Nat) (n m : Int) : Nat := zs.getD (cl n W + W * cl m H) 0
theorem grey_at {zs : List Nat} {W H x y : Nat} (hx : x < W) (hy : y < H) : grey zs W H x y = zs.getD (x + W * y) 0 := by unfold grey; rw [cl_self hx, cl_self hy]

/-- one float, told -/
def RetX (v : Nat) (w : World) (e : Ending) (w' : World) : Prop := ∃ q, e = .returned (.float .f32 v) ∧ w' = w.drewN q

theorem place {W H len : Nat} (hl : len = W * H) (hW : 1 ≤ W ∧ W ≤ 24) (hH : 1 ≤ H ∧ H ≤ 24) (n m : Int) :
    ∃ u v t i : Nat, cl n W = u ∧ cl m H = v ∧ u < W ∧ v < H ∧ IntKind.i64.wrap ((W : Int) * v) = t ∧ IntKind.i64.wrap ((u : Int) + t) = i ∧ i < len ∧ i = u + W * v ∧ i ≤ 576 ∧ t ≤ 576 := by
  have hu := cl_lt (n := n) hW.1
  have hv := cl_lt (n := m) hH.1
  have h1 : W * cl m H + W ≤ W * H := by rw [← Nat.mul_succ]; exact Nat.mul_le_mul_left _ hv
  have h2 : W * H ≤ 24 * 24 := Nat.mul_le_mul hW.2 hH.2
  have h3 : ((W : Int) * (cl m H : Int)) = ((W * cl m H : Nat) : Int) := by simp
  refine ⟨cl n W, cl m H, W * cl m H, cl n W + W * cl m H, rfl, rfl, hu, hv, ?_, ?_, by omega, rfl, by omega, by omega⟩
  · rw [IntKind.wrap_i64, h3]; omega
  · rw [IntKind.wrap_i64]; omega
theorem spec_l00Max (a b : Int) (w : World) : Calls Try.prog 37 #[.int .i64 a, .int .i64 b] w fun e w' => e = .returned (.int .i64 (max a b)) ∧ w = w' := by
  by_cases h : b < a
  · have hm : max a b = a := by omega
    rw [hm]
    go_enter Try.func37, Try.ntmps37
    go_wp2
    go_ret
    exact ⟨rfl, rfl⟩
  · have hm : max a b = b := by omega
    rw [hm]
    go_enter Try.func37, Try.ntmps37
    go_wp2
    go_ret
    exact ⟨rfl, rfl⟩
theorem spec_l00Min (a b : Int) (w : World) : Calls Try.prog 38 #[.int .i64 a, .int .i64 b] w fun e w' => e = .returned (.int .i64 (min a b)) ∧ w = w' := by
  by_cases h : a < b
  · have hm : min a b = a := by omega
    rw [hm]
    go_enter Try.func38, Try.ntmps38
    go_wp2
    go_ret
    exact ⟨rfl, rfl⟩
  · have hm : min a b = b := by omega
    rw [hm]
    go_enter Try.func38, Try.ntmps38
    go_wp2
    go_ret
    exact ⟨rfl, rfl⟩

set_option maxHeartbeats 1000000 in
theorem spec_l02At (b W H : Nat) (n m : Int) (a : Option Addr) (len cap : Nat) (zs : List Nat) (w : World) (c0 : w.cell? ⟨b, 0, none⟩ = some (.int .i64 W)) (c1 : w.cell? ⟨b, 1, none⟩ = some (.int .i64 H)) (c2 : w.cell? ⟨b, 2, none⟩ = some (.slice a len cap))
    (hr : IsFRow w a len cap zs) (hl : len = W * H) (hW : 1 ≤ W ∧ W ≤ 24) (hH : 1 ≤ H ∧ H ≤ 24) :
    Calls Try.prog 30 #[.pointer (some ⟨b, 0, none⟩), .int .i64 n, .int .i64 m] w (RetX (grey zs W H n m) w) := by
  obtain ⟨u, v, t, i, hu, hv, hul, hvl, ht, hi, hil, hie, hi6, ht6⟩ := place hl hW hH n m
  unfold grey
  rw [hu, hv, ← hie]
  have hu' := cl_max (n := n) (k := W)
  have hv' := cl_max (n := m) (k := H)
  rw [hu] at hu'
  rw [hv] at hv'
  obtain ⟨b', off, rfl, hbl, hc⟩ := hr.2.2.2.2.resolve_left (by omega)
  have hcx := hc i hil
  have hcl : len ≤ cap := hr.2.1
  have hcm : cap ≤ 9223372036854775807 := by have := hr.2.2.1; unfold maxLen at this; omega
  obtain ⟨hW1, hW2⟩ := hW
  obtain ⟨hH1, hH2⟩ := hH
  generalize zs.getD i 0 = z at hcx
  clear hc hr hie hu hv hl
  go_enter Try.func30, Try.ntmps30
  go_wp2_with (first | (go_at_call 38; refine (spec_l00Min _ _ _).mono ?_; rintro e w' ⟨rfl, rfl⟩) | (go_at_call 37; refine (spec_l00Max _ _ _).mono ?_; rintro e w' ⟨h1, rfl⟩; rw [hu'] at h1; subst h1))
  go_quiet (first | (go_at_call 38; refine Calls.quiet_of_same ((spec_l00Min ((H : Int) - 1) m _).mono fun e w' ⟨h1, h2⟩ => ⟨h1, h2.symm⟩)) | (go_at_call 37; refine Calls.quiet_of_same ((spec_l00Max 0 (min ((H : Int) - 1) m) _).mono fun e w' ⟨h1, h2⟩ => ⟨(show e = .returned (.int .i64 v) by rw [h1, hv']), h2.symm⟩)))
  go_wp2
  go_ret
  exact ⟨_, rfl, rfl⟩
theorem impl_clamp (n : Int) (k : Nat) (h0 : 1 ≤ k) (hk : k ≤ 24) (w : World) : Calls Try.prog 33 #[.int .i64 n, .int .i64 k] w fun e w' => e = .returned (.int .i64 (cl n k)) ∧ w' = w := by
  have h := cl_max2 (n := n) (k := k)
  by_cases h1 : (k : Int) - 1 < n
  · have e : (cl n k : Int) = k - 1 := by omega
    rw [e]
    clear h e
    by_cases h2 : (k : Int) = 1
    · rw [h2]
      go_enter Try.func33, Try.ntmps33
      go_wp2
      go_ret
      exact ⟨rfl, rfl⟩
    · go_enter Try.func33, Try.ntmps33
      go_wp2
      go_ret
      exact ⟨rfl, rfl⟩
  · by_cases h2 : 0 < n
    · have e : (cl n k : Int) = n := by omega
      rw [e]
      clear h e
      go_enter Try.func33, Try.ntmps33
      go_wp2
      go_ret
      exact ⟨rfl, rfl⟩
    · have e : (cl n k : Int) = 0 := by omega
      rw [e]
      clear h e
      go_enter Try.func33, Try.ntmps33
      go_wp2
      go_ret
      exact ⟨rfl, rfl⟩
set_option maxHeartbeats 1000000 in
theorem impl_about (b W H : Nat) (n m : Int) (a : Option Addr) (len cap : Nat) (zs : List Nat) (w : World) (c0 : w.cell? ⟨b, 0, none⟩ = some (.int .i64 W)) (c1 : w.cell? ⟨b, 1, none⟩ = some (.int .i64 H)) (c2 : w.cell? ⟨b, 2, none⟩ = some (.slice a len cap))
    (hr : IsFRow w a len cap zs) (hl : len = W * H) (hW : 1 ≤ W ∧ W ≤ 24) (hH : 1 ≤ H ∧ H ≤ 24) :
    Calls Try.prog 23 #[.pointer (some ⟨b, 0, none⟩), .int .i64 n, .int .i64 m] w (RetX (grey zs W H n m) w) := by
  obtain ⟨u, v, t, i, hu, hv, hul, hvl, ht, hi, hil, hie, hi6, ht6⟩ := place hl hW hH n m
  unfold grey
  rw [hu, hv, ← hie]
  obtain ⟨b', off, rfl, hbl, hc⟩ := hr.2.2.2.2.resolve_left (by omega)
  have hcx := hc i hil
  have hcl : len ≤ cap := hr.2.1
  have hcm : cap ≤ 9223372036854775807 := by have := hr.2.2.1; unfold maxLen at this; omega
  obtain ⟨hW1, hW2⟩ := hW
  obtain ⟨hH1, hH2⟩ := hH
  generalize zs.getD i 0 = z at hcx
  have hcu : ∀ W', Calls Try.prog 33 #[.int .i64 n, .int .i64 W] W' fun e w' => e = .returned (.int .i64 u) ∧ w' = W' := by rw [← hu]; exact fun W' => impl_clamp n W hW1 hW2 W'
  have hcv : ∀ W', Calls Try.prog 33 #[.int .i64 m, .int .i64 H] W' fun e w' => e = .returned (.int .i64 v) ∧ w' = W' := by rw [← hv]; exact fun W' => impl_clamp m H hH1 hH2 W'
  clear hc hr hie hl hu hv
  go_enter Try.func23, Try.ntmps23
  go_wp2_with fail
  go_quiet (first | (go_at_call 33; with_reducible refine Calls.quiet_of_same (hcu _)) | (go_at_call 33; with_reducible refine Calls.quiet_of_same (hcv _)))
  go_wp2
  go_ret
  exact ⟨_, rfl, rfl⟩
end Go.Proofs.Ytohpklakhkfebaa
