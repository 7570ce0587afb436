/-
  The grey about a place of a picture that lies anywhere in memory.
-/
import Derived.Test.YtohpklakhkfebaaAt
namespace Go.Proofs.Ytohpklakhkfebaa
open Go.RowKit Go.FL
set_option maxHeartbeats 1000000 in
theorem spec_l02AtO (b o W H : Nat) (n m : Int) (a : Option Addr) (len cap : Nat) (zs : List Nat) (w : World) (c0 : w.cell? ⟨b, o, none⟩ = some (.int .i64 W)) (c1 : w.cell? ⟨b, o + 1, none⟩ = some (.int .i64 H)) (c2 : w.cell? ⟨b, o + 2, none⟩ = some (.slice a len cap))
    (hr : IsFRow w a len cap zs) (hl : len = W * H) (hW : 1 ≤ W ∧ W ≤ 24) (hH : 1 ≤ H ∧ H ≤ 24) :
    Calls Try.prog 30 #[.pointer (some ⟨b, o, none⟩), .int .i64 n, .int .i64 m] w (RetX (grey zs W H n m) w) := by
  obtain ⟨u, v, t, i, hu, hv, hul, hvl, ht, hi, hil, hie, hi6, ht6⟩ := place hl hW hH n m
  unfold grey
  rw [hu, hv, ← hie]
  have hu' := cl_max (n := n) (k := W)
  have hv' := cl_max (n := m) (k := H)
  rw [hu] at hu'
  rw [hv] at hv'
  obtain ⟨b', off, rfl, hbl, hc⟩ := hr.2.2.2.2.resolve_left (by omega)
  have hcx := hc i hil
  have hcl : len ≤ cap := hr.2.1
  have hcm : cap ≤ 9223372036854775807 := by have := hr.2.2.1; unfold maxLen at this; omega
  obtain ⟨hW1, hW2⟩ := hW
  obtain ⟨hH1, hH2⟩ := hH
  generalize zs.getD i 0 = z at hcx
  clear hc hr hie hu hv hl
  go_enter Try.func30, Try.ntmps30
  go_wp2_with (first | (go_at_call 38; refine (spec_l00Min _ _ _).mono ?_; rintro e w' ⟨rfl, rfl⟩) | (go_at_call 37; refine (spec_l00Max _ _ _).mono ?_; rintro e w' ⟨h1, rfl⟩; rw [hu'] at h1; subst h1))
  go_quiet (first | (go_at_call 38; refine Calls.quiet_of_same ((spec_l00Min ((H : Int) - 1) m _).mono fun e w' ⟨h1, h2⟩ => ⟨h1, h2.symm⟩)) | (go_at_call 37; refine Calls.quiet_of_same ((spec_l00Max 0 (min ((H : Int) - 1) m) _).mono fun e w' ⟨h1, h2⟩ => ⟨(show e = .returned (.int .i64 v) by rw [h1, hv']), h2.symm⟩)))
  go_wp2
  go_ret
  exact ⟨_, rfl, rfl⟩
end Go.Proofs.Ytohpklakhkfebaa
