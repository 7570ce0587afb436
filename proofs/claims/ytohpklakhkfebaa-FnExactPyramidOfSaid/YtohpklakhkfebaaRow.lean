/-
  Lists of floats: the copy that a law makes, the comparison of two lists, and the functions over lists.
-/
import Derived.Test.YtohpklakhkfebaaOne
import Derived.ProofKit
import Derived.Deep.RegionHeld3
import Derived.Deep.DrawnRows
import Derived.Deep.DeepCutAuto
import Derived.Deep.OwnRows
import Derived.Lib.Hide
import Derived.Carry
namespace Go.Proofs.Ytohpklakhkfebaa
open Go.RowKit Go.FL

theorem infoF : (Try.prog.info? 45).map (fun i => (i.zero, i.size, i.bytes)) = some (some (.float .f32 0), 1, 4) := by kernel_rfl

theorem toFloat32S (a : Option Addr) (len cap : Nat) (zs : List Nat) (w : World) (h : IsFRow w a len cap zs) (hl : len ≤ 1048576) : Calls Try.prog 18 #[.slice a len cap] w fun e w' =>
    e = .returned (.slice (some ⟨w.heap.size, 0, none⟩) len len) ∧ IsFRow w' (some ⟨w.heap.size, 0, none⟩) len len zs ∧ Below w.heap.size w w' ∧ w.heap.size < w'.heap.size := by
  obtain ⟨hz, hlc, hcm, hzl, hrow⟩ := h
  have hmk := run_make_row' (P := Try.prog) 22 45 (.float .f32 0) 4 Try.underlying22 infoF rfl .i64 .i64 len (by omega) (by omega)
  go_enter Try.func18, Try.ntmps18
  go_wp2
  go_loopw [4] (fun i wr => ∃ k : Nat, k ≤ len ∧ i = .int .i64 k ∧ wr.rowIs w.heap.size 45 len (fun j => .float .f32 (if j < k then zs.getD j 0 else 0)) ∧ Below w.heap.size w wr) (fun i _ => len - (intOf i).toNat)
  case atStart => exact ⟨0, Nat.zero_le _, rfl, (World.rowIs_made w _ len _).congr (fun i hi => by simp), Below.alloc (Below.refl _ _) (Nat.le_refl _) _⟩
  case round =>
    obtain ⟨k, hk, rfl, hr, hb⟩ := hrel
    by_cases hlt : k < len
    · obtain ⟨b, off, rfl, hbl, hc⟩ := hrow.resolve_left (by omega)
      have hcx : wr.cell? ⟨b, off + k, none⟩ = some (.float .f32 (zs.getD k 0)) := (hb.cell (by exact hbl)).trans (hc k hlt)
      have hcy := hr.cell hlt
      have hfy := hr.frozen k
      generalize hzk : zs.getD k 0 = z at hcx
      have H := Lib.hid hc
      have HR := Lib.hid hr
      have HB := Lib.hid hb
      have HZ := Lib.hid hzk
      clear hc hr hb hzk hmk hzl hz
      go_wp2
      go_roundw
      case rel =>
        refine ⟨k + 1, by omega, rfl, (HR.out.set k (.float .f32 z)).congr (fun j hj => ?_), Below.setCell HB.out (Nat.le_refl _) _⟩
        by_cases hjk : j = k
        · subst hjk
          rw [if_pos rfl, if_pos (by omega), HZ.out]
        · rw [if_neg hjk]
          congr 1
          by_cases h1 : j < k
          · rw [if_pos h1, if_pos (by omega)]
          · rw [if_neg h1, if_neg (by omega)]
      case measure => simp [intOf]; omega
    · have hkl : k = len := by omega
      subst hkl
      have HR := Lib.hid hr
      have HB := Lib.hid hb
      clear hr hb hmk
      go_wp2
      go_ret
      refine ⟨rfl, ⟨hz, Nat.le_refl _, by omega, hzl, ?_⟩, HB.out, HR.out.lt⟩
      by_cases h0 : k = 0
      · exact .inl h0
      · refine .inr ⟨_, 0, rfl, HR.out.lt, fun i hi => ?_⟩
        rw [Nat.zero_add, HR.out.cell hi, if_pos hi]

theorem IsFRow.below {w w' : World} {a : Option Addr} {len cap : Nat} {zs : List Nat} (h : IsFRow w a len cap zs) (hb : Below w.heap.size w w') : IsFRow w' a len cap zs := by
  obtain ⟨h1, h2, h3, h4, h5⟩ := h
  refine ⟨h1, h2, h3, h4, ?_⟩
  rcases h5 with h5 | ⟨b, off, rfl, hbl, hc⟩
  · exact .inl h5
  · exact .inr ⟨b, off, rfl, Nat.lt_of_lt_of_le hbl hb.size, fun i hi => (hb.cell (by exact hbl)).trans (hc i hi)⟩

def sumTo (zs : List Nat) : Nat → Option Nat
  | 0 => ab .f32 0
  | k + 1 => oop .add .f32 (sumTo zs k) (ab .f32 (zs.getD k 0))

/-- a float and whether it is one -/
def RetFT (o : Option Nat) (b : Bool) (w : World) (e : Ending) (w' : World) : Prop := ∃ r n, Is .f32 r o ∧ e = .returned (.tuple #[.float .f32 r, .bool b]) ∧ w' = w.drewN n




set_option maxRecDepth 20000 in
theorem eqFloat32S (a b : Option Addr) (len cap cap2 : Nat) (zs : List Nat) (w : World) (h : IsFRow w a len cap zs) (h2 : IsFRow w b len cap2 zs) : Calls Try.prog 25 #[.slice a len cap, .slice b len cap2] w (RetB true w) := by
  obtain ⟨hz, hlc, hcm, hzl, hrow⟩ := h
  obtain ⟨-, -, -, -, hrow2⟩ := h2
  unfold maxLen at hcm
  go_enter Try.func25, Try.ntmps25
  go_wp2
  go_loopw [5] (fun i wr => ∃ k n : Nat, k ≤ len ∧ i = .int .i64 k ∧ wr = w.drewN n) (fun i _ => len - (intOf i).toNat)
  case atStart => exact ⟨0, 0, Nat.zero_le _, rfl, rfl⟩
  case round =>
    obtain ⟨k, m, hk, rfl, rfl⟩ := hrel
    by_cases hlt : k < len
    · obtain ⟨b, off, rfl, hbl, hc⟩ := hrow.resolve_left (by omega)
      obtain ⟨b2, off2, rfl, hbl2, hc2⟩ := hrow2.resolve_left (by omega)
      have hcx := hc k hlt
      have hcy := hc2 k hlt
      generalize hzk : zs.getD k 0 = z at hcx hcy
      clear hc hc2 hzk hzl hz
      go_wp2_with fail
      refine wp_region_all (by kernel_rfl) (by kernel_rfl) 12 (by kernel_rfl) (fun _ v => ⟨#[.slice (some ⟨b, off, none⟩) len cap, .slice (some ⟨b2, off2, none⟩) len cap2, undef, undef, u4, .int .i64 k, .slice (some ⟨b, off, none⟩) len cap, .int .i64 len, .slice (some ⟨b2, off2, none⟩) len cap2, .int .i64 len, .bool false, .int .i64 k, .slice (some ⟨b, off, none⟩) len cap, .int .i64 len, .bool true, u15, u16, v 0, v 1, v 2, v 3, v 4, v 5, v 6, v 7, v 8, v 9, v 10, v 11], []⟩)
        (fun W => ∃ n, W = w.drewN n)
        (fun j _ s => match j with | 0 => s = .slice (some ⟨b, off, none⟩) len cap | 1 => s = .int .i64 k | 2 => s = .pointer (some ⟨b, off + k, none⟩) | 3 => s = .float .f32 z | 4 => ∃ r, s = .float .f64 r ∧ ab .f64 r = (ab .f32 z).map wide | 5 => s = .slice (some ⟨b2, off2, none⟩) len cap2 | 6 => s = .int .i64 k | 7 => s = .pointer (some ⟨b2, off2 + k, none⟩) | 8 => s = .float .f32 z | 9 => ∃ r, s = .float .f64 r ∧ ab .f64 r = (ab .f32 z).map wide | 10 => s = .bool true | 11 => s = .bool false | _ => True) ?_ ?_ ⟨m + 1, rfl⟩ ?_ ?_
      · intro j W W' v hb
        rcases j with _ | _ | _ | _ | _ | _ | _ | _ | _ | _ | _ | _ | j <;> exact id
      · exact ⟨fun i => [u17, u18, u19, u20, u21, u22, u23, u24, u25, u26, u27, u28].getD i undef, rfl⟩
      · intro i o ho hlt vals W hG hd
        obtain ⟨m', rfl⟩ := hG
        rcases i with _ | _ | _ | _ | _ | _ | _ | _ | _ | _ | _ | _ | i
        · refine wpOp_run ho (by cases Option.some.inj ho; rfl) ?_
          cases Option.some.inj ho
          go_simp
          exact ⟨_, rfl, Below.refl _ _, ⟨_, rfl⟩, rfl⟩
        · refine wpOp_run ho (by cases Option.some.inj ho; rfl) ?_
          cases Option.some.inj ho
          go_simp
          exact ⟨_, rfl, Below.refl _ _, ⟨_, rfl⟩, rfl⟩
        · refine wpOp_run ho (by cases Option.some.inj ho; rfl) ?_
          cases Option.some.inj ho
          have e0 : vals 0 = .slice (some ⟨b, off, none⟩) len cap := hd ⟨0, .data⟩ (by simp) rfl
          have e1 : vals 1 = .int .i64 k := hd ⟨1, .data⟩ (by simp) rfl
          go_simp
          exact ⟨.pointer (some ⟨b, off + k, none⟩), by simp [upd_at, e0, e1], Below.refl _ _, ⟨_, rfl⟩, rfl⟩
        · refine wpOp_run ho (by cases Option.some.inj ho; rfl) ?_
          cases Option.some.inj ho
          have e2 : vals 2 = .pointer (some ⟨b, off + k, none⟩) := hd ⟨2, .data⟩ (by simp) rfl
          go_simp
          exact ⟨.float .f32 z, by simp [upd_at, e2], Below.refl _ _, ⟨_, rfl⟩, rfl⟩
        · refine wpOp_run ho (by cases Option.some.inj ho; rfl) ?_
          cases Option.some.inj ho
          have e3 : vals 3 = .float .f32 z := hd ⟨3, .data⟩ (by simp) rfl
          obtain ⟨r, q, hrun, hr⟩ := run_widen (P := Try.prog) 45 56 z (w.drewN m') (by rw [Try.underlying45]; rfl) Try.underlying56
          have hB := below_drewN (Below.refl (w.drewN m').heap.size (w.drewN m')) q
          go_simp
          exact ⟨.float .f64 r, by simp [upd_at, e3], by simpa using hB, ⟨_, rfl⟩, r, rfl, hr.ab⟩
        · refine wpOp_run ho (by cases Option.some.inj ho; rfl) ?_
          cases Option.some.inj ho
          go_simp
          exact ⟨_, rfl, Below.refl _ _, ⟨_, rfl⟩, rfl⟩
        · refine wpOp_run ho (by cases Option.some.inj ho; rfl) ?_
          cases Option.some.inj ho
          go_simp
          exact ⟨_, rfl, Below.refl _ _, ⟨_, rfl⟩, rfl⟩
        · refine wpOp_run ho (by cases Option.some.inj ho; rfl) ?_
          cases Option.some.inj ho
          have e5 : vals 5 = .slice (some ⟨b2, off2, none⟩) len cap2 := hd ⟨5, .data⟩ (by simp) rfl
          have e6 : vals 6 = .int .i64 k := hd ⟨6, .data⟩ (by simp) rfl
          go_simp
          exact ⟨.pointer (some ⟨b2, off2 + k, none⟩), by simp [upd_at, e5, e6], Below.refl _ _, ⟨_, rfl⟩, rfl⟩
        · refine wpOp_run ho (by cases Option.some.inj ho; rfl) ?_
          cases Option.some.inj ho
          have e7 : vals 7 = .pointer (some ⟨b2, off2 + k, none⟩) := hd ⟨7, .data⟩ (by simp) rfl
          go_simp
          exact ⟨.float .f32 z, by simp [upd_at, e7], Below.refl _ _, ⟨_, rfl⟩, rfl⟩
        · refine wpOp_run ho (by cases Option.some.inj ho; rfl) ?_
          cases Option.some.inj ho
          have e8 : vals 8 = .float .f32 z := hd ⟨8, .data⟩ (by simp) rfl
          obtain ⟨r, q, hrun, hr⟩ := run_widen (P := Try.prog) 45 56 z (w.drewN m') (by rw [Try.underlying45]; rfl) Try.underlying56
          have hB := below_drewN (Below.refl (w.drewN m').heap.size (w.drewN m')) q
          go_simp
          exact ⟨.float .f64 r, by simp [upd_at, e8], by simpa using hB, ⟨_, rfl⟩, r, rfl, hr.ab⟩
        · refine wpOp_run ho (by cases Option.some.inj ho; rfl) ?_
          cases Option.some.inj ho
          obtain ⟨r, e4, hr⟩ := (show ∃ r, vals 4 = .float .f64 r ∧ ab .f64 r = (ab .f32 z).map wide from hd ⟨4, .data⟩ (by simp) rfl)
          obtain ⟨s, e9, hs⟩ := (show ∃ r, vals 9 = .float .f64 r ∧ ab .f64 r = (ab .f32 z).map wide from hd ⟨9, .data⟩ (by simp) rfl)
          have hc := sameFloat r s (w.drewN m') (hr.trans hs.symm)
          go_simp
          refine hc.mono ?_
          rintro e w' ⟨q, rfl, rfl⟩
          have hB := below_drewN (Below.refl (w.drewN m').heap.size (w.drewN m')) q
          go_simp
          exact ⟨.bool true, by simp [upd_at, e4, e9], by simpa using hB, ⟨_, rfl⟩, rfl⟩
        · refine wpOp_run ho (by cases Option.some.inj ho; rfl) ?_
          cases Option.some.inj ho
          have e10 : vals 10 = .bool true := hd ⟨10, .data⟩ (by simp) rfl
          go_simp
          exact ⟨.bool false, by simp [upd_at, e10], Below.refl _ _, ⟨_, rfl⟩, rfl⟩
        · omega
      · intro vals W hG hR
        obtain ⟨m', rfl⟩ := hG
        have h11 : vals 11 = .bool false := hR 11 (by omega)
        simp only [Exit.then, h11]
        go_wp2_with fail
        go_roundw
        case rel => exact ⟨k + 1, _, by omega, rfl, rfl⟩
        case measure => simp [intOf]; omega
    · have hkl : k = len := by omega
      subst hkl
      go_wp2
      go_ret
      exact RetB.mk _ rfl

end Go.Proofs.Ytohpklakhkfebaa
