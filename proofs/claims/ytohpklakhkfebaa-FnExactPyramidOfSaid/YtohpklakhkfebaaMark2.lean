/-
  Pictures that are handed back: their copies, marks and comparison.
-/
import Derived.Test.YtohpklakhkfebaaMark
namespace Go.Proofs.Ytohpklakhkfebaa
open Go.RowKit Go.FL
theorem toFloat32S_own (a : Option Addr) (len cap : Nat) (zs : List Nat) (w : World) (h : IsFRow w a len cap zs) (hl : len ≤ 1048576) : Calls Try.prog 18 #[.slice a len cap] w fun e w' =>
    e = .returned (.slice (some ⟨w.heap.size, 0, none⟩) len len) ∧ ORow w' w.heap.size w'.heap.size (some ⟨w.heap.size, 0, none⟩) len len zs ∧ Below w.heap.size w w' := by
  obtain ⟨hz, hlc, hcm, hzl, hrow⟩ := h
  have hmk := run_make_row' (P := Try.prog) 22 45 (.float .f32 0) 4 Try.underlying22 infoF rfl .i64 .i64 len (by omega) (by omega)
  go_enter Try.func18, Try.ntmps18
  go_wp2
  go_loopw [4] (fun i wr => ∃ k : Nat, k ≤ len ∧ i = .int .i64 k ∧ wr.rowIs w.heap.size 45 len (fun j => .float .f32 (if j < k then zs.getD j 0 else 0)) ∧ Below w.heap.size w wr) (fun i _ => len - (intOf i).toNat)
  case atStart => exact ⟨0, Nat.zero_le _, rfl, (World.rowIs_made w _ len _).congr (fun i hi => by simp), Below.alloc (Below.refl _ _) (Nat.le_refl _) _⟩
  case round =>
    obtain ⟨k, hk, rfl, hr, hb⟩ := hrel
    by_cases hlt : k < len
    · obtain ⟨b, off, rfl, hbl, hc⟩ := hrow.resolve_left (by omega)
      have hcx : wr.cell? ⟨b, off + k, none⟩ = some (.float .f32 (zs.getD k 0)) := (hb.cell (by exact hbl)).trans (hc k hlt)
      have hcy := hr.cell hlt
      have hfy := hr.frozen k
      generalize hzk : zs.getD k 0 = z at hcx
      have H := Lib.hid hc
      have HR := Lib.hid hr
      have HB := Lib.hid hb
      have HZ := Lib.hid hzk
      clear hc hr hb hzk hmk hzl hz
      go_wp2
      go_roundw
      case rel =>
        refine ⟨k + 1, by omega, rfl, (HR.out.set k (.float .f32 z)).congr (fun j hj => ?_), Below.setCell HB.out (Nat.le_refl _) _⟩
        by_cases hjk : j = k
        · subst hjk
          rw [if_pos rfl, if_pos (by omega), HZ.out]
        · rw [if_neg hjk]
          congr 1
          by_cases h1 : j < k
          · rw [if_pos h1, if_pos (by omega)]
          · rw [if_neg h1, if_neg (by omega)]
      case measure => simp [intOf]; omega
    · have hkl : k = len := by omega
      subst hkl
      have HR := Lib.hid hr
      have HB := Lib.hid hb
      clear hr hb hmk
      go_wp2
      go_ret
      refine ⟨rfl, ⟨⟨hz, Nat.le_refl _, by omega, hzl, ?_⟩, .inr ⟨_, rfl, Nat.le_refl _, HR.out.lt, HR.out.lt, fun i => HR.out.frozen i⟩⟩, HB.out⟩
      by_cases h0 : k = 0
      · exact .inl h0
      · refine .inr ⟨_, 0, rfl, HR.out.lt, fun i hi => ?_⟩
        rw [Nat.zero_add, HR.out.cell hi, if_pos hi]
theorem eqF2 (a b : Option Addr) (len cap cap2 : Nat) (zs ys : List Nat) (w : World) (h : IsFRow w a len cap zs) (h2 : IsFRow w b len cap2 ys) (he : ∀ i, i < len → ab .f32 (zs.getD i 0) = ab .f32 (ys.getD i 0)) : Calls Try.prog 25 #[.slice a len cap, .slice b len cap2] w (RetB true w) := by
  obtain ⟨hz, hlc, hcm, hzl, hrow⟩ := h
  obtain ⟨-, -, -, -, hrow2⟩ := h2
  unfold maxLen at hcm
  go_enter Try.func25, Try.ntmps25
  go_wp2
  go_loopw [5] (fun i wr => ∃ k n : Nat, k ≤ len ∧ i = .int .i64 k ∧ wr = w.drewN n) (fun i _ => len - (intOf i).toNat)
  case atStart => exact ⟨0, 0, Nat.zero_le _, rfl, rfl⟩
  case round =>
    obtain ⟨k, m, hk, rfl, rfl⟩ := hrel
    by_cases hlt : k < len
    · obtain ⟨b, off, rfl, hbl, hc⟩ := hrow.resolve_left (by omega)
      obtain ⟨b2, off2, rfl, hbl2, hc2⟩ := hrow2.resolve_left (by omega)
      have hcx := hc k hlt
      have hcy := hc2 k hlt
      have hek := he k hlt
      generalize hzk : zs.getD k 0 = z at hcx hek
      generalize hyk : ys.getD k 0 = z2 at hcy hek
      have HE := Lib.hid hek
      clear hc hc2 hzk hyk hzl hz he hek
      go_wp2_with fail
      refine wp_region_all (by kernel_rfl) (by kernel_rfl) 12 (by kernel_rfl) (fun _ v => ⟨#[.slice (some ⟨b, off, none⟩) len cap, .slice (some ⟨b2, off2, none⟩) len cap2, undef, undef, u4, .int .i64 k, .slice (some ⟨b, off, none⟩) len cap, .int .i64 len, .slice (some ⟨b2, off2, none⟩) len cap2, .int .i64 len, .bool false, .int .i64 k, .slice (some ⟨b, off, none⟩) len cap, .int .i64 len, .bool true, u15, u16, v 0, v 1, v 2, v 3, v 4, v 5, v 6, v 7, v 8, v 9, v 10, v 11], []⟩)
        (fun W => ∃ n, W = w.drewN n)
        (fun j _ s => match j with | 0 => s = .slice (some ⟨b, off, none⟩) len cap | 1 => s = .int .i64 k | 2 => s = .pointer (some ⟨b, off + k, none⟩) | 3 => s = .float .f32 z | 4 => ∃ r, s = .float .f64 r ∧ ab .f64 r = (ab .f32 z).map wide | 5 => s = .slice (some ⟨b2, off2, none⟩) len cap2 | 6 => s = .int .i64 k | 7 => s = .pointer (some ⟨b2, off2 + k, none⟩) | 8 => s = .float .f32 z2 | 9 => ∃ r, s = .float .f64 r ∧ ab .f64 r = (ab .f32 z2).map wide | 10 => s = .bool true | 11 => s = .bool false | _ => True) ?_ ?_ ⟨m + 1, rfl⟩ ?_ ?_
      · intro j W W' v hb
        rcases j with _ | _ | _ | _ | _ | _ | _ | _ | _ | _ | _ | _ | j <;> exact id
      · exact ⟨fun i => [u17, u18, u19, u20, u21, u22, u23, u24, u25, u26, u27, u28].getD i undef, rfl⟩
      · intro i o ho hlt vals W hG hd
        obtain ⟨m', rfl⟩ := hG
        rcases i with _ | _ | _ | _ | _ | _ | _ | _ | _ | _ | _ | _ | i
        · refine wpOp_run ho (by cases Option.some.inj ho; rfl) ?_
          cases Option.some.inj ho
          go_simp
          exact ⟨_, rfl, Below.refl _ _, ⟨_, rfl⟩, rfl⟩
        · refine wpOp_run ho (by cases Option.some.inj ho; rfl) ?_
          cases Option.some.inj ho
          go_simp
          exact ⟨_, rfl, Below.refl _ _, ⟨_, rfl⟩, rfl⟩
        · refine wpOp_run ho (by cases Option.some.inj ho; rfl) ?_
          cases Option.some.inj ho
          have e0 : vals 0 = .slice (some ⟨b, off, none⟩) len cap := hd ⟨0, .data⟩ (by simp) rfl
          have e1 : vals 1 = .int .i64 k := hd ⟨1, .data⟩ (by simp) rfl
          go_simp
          exact ⟨.pointer (some ⟨b, off + k, none⟩), by simp [upd_at, e0, e1], Below.refl _ _, ⟨_, rfl⟩, rfl⟩
        · refine wpOp_run ho (by cases Option.some.inj ho; rfl) ?_
          cases Option.some.inj ho
          have e2 : vals 2 = .pointer (some ⟨b, off + k, none⟩) := hd ⟨2, .data⟩ (by simp) rfl
          go_simp
          exact ⟨.float .f32 z, by simp [upd_at, e2], Below.refl _ _, ⟨_, rfl⟩, rfl⟩
        · refine wpOp_run ho (by cases Option.some.inj ho; rfl) ?_
          cases Option.some.inj ho
          have e3 : vals 3 = .float .f32 z := hd ⟨3, .data⟩ (by simp) rfl
          obtain ⟨r, q, hrun, hr⟩ := run_widen (P := Try.prog) 45 56 z (w.drewN m') (by rw [Try.underlying45]; rfl) Try.underlying56
          have hB := below_drewN (Below.refl (w.drewN m').heap.size (w.drewN m')) q
          go_simp
          exact ⟨.float .f64 r, by simp [upd_at, e3], by simpa using hB, ⟨_, rfl⟩, r, rfl, hr.ab⟩
        · refine wpOp_run ho (by cases Option.some.inj ho; rfl) ?_
          cases Option.some.inj ho
          go_simp
          exact ⟨_, rfl, Below.refl _ _, ⟨_, rfl⟩, rfl⟩
        · refine wpOp_run ho (by cases Option.some.inj ho; rfl) ?_
          cases Option.some.inj ho
          go_simp
          exact ⟨_, rfl, Below.refl _ _, ⟨_, rfl⟩, rfl⟩
        · refine wpOp_run ho (by cases Option.some.inj ho; rfl) ?_
          cases Option.some.inj ho
          have e5 : vals 5 = .slice (some ⟨b2, off2, none⟩) len cap2 := hd ⟨5, .data⟩ (by simp) rfl
          have e6 : vals 6 = .int .i64 k := hd ⟨6, .data⟩ (by simp) rfl
          go_simp
          exact ⟨.pointer (some ⟨b2, off2 + k, none⟩), by simp [upd_at, e5, e6], Below.refl _ _, ⟨_, rfl⟩, rfl⟩
        · refine wpOp_run ho (by cases Option.some.inj ho; rfl) ?_
          cases Option.some.inj ho
          have e7 : vals 7 = .pointer (some ⟨b2, off2 + k, none⟩) := hd ⟨7, .data⟩ (by simp) rfl
          go_simp
          exact ⟨.float .f32 z2, by simp [upd_at, e7], Below.refl _ _, ⟨_, rfl⟩, rfl⟩
        · refine wpOp_run ho (by cases Option.some.inj ho; rfl) ?_
          cases Option.some.inj ho
          have e8 : vals 8 = .float .f32 z2 := hd ⟨8, .data⟩ (by simp) rfl
          obtain ⟨r, q, hrun, hr⟩ := run_widen (P := Try.prog) 45 56 z2 (w.drewN m') (by rw [Try.underlying45]; rfl) Try.underlying56
          have hB := below_drewN (Below.refl (w.drewN m').heap.size (w.drewN m')) q
          go_simp
          exact ⟨.float .f64 r, by simp [upd_at, e8], by simpa using hB, ⟨_, rfl⟩, r, rfl, hr.ab⟩
        · refine wpOp_run ho (by cases Option.some.inj ho; rfl) ?_
          cases Option.some.inj ho
          obtain ⟨r, e4, hr⟩ := (show ∃ r, vals 4 = .float .f64 r ∧ ab .f64 r = (ab .f32 z).map wide from hd ⟨4, .data⟩ (by simp) rfl)
          obtain ⟨s, e9, hs⟩ := (show ∃ r, vals 9 = .float .f64 r ∧ ab .f64 r = (ab .f32 z2).map wide from hd ⟨9, .data⟩ (by simp) rfl)
          have hc := sameFloat r s (w.drewN m') (hr.trans ((congrArg (Option.map wide) HE.out).trans hs.symm))
          go_simp
          refine hc.mono ?_
          rintro e w' ⟨q, rfl, rfl⟩
          have hB := below_drewN (Below.refl (w.drewN m').heap.size (w.drewN m')) q
          go_simp
          exact ⟨.bool true, by simp [upd_at, e4, e9], by simpa using hB, ⟨_, rfl⟩, rfl⟩
        · refine wpOp_run ho (by cases Option.some.inj ho; rfl) ?_
          cases Option.some.inj ho
          have e10 : vals 10 = .bool true := hd ⟨10, .data⟩ (by simp) rfl
          go_simp
          exact ⟨.bool false, by simp [upd_at, e10], Below.refl _ _, ⟨_, rfl⟩, rfl⟩
        · omega
      · intro vals W hG hR
        obtain ⟨m', rfl⟩ := hG
        have h11 : vals 11 = .bool false := hR 11 (by omega)
        simp only [Exit.then, h11]
        go_wp2_with fail
        go_roundw
        case rel => exact ⟨k + 1, _, by omega, rfl, rfl⟩
        case measure => simp [intOf]; omega
    · have hkl : k = len := by omega
      subst hkl
      go_wp2
      go_ret
      exact RetB.mk _ rfl
theorem toPicture_own (x y : Int) (a : Option Addr) (len cap : Nat) (zs : List Nat) (w : World) (h : IsFRow w a len cap zs) (hl : len ≤ 1048576) : Calls Try.prog 6 #[.agg #[.int .i64 x, .int .i64 y, .slice a len cap]] w fun e w' =>
    ∃ g, e = .returned (.agg #[.int .i64 x, .int .i64 y, .slice (some ⟨g, 0, none⟩) len len]) ∧ ORow w' w.heap.size w'.heap.size (some ⟨g, 0, none⟩) len len zs ∧ Below w.heap.size w w' := by
  have H := Lib.hid h
  clear h
  go_enter Try.func6, Try.ntmps6
  go_wp2_with fail
  refine (toFloat32S_own a len cap zs _ (IsFRow.below H.out (by repeat (first | exact Below.refl _ _ | refine Below.setCell ?_ (by first | (simp; done) | (simp; omega)) _ | refine Below.trans ?_ (Below.mono (by assumption) (by first | (simp; done) | (simp; omega))) | refine Below.alloc ?_ (by first | (simp; done) | (simp; omega)) _ | refine Below.alloc ?_ (Nat.le_refl _) _ | refine below_drewN ?_ _))) hl).mono ?_
  rintro e w1 ⟨rfl, f, hb⟩
  obtain ⟨hc, hf⟩ := bcell hb
  obtain ⟨_, e, -, -, hlt, -⟩ := f.own.resolve_left (by simp)
  simp only [Option.some.injEq, Addr.mk.injEq, and_true] at e
  subst e
  have HF := Lib.hid f
  have HL := Lib.hid hlt
  clear f hlt
  go_wp2_with fail
  refine bodyPost_ret (v := .agg #[.int .i64 x, .int .i64 y, .slice (some ⟨w.heap.size + 1 + 1 + 1, 0, none⟩) len len]) ?_ rfl ⟨_, rfl, ?_, ?_⟩
  · simp [results, Try.results6, go_sem, hc]
  · have hf : ORow w1 (w.heap.size + 1 + 1 + 1) w1.heap.size (some ⟨w.heap.size + 1 + 1 + 1, 0, none⟩) len len zs := by simpa using HF.out
    refine ORow.mono (ORow.only hf (l := w.heap.size + 1) (h := w.heap.size + 3) (Only.setCell (Only.setCell (Only.setCell (Only.setCell (Only.refl _ _ _) ?_ ?_ _) ?_ ?_ _) ?_ ?_ _) ?_ ?_ _) (.inr ?_)) ?_ ?_
    all_goals first | omega | (simp; done) | (simp; omega) | skip
  · exact (by repeat (first | exact Below.refl _ _ | refine Below.setCell ?_ (by first | (simp; done) | (simp; omega)) _ | refine Below.trans ?_ (Below.mono (by assumption) (by first | (simp; done) | (simp; omega))) | refine Below.alloc ?_ (by first | (simp; done) | (simp; omega)) _ | refine Below.alloc ?_ (Nat.le_refl _) _ | refine below_drewN ?_ _))
theorem eqP2 (x y : Int) (a b : Option Addr) (len cap cap2 : Nat) (zs ys : List Nat) (w : World) (h : IsFRow w a len cap zs) (h2 : IsFRow w b len cap2 ys) (he : ∀ i, i < len → ab .f32 (zs.getD i 0) = ab .f32 (ys.getD i 0)) : Calls Try.prog 9 #[.agg #[.int .i64 x, .int .i64 y, .slice a len cap], .agg #[.int .i64 x, .int .i64 y, .slice b len cap2]] w fun e w' =>
    e = .returned (.bool true) ∧ Below w.heap.size w w' := by
  have H := Lib.hid h
  have H2 := Lib.hid h2
  clear h h2
  go_enter Try.func9, Try.ntmps9
  go_wp2_with fail
  refine (eqF2 _ _ len _ _ zs ys _ (IsFRow.below H.out (by repeat (first | exact Below.refl _ _ | refine Below.setCell ?_ (by first | (simp; done) | (simp; omega)) _ | refine Below.trans ?_ (Below.mono (by assumption) (by first | (simp; done) | (simp; omega))) | refine Below.alloc ?_ (by first | (simp; done) | (simp; omega)) _ | refine Below.alloc ?_ (Nat.le_refl _) _ | refine below_drewN ?_ _))) (IsFRow.below H2.out (by repeat (first | exact Below.refl _ _ | refine Below.setCell ?_ (by first | (simp; done) | (simp; omega)) _ | refine Below.trans ?_ (Below.mono (by assumption) (by first | (simp; done) | (simp; omega))) | refine Below.alloc ?_ (by first | (simp; done) | (simp; omega)) _ | refine Below.alloc ?_ (Nat.le_refl _) _ | refine below_drewN ?_ _))) he).mono ?_
  rintro e w' ⟨n, rfl, rfl⟩
  go_wp2_with fail
  go_ret
  exact ⟨rfl, (by repeat (first | exact Below.refl _ _ | refine Below.setCell ?_ (by first | (simp; done) | (simp; omega)) _ | refine Below.trans ?_ (Below.mono (by assumption) (by first | (simp; done) | (simp; omega))) | refine Below.alloc ?_ (by first | (simp; done) | (simp; omega)) _ | refine Below.alloc ?_ (Nat.le_refl _) _ | refine below_drewN ?_ _))⟩
theorem markPicture (x y : Int) (ao : Option Addr) (len cap lo hi : Nat) (zs : List Nat) (k : Int) (w : World) (h : ORow w lo hi ao len cap zs) (hl : len ≤ 1048576) (k0 : 0 ≤ k) (k1 : k ≤ 1099511627776) : Calls Try.prog 10 #[.agg #[.int .i64 x, .int .i64 y, .slice ao len cap], .int .i64 k] w fun e w' =>
    e = .returned (.int .i64 (k + len)) ∧ ORow w' lo hi ao len cap (marks k len) ∧ Only lo hi w w' := by
  have H := Lib.hid h
  clear h
  go_enter Try.func10, Try.ntmps10
  go_wp2_with fail
  refine (markFloat32S ao len cap lo hi zs k _ (ORow.below H.out (by repeat (first | exact Below.refl _ _ | refine Below.setCell ?_ (by first | (simp; done) | (simp; omega)) _ | refine Below.trans ?_ (Below.mono (by assumption) (by first | (simp; done) | (simp; omega))) | refine Below.alloc ?_ (by first | (simp; done) | (simp; omega)) _ | refine Below.alloc ?_ (Nat.le_refl _) _ | refine below_drewN ?_ _))) hl k0 k1).mono ?_
  rintro e w1 ⟨rfl, hr, ho⟩
  have HR := Lib.hid hr
  have HO := Lib.hid ho
  clear hr ho
  go_wp2_with fail
  go_ret
  exact ⟨rfl, HR.out, (Only.of (by repeat (first | exact Below.refl _ _ | refine Below.setCell ?_ (by first | (simp; done) | (simp; omega)) _ | refine Below.trans ?_ (Below.mono (by assumption) (by first | (simp; done) | (simp; omega))) | refine Below.alloc ?_ (by first | (simp; done) | (simp; omega)) _ | refine Below.alloc ?_ (Nat.le_refl _) _ | refine below_drewN ?_ _))).trans HO.out⟩
/-- a picture and whether there is one -/
def RetP (x y : Int) (n : Nat) (ok : Bool) (os : Nat → Option Nat) (w : World) (e : Ending) (w' : World) : Prop :=
  ∃ ao cap zs, e = .returned (.tuple #[.agg #[.int .i64 x, .int .i64 y, .slice ao n cap], .bool ok]) ∧ ORow w' w.heap.size w'.heap.size ao n cap zs ∧ (∀ i, i < n → Is .f32 (zs.getD i 0) (os i)) ∧ Below w.heap.size w w'
end Go.Proofs.Ytohpklakhkfebaa
