/-
  How many cells of two pictures are not near: the walks.
-/
import Derived.Test.YtbjahmfijlkajaaTwo
import Derived.Deep.QuietTactic
import Derived.BigQuiet
namespace Go.Proofs.Ytbjahmfijlkajaa
open Go.RowKit Go.FL
attribute [local irreducible] Oper.wp in
theorem spec_CountUnlike_ok (x y : Int) (a a2 : Option Addr) (len cap cap2 : Nat) (zs ys : List Nat) (near : Nat) (w : World) (h : IsFRow w a len cap zs) (h2 : IsFRow w a2 len cap2 ys) (hl1 : 1 ≤ len) (hl2 : len ≤ 576) (hp : pairB x y x y len len = true) :
    Calls Try.prog 23 #[.agg #[.int .i64 x, .int .i64 y, .slice a len cap], .agg #[.int .i64 x, .int .i64 y, .slice a2 len cap2], .float .f32 near] w fun e w' => e = .returned (.tuple #[.int .i64 (cnt zs ys near len), .bool true]) ∧ Below w.heap.size w w' := by
  have hcap : len ≤ cap := h.2.1
  have hcm : cap ≤ 9223372036854775807 := by have := h.2.2.1; unfold maxLen at this; omega
  have hcap2 : len ≤ cap2 := h2.2.1
  have hcm2 : cap2 ≤ 9223372036854775807 := by have := h2.2.2.1; unfold maxLen at this; omega
  obtain ⟨rb, off, rfl, hbl, hrc⟩ := h.2.2.2.2.resolve_left (by omega)
  obtain ⟨rb2, off2, rfl, hbl2, hrc2⟩ := h2.2.2.2.2.resolve_left (by omega)
  have HRC := Lib.hid hrc
  have HRC2 := Lib.hid hrc2
  clear hrc hrc2 h h2
  go_enter Try.func23, Try.ntmps23
  go_wp2_with fail
  have hq := spec_l02Two w.heap.size (w.heap.size + 1) x y x y (some ⟨rb, off, none⟩) (some ⟨rb2, off2, none⟩) len len cap cap2 ((w.alloc (.cells #[.int .i64 x, .int .i64 y, .slice (some ⟨rb, off, none⟩) len cap] 27)).alloc (.cells #[.int .i64 x, .int .i64 y, .slice (some ⟨rb2, off2, none⟩) len cap2] 27)) (by go_simp) (by go_simp) (by go_simp) (by go_simp) (by go_simp) (by go_simp)
  rw [hp] at hq
  refine hq.mono ?_
  clear hq hp
  rintro e w1 hq
  obtain ⟨rfl, b1⟩ := RetB.below hq
  clear hq
  have b1 := b1.mono (show w.heap.size + 2 ≤ _ by simp)
  have hs1 : w.heap.size + 2 ≤ w1.heap.size := by have := b1.size; simp at this; omega
  have HB1 := Lib.hid b1
  clear b1
  go_wp2_with fail
  go_loopw [8, 9] (fun s i wr => ∃ k : Nat, k ≤ len ∧ i = .int .i64 k ∧ s = .int .i64 (cnt zs ys near k) ∧ Below (w.heap.size + 2) ((w.alloc (.cells #[.int .i64 x, .int .i64 y, .slice (some ⟨rb, off, none⟩) len cap] 27)).alloc (.cells #[.int .i64 x, .int .i64 y, .slice (some ⟨rb2, off2, none⟩) len cap2] 27)) wr) (fun _ i _ => len - (intOf i).toNat)
  case atStart => exact ⟨0, by omega, rfl, rfl, HB1.out⟩
  case round =>
    obtain ⟨k, hk, rfl, rfl, hb⟩ := hrel
    have k0 : wr.cell? ⟨w.heap.size, 2, none⟩ = some (.slice (some ⟨rb, off, none⟩) len cap) := (hb.cell (p := ⟨w.heap.size, 2, none⟩) (by first | (simp; done) | (simp; omega))).trans (by go_simp)
    have HB := Lib.hid hb
    clear hb
    by_cases hlt : k < len
    · have hz1 := HRC.out k hlt
      have hz2 := HRC2.out k hlt
      have hst : cnt zs ys near (k + 1) = cnt zs ys near k + (if nearO (oop .sub .f32 (ab .f32 (zs.getD k 0)) (ab .f32 (ys.getD k 0))) near then 0 else 1) := rfl
      have hle := cnt_le zs ys near k
      generalize zs.getD k 0 = z at hz1 hst
      generalize ys.getD k 0 = z2 at hz2 hst
      generalize cnt zs ys near k = cn at hst hle
      have HZ1 := Lib.hid hz1
      have HZ2 := Lib.hid hz2
      have HST := Lib.hid hst
      clear hz1 hz2 hst
      go_wp2_with fail
      refine wp_region_steps (by kernel_rfl) (by kernel_rfl) 11 (by kernel_rfl) (fun _ v => ⟨#[Value.agg #[Value.int IntKind.i64 x, Value.int IntKind.i64 y, Value.slice (some ⟨rb, off, none⟩) len cap], Value.agg #[Value.int IntKind.i64 x, Value.int IntKind.i64 y, Value.slice (some ⟨rb2, off2, none⟩) len cap2], Value.float FloatKind.f32 near, Value.pointer (some ⟨w.heap.size, 0, none⟩), Value.pointer (some ⟨w.heap.size + 1, 0, none⟩), undef, Value.int IntKind.i64 0, Value.bool false, Value.int IntKind.i64 (cn : Int), Value.int IntKind.i64 (k : Int), u10, Value.bool true, Value.bool false, Value.int IntKind.i64 (k : Int), Value.pointer (some ⟨w.heap.size, 2, none⟩), Value.slice (some ⟨rb, off, none⟩) len cap, Value.int IntKind.i64 (len : Int), Value.bool true, u18, u19, v 0, v 1, v 2, v 3, v 4, v 5, v 6, v 7, v 8, v 9, v 10, u31, u32, u33, u34, u35, u36, u37, u38, u39, u40, u41, u42, undef], []⟩)
        (fun WW => Below (w.heap.size + 2) ((w.alloc (.cells #[.int .i64 x, .int .i64 y, .slice (some ⟨rb, off, none⟩) len cap] 27)).alloc (.cells #[.int .i64 x, .int .i64 y, .slice (some ⟨rb2, off2, none⟩) len cap2] 27)) WW)
        (fun j WW s => match j with | 0 => s = .pointer (some ⟨w.heap.size, 2, none⟩) | 1 => s = .slice (some ⟨rb, off, none⟩) len cap | 2 => s = .int .i64 k | 3 => s = .pointer (some ⟨rb, off + k, none⟩) | 4 => s = .float .f32 z | 5 => s = .pointer (some ⟨w.heap.size + 1, 2, none⟩) | 6 => s = .slice (some ⟨rb2, off2, none⟩) len cap2 | 7 => s = .int .i64 k | 8 => s = .pointer (some ⟨rb2, off2 + k, none⟩) | 9 => s = .float .f32 z2 | 10 => ∃ r, s = .float .f32 r ∧ Is .f32 r (oop .sub .f32 (ab .f32 (z)) (ab .f32 (z2))) | _ => True) ?_ ⟨fun i => [u20, u21, u22, u23, u24, u25, u26, u27, u28, u29, u30].getD i undef, rfl⟩ HB.out.drew ?_ ?_
      · intro j WW W2 s hb
        rcases j with _ | _ | _ | _ | _ | _ | _ | _ | _ | _ | _ | j <;> exact id
      · intro i o ho hlt2 vals WW hG hd
        rcases i with _ | _ | _ | _ | _ | _ | _ | _ | _ | _ | _ | i
        · refine wpOp_run ho (by cases Option.some.inj ho; rfl) ?_
          cases Option.some.inj ho
          go_simp
          exact ⟨.pointer (some ⟨w.heap.size, 2, none⟩), by simp [upd_at], Below.refl _ _, hG, rfl⟩
        · refine wpOp_run ho (by cases Option.some.inj ho; rfl) ?_
          cases Option.some.inj ho
          have e0 : vals 0 = .pointer (some ⟨w.heap.size, 2, none⟩) := hd ⟨0, .data⟩ (by simp) rfl
          have hcx := (hG.cell (p := ⟨w.heap.size, 2, none⟩) (by first | (simp; done) | (simp; omega))).trans (show _ = some (.slice (some ⟨rb, off, none⟩) len cap) from by go_simp)
          go_simp
          exact ⟨.slice (some ⟨rb, off, none⟩) len cap, by simp [upd_at, e0], Below.refl _ _, hG, rfl⟩
        · refine wpOp_run ho (by cases Option.some.inj ho; rfl) ?_
          cases Option.some.inj ho
          go_simp
          exact ⟨.int .i64 k, by simp [upd_at], Below.refl _ _, hG, rfl⟩
        · refine wpOp_run ho (by cases Option.some.inj ho; rfl) ?_
          cases Option.some.inj ho
          have e1 : vals 1 = .slice (some ⟨rb, off, none⟩) len cap := hd ⟨1, .data⟩ (by simp) rfl
          have e2 : vals 2 = .int .i64 k := hd ⟨2, .data⟩ (by simp) rfl
          go_simp
          exact ⟨.pointer (some ⟨rb, off + k, none⟩), by simp [upd_at, e1, e2], Below.refl _ _, hG, rfl⟩
        · refine wpOp_run ho (by cases Option.some.inj ho; rfl) ?_
          cases Option.some.inj ho
          have e3 : vals 3 = .pointer (some ⟨rb, off + k, none⟩) := hd ⟨3, .data⟩ (by simp) rfl
          have BG : Below w.heap.size w WW := (Below.alloc (Below.alloc (Below.refl _ _) (Nat.le_refl _) _) (by simp) _).trans (hG.mono (by omega))
          have hcx := (BG.cell (p := ⟨rb, off + k, none⟩) hbl).trans HZ1.out
          go_simp
          exact ⟨.float .f32 z, by simp [upd_at, e3], Below.refl _ _, hG, rfl⟩
        · refine wpOp_run ho (by cases Option.some.inj ho; rfl) ?_
          cases Option.some.inj ho
          go_simp
          exact ⟨.pointer (some ⟨w.heap.size + 1, 2, none⟩), by simp [upd_at], Below.refl _ _, hG, rfl⟩
        · refine wpOp_run ho (by cases Option.some.inj ho; rfl) ?_
          cases Option.some.inj ho
          have e5 : vals 5 = .pointer (some ⟨w.heap.size + 1, 2, none⟩) := hd ⟨5, .data⟩ (by simp) rfl
          have hcx := (hG.cell (p := ⟨w.heap.size + 1, 2, none⟩) (by first | (simp; done) | (simp; omega))).trans (show _ = some (.slice (some ⟨rb2, off2, none⟩) len cap2) from by go_simp)
          go_simp
          exact ⟨.slice (some ⟨rb2, off2, none⟩) len cap2, by simp [upd_at, e5], Below.refl _ _, hG, rfl⟩
        · refine wpOp_run ho (by cases Option.some.inj ho; rfl) ?_
          cases Option.some.inj ho
          go_simp
          exact ⟨.int .i64 k, by simp [upd_at], Below.refl _ _, hG, rfl⟩
        · refine wpOp_run ho (by cases Option.some.inj ho; rfl) ?_
          cases Option.some.inj ho
          have e6 : vals 6 = .slice (some ⟨rb2, off2, none⟩) len cap2 := hd ⟨6, .data⟩ (by simp) rfl
          have e7 : vals 7 = .int .i64 k := hd ⟨7, .data⟩ (by simp) rfl
          go_simp
          exact ⟨.pointer (some ⟨rb2, off2 + k, none⟩), by simp [upd_at, e6, e7], Below.refl _ _, hG, rfl⟩
        · refine wpOp_run ho (by cases Option.some.inj ho; rfl) ?_
          cases Option.some.inj ho
          have e8 : vals 8 = .pointer (some ⟨rb2, off2 + k, none⟩) := hd ⟨8, .data⟩ (by simp) rfl
          have BG : Below w.heap.size w WW := (Below.alloc (Below.alloc (Below.refl _ _) (Nat.le_refl _) _) (by simp) _).trans (hG.mono (by omega))
          have hcx := (BG.cell (p := ⟨rb2, off2 + k, none⟩) hbl2).trans HZ2.out
          go_simp
          exact ⟨.float .f32 z2, by simp [upd_at, e8], Below.refl _ _, hG, rfl⟩
        · refine wpOp_run ho (by cases Option.some.inj ho; rfl) ?_
          cases Option.some.inj ho
          have e4 : vals 4 = .float .f32 z := hd ⟨4, .data⟩ (by simp) rfl
          have e9 : vals 9 = .float .f32 z2 := hd ⟨9, .data⟩ (by simp) rfl
          obtain ⟨r, q, hrun, hr⟩ := run_arith (P := Try.prog) .sub rfl 31 .f32 (z) (z2) WW
          have hB := below_drewN (Below.refl WW.heap.size WW) q
          go_simp
          exact ⟨.float .f32 r, by simp [upd_at, e4, e9], by simpa using hB, hG.trans (hB.mono (by have := hG.size; simp at this; omega)), r, rfl, by exact hr⟩
        · omega
      · intro vals WW hG hR
        obtain ⟨r, e10, hr⟩ := (show ∃ r, vals 10 = .float .f32 r ∧ Is .f32 r (oop .sub .f32 (ab .f32 (z)) (ab .f32 (z2))) from hR 10 (by omega))
        refine wpOp_run rfl rfl ?_
        clear hR
        have HBW := Lib.hid hG
        have hn2 := near_two (lt32 hr) near
        rw [hr.ab] at hn2
        unfold leB at hn2
        clear hG
        cases hnr : nearO (oop .sub .f32 (ab .f32 (z)) (ab .f32 (z2))) near with
        | true =>
          rw [hnr] at hn2
          have hst := HST.out
          rw [hnr] at hst
          have HST2 := Lib.hid hst
          rw [Bool.and_eq_true] at hn2
          obtain ⟨q1, q2⟩ := hn2
          clear hst hnr
          go_simp
          go_wp2_with fail
          go_roundw
          case rel => exact ⟨k + 1, by omega, rfl, by rw [HST2.out]; simp, HBW.out⟩
          case measure => simp [intOf]; omega
        | false =>
          rw [hnr] at hn2
          have hst := HST.out
          rw [hnr] at hst
          have HST2 := Lib.hid hst
          clear hst hnr
          rw [Bool.and_eq_false_iff] at hn2
          by_cases q1 : ((FloatKind.f32.format.order r near == some .lt) || (FloatKind.f32.format.order r near == some .eq)) = true
          · have q2 := hn2.resolve_left (by rw [q1]; decide)
            clear hn2
            go_simp
            go_wp2_with fail
            go_roundw
            case rel => exact ⟨k + 1, by omega, rfl, by rw [HST2.out]; simp, HBW.out⟩
            case measure => simp [intOf]; omega
          · have q2 : ((FloatKind.f32.format.order r near == some .lt) || (FloatKind.f32.format.order r near == some .eq)) = false := by simpa using q1
            clear hn2 q1
            go_simp
            go_wp2_with fail
            go_roundw
            case rel => exact ⟨k + 1, by omega, rfl, by rw [HST2.out]; simp, HBW.out⟩
            case measure => simp [intOf]; omega
    · have hkl : k = len := by omega
      subst hkl
      go_wp2_with fail
      go_ret2
      exact ⟨rfl, (Below.alloc (Below.alloc (Below.refl _ _) (Nat.le_refl _) _) (by simp) _).trans (HB.out.mono (by omega))⟩

def RetI (n : Int) (ok : Bool) (w : World) (e : Ending) (w' : World) : Prop := e = .returned (.tuple #[.int .i64 n, .bool ok]) ∧ Below w.heap.size w w'
theorem spec_CountUnlike_bad (x y x1 y1 : Int) (a a2 : Option Addr) (len len2 cap cap2 : Nat) (near : Nat) (w : World) (hp : pairB x y x1 y1 len len2 = false) : Calls Try.prog 23 #[.agg #[.int .i64 x, .int .i64 y, .slice a len cap], .agg #[.int .i64 x1, .int .i64 y1, .slice a2 len2 cap2], .float .f32 near] w (RetI 0 false w) := by
  go_enter Try.func23, Try.ntmps23
  go_wp2_with fail
  have hq := spec_l02Two w.heap.size (w.heap.size + 1) x y x1 y1 a a2 len len2 cap cap2 ((w.alloc (.cells #[.int .i64 x, .int .i64 y, .slice a len cap] 27)).alloc (.cells #[.int .i64 x1, .int .i64 y1, .slice a2 len2 cap2] 27)) (by go_simp) (by go_simp) (by go_simp) (by go_simp) (by go_simp) (by go_simp)
  rw [hp] at hq
  refine hq.mono ?_
  clear hq hp
  rintro e w1 hq
  obtain ⟨rfl, b1⟩ := RetB.below hq
  clear hq
  go_wp2_with fail
  go_ret2
  exact ⟨rfl, (by repeat (first | exact Below.refl _ _ | refine Below.setCell ?_ (by first | (simp; done) | (simp; omega)) _ | refine Below.trans ?_ (Below.mono (by assumption) (by first | (simp; done) | (simp; omega))) | refine Below.alloc ?_ (by first | (simp; done) | (simp; omega)) _ | refine Below.alloc ?_ (Nat.le_refl _) _ | refine below_drewN ?_ _))⟩
theorem impl_CountUnlike_bad (x y x1 y1 : Int) (a a2 : Option Addr) (len len2 cap cap2 : Nat) (near : Nat) (w : World) (hp : pairB x y x1 y1 len len2 = false) : Calls Try.prog 24 #[.agg #[.int .i64 x, .int .i64 y, .slice a len cap], .agg #[.int .i64 x1, .int .i64 y1, .slice a2 len2 cap2], .float .f32 near] w (RetI 0 false w) := by
  go_enter Try.func24, Try.ntmps24
  go_wp2_with fail
  have hq := impl_pairOk x y x1 y1 a a2 len len2 cap cap2 ((w.alloc (.cells #[.int .i64 x, .int .i64 y, .slice a len cap] 27)).alloc (.cells #[.int .i64 x1, .int .i64 y1, .slice a2 len2 cap2] 27))
  rw [hp] at hq
  refine hq.mono ?_
  clear hq hp
  rintro e w1 ⟨rfl, b1⟩
  go_wp2_with fail
  go_ret2
  exact ⟨rfl, (by repeat (first | exact Below.refl _ _ | refine Below.setCell ?_ (by first | (simp; done) | (simp; omega)) _ | refine Below.trans ?_ (Below.mono (by assumption) (by first | (simp; done) | (simp; omega))) | refine Below.alloc ?_ (by first | (simp; done) | (simp; omega)) _ | refine Below.alloc ?_ (Nat.le_refl _) _ | refine below_drewN ?_ _))⟩
theorem impl_CountUnlike_ok (x y : Int) (a a2 : Option Addr) (len cap cap2 : Nat) (zs ys : List Nat) (near : Nat) (w : World) (h : IsFRow w a len cap zs) (h2 : IsFRow w a2 len cap2 ys) (hp : pairB x y x y len len = true) :
    Calls Try.prog 24 #[.agg #[.int .i64 x, .int .i64 y, .slice a len cap], .agg #[.int .i64 x, .int .i64 y, .slice a2 len cap2], .float .f32 near] w (RetI (cnt zs ys near len) true w) := by
  have H1 := Lib.hid h
  have H2 := Lib.hid h2
  clear h h2
  go_enter Try.func24, Try.ntmps24
  go_wp2_with fail
  have hq := impl_pairOk x y x y a a2 len len cap cap2 ((w.alloc (.cells #[.int .i64 x, .int .i64 y, .slice a len cap] 27)).alloc (.cells #[.int .i64 x, .int .i64 y, .slice a2 len cap2] 27))
  rw [hp] at hq
  refine hq.mono ?_
  clear hq hp
  rintro e w1 ⟨rfl, b1⟩
  have k00 : w1.cell? ⟨w.heap.size, 0, none⟩ = some (.int .i64 x) := (b1.cell (p := ⟨w.heap.size, 0, none⟩) (by first | (simp; done) | (simp; omega))).trans (by go_simp)
  have k01 : w1.cell? ⟨w.heap.size, 1, none⟩ = some (.int .i64 y) := (b1.cell (p := ⟨w.heap.size, 1, none⟩) (by first | (simp; done) | (simp; omega))).trans (by go_simp)
  have k02 : w1.cell? ⟨w.heap.size, 2, none⟩ = some (.slice a len cap) := (b1.cell (p := ⟨w.heap.size, 2, none⟩) (by first | (simp; done) | (simp; omega))).trans (by go_simp)
  have k10 : w1.cell? ⟨w.heap.size + 1, 0, none⟩ = some (.int .i64 x) := (b1.cell (p := ⟨w.heap.size + 1, 0, none⟩) (by first | (simp; done) | (simp; omega))).trans (by go_simp)
  have k11 : w1.cell? ⟨w.heap.size + 1, 1, none⟩ = some (.int .i64 y) := (b1.cell (p := ⟨w.heap.size + 1, 1, none⟩) (by first | (simp; done) | (simp; omega))).trans (by go_simp)
  have k12 : w1.cell? ⟨w.heap.size + 1, 2, none⟩ = some (.slice a2 len cap2) := (b1.cell (p := ⟨w.heap.size + 1, 2, none⟩) (by first | (simp; done) | (simp; omega))).trans (by go_simp)
  have BB : Below w.heap.size w w1 := (by repeat (first | exact Below.refl _ _ | refine Below.setCell ?_ (by first | (simp; done) | (simp; omega)) _ | refine Below.trans ?_ (Below.mono (by assumption) (by first | (simp; done) | (simp; omega))) | refine Below.alloc ?_ (by first | (simp; done) | (simp; omega)) _ | refine Below.alloc ?_ (Nat.le_refl _) _ | refine below_drewN ?_ _))
  have HB := Lib.hid BB
  clear b1 BB
  go_wp2_with fail
  refine (impl_unlike a a2 len cap cap2 zs ys near w1 (IsFRow.below H1.out HB.out) (IsFRow.below H2.out HB.out)).mono ?_
  rintro e w2 ⟨n, rfl, rfl⟩
  go_wp2_with fail
  go_ret2
  exact ⟨rfl, HB.out.trans ((below_drewN (Below.refl _ _) n).mono HB.out.size)⟩

theorem CountUnlike_pair (x y x1 y1 : Int) (len len2 : Nat) (zs ys : List Nat) (near : Nat) : ∃ (n : Int) (ok : Bool),
  (∀ W a cap a2 cap2, IsFRow W a len cap zs → IsFRow W a2 len2 cap2 ys → Calls Try.prog 23 #[.agg #[.int .i64 x, .int .i64 y, .slice a len cap], .agg #[.int .i64 x1, .int .i64 y1, .slice a2 len2 cap2], .float .f32 near] W (RetI n ok W)) ∧
  (∀ W a cap a2 cap2, IsFRow W a len cap zs → IsFRow W a2 len2 cap2 ys → Calls Try.prog 24 #[.agg #[.int .i64 x, .int .i64 y, .slice a len cap], .agg #[.int .i64 x1, .int .i64 y1, .slice a2 len2 cap2], .float .f32 near] W (RetI n ok W)) := by
  cases hp : pairB x y x1 y1 len len2 with
  | false => exact ⟨0, false, fun W a cap a2 cap2 _ _ => spec_CountUnlike_bad x y x1 y1 a a2 len len2 cap cap2 near W hp, fun W a cap a2 cap2 _ _ => impl_CountUnlike_bad x y x1 y1 a a2 len len2 cap cap2 near W hp⟩
  | true =>
    have hp0 := hp
    unfold pairB at hp0
    rw [Bool.and_eq_true, Bool.and_eq_true, Bool.and_eq_true, beq_iff_eq, beq_iff_eq] at hp0
    obtain ⟨⟨⟨v1, v2⟩, rfl⟩, rfl⟩ := hp0
    obtain ⟨X, Y, rfl, rfl, hl, hW, hH⟩ := valid_nat v1
    obtain ⟨X2, Y2, e1, e2, hl2, -, -⟩ := valid_nat v2
    have e1' := Int.ofNat.inj e1
    have e2' := Int.ofNat.inj e2
    have hle : len2 = len := by rw [hl, hl2, ← e1', ← e2']
    clear e1 e2 e1' e2' hl2
    subst hle
    have h1 : 1 ≤ len2 := by rw [hl]; exact Nat.mul_pos hW.1 hH.1
    have h2 : len2 ≤ 576 := by rw [hl]; exact Nat.mul_le_mul hW.2 hH.2
    exact ⟨cnt zs ys near len2, true, fun W a cap a2 cap2 h h' => spec_CountUnlike_ok X Y a a2 len2 cap cap2 zs ys near W h h' h1 h2 hp, fun W a cap a2 cap2 h h' => impl_CountUnlike_ok X Y a a2 len2 cap cap2 zs ys near W h h' hp⟩
end Go.Proofs.Ytbjahmfijlkajaa
