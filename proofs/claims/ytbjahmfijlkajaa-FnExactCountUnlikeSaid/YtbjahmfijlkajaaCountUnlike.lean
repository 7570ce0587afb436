/-
  How many cells of two pictures are not near: the law's walk.
-/
import Derived.Test.YtbjahmfijlkajaaCountA
import Derived.Test.YtbjahmfijlkajaaDown
namespace Go.Proofs.Ytbjahmfijlkajaa
open Go.RowKit Go.FL
theorem HB2 {w w' : World} {c c2 : Array Value} {t t2 : TypeId} (h : Below ((w.alloc (.cells c t)).alloc (.cells c2 t2)).heap.size ((w.alloc (.cells c t)).alloc (.cells c2 t2)) w') : Below w.heap.size w w' :=
  (Below.alloc (Below.alloc (Below.refl _ _) (Nat.le_refl _) _) (by simp) _).trans (h.mono (by simp; omega))
attribute [local irreducible] Oper.wp in
theorem FnExactCountUnlike_walk (x y : Int) (a : Option Addr) (len cap : Nat) (zs : List Nat) (x1 y1 : Int) (a2 : Option Addr) (len2 cap2 : Nat) (ys : List Nat) (near : Nat) (w : World) (h : PicOk w x y a len cap zs) (h2 : PicOk w x1 y1 a2 len2 cap2 ys) (_ : (Lit.float .f32 near).wf = true) :
    Calls Try.prog 6 #[.agg #[.int .i64 x, .int .i64 y, .slice a len cap], .agg #[.int .i64 x1, .int .i64 y1, .slice a2 len2 cap2], .float .f32 near] w fun e w' => e = .returned (.bool true) ∧ Below w.heap.size w w' := by
  obtain ⟨-, -, hrow⟩ := h
  obtain ⟨-, -, hrow2⟩ := h2
  obtain ⟨n', ok, hs, hi⟩ := CountUnlike_pair x y x1 y1 len len2 zs ys near
  have hcl : len ≤ 9223372036854775807 := by have h1 := hrow.2.1; have h2 := hrow.2.2.1; unfold maxLen at h2; omega
  have hcl2 : len2 ≤ 9223372036854775807 := by have h1 := hrow2.2.1; have h2 := hrow2.2.2.1; unfold maxLen at h2; omega
  have H0 := Lib.hid hrow
  have H1 := Lib.hid hrow2
  have HS := Lib.hid hs
  have HI := Lib.hid hi
  clear hrow hrow2 hs hi
  by_cases hl : (len : Int) ≤ 1048576
  case neg =>
    go_enter Try.func6, Try.ntmps6
    go_wp2_with fail
    refine (szPicture_no x y a len cap 1048576 _ hcl (by omega) (by omega)).mono ?_
    rintro e w1 ⟨rfl, hb⟩
    go_wp2_with fail
    go_ret
    exact ⟨rfl, HB2 hb⟩
  by_cases hm : (len2 : Int) ≤ 1048576 - len
  case neg =>
    go_enter Try.func6, Try.ntmps6
    go_wp2_with fail
    refine (szPicture_ok x y a len cap 1048576 _ hl (by omega)).mono ?_
    rintro e w1 ⟨rfl, b1⟩
    have D := Lib.hid b1
    clear b1
    have k00 : w1.cell? ⟨w.heap.size, 0, none⟩ = some (.int .i64 x) := (D.out.cell (p := ⟨w.heap.size, 0, none⟩) (by first | (simp; done) | (simp; omega))).trans (by go_simp)
    have k01 : w1.cell? ⟨w.heap.size, 1, none⟩ = some (.int .i64 y) := (D.out.cell (p := ⟨w.heap.size, 1, none⟩) (by first | (simp; done) | (simp; omega))).trans (by go_simp)
    have k02 : w1.cell? ⟨w.heap.size, 2, none⟩ = some (.slice a len cap) := (D.out.cell (p := ⟨w.heap.size, 2, none⟩) (by first | (simp; done) | (simp; omega))).trans (by go_simp)
    have k10 : w1.cell? ⟨w.heap.size + 1, 0, none⟩ = some (.int .i64 x1) := (D.out.cell (p := ⟨w.heap.size + 1, 0, none⟩) (by first | (simp; done) | (simp; omega))).trans (by go_simp)
    have k11 : w1.cell? ⟨w.heap.size + 1, 1, none⟩ = some (.int .i64 y1) := (D.out.cell (p := ⟨w.heap.size + 1, 1, none⟩) (by first | (simp; done) | (simp; omega))).trans (by go_simp)
    have k12 : w1.cell? ⟨w.heap.size + 1, 2, none⟩ = some (.slice a2 len2 cap2) := (D.out.cell (p := ⟨w.heap.size + 1, 2, none⟩) (by first | (simp; done) | (simp; omega))).trans (by go_simp)
    go_wp2_with fail
    refine (szPicture_no x1 y1 a2 len2 cap2 (1048576 - len) _ hcl2 (by omega) (by omega)).mono ?_
    rintro e w2 ⟨rfl, hb⟩
    have D2 := HB2 (D.out.trans (hb.mono D.out.size))
    go_wp2_with fail
    go_ret
    exact ⟨rfl, D2⟩
  have hl0 : len ≤ 1048576 := by omega
  have hl1 : len2 ≤ 1048576 := by omega
  go_enter Try.func6, Try.ntmps6
  go_wp2_with fail
  refine (szPicture_ok x y a len cap 1048576 _ hl (by omega)).mono ?_
  rintro e w1 ⟨rfl, b1⟩
  have D := Lib.hid b1
  clear b1
  have k00 : w1.cell? ⟨w.heap.size, 0, none⟩ = some (.int .i64 x) := (D.out.cell (p := ⟨w.heap.size, 0, none⟩) (by first | (simp; done) | (simp; omega))).trans (by go_simp)
  have k01 : w1.cell? ⟨w.heap.size, 1, none⟩ = some (.int .i64 y) := (D.out.cell (p := ⟨w.heap.size, 1, none⟩) (by first | (simp; done) | (simp; omega))).trans (by go_simp)
  have k02 : w1.cell? ⟨w.heap.size, 2, none⟩ = some (.slice a len cap) := (D.out.cell (p := ⟨w.heap.size, 2, none⟩) (by first | (simp; done) | (simp; omega))).trans (by go_simp)
  have k10 : w1.cell? ⟨w.heap.size + 1, 0, none⟩ = some (.int .i64 x1) := (D.out.cell (p := ⟨w.heap.size + 1, 0, none⟩) (by first | (simp; done) | (simp; omega))).trans (by go_simp)
  have k11 : w1.cell? ⟨w.heap.size + 1, 1, none⟩ = some (.int .i64 y1) := (D.out.cell (p := ⟨w.heap.size + 1, 1, none⟩) (by first | (simp; done) | (simp; omega))).trans (by go_simp)
  have k12 : w1.cell? ⟨w.heap.size + 1, 2, none⟩ = some (.slice a2 len2 cap2) := (D.out.cell (p := ⟨w.heap.size + 1, 2, none⟩) (by first | (simp; done) | (simp; omega))).trans (by go_simp)
  go_wp2_with fail
  refine (szPicture_ok x1 y1 a2 len2 cap2 (1048576 - len) _ hm (by omega)).mono ?_
  rintro e w2 ⟨rfl, b2⟩
  have t1 : w.heap.size + 2 ≤ w1.heap.size := by have := D.out.size; simp at this; omega
  have t2 : w.heap.size + 2 ≤ w2.heap.size := by have := b2.size; omega
  have EE := Lib.hid (HB2 (D.out.trans (b2.mono D.out.size)))
  have K0 : RowKit.Hid (At3 w2 (w.heap.size) (.int .i64 x) (.int .i64 y) (.slice a len cap)) := Lib.hid ⟨(b2.cell (p := ⟨w.heap.size, 0, none⟩) (show w.heap.size < w1.heap.size from by omega)).trans k00, (b2.cell (p := ⟨w.heap.size, 1, none⟩) (show w.heap.size < w1.heap.size from by omega)).trans k01, (b2.cell (p := ⟨w.heap.size, 2, none⟩) (show w.heap.size < w1.heap.size from by omega)).trans k02⟩
  have K1 : RowKit.Hid (At3 w2 (w.heap.size + 1) (.int .i64 x1) (.int .i64 y1) (.slice a2 len2 cap2)) := Lib.hid ⟨(b2.cell (p := ⟨w.heap.size + 1, 0, none⟩) (show w.heap.size + 1 < w1.heap.size from by omega)).trans k10, (b2.cell (p := ⟨w.heap.size + 1, 1, none⟩) (show w.heap.size + 1 < w1.heap.size from by omega)).trans k11, (b2.cell (p := ⟨w.heap.size + 1, 2, none⟩) (show w.heap.size + 1 < w1.heap.size from by omega)).trans k12⟩
  clear k00 k01 k02 k10 k11 k12 b2 D
  go_wp2_with fail
  refine wp_region_allB (by kernel_rfl) (by kernel_rfl) 11 (by kernel_rfl) (fun _ v => ⟨#[Value.agg #[Value.int IntKind.i64 x, Value.int IntKind.i64 y, Value.slice a len cap], Value.agg #[Value.int IntKind.i64 x1, Value.int IntKind.i64 y1, Value.slice a2 len2 cap2], Value.float FloatKind.f32 near, Value.pointer (some ⟨w.heap.size, 0, none⟩), Value.pointer (some ⟨w.heap.size + 1, 0, none⟩), undef, Value.bool false, Value.int IntKind.i64 (1048576 - (len : Int) - (len2 : Int)), v 9, v 10, undef, undef, undef, undef, Value.agg #[Value.int IntKind.i64 x, Value.int IntKind.i64 y, Value.slice a len cap], Value.int IntKind.i64 1048576, Value.int IntKind.i64 (1048576 - (len : Int)), Value.int IntKind.i64 (1048576 - (len : Int)), Value.bool (decide (1048576 - (len : Int) < 0)), Value.agg #[Value.int IntKind.i64 x1, Value.int IntKind.i64 y1, Value.slice a2 len2 cap2], Value.int IntKind.i64 (1048576 - (len : Int)), Value.int IntKind.i64 (1048576 - (len : Int) - (len2 : Int)), Value.int IntKind.i64 (1048576 - (len : Int) - (len2 : Int)), Value.bool (decide (1048576 - (len : Int) - (len2 : Int) < 0)), v 6, v 0, v 1, v 2, v 3, v 4, v 5, v 7, v 8, undef, undef, undef, undef, undef, undef, undef, undef, undef, undef, undef, undef, undef, undef, undef, undef, undef, undef, undef, undef, undef, undef, undef, undef, undef, undef, undef, undef, undef], []⟩)
    (fun W => Below w2.heap.size w2 W)
    (fun j W s => match j with | 0 => s = .agg #[.int .i64 x, .int .i64 y, .slice a len cap] | 1 => ∃ g, s = .agg #[.int .i64 x, .int .i64 y, .slice (some ⟨g, 0, none⟩) len len] ∧ IsFRow W (some ⟨g, 0, none⟩) len len zs | 2 => s = .agg #[.int .i64 x1, .int .i64 y1, .slice a2 len2 cap2] | 3 => ∃ g, s = .agg #[.int .i64 x1, .int .i64 y1, .slice (some ⟨g, 0, none⟩) len2 len2] ∧ IsFRow W (some ⟨g, 0, none⟩) len2 len2 ys | 4 => s = .float .f32 near | 5 => s = .tuple #[.int .i64 n', .bool ok] | 6 => s = .tuple #[.int .i64 n', .bool ok] | 7 => s = .int .i64 n' | 8 => s = .bool ok | 9 => s = .int .i64 n' | 10 => s = .bool ok | _ => True) ?_ ?_ (Below.refl _ _).drew ?_ ?_
  · intro j W W' v hb
    rcases j with _ | _ | _ | _ | _ | _ | _ | _ | _ | _ | _ | j
    · exact id
    · rintro ⟨g, e, f⟩
      exact ⟨g, e, IsFRow.below f hb⟩
    · exact id
    · rintro ⟨g, e, f⟩
      exact ⟨g, e, IsFRow.below f hb⟩
    · exact id
    · exact id
    · exact id
    · exact id
    · exact id
    · exact id
    · exact id
    · exact id
  · exact ⟨fun i => [undef, undef, undef, undef, undef, undef, undef, undef, undef, undef, undef].getD i undef, rfl⟩
  · intro i o ho hlt vals W hG hd
    rcases i with _ | _ | _ | _ | _ | _ | _ | _ | _ | _ | _ | i
    · refine wpOp_run ho (by cases Option.some.inj ho; rfl) ?_
      cases Option.some.inj ho
      obtain ⟨c0, c1, c2⟩ := At3.below K0.out hG (by omega)
      go_simp
      exact ⟨_, rfl, Below.refl _ _, hG, rfl⟩
    · refine wpOp_run ho (by cases Option.some.inj ho; rfl) ?_
      cases Option.some.inj ho
      have hc := toPicture x y a len cap zs W (IsFRow.below H0.out (EE.out.trans (hG.mono EE.out.size))) hl0
      rw [← (show vals 0 = .agg #[.int .i64 x, .int .i64 y, .slice a len cap] from hd ⟨0, .data⟩ (by simp) rfl)] at hc
      go_simp
      refine hc.mono ?_
      rintro e w' ⟨g, rfl, f, hb⟩
      exact ⟨_, rfl, hb, hG.trans (hb.mono hG.size), g, rfl, f⟩
    · refine wpOp_run ho (by cases Option.some.inj ho; rfl) ?_
      cases Option.some.inj ho
      obtain ⟨c0, c1, c2⟩ := At3.below K1.out hG (by omega)
      go_simp
      exact ⟨_, rfl, Below.refl _ _, hG, rfl⟩
    · refine wpOp_run ho (by cases Option.some.inj ho; rfl) ?_
      cases Option.some.inj ho
      have hc := toPicture x1 y1 a2 len2 cap2 ys W (IsFRow.below H1.out (EE.out.trans (hG.mono EE.out.size))) hl1
      rw [← (show vals 2 = .agg #[.int .i64 x1, .int .i64 y1, .slice a2 len2 cap2] from hd ⟨2, .data⟩ (by simp) rfl)] at hc
      go_simp
      refine hc.mono ?_
      rintro e w' ⟨g, rfl, f, hb⟩
      exact ⟨_, rfl, hb, hG.trans (hb.mono hG.size), g, rfl, f⟩
    · refine wpOp_run ho (by cases Option.some.inj ho; rfl) ?_
      cases Option.some.inj ho
      go_simp
      exact ⟨.float .f32 near, by simp [upd_at], Below.refl _ _, hG, rfl⟩
    · refine wpOp_run ho (by cases Option.some.inj ho; rfl) ?_
      cases Option.some.inj ho
      obtain ⟨g0, e1, f0⟩ := (show ∃ g, vals 1 = .agg #[.int .i64 x, .int .i64 y, .slice (some ⟨g, 0, none⟩) len len] ∧ IsFRow W (some ⟨g, 0, none⟩) len len zs from hd ⟨1, .data⟩ (by simp) rfl)
      obtain ⟨g1, e3, f1⟩ := (show ∃ g, vals 3 = .agg #[.int .i64 x1, .int .i64 y1, .slice (some ⟨g, 0, none⟩) len2 len2] ∧ IsFRow W (some ⟨g, 0, none⟩) len2 len2 ys from hd ⟨3, .data⟩ (by simp) rfl)
      have e4 : vals 4 = .float .f32 near := hd ⟨4, .data⟩ (by simp) rfl
      have hc := HS.out W _ _ _ _ f0 f1
      rw [← e1, ← e3, ← e4] at hc
      clear e1 e3 e4 f0 f1
      go_simp
      refine hc.mono ?_
      rintro e w' ⟨rfl, hb⟩
      exact ⟨_, rfl, hb, hG.trans (hb.mono hG.size), rfl⟩
    · refine wpOp_run ho (by cases Option.some.inj ho; rfl) ?_
      cases Option.some.inj ho
      have e5 : vals 5 = .tuple #[.int .i64 n', .bool ok] := hd ⟨5, .data⟩ (by simp) rfl
      go_simp
      exact ⟨.tuple #[.int .i64 n', .bool ok], by simp [upd_at, e5], Below.refl _ _, hG, rfl⟩
    · refine wpOp_run ho (by cases Option.some.inj ho; rfl) ?_
      cases Option.some.inj ho
      have e6 : vals 6 = .tuple #[.int .i64 n', .bool ok] := hd ⟨6, .data⟩ (by simp) rfl
      go_simp
      exact ⟨.int .i64 n', by simp [upd_at, e6], Below.refl _ _, hG, rfl⟩
    · refine wpOp_run ho (by cases Option.some.inj ho; rfl) ?_
      cases Option.some.inj ho
      have e6 : vals 6 = .tuple #[.int .i64 n', .bool ok] := hd ⟨6, .data⟩ (by simp) rfl
      go_simp
      exact ⟨.bool ok, by simp [upd_at, e6], Below.refl _ _, hG, rfl⟩
    · refine wpOp_run ho (by cases Option.some.inj ho; rfl) ?_
      cases Option.some.inj ho
      have e7 : vals 7 = .int .i64 n' := hd ⟨7, .data⟩ (by simp) rfl
      go_simp
      exact ⟨.int .i64 n', by simp [upd_at, e7], Below.refl _ _, hG, rfl⟩
    · refine wpOp_run ho (by cases Option.some.inj ho; rfl) ?_
      cases Option.some.inj ho
      have e8 : vals 8 = .bool ok := hd ⟨8, .data⟩ (by simp) rfl
      go_simp
      exact ⟨.bool ok, by simp [upd_at, e8], Below.refl _ _, hG, rfl⟩
    · omega
  · intro vals w3 b3 hR
    have e9 : vals 9 = .int .i64 n' := hR 9 (by omega)
    have e10 : vals 10 = .bool ok := hR 10 (by omega)
    clear hR
    have t3 : w2.heap.size ≤ w3.heap.size := by have := b3.size; first | omega | (simp at this; omega)
    have BB : Below w2.heap.size w2 w3 := (by repeat (first | exact Below.refl _ _ | refine Below.setCell ?_ (by first | (simp; done) | (simp; omega)) _ | refine Below.trans ?_ (Below.mono (by assumption) (by first | (simp; done) | (simp; omega))) | refine Below.alloc ?_ (by first | (simp; done) | (simp; omega)) _ | refine Below.alloc ?_ (Nat.le_refl _) _ | refine below_drewN ?_ _))
    replace EE := Lib.hid (EE.out.trans (BB.mono (by omega)))
    replace K0 := Lib.hid (At3.below K0.out BB (by omega))
    replace K1 := Lib.hid (At3.below K1.out BB (by omega))
    clear BB b3
    obtain ⟨c00, c01, c02⟩ := K0.out
    go_wp2_with fail
    clear c00 c01 c02
    refine (toPicture_own x y a len cap zs _ (IsFRow.below H0.out (EE.out.trans (Below.mono (B := w3.heap.size) (by repeat (first | exact Below.refl _ _ | refine Below.setCell ?_ (by first | (simp; done) | (simp; omega)) _ | refine Below.trans ?_ (Below.mono (by assumption) (by first | (simp; done) | (simp; omega))) | refine Below.alloc ?_ (by first | (simp; done) | (simp; omega)) _ | refine Below.alloc ?_ (Nat.le_refl _) _ | refine below_drewN ?_ _)) (by omega)))) hl0).mono ?_
    rintro e w4 ⟨g4, rfl, r4, b4⟩
    have R4 := Lib.hid r4
    clear r4
    have t4 : w3.heap.size ≤ w4.heap.size := by have := b4.size; first | omega | (simp at this; omega)
    have BB : Below w3.heap.size w3 w4 := (by repeat (first | exact Below.refl _ _ | refine Below.setCell ?_ (by first | (simp; done) | (simp; omega)) _ | refine Below.trans ?_ (Below.mono (by assumption) (by first | (simp; done) | (simp; omega))) | refine Below.alloc ?_ (by first | (simp; done) | (simp; omega)) _ | refine Below.alloc ?_ (Nat.le_refl _) _ | refine below_drewN ?_ _))
    replace EE := Lib.hid (EE.out.trans (BB.mono (by omega)))
    replace K0 := Lib.hid (At3.below K0.out BB (by omega))
    replace K1 := Lib.hid (At3.below K1.out BB (by omega))
    clear BB b4
    obtain ⟨c10, c11, c12⟩ := K1.out
    have n4 : w.heap.size + 1 ≠ w4.heap.size := by omega
    have m4 : w.heap.size + 1 < w4.heap.size := by omega
    go_wp2_with fail
    clear c10 c11 c12
    refine (toPicture_own x1 y1 a2 len2 cap2 ys _ (IsFRow.below H1.out (EE.out.trans (Below.mono (B := w4.heap.size) (by repeat (first | exact Below.refl _ _ | refine Below.setCell ?_ (by first | (simp; done) | (simp; omega)) _ | refine Below.trans ?_ (Below.mono (by assumption) (by first | (simp; done) | (simp; omega))) | refine Below.alloc ?_ (by first | (simp; done) | (simp; omega)) _ | refine Below.alloc ?_ (Nat.le_refl _) _ | refine below_drewN ?_ _)) (by omega)))) hl1).mono ?_
    rintro e w5 ⟨g5, rfl, r5, b5⟩
    have R5 := Lib.hid r5
    clear r5
    have t5 : w4.heap.size + 1 ≤ w5.heap.size := by have := b5.size; first | omega | (simp at this; omega)
    have BB : Below w4.heap.size w4 w5 := (by repeat (first | exact Below.refl _ _ | refine Below.setCell ?_ (by first | (simp; done) | (simp; omega)) _ | refine Below.trans ?_ (Below.mono (by assumption) (by first | (simp; done) | (simp; omega))) | refine Below.alloc ?_ (by first | (simp; done) | (simp; omega)) _ | refine Below.alloc ?_ (Nat.le_refl _) _ | refine below_drewN ?_ _))
    replace EE := Lib.hid (EE.out.trans (BB.mono (by omega)))
    replace K0 := Lib.hid (At3.below K0.out BB (by omega))
    replace K1 := Lib.hid (At3.below K1.out BB (by omega))
    replace R4 := Lib.hid (R4.out.below BB)
    have K10 : RowKit.Hid (At3 w5 w4.heap.size (.int .i64 x) (.int .i64 y) (.slice (some ⟨g4, 0, none⟩) len len)) := Lib.hid ⟨(b5.cell (p := ⟨w4.heap.size, 0, none⟩) (by simp)).trans (by go_simp), (b5.cell (p := ⟨w4.heap.size, 1, none⟩) (by simp)).trans (by go_simp), (b5.cell (p := ⟨w4.heap.size, 2, none⟩) (by simp)).trans (by go_simp)⟩
    clear BB b5
    obtain ⟨c100, c101, c102⟩ := K10.out
    have n5 : w4.heap.size ≠ w5.heap.size := by omega
    have m5 : w4.heap.size < w5.heap.size := by omega
    go_wp2_with fail
    clear c100 c101 c102
    refine (HI.out _ _ _ _ _ (R4.out.below (by repeat (first | exact Below.refl _ _ | refine Below.setCell ?_ (by first | (simp; done) | (simp; omega)) _ | refine Below.trans ?_ (Below.mono (by assumption) (by first | (simp; done) | (simp; omega))) | refine Below.alloc ?_ (by first | (simp; done) | (simp; omega)) _ | refine Below.alloc ?_ (Nat.le_refl _) _ | refine below_drewN ?_ _))).row (R5.out.below (by repeat (first | exact Below.refl _ _ | refine Below.setCell ?_ (by first | (simp; done) | (simp; omega)) _ | refine Below.trans ?_ (Below.mono (by assumption) (by first | (simp; done) | (simp; omega))) | refine Below.alloc ?_ (by first | (simp; done) | (simp; omega)) _ | refine Below.alloc ?_ (Nat.le_refl _) _ | refine below_drewN ?_ _))).row).mono ?_
    rintro e w6 ⟨rfl, b6⟩
    have t6 : w5.heap.size + 1 ≤ w6.heap.size := by have := b6.size; first | omega | (simp at this; omega)
    have BB : Below w5.heap.size w5 w6 := (by repeat (first | exact Below.refl _ _ | refine Below.setCell ?_ (by first | (simp; done) | (simp; omega)) _ | refine Below.trans ?_ (Below.mono (by assumption) (by first | (simp; done) | (simp; omega))) | refine Below.alloc ?_ (by first | (simp; done) | (simp; omega)) _ | refine Below.alloc ?_ (Nat.le_refl _) _ | refine below_drewN ?_ _))
    replace EE := Lib.hid (EE.out.trans (BB.mono (by omega)))
    replace K0 := Lib.hid (At3.below K0.out BB (by omega))
    replace K1 := Lib.hid (At3.below K1.out BB (by omega))
    replace K10 := Lib.hid (At3.below K10.out BB (by omega))
    replace R4 := Lib.hid (R4.out.below BB)
    replace R5 := Lib.hid (R5.out.below BB)
    have K11 : RowKit.Hid (At3 w6 w5.heap.size (.int .i64 x1) (.int .i64 y1) (.slice (some ⟨g5, 0, none⟩) len2 len2)) := Lib.hid ⟨(b6.cell (p := ⟨w5.heap.size, 0, none⟩) (by simp)).trans (by go_simp), (b6.cell (p := ⟨w5.heap.size, 1, none⟩) (by simp)).trans (by go_simp), (b6.cell (p := ⟨w5.heap.size, 2, none⟩) (by simp)).trans (by go_simp)⟩
    clear BB b6
    clear n4 m4 n5 m5
    go_wp2_with fail
    refine wp_region_all (by kernel_rfl) (by kernel_rfl) 5 (by kernel_rfl) (fun _ v => ⟨#[Value.agg #[Value.int IntKind.i64 x, Value.int IntKind.i64 y, Value.slice a len cap], Value.agg #[Value.int IntKind.i64 x1, Value.int IntKind.i64 y1, Value.slice a2 len2 cap2], Value.float FloatKind.f32 near, Value.pointer (some ⟨w.heap.size, 0, none⟩), Value.pointer (some ⟨w.heap.size + 1, 0, none⟩), undef, Value.bool false, Value.int IntKind.i64 (1048576 - (len : Int) - (len2 : Int)), Value.int IntKind.i64 n', Value.bool ok, Value.pointer (some ⟨w4.heap.size, 0, none⟩), Value.pointer (some ⟨w5.heap.size, 0, none⟩), Value.int IntKind.i64 n', Value.bool ok, Value.agg #[Value.int IntKind.i64 x, Value.int IntKind.i64 y, Value.slice a len cap], Value.int IntKind.i64 1048576, Value.int IntKind.i64 (1048576 - (len : Int)), Value.int IntKind.i64 (1048576 - (len : Int)), Value.bool (decide (1048576 - (len : Int) < 0)), Value.agg #[Value.int IntKind.i64 x1, Value.int IntKind.i64 y1, Value.slice a2 len2 cap2], Value.int IntKind.i64 (1048576 - (len : Int)), Value.int IntKind.i64 (1048576 - (len : Int) - (len2 : Int)), Value.int IntKind.i64 (1048576 - (len : Int) - (len2 : Int)), Value.bool (decide (1048576 - (len : Int) - (len2 : Int) < 0)), vals 6, vals 0, vals 1, vals 2, vals 3, vals 4, vals 5, vals 7, vals 8, Value.agg #[Value.int IntKind.i64 x, Value.int IntKind.i64 y, Value.slice a len cap], Value.agg #[Value.int IntKind.i64 x, Value.int IntKind.i64 y, Value.slice (some ⟨g4, 0, none⟩) len len], Value.agg #[Value.int IntKind.i64 x1, Value.int IntKind.i64 y1, Value.slice a2 len2 cap2], Value.agg #[Value.int IntKind.i64 x1, Value.int IntKind.i64 y1, Value.slice (some ⟨g5, 0, none⟩) len2 len2], Value.tuple #[Value.int IntKind.i64 n', Value.bool ok], Value.agg #[Value.int IntKind.i64 x, Value.int IntKind.i64 y, Value.slice (some ⟨g4, 0, none⟩) len len], Value.agg #[Value.int IntKind.i64 x1, Value.int IntKind.i64 y1, Value.slice (some ⟨g5, 0, none⟩) len2 len2], Value.float FloatKind.f32 near, Value.tuple #[Value.int IntKind.i64 n', Value.bool ok], Value.int IntKind.i64 n', Value.bool ok, Value.int IntKind.i64 n', Value.int IntKind.i64 n', Value.bool false, Value.bool false, Value.bool ok, Value.bool ok, Value.bool false, Value.bool false, v 0, v 1, v 2, v 3, v 4, undef, undef, undef, undef, undef], []⟩)
      (fun W => Below w6.heap.size w6 W)
      (fun j W s => match j with | 0 => s = .agg #[.int .i64 x, .int .i64 y, .slice (some ⟨g4, 0, none⟩) len len] | 1 => s = .agg #[.int .i64 x, .int .i64 y, .slice a len cap] | 2 => ∃ g, s = .agg #[.int .i64 x, .int .i64 y, .slice (some ⟨g, 0, none⟩) len len] ∧ IsFRow W (some ⟨g, 0, none⟩) len len zs | 3 => s = .bool true | 4 => s = .bool false | _ => True) ?_ ?_ (Below.refl _ _).drew ?_ ?_
    · intro j W W' v hb
      rcases j with _ | _ | _ | _ | _ | j
      · exact id
      · exact id
      · rintro ⟨g, e, f⟩
        exact ⟨g, e, IsFRow.below f hb⟩
      · exact id
      · exact id
      · exact id
    · exact ⟨fun _ => undef, rfl⟩
    · intro i o ho hlt vb W hG hd
      rcases i with _ | _ | _ | _ | _ | i
      · refine wpOp_run ho (by cases Option.some.inj ho; rfl) ?_
        cases Option.some.inj ho
        obtain ⟨c0, c1, c2⟩ := At3.below K10.out hG (by omega)
        go_simp
        exact ⟨_, rfl, Below.refl _ _, hG, rfl⟩
      · refine wpOp_run ho (by cases Option.some.inj ho; rfl) ?_
        cases Option.some.inj ho
        obtain ⟨c0, c1, c2⟩ := At3.below K0.out hG (by omega)
        go_simp
        exact ⟨_, rfl, Below.refl _ _, hG, rfl⟩
      · refine wpOp_run ho (by cases Option.some.inj ho; rfl) ?_
        cases Option.some.inj ho
        have hc := toPicture x y a len cap zs W (IsFRow.below H0.out (EE.out.trans (hG.mono EE.out.size))) hl0
        rw [← (show vb 1 = .agg #[.int .i64 x, .int .i64 y, .slice a len cap] from hd ⟨1, .data⟩ (by simp) rfl)] at hc
        go_simp
        refine hc.mono ?_
        rintro e w' ⟨g, rfl, f, hb⟩
        exact ⟨_, rfl, hb, hG.trans (hb.mono hG.size), g, rfl, f⟩
      · refine wpOp_run ho (by cases Option.some.inj ho; rfl) ?_
        cases Option.some.inj ho
        obtain ⟨g, e2, f⟩ := (show ∃ g, vb 2 = .agg #[.int .i64 x, .int .i64 y, .slice (some ⟨g, 0, none⟩) len len] ∧ IsFRow W (some ⟨g, 0, none⟩) len len zs from hd ⟨2, .data⟩ (by simp) rfl)
        have hc := eqPicture x y _ _ len len len zs W (R4.out.below hG).row f
        rw [← e2, ← (show vb 0 = .agg #[.int .i64 x, .int .i64 y, .slice (some ⟨g4, 0, none⟩) len len] from hd ⟨0, .data⟩ (by simp) rfl)] at hc
        clear e2 f
        go_simp
        refine hc.mono ?_
        rintro e w' ⟨rfl, hb⟩
        exact ⟨_, rfl, hb, hG.trans (hb.mono hG.size), rfl⟩
      · refine wpOp_run ho (by cases Option.some.inj ho; rfl) ?_
        cases Option.some.inj ho
        have e3 : vb 3 = .bool true := hd ⟨3, .data⟩ (by simp) rfl
        go_simp
        exact ⟨.bool false, by simp [upd_at, e3], Below.refl _ _, hG, rfl⟩
      · omega
    · intro vb w7 b7 hR
      have e4 : vb 4 = .bool false := hR 4 (by omega)
      simp only [Exit.then, e4]
      clear hR
      have t7 : w6.heap.size ≤ w7.heap.size := by have := b7.size; first | omega | (simp at this; omega)
      have BB : Below w6.heap.size w6 w7 := (by repeat (first | exact Below.refl _ _ | refine Below.setCell ?_ (by first | (simp; done) | (simp; omega)) _ | refine Below.trans ?_ (Below.mono (by assumption) (by first | (simp; done) | (simp; omega))) | refine Below.alloc ?_ (by first | (simp; done) | (simp; omega)) _ | refine Below.alloc ?_ (Nat.le_refl _) _ | refine below_drewN ?_ _))
      replace EE := Lib.hid (EE.out.trans (BB.mono (by omega)))
      replace K0 := Lib.hid (At3.below K0.out BB (by omega))
      replace K1 := Lib.hid (At3.below K1.out BB (by omega))
      replace K10 := Lib.hid (At3.below K10.out BB (by omega))
      replace K11 := Lib.hid (At3.below K11.out BB (by omega))
      replace R4 := Lib.hid (R4.out.below BB)
      replace R5 := Lib.hid (R5.out.below BB)
      clear BB b7
      go_wp2_with fail
      refine wp_region_all (by kernel_rfl) (by kernel_rfl) 5 (by kernel_rfl) (fun _ v => ⟨#[Value.agg #[Value.int IntKind.i64 x, Value.int IntKind.i64 y, Value.slice a len cap], Value.agg #[Value.int IntKind.i64 x1, Value.int IntKind.i64 y1, Value.slice a2 len2 cap2], Value.float FloatKind.f32 near, Value.pointer (some ⟨w.heap.size, 0, none⟩), Value.pointer (some ⟨w.heap.size + 1, 0, none⟩), undef, Value.bool false, Value.int IntKind.i64 (1048576 - (len : Int) - (len2 : Int)), Value.int IntKind.i64 n', Value.bool ok, Value.pointer (some ⟨w4.heap.size, 0, none⟩), Value.pointer (some ⟨w5.heap.size, 0, none⟩), Value.int IntKind.i64 n', Value.bool ok, Value.agg #[Value.int IntKind.i64 x, Value.int IntKind.i64 y, Value.slice a len cap], Value.int IntKind.i64 1048576, Value.int IntKind.i64 (1048576 - (len : Int)), Value.int IntKind.i64 (1048576 - (len : Int)), Value.bool (decide (1048576 - (len : Int) < 0)), Value.agg #[Value.int IntKind.i64 x1, Value.int IntKind.i64 y1, Value.slice a2 len2 cap2], Value.int IntKind.i64 (1048576 - (len : Int)), Value.int IntKind.i64 (1048576 - (len : Int) - (len2 : Int)), Value.int IntKind.i64 (1048576 - (len : Int) - (len2 : Int)), Value.bool (decide (1048576 - (len : Int) - (len2 : Int) < 0)), vals 6, vals 0, vals 1, vals 2, vals 3, vals 4, vals 5, vals 7, vals 8, Value.agg #[Value.int IntKind.i64 x, Value.int IntKind.i64 y, Value.slice a len cap], Value.agg #[Value.int IntKind.i64 x, Value.int IntKind.i64 y, Value.slice (some ⟨g4, 0, none⟩) len len], Value.agg #[Value.int IntKind.i64 x1, Value.int IntKind.i64 y1, Value.slice a2 len2 cap2], Value.agg #[Value.int IntKind.i64 x1, Value.int IntKind.i64 y1, Value.slice (some ⟨g5, 0, none⟩) len2 len2], Value.tuple #[Value.int IntKind.i64 n', Value.bool ok], Value.agg #[Value.int IntKind.i64 x, Value.int IntKind.i64 y, Value.slice (some ⟨g4, 0, none⟩) len len], Value.agg #[Value.int IntKind.i64 x1, Value.int IntKind.i64 y1, Value.slice (some ⟨g5, 0, none⟩) len2 len2], Value.float FloatKind.f32 near, Value.tuple #[Value.int IntKind.i64 n', Value.bool ok], Value.int IntKind.i64 n', Value.bool ok, Value.int IntKind.i64 n', Value.int IntKind.i64 n', Value.bool false, Value.bool false, Value.bool ok, Value.bool ok, Value.bool false, Value.bool false, vb 0, vb 1, vb 2, vb 3, Value.bool false, v 0, v 1, v 2, v 3, v 4], []⟩)
        (fun W => Below w7.heap.size w7 W)
        (fun j W s => match j with | 0 => s = .agg #[.int .i64 x1, .int .i64 y1, .slice (some ⟨g5, 0, none⟩) len2 len2] | 1 => s = .agg #[.int .i64 x1, .int .i64 y1, .slice a2 len2 cap2] | 2 => ∃ g, s = .agg #[.int .i64 x1, .int .i64 y1, .slice (some ⟨g, 0, none⟩) len2 len2] ∧ IsFRow W (some ⟨g, 0, none⟩) len2 len2 ys | 3 => s = .bool true | 4 => s = .bool false | _ => True) ?_ ?_ (Below.refl _ _).drew ?_ ?_
      · intro j W W' v hb
        rcases j with _ | _ | _ | _ | _ | j
        · exact id
        · exact id
        · rintro ⟨g, e, f⟩
          exact ⟨g, e, IsFRow.below f hb⟩
        · exact id
        · exact id
        · exact id
      · exact ⟨fun _ => undef, rfl⟩
      · intro i o ho hlt vc W hG hd
        rcases i with _ | _ | _ | _ | _ | i
        · refine wpOp_run ho (by cases Option.some.inj ho; rfl) ?_
          cases Option.some.inj ho
          obtain ⟨c0, c1, c2⟩ := At3.below K11.out hG (by omega)
          go_simp
          exact ⟨_, rfl, Below.refl _ _, hG, rfl⟩
        · refine wpOp_run ho (by cases Option.some.inj ho; rfl) ?_
          cases Option.some.inj ho
          obtain ⟨c0, c1, c2⟩ := At3.below K1.out hG (by omega)
          go_simp
          exact ⟨_, rfl, Below.refl _ _, hG, rfl⟩
        · refine wpOp_run ho (by cases Option.some.inj ho; rfl) ?_
          cases Option.some.inj ho
          have hc := toPicture x1 y1 a2 len2 cap2 ys W (IsFRow.below H1.out (EE.out.trans (hG.mono EE.out.size))) hl1
          rw [← (show vc 1 = .agg #[.int .i64 x1, .int .i64 y1, .slice a2 len2 cap2] from hd ⟨1, .data⟩ (by simp) rfl)] at hc
          go_simp
          refine hc.mono ?_
          rintro e w' ⟨g, rfl, f, hb⟩
          exact ⟨_, rfl, hb, hG.trans (hb.mono hG.size), g, rfl, f⟩
        · refine wpOp_run ho (by cases Option.some.inj ho; rfl) ?_
          cases Option.some.inj ho
          obtain ⟨g, e2, f⟩ := (show ∃ g, vc 2 = .agg #[.int .i64 x1, .int .i64 y1, .slice (some ⟨g, 0, none⟩) len2 len2] ∧ IsFRow W (some ⟨g, 0, none⟩) len2 len2 ys from hd ⟨2, .data⟩ (by simp) rfl)
          have hc := eqPicture x1 y1 _ _ len2 len2 len2 ys W (R5.out.below hG).row f
          rw [← e2, ← (show vc 0 = .agg #[.int .i64 x1, .int .i64 y1, .slice (some ⟨g5, 0, none⟩) len2 len2] from hd ⟨0, .data⟩ (by simp) rfl)] at hc
          clear e2 f
          go_simp
          refine hc.mono ?_
          rintro e w' ⟨rfl, hb⟩
          exact ⟨_, rfl, hb, hG.trans (hb.mono hG.size), rfl⟩
        · refine wpOp_run ho (by cases Option.some.inj ho; rfl) ?_
          cases Option.some.inj ho
          have e3 : vc 3 = .bool true := hd ⟨3, .data⟩ (by simp) rfl
          go_simp
          exact ⟨.bool false, by simp [upd_at, e3], Below.refl _ _, hG, rfl⟩
        · omega
      · intro vc w8 b8 hR
        have e4 : vc 4 = .bool false := hR 4 (by omega)
        simp only [Exit.then, e4]
        clear hR
        go_wp2_with fail
        go_ret
        exact ⟨rfl, EE.out.trans (b8.mono EE.out.size)⟩
end Go.Proofs.Ytbjahmfijlkajaa
