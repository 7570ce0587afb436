/-
  The law of two pictures.
-/
import Derived.Test.YtbjahmfijlkajaaPicT
namespace Go.Proofs.Ytbjahmfijlkajaa
open Go.RowKit Go.FL
theorem HB {w w' : World} {c : Array Value} {t : TypeId} (h : Below (w.alloc (.cells c t)).heap.size (w.alloc (.cells c t)) w') : Below w.heap.size w w' :=
  (Below.alloc (Below.refl _ _) (Nat.le_refl _) _).trans (h.mono (by simp))
theorem HB2 {w w' : World} {c c2 : Array Value} {t t2 : TypeId} (h : Below ((w.alloc (.cells c t)).alloc (.cells c2 t2)).heap.size ((w.alloc (.cells c t)).alloc (.cells c2 t2)) w') : Below w.heap.size w w' :=
  (Below.alloc (Below.alloc (Below.refl _ _) (Nat.le_refl _) _) (by simp) _).trans (h.mono (by simp; omega))

attribute [local irreducible] Oper.wp in
theorem FnExactSamePicture_walk (x y : Int) (a : Option Addr) (len cap : Nat) (zs : List Nat) (x1 y1 : Int) (a2 : Option Addr) (len2 cap2 : Nat) (ys : List Nat) (w : World) (h : PicOk w x y a len cap zs) (h2 : PicOk w x1 y1 a2 len2 cap2 ys) :
    Calls Try.prog 5 #[.agg #[.int .i64 x, .int .i64 y, .slice a len cap], .agg #[.int .i64 x1, .int .i64 y1, .slice a2 len2 cap2]] w fun e w' => e = .returned (.bool true) ∧ Below w.heap.size w w' := by
  obtain ⟨-, -, hrow⟩ := h
  obtain ⟨-, -, hrow2⟩ := h2
  have hcl : len ≤ 9223372036854775807 := by have h1 := hrow.2.1; have h2 := hrow.2.2.1; unfold maxLen at h2; omega
  have hcl2 : len2 ≤ 9223372036854775807 := by have h1 := hrow2.2.1; have h2 := hrow2.2.2.1; unfold maxLen at h2; omega
  have H0 := Lib.hid hrow
  have H1 := Lib.hid hrow2
  clear hrow hrow2
  by_cases hl : (len : Int) ≤ 1048576
  case neg =>
    go_enter Try.func5, Try.ntmps5
    go_wp2_with fail
    refine (szPicture_no x y a len cap 1048576 _ hcl (by omega) (by omega)).mono ?_
    rintro e w1 ⟨rfl, hb⟩
    go_wp2_with fail
    go_ret
    exact ⟨rfl, HB2 hb⟩
  by_cases hm : (len2 : Int) ≤ 1048576 - len
  case neg =>
    go_enter Try.func5, Try.ntmps5
    go_wp2_with fail
    refine (szPicture_ok x y a len cap 1048576 _ hl (by omega)).mono ?_
    rintro e w1 ⟨rfl, b1⟩
    have D := Lib.hid b1
    clear b1
    have k00 : w1.cell? ⟨w.heap.size, 0, none⟩ = some (.int .i64 x) := (D.out.cell (p := ⟨w.heap.size, 0, none⟩) (by first | (simp; done) | (simp; omega))).trans (by go_simp)
    have k01 : w1.cell? ⟨w.heap.size, 1, none⟩ = some (.int .i64 y) := (D.out.cell (p := ⟨w.heap.size, 1, none⟩) (by first | (simp; done) | (simp; omega))).trans (by go_simp)
    have k02 : w1.cell? ⟨w.heap.size, 2, none⟩ = some (.slice a len cap) := (D.out.cell (p := ⟨w.heap.size, 2, none⟩) (by first | (simp; done) | (simp; omega))).trans (by go_simp)
    have k10 : w1.cell? ⟨w.heap.size + 1, 0, none⟩ = some (.int .i64 x1) := (D.out.cell (p := ⟨w.heap.size + 1, 0, none⟩) (by first | (simp; done) | (simp; omega))).trans (by go_simp)
    have k11 : w1.cell? ⟨w.heap.size + 1, 1, none⟩ = some (.int .i64 y1) := (D.out.cell (p := ⟨w.heap.size + 1, 1, none⟩) (by first | (simp; done) | (simp; omega))).trans (by go_simp)
    have k12 : w1.cell? ⟨w.heap.size + 1, 2, none⟩ = some (.slice a2 len2 cap2) := (D.out.cell (p := ⟨w.heap.size + 1, 2, none⟩) (by first | (simp; done) | (simp; omega))).trans (by go_simp)
    go_wp2_with fail
    refine (szPicture_no x1 y1 a2 len2 cap2 (1048576 - len) _ hcl2 (by omega) (by omega)).mono ?_
    rintro e w2 ⟨rfl, hb⟩
    have D2 := HB2 (D.out.trans (hb.mono D.out.size))
    go_wp2_with fail
    go_ret
    exact ⟨rfl, D2⟩
  have hl0 : len ≤ 1048576 := by omega
  have hl1 : len2 ≤ 1048576 := by omega
  go_enter Try.func5, Try.ntmps5
  go_wp2_with fail
  refine (szPicture_ok x y a len cap 1048576 _ hl (by omega)).mono ?_
  rintro e w1 ⟨rfl, b1⟩
  have D := Lib.hid b1
  clear b1
  have k00 : w1.cell? ⟨w.heap.size, 0, none⟩ = some (.int .i64 x) := (D.out.cell (p := ⟨w.heap.size, 0, none⟩) (by first | (simp; done) | (simp; omega))).trans (by go_simp)
  have k01 : w1.cell? ⟨w.heap.size, 1, none⟩ = some (.int .i64 y) := (D.out.cell (p := ⟨w.heap.size, 1, none⟩) (by first | (simp; done) | (simp; omega))).trans (by go_simp)
  have k02 : w1.cell? ⟨w.heap.size, 2, none⟩ = some (.slice a len cap) := (D.out.cell (p := ⟨w.heap.size, 2, none⟩) (by first | (simp; done) | (simp; omega))).trans (by go_simp)
  have k10 : w1.cell? ⟨w.heap.size + 1, 0, none⟩ = some (.int .i64 x1) := (D.out.cell (p := ⟨w.heap.size + 1, 0, none⟩) (by first | (simp; done) | (simp; omega))).trans (by go_simp)
  have k11 : w1.cell? ⟨w.heap.size + 1, 1, none⟩ = some (.int .i64 y1) := (D.out.cell (p := ⟨w.heap.size + 1, 1, none⟩) (by first | (simp; done) | (simp; omega))).trans (by go_simp)
  have k12 : w1.cell? ⟨w.heap.size + 1, 2, none⟩ = some (.slice a2 len2 cap2) := (D.out.cell (p := ⟨w.heap.size + 1, 2, none⟩) (by first | (simp; done) | (simp; omega))).trans (by go_simp)
  go_wp2_with fail
  refine (szPicture_ok x1 y1 a2 len2 cap2 (1048576 - len) _ hm (by omega)).mono ?_
  rintro e w2 ⟨rfl, b2⟩
  replace D := Lib.hid (D.out.trans (b2.mono D.out.size))
  clear k00 k01 k02 k10 k11 k12
  clear b2
  have k00 : w2.cell? ⟨w.heap.size, 0, none⟩ = some (.int .i64 x) := (D.out.cell (p := ⟨w.heap.size, 0, none⟩) (by first | (simp; done) | (simp; omega))).trans (by go_simp)
  have k01 : w2.cell? ⟨w.heap.size, 1, none⟩ = some (.int .i64 y) := (D.out.cell (p := ⟨w.heap.size, 1, none⟩) (by first | (simp; done) | (simp; omega))).trans (by go_simp)
  have k02 : w2.cell? ⟨w.heap.size, 2, none⟩ = some (.slice a len cap) := (D.out.cell (p := ⟨w.heap.size, 2, none⟩) (by first | (simp; done) | (simp; omega))).trans (by go_simp)
  have k10 : w2.cell? ⟨w.heap.size + 1, 0, none⟩ = some (.int .i64 x1) := (D.out.cell (p := ⟨w.heap.size + 1, 0, none⟩) (by first | (simp; done) | (simp; omega))).trans (by go_simp)
  have k11 : w2.cell? ⟨w.heap.size + 1, 1, none⟩ = some (.int .i64 y1) := (D.out.cell (p := ⟨w.heap.size + 1, 1, none⟩) (by first | (simp; done) | (simp; omega))).trans (by go_simp)
  have k12 : w2.cell? ⟨w.heap.size + 1, 2, none⟩ = some (.slice a2 len2 cap2) := (D.out.cell (p := ⟨w.heap.size + 1, 2, none⟩) (by first | (simp; done) | (simp; omega))).trans (by go_simp)
  go_wp2_with fail
  have EE := Lib.hid (HB2 D.out)
  have l0 : w.heap.size < w2.heap.size := by have := D.out.size; simp at this; omega
  have l1 : w.heap.size + 1 < w2.heap.size := by have := D.out.size; simp at this; omega
  refine wp_region_steps (by kernel_rfl) (by kernel_rfl) 5 (by kernel_rfl) (fun _ v => ⟨#[.agg #[.int .i64 x, .int .i64 y, .slice a len cap], .agg #[.int .i64 x1, .int .i64 y1, .slice a2 len2 cap2], .pointer (some ⟨w.heap.size, 0, none⟩), .pointer (some ⟨w.heap.size + 1, 0, none⟩), .bool false, .int .i64 (1048576 - len - len2), undef, undef, undef, undef, .agg #[.int .i64 x, .int .i64 y, .slice a len cap], .int .i64 1048576, .int .i64 (1048576 - len), .int .i64 (1048576 - len), .bool (decide (1048576 - (len : Int) < 0)), .agg #[.int .i64 x1, .int .i64 y1, .slice a2 len2 cap2], .int .i64 (1048576 - len), .int .i64 (1048576 - len - len2), .int .i64 (1048576 - len - len2), .bool (decide (1048576 - (len : Int) - len2 < 0)), v 0, v 1, v 2, v 3, v 4, undef, undef, undef, undef, undef, undef, undef, undef, undef, undef, undef, undef, undef, undef, undef, undef, undef, undef, undef, undef], []⟩)
    (fun W => Below w2.heap.size w2 W)
    (fun j W s => match j with | 0 => s = .agg #[.int .i64 x, .int .i64 y, .slice a len cap] | 1 => ∃ g, s = .agg #[.int .i64 x, .int .i64 y, .slice (some ⟨g, 0, none⟩) len len] ∧ IsFRow W (some ⟨g, 0, none⟩) len len zs | 2 => s = .agg #[.int .i64 x1, .int .i64 y1, .slice a2 len2 cap2] | 3 => ∃ g, s = .agg #[.int .i64 x1, .int .i64 y1, .slice (some ⟨g, 0, none⟩) len2 len2] ∧ IsFRow W (some ⟨g, 0, none⟩) len2 len2 ys | 4 => s = .bool (x == x1 && y == y1 && sameB zs ys len len2) | _ => True) ?_ ?_ (Below.refl _ _).drew ?_ ?_
  · intro j W W' v hb
    rcases j with _ | _ | _ | _ | _ | j
    · exact id
    · rintro ⟨g, e, f⟩
      exact ⟨g, e, IsFRow.below f hb⟩
    · exact id
    · rintro ⟨g, e, f⟩
      exact ⟨g, e, IsFRow.below f hb⟩
    · exact id
    · exact id
  · exact ⟨fun _ => undef, rfl⟩
  · intro i o ho hlt vals W hG hd
    rcases i with _ | _ | _ | _ | _ | i
    · refine wpOp_run ho (by cases Option.some.inj ho; rfl) ?_
      cases Option.some.inj ho
      have c0 := (hG.cell (p := ⟨w.heap.size, 0, none⟩) l0).trans k00
      have c1 := (hG.cell (p := ⟨w.heap.size, 1, none⟩) l0).trans k01
      have c2 := (hG.cell (p := ⟨w.heap.size, 2, none⟩) l0).trans k02
      go_simp
      exact ⟨_, rfl, Below.refl _ _, hG, rfl⟩
    · refine wpOp_run ho (by cases Option.some.inj ho; rfl) ?_
      cases Option.some.inj ho
      have hc := toPicture x y a len cap zs W (IsFRow.below H0.out (EE.out.trans (hG.mono EE.out.size))) hl0
      rw [← (show vals 0 = .agg #[.int .i64 x, .int .i64 y, .slice a len cap] from hd ⟨0, .data⟩ (by simp) rfl)] at hc
      go_simp
      refine hc.mono ?_
      rintro e w' ⟨g, rfl, f, hb⟩
      exact ⟨_, rfl, hb, hG.trans (hb.mono hG.size), g, rfl, f⟩
    · refine wpOp_run ho (by cases Option.some.inj ho; rfl) ?_
      cases Option.some.inj ho
      have c0 := (hG.cell (p := ⟨w.heap.size + 1, 0, none⟩) l1).trans k10
      have c1 := (hG.cell (p := ⟨w.heap.size + 1, 1, none⟩) l1).trans k11
      have c2 := (hG.cell (p := ⟨w.heap.size + 1, 2, none⟩) l1).trans k12
      go_simp
      exact ⟨_, rfl, Below.refl _ _, hG, rfl⟩
    · refine wpOp_run ho (by cases Option.some.inj ho; rfl) ?_
      cases Option.some.inj ho
      have hc := toPicture x1 y1 a2 len2 cap2 ys W (IsFRow.below H1.out (EE.out.trans (hG.mono EE.out.size))) hl1
      rw [← (show vals 2 = .agg #[.int .i64 x1, .int .i64 y1, .slice a2 len2 cap2] from hd ⟨2, .data⟩ (by simp) rfl)] at hc
      go_simp
      refine hc.mono ?_
      rintro e w' ⟨g, rfl, f, hb⟩
      exact ⟨_, rfl, hb, hG.trans (hb.mono hG.size), g, rfl, f⟩
    · refine wpOp_run ho (by cases Option.some.inj ho; rfl) ?_
      cases Option.some.inj ho
      obtain ⟨g0, e0, f0⟩ := (show ∃ g, vals 1 = .agg #[.int .i64 x, .int .i64 y, .slice (some ⟨g, 0, none⟩) len len] ∧ IsFRow W (some ⟨g, 0, none⟩) len len zs from hd ⟨1, .data⟩ (by simp) rfl)
      obtain ⟨g1, e1, f1⟩ := (show ∃ g, vals 3 = .agg #[.int .i64 x1, .int .i64 y1, .slice (some ⟨g, 0, none⟩) len2 len2] ∧ IsFRow W (some ⟨g, 0, none⟩) len2 len2 ys from hd ⟨3, .data⟩ (by simp) rfl)
      have hc := spec_SamePicture x y x1 y1 _ _ len len2 len len2 zs ys W f0 f1
      rw [← e0, ← e1] at hc
      clear e0 e1 f0 f1
      go_simp
      refine hc.mono ?_
      rintro e w' ⟨rfl, hb⟩
      exact ⟨_, rfl, hb, hG.trans (hb.mono hG.size), rfl⟩
    · omega
  · intro vals w3 hG hR
    refine wpOp_run rfl rfl ?_
    have e4 : vals 4 = _ := hR 4 (by omega)
    clear hR
    replace D := Lib.hid (D.out.trans (hG.mono D.out.size))
    clear k00 k01 k02 k10 k11 k12
    have k00 : w3.cell? ⟨w.heap.size, 0, none⟩ = some (.int .i64 x) := (D.out.cell (p := ⟨w.heap.size, 0, none⟩) (by first | (simp; done) | (simp; omega))).trans (by go_simp)
    have k01 : w3.cell? ⟨w.heap.size, 1, none⟩ = some (.int .i64 y) := (D.out.cell (p := ⟨w.heap.size, 1, none⟩) (by first | (simp; done) | (simp; omega))).trans (by go_simp)
    have k02 : w3.cell? ⟨w.heap.size, 2, none⟩ = some (.slice a len cap) := (D.out.cell (p := ⟨w.heap.size, 2, none⟩) (by first | (simp; done) | (simp; omega))).trans (by go_simp)
    have k10 : w3.cell? ⟨w.heap.size + 1, 0, none⟩ = some (.int .i64 x1) := (D.out.cell (p := ⟨w.heap.size + 1, 0, none⟩) (by first | (simp; done) | (simp; omega))).trans (by go_simp)
    have k11 : w3.cell? ⟨w.heap.size + 1, 1, none⟩ = some (.int .i64 y1) := (D.out.cell (p := ⟨w.heap.size + 1, 1, none⟩) (by first | (simp; done) | (simp; omega))).trans (by go_simp)
    have k12 : w3.cell? ⟨w.heap.size + 1, 2, none⟩ = some (.slice a2 len2 cap2) := (D.out.cell (p := ⟨w.heap.size + 1, 2, none⟩) (by first | (simp; done) | (simp; omega))).trans (by go_simp)
    clear hG l0 l1
    replace EE := Lib.hid (HB2 D.out)
    go_simp
    go_wp2_with fail
    refine (toPicture x y a len cap zs _ (IsFRow.below H0.out EE.out) hl0).mono ?_
    rintro e w4 ⟨g4, rfl, r4, b4⟩
    have R4 := Lib.hid r4
    clear r4
    replace D := Lib.hid (D.out.trans (b4.mono D.out.size))
    clear k00 k01 k02 k10 k11 k12
    clear b4
    have k00 : w4.cell? ⟨w.heap.size, 0, none⟩ = some (.int .i64 x) := (D.out.cell (p := ⟨w.heap.size, 0, none⟩) (by first | (simp; done) | (simp; omega))).trans (by go_simp)
    have k01 : w4.cell? ⟨w.heap.size, 1, none⟩ = some (.int .i64 y) := (D.out.cell (p := ⟨w.heap.size, 1, none⟩) (by first | (simp; done) | (simp; omega))).trans (by go_simp)
    have k02 : w4.cell? ⟨w.heap.size, 2, none⟩ = some (.slice a len cap) := (D.out.cell (p := ⟨w.heap.size, 2, none⟩) (by first | (simp; done) | (simp; omega))).trans (by go_simp)
    have k10 : w4.cell? ⟨w.heap.size + 1, 0, none⟩ = some (.int .i64 x1) := (D.out.cell (p := ⟨w.heap.size + 1, 0, none⟩) (by first | (simp; done) | (simp; omega))).trans (by go_simp)
    have k11 : w4.cell? ⟨w.heap.size + 1, 1, none⟩ = some (.int .i64 y1) := (D.out.cell (p := ⟨w.heap.size + 1, 1, none⟩) (by first | (simp; done) | (simp; omega))).trans (by go_simp)
    have k12 : w4.cell? ⟨w.heap.size + 1, 2, none⟩ = some (.slice a2 len2 cap2) := (D.out.cell (p := ⟨w.heap.size + 1, 2, none⟩) (by first | (simp; done) | (simp; omega))).trans (by go_simp)
    replace EE := Lib.hid (HB2 D.out)
    have m0 : w.heap.size < w4.heap.size := by have := D.out.size; simp at this; omega
    have m1 : w.heap.size + 1 < w4.heap.size := by have := D.out.size; simp at this; omega
    have n0 : w.heap.size ≠ w4.heap.size := by omega
    have n1 : w.heap.size + 1 ≠ w4.heap.size := by omega
    go_wp2_with fail
    refine (toPicture x1 y1 a2 len2 cap2 ys _ (IsFRow.below H1.out (Below.alloc EE.out EE.out.size _)) hl1).mono ?_
    rintro e w6 ⟨g6, rfl, r6, b6⟩
    have R6 := Lib.hid r6
    have B6 := Lib.hid b6
    clear r6 b6
    replace R4 := Lib.hid (IsFRow.below R4.out (HB B6.out))
    replace D := Lib.hid (D.out.trans ((HB B6.out).mono D.out.size))
    clear k00 k01 k02 k10 k11 k12
    have k00 : w6.cell? ⟨w.heap.size, 0, none⟩ = some (.int .i64 x) := (D.out.cell (p := ⟨w.heap.size, 0, none⟩) (by first | (simp; done) | (simp; omega))).trans (by go_simp)
    have k01 : w6.cell? ⟨w.heap.size, 1, none⟩ = some (.int .i64 y) := (D.out.cell (p := ⟨w.heap.size, 1, none⟩) (by first | (simp; done) | (simp; omega))).trans (by go_simp)
    have k02 : w6.cell? ⟨w.heap.size, 2, none⟩ = some (.slice a len cap) := (D.out.cell (p := ⟨w.heap.size, 2, none⟩) (by first | (simp; done) | (simp; omega))).trans (by go_simp)
    have k10 : w6.cell? ⟨w.heap.size + 1, 0, none⟩ = some (.int .i64 x1) := (D.out.cell (p := ⟨w.heap.size + 1, 0, none⟩) (by first | (simp; done) | (simp; omega))).trans (by go_simp)
    have k11 : w6.cell? ⟨w.heap.size + 1, 1, none⟩ = some (.int .i64 y1) := (D.out.cell (p := ⟨w.heap.size + 1, 1, none⟩) (by first | (simp; done) | (simp; omega))).trans (by go_simp)
    have k12 : w6.cell? ⟨w.heap.size + 1, 2, none⟩ = some (.slice a2 len2 cap2) := (D.out.cell (p := ⟨w.heap.size + 1, 2, none⟩) (by first | (simp; done) | (simp; omega))).trans (by go_simp)
    have q0 : w6.cell? ⟨w4.heap.size, 0, none⟩ = some (.int .i64 x) := (B6.out.cell (p := ⟨w4.heap.size, 0, none⟩) (by first | (simp; done) | (simp; omega))).trans (by go_simp)
    have q1 : w6.cell? ⟨w4.heap.size, 1, none⟩ = some (.int .i64 y) := (B6.out.cell (p := ⟨w4.heap.size, 1, none⟩) (by first | (simp; done) | (simp; omega))).trans (by go_simp)
    have q2 : w6.cell? ⟨w4.heap.size, 2, none⟩ = some (.slice (some ⟨g4, 0, none⟩) len len) := (B6.out.cell (p := ⟨w4.heap.size, 2, none⟩) (by first | (simp; done) | (simp; omega))).trans (by go_simp)
    replace EE := Lib.hid (HB2 D.out)
    have o0 : w4.heap.size < w6.heap.size := by have := B6.out.size; simp at this; omega
    have o1 : w4.heap.size ≠ w6.heap.size := by omega
    go_wp2_with fail
    refine (impl_SamePicture x y x1 y1 _ _ len len2 len len2 zs ys _ (IsFRow.below R4.out (Below.alloc (Below.refl _ _) (Nat.le_refl _) _)) (IsFRow.below R6.out (Below.alloc (Below.refl _ _) (Nat.le_refl _) _))).mono ?_
    rintro e w7 ⟨rfl, b7⟩
    have B7 := Lib.hid b7
    clear b7
    go_wp2_with fail
    have E67 := HB B7.out
    replace R4 := Lib.hid (IsFRow.below R4.out E67)
    replace R6 := Lib.hid (IsFRow.below R6.out E67)
    have D7 := D.out.trans (E67.mono D.out.size)
    replace EE := Lib.hid (HB2 D7)
    replace H0 := Lib.hid (IsFRow.below H0.out EE.out)
    replace H1 := Lib.hid (IsFRow.below H1.out EE.out)
    have s0 := (E67.cell (p := ⟨w4.heap.size, 0, none⟩) o0).trans q0
    have s1 := (E67.cell (p := ⟨w4.heap.size, 1, none⟩) o0).trans q1
    have s2 := (E67.cell (p := ⟨w4.heap.size, 2, none⟩) o0).trans q2
    clear k00 k01 k02 k10 k11 k12
    have k00 : w7.cell? ⟨w.heap.size, 0, none⟩ = some (.int .i64 x) := (D7.cell (p := ⟨w.heap.size, 0, none⟩) (by first | (simp; done) | (simp; omega))).trans (by go_simp)
    have k01 : w7.cell? ⟨w.heap.size, 1, none⟩ = some (.int .i64 y) := (D7.cell (p := ⟨w.heap.size, 1, none⟩) (by first | (simp; done) | (simp; omega))).trans (by go_simp)
    have k02 : w7.cell? ⟨w.heap.size, 2, none⟩ = some (.slice a len cap) := (D7.cell (p := ⟨w.heap.size, 2, none⟩) (by first | (simp; done) | (simp; omega))).trans (by go_simp)
    have k10 : w7.cell? ⟨w.heap.size + 1, 0, none⟩ = some (.int .i64 x1) := (D7.cell (p := ⟨w.heap.size + 1, 0, none⟩) (by first | (simp; done) | (simp; omega))).trans (by go_simp)
    have k11 : w7.cell? ⟨w.heap.size + 1, 1, none⟩ = some (.int .i64 y1) := (D7.cell (p := ⟨w.heap.size + 1, 1, none⟩) (by first | (simp; done) | (simp; omega))).trans (by go_simp)
    have k12 : w7.cell? ⟨w.heap.size + 1, 2, none⟩ = some (.slice a2 len2 cap2) := (D7.cell (p := ⟨w.heap.size + 1, 2, none⟩) (by first | (simp; done) | (simp; omega))).trans (by go_simp)
    have r0 : w7.cell? ⟨w6.heap.size, 0, none⟩ = some (.int .i64 x1) := (B7.out.cell (p := ⟨w6.heap.size, 0, none⟩) (by first | (simp; done) | (simp; omega))).trans (by go_simp)
    have r1 : w7.cell? ⟨w6.heap.size, 1, none⟩ = some (.int .i64 y1) := (B7.out.cell (p := ⟨w6.heap.size, 1, none⟩) (by first | (simp; done) | (simp; omega))).trans (by go_simp)
    have r2 : w7.cell? ⟨w6.heap.size, 2, none⟩ = some (.slice (some ⟨g6, 0, none⟩) len2 len2) := (B7.out.cell (p := ⟨w6.heap.size, 2, none⟩) (by first | (simp; done) | (simp; omega))).trans (by go_simp)
    have l6 : w6.heap.size < w7.heap.size := by have := B7.out.size; simp at this; omega
    have l4 : w4.heap.size < w7.heap.size := by omega
    have l0 : w.heap.size < w7.heap.size := by omega
    have l1 : w.heap.size + 1 < w7.heap.size := by omega
    clear E67 D7 q0 q1 q2
    refine wp_region_all (by kernel_rfl) (by kernel_rfl) 5 (by kernel_rfl) (fun _ v => ⟨#[.agg #[.int .i64 x, .int .i64 y, .slice a len cap], .agg #[.int .i64 x1, .int .i64 y1, .slice a2 len2 cap2], .pointer (some ⟨w.heap.size, 0, none⟩), .pointer (some ⟨w.heap.size + 1, 0, none⟩), .bool false, .int .i64 (1048576 - len - len2), .bool (x == x1 && y == y1 && sameB zs ys len len2), .pointer (some ⟨w4.heap.size, 0, none⟩), .pointer (some ⟨w6.heap.size, 0, none⟩), .bool (x == x1 && y == y1 && sameB zs ys len len2), .agg #[.int .i64 x, .int .i64 y, .slice a len cap], .int .i64 1048576, .int .i64 (1048576 - len), .int .i64 (1048576 - len), .bool (decide (1048576 - (len : Int) < 0)), .agg #[.int .i64 x1, .int .i64 y1, .slice a2 len2 cap2], .int .i64 (1048576 - len), .int .i64 (1048576 - len - len2), .int .i64 (1048576 - len - len2), .bool (decide (1048576 - (len : Int) - len2 < 0)), vals 0, vals 1, vals 2, vals 3, .bool (x == x1 && y == y1 && sameB zs ys len len2), .agg #[.int .i64 x, .int .i64 y, .slice a len cap], .agg #[.int .i64 x, .int .i64 y, .slice (some ⟨g4, 0, none⟩) len len], .agg #[.int .i64 x1, .int .i64 y1, .slice a2 len2 cap2], .agg #[.int .i64 x1, .int .i64 y1, .slice (some ⟨g6, 0, none⟩) len2 len2], .agg #[.int .i64 x, .int .i64 y, .slice (some ⟨g4, 0, none⟩) len len], .agg #[.int .i64 x1, .int .i64 y1, .slice (some ⟨g6, 0, none⟩) len2 len2], .bool (x == x1 && y == y1 && sameB zs ys len len2), .bool (x == x1 && y == y1 && sameB zs ys len len2), .bool (x == x1 && y == y1 && sameB zs ys len len2), .bool false, v 0, v 1, v 2, v 3, v 4, undef, undef, undef, undef, undef], []⟩)
      (fun W => Below w7.heap.size w7 W)
      (fun j W s => match j with | 0 => s = .agg #[.int .i64 x, .int .i64 y, .slice (some ⟨g4, 0, none⟩) len len] | 1 => s = .agg #[.int .i64 x, .int .i64 y, .slice a len cap] | 2 => ∃ g, s = .agg #[.int .i64 x, .int .i64 y, .slice (some ⟨g, 0, none⟩) len len] ∧ IsFRow W (some ⟨g, 0, none⟩) len len zs | 3 => s = .bool true | 4 => s = .bool false | _ => True) ?_ ?_ (Below.refl _ _).drew ?_ ?_
    · intro j W W' v hb
      rcases j with _ | _ | _ | _ | _ | j
      · exact id
      · exact id
      · rintro ⟨g, e, f⟩
        exact ⟨g, e, IsFRow.below f hb⟩
      · exact id
      · exact id
      · exact id
    · exact ⟨fun _ => undef, rfl⟩
    · intro i o ho hlt vb W hG hd
      rcases i with _ | _ | _ | _ | _ | i
      · refine wpOp_run ho (by cases Option.some.inj ho; rfl) ?_
        cases Option.some.inj ho
        have c0 := (hG.cell (p := ⟨w4.heap.size, 0, none⟩) l4).trans s0
        have c1 := (hG.cell (p := ⟨w4.heap.size, 1, none⟩) l4).trans s1
        have c2 := (hG.cell (p := ⟨w4.heap.size, 2, none⟩) l4).trans s2
        go_simp
        exact ⟨_, rfl, Below.refl _ _, hG, rfl⟩
      · refine wpOp_run ho (by cases Option.some.inj ho; rfl) ?_
        cases Option.some.inj ho
        have c0 := (hG.cell (p := ⟨w.heap.size, 0, none⟩) l0).trans k00
        have c1 := (hG.cell (p := ⟨w.heap.size, 1, none⟩) l0).trans k01
        have c2 := (hG.cell (p := ⟨w.heap.size, 2, none⟩) l0).trans k02
        go_simp
        exact ⟨_, rfl, Below.refl _ _, hG, rfl⟩
      · refine wpOp_run ho (by cases Option.some.inj ho; rfl) ?_
        cases Option.some.inj ho
        have hc := toPicture x y a len cap zs W (IsFRow.below H0.out hG) hl0
        rw [← (show vb 1 = .agg #[.int .i64 x, .int .i64 y, .slice a len cap] from hd ⟨1, .data⟩ (by simp) rfl)] at hc
        go_simp
        refine hc.mono ?_
        rintro e w' ⟨g, rfl, f, hb⟩
        exact ⟨_, rfl, hb, hG.trans (hb.mono hG.size), g, rfl, f⟩
      · refine wpOp_run ho (by cases Option.some.inj ho; rfl) ?_
        cases Option.some.inj ho
        obtain ⟨g, e2, f⟩ := (show ∃ g, vb 2 = .agg #[.int .i64 x, .int .i64 y, .slice (some ⟨g, 0, none⟩) len len] ∧ IsFRow W (some ⟨g, 0, none⟩) len len zs from hd ⟨2, .data⟩ (by simp) rfl)
        have hc := eqPicture x y _ _ len len len zs W (IsFRow.below R4.out hG) f
        rw [← e2, ← (show vb 0 = .agg #[.int .i64 x, .int .i64 y, .slice (some ⟨g4, 0, none⟩) len len] from hd ⟨0, .data⟩ (by simp) rfl)] at hc
        clear e2 f
        go_simp
        refine hc.mono ?_
        rintro e w' ⟨rfl, hb⟩
        exact ⟨_, rfl, hb, hG.trans (hb.mono hG.size), rfl⟩
      · refine wpOp_run ho (by cases Option.some.inj ho; rfl) ?_
        cases Option.some.inj ho
        have e3 : vb 3 = .bool true := hd ⟨3, .data⟩ (by simp) rfl
        go_simp
        exact ⟨.bool false, by simp [upd_at, e3], Below.refl _ _, hG, rfl⟩
      · omega
    · intro vb w8 hG hR
      have e4 : vb 4 = .bool false := hR 4 (by omega)
      simp only [Exit.then, e4]
      clear hR
      go_wp2_with fail
      refine wp_region_all (by kernel_rfl) (by kernel_rfl) 5 (by kernel_rfl) (fun _ v => ⟨#[.agg #[.int .i64 x, .int .i64 y, .slice a len cap], .agg #[.int .i64 x1, .int .i64 y1, .slice a2 len2 cap2], .pointer (some ⟨w.heap.size, 0, none⟩), .pointer (some ⟨w.heap.size + 1, 0, none⟩), .bool false, .int .i64 (1048576 - len - len2), .bool (x == x1 && y == y1 && sameB zs ys len len2), .pointer (some ⟨w4.heap.size, 0, none⟩), .pointer (some ⟨w6.heap.size, 0, none⟩), .bool (x == x1 && y == y1 && sameB zs ys len len2), .agg #[.int .i64 x, .int .i64 y, .slice a len cap], .int .i64 1048576, .int .i64 (1048576 - len), .int .i64 (1048576 - len), .bool (decide (1048576 - (len : Int) < 0)), .agg #[.int .i64 x1, .int .i64 y1, .slice a2 len2 cap2], .int .i64 (1048576 - len), .int .i64 (1048576 - len - len2), .int .i64 (1048576 - len - len2), .bool (decide (1048576 - (len : Int) - len2 < 0)), vals 0, vals 1, vals 2, vals 3, .bool (x == x1 && y == y1 && sameB zs ys len len2), .agg #[.int .i64 x, .int .i64 y, .slice a len cap], .agg #[.int .i64 x, .int .i64 y, .slice (some ⟨g4, 0, none⟩) len len], .agg #[.int .i64 x1, .int .i64 y1, .slice a2 len2 cap2], .agg #[.int .i64 x1, .int .i64 y1, .slice (some ⟨g6, 0, none⟩) len2 len2], .agg #[.int .i64 x, .int .i64 y, .slice (some ⟨g4, 0, none⟩) len len], .agg #[.int .i64 x1, .int .i64 y1, .slice (some ⟨g6, 0, none⟩) len2 len2], .bool (x == x1 && y == y1 && sameB zs ys len len2), .bool (x == x1 && y == y1 && sameB zs ys len len2), .bool (x == x1 && y == y1 && sameB zs ys len len2), .bool false, vb 0, vb 1, vb 2, vb 3, .bool false, v 0, v 1, v 2, v 3, v 4], []⟩)
        (fun W => Below w7.heap.size w7 W)
        (fun j W s => match j with | 0 => s = .agg #[.int .i64 x1, .int .i64 y1, .slice (some ⟨g6, 0, none⟩) len2 len2] | 1 => s = .agg #[.int .i64 x1, .int .i64 y1, .slice a2 len2 cap2] | 2 => ∃ g, s = .agg #[.int .i64 x1, .int .i64 y1, .slice (some ⟨g, 0, none⟩) len2 len2] ∧ IsFRow W (some ⟨g, 0, none⟩) len2 len2 ys | 3 => s = .bool true | 4 => s = .bool false | _ => True) ?_ ?_ hG.drew ?_ ?_
      · intro j W W' v hb
        rcases j with _ | _ | _ | _ | _ | j
        · exact id
        · exact id
        · rintro ⟨g, e, f⟩
          exact ⟨g, e, IsFRow.below f hb⟩
        · exact id
        · exact id
        · exact id
      · exact ⟨fun _ => undef, rfl⟩
      · intro i o ho hlt vc W hG hd
        rcases i with _ | _ | _ | _ | _ | i
        · refine wpOp_run ho (by cases Option.some.inj ho; rfl) ?_
          cases Option.some.inj ho
          have c0 := (hG.cell (p := ⟨w6.heap.size, 0, none⟩) l6).trans r0
          have c1 := (hG.cell (p := ⟨w6.heap.size, 1, none⟩) l6).trans r1
          have c2 := (hG.cell (p := ⟨w6.heap.size, 2, none⟩) l6).trans r2
          go_simp
          exact ⟨_, rfl, Below.refl _ _, hG, rfl⟩
        · refine wpOp_run ho (by cases Option.some.inj ho; rfl) ?_
          cases Option.some.inj ho
          have c0 := (hG.cell (p := ⟨w.heap.size + 1, 0, none⟩) l1).trans k10
          have c1 := (hG.cell (p := ⟨w.heap.size + 1, 1, none⟩) l1).trans k11
          have c2 := (hG.cell (p := ⟨w.heap.size + 1, 2, none⟩) l1).trans k12
          go_simp
          exact ⟨_, rfl, Below.refl _ _, hG, rfl⟩
        · refine wpOp_run ho (by cases Option.some.inj ho; rfl) ?_
          cases Option.some.inj ho
          have hc := toPicture x1 y1 a2 len2 cap2 ys W (IsFRow.below H1.out hG) hl1
          rw [← (show vc 1 = .agg #[.int .i64 x1, .int .i64 y1, .slice a2 len2 cap2] from hd ⟨1, .data⟩ (by simp) rfl)] at hc
          go_simp
          refine hc.mono ?_
          rintro e w' ⟨g, rfl, f, hb⟩
          exact ⟨_, rfl, hb, hG.trans (hb.mono hG.size), g, rfl, f⟩
        · refine wpOp_run ho (by cases Option.some.inj ho; rfl) ?_
          cases Option.some.inj ho
          obtain ⟨g, e2, f⟩ := (show ∃ g, vc 2 = .agg #[.int .i64 x1, .int .i64 y1, .slice (some ⟨g, 0, none⟩) len2 len2] ∧ IsFRow W (some ⟨g, 0, none⟩) len2 len2 ys from hd ⟨2, .data⟩ (by simp) rfl)
          have hc := eqPicture x1 y1 _ _ len2 len2 len2 ys W (IsFRow.below R6.out hG) f
          rw [← e2, ← (show vc 0 = .agg #[.int .i64 x1, .int .i64 y1, .slice (some ⟨g6, 0, none⟩) len2 len2] from hd ⟨0, .data⟩ (by simp) rfl)] at hc
          clear e2 f
          go_simp
          refine hc.mono ?_
          rintro e w' ⟨rfl, hb⟩
          exact ⟨_, rfl, hb, hG.trans (hb.mono hG.size), rfl⟩
        · refine wpOp_run ho (by cases Option.some.inj ho; rfl) ?_
          cases Option.some.inj ho
          have e3 : vc 3 = .bool true := hd ⟨3, .data⟩ (by simp) rfl
          go_simp
          exact ⟨.bool false, by simp [upd_at, e3], Below.refl _ _, hG, rfl⟩
        · omega
      · intro vc w9 hG hR
        have e4 : vc 4 = .bool false := hR 4 (by omega)
        simp only [Exit.then, e4]
        clear hR
        go_wp2_with fail
        go_ret
        exact ⟨rfl, EE.out.trans (hG.mono EE.out.size)⟩
end Go.Proofs.Ytbjahmfijlkajaa
