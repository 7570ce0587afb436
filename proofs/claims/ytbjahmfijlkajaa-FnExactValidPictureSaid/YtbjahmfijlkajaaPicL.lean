/-
  The law of a valid picture.
-/
import Derived.Test.YtbjahmfijlkajaaPicV
namespace Go.Proofs.Ytbjahmfijlkajaa
open Go.RowKit Go.FL

theorem HB {w w' : World} {c : Array Value} {t : TypeId} (h : Below (w.alloc (.cells c t)).heap.size (w.alloc (.cells c t)) w') : Below w.heap.size w w' :=
  (Below.alloc (Below.refl _ _) (Nat.le_refl _) _).trans (h.mono (by simp))

attribute [local irreducible] Oper.wp in
theorem FnExactValidPicture_walk (x y : Int) (a : Option Addr) (len cap : Nat) (zs : List Nat) (w : World) (h : PicOk w x y a len cap zs) : Calls Try.prog 3 #[.agg #[.int .i64 x, .int .i64 y, .slice a len cap]] w fun e w' => e = .returned (.bool true) ∧ Below w.heap.size w w' := by
  obtain ⟨-, -, hrow⟩ := h
  have hcap := hrow.2.1
  have hcm := hrow.2.2.1
  unfold maxLen at hcm
  have hcl : len ≤ 9223372036854775807 := by omega
  have H := Lib.hid hrow
  clear hrow hcm hcap
  by_cases hl : (len : Int) ≤ 1048576
  case neg =>
    go_enter Try.func3, Try.ntmps3
    go_wp2_with fail
    refine (szPicture_no x y a len cap 1048576 _ hcl (by omega) (by omega)).mono ?_
    rintro e w1 ⟨rfl, hb⟩
    go_wp2_with fail
    go_ret
    exact ⟨rfl, (by repeat (first | exact Below.refl _ _ | refine Below.setCell ?_ (by first | (simp; done) | (simp; omega)) _ | refine Below.trans ?_ (Below.mono (by assumption) (by first | (simp; done) | (simp; omega))) | refine Below.alloc ?_ (by first | (simp; done) | (simp; omega)) _ | refine Below.alloc ?_ (Nat.le_refl _) _ | refine below_drewN ?_ _))⟩
  case pos =>
    have hl' : len ≤ 1048576 := by omega
    go_enter Try.func3, Try.ntmps3
    go_wp2_with fail
    refine (szPicture_ok x y a len cap 1048576 _ hl (by omega)).mono ?_
    rintro e w1 ⟨rfl, b1⟩
    have D := Lib.hid b1
    clear b1
    have k0 : w1.cell? ⟨w.heap.size, 0, none⟩ = some (.int .i64 x) := (D.out.cell (p := ⟨w.heap.size, 0, none⟩) (by simp)).trans (by go_simp)
    have k1 : w1.cell? ⟨w.heap.size, 1, none⟩ = some (.int .i64 y) := (D.out.cell (p := ⟨w.heap.size, 1, none⟩) (by simp)).trans (by go_simp)
    have k2 : w1.cell? ⟨w.heap.size, 2, none⟩ = some (.slice a len cap) := (D.out.cell (p := ⟨w.heap.size, 2, none⟩) (by simp)).trans (by go_simp)
    go_wp2_with fail
    refine (toPicture x y a len cap zs _ (IsFRow.below H.out (HB D.out)) hl').mono ?_
    rintro e w2 ⟨g2, rfl, r2, b2⟩
    clear r2
    replace D := Lib.hid (D.out.trans (b2.mono D.out.size))
    clear b2 k0 k1 k2
    have k0 : w2.cell? ⟨w.heap.size, 0, none⟩ = some (.int .i64 x) := (D.out.cell (p := ⟨w.heap.size, 0, none⟩) (by simp)).trans (by go_simp)
    have k1 : w2.cell? ⟨w.heap.size, 1, none⟩ = some (.int .i64 y) := (D.out.cell (p := ⟨w.heap.size, 1, none⟩) (by simp)).trans (by go_simp)
    have k2 : w2.cell? ⟨w.heap.size, 2, none⟩ = some (.slice a len cap) := (D.out.cell (p := ⟨w.heap.size, 2, none⟩) (by simp)).trans (by go_simp)
    go_wp2_with fail
    refine (spec_ValidPicture x y _ len len _).mono ?_
    rintro e w3 ⟨rfl, b3⟩
    replace D := Lib.hid (D.out.trans (b3.mono D.out.size))
    clear b3 k0 k1 k2
    have k0 : w3.cell? ⟨w.heap.size, 0, none⟩ = some (.int .i64 x) := (D.out.cell (p := ⟨w.heap.size, 0, none⟩) (by simp)).trans (by go_simp)
    have k1 : w3.cell? ⟨w.heap.size, 1, none⟩ = some (.int .i64 y) := (D.out.cell (p := ⟨w.heap.size, 1, none⟩) (by simp)).trans (by go_simp)
    have k2 : w3.cell? ⟨w.heap.size, 2, none⟩ = some (.slice a len cap) := (D.out.cell (p := ⟨w.heap.size, 2, none⟩) (by simp)).trans (by go_simp)
    go_wp2_with fail
    refine (toPicture x y a len cap zs _ (IsFRow.below H.out (HB D.out)) hl').mono ?_
    rintro e w4 ⟨g4, rfl, r4, b4⟩
    have R4 := Lib.hid r4
    clear r4
    replace D := Lib.hid (D.out.trans (b4.mono D.out.size))
    clear b4 k0 k1 k2
    have k0 : w4.cell? ⟨w.heap.size, 0, none⟩ = some (.int .i64 x) := (D.out.cell (p := ⟨w.heap.size, 0, none⟩) (by simp)).trans (by go_simp)
    have k1 : w4.cell? ⟨w.heap.size, 1, none⟩ = some (.int .i64 y) := (D.out.cell (p := ⟨w.heap.size, 1, none⟩) (by simp)).trans (by go_simp)
    have k2 : w4.cell? ⟨w.heap.size, 2, none⟩ = some (.slice a len cap) := (D.out.cell (p := ⟨w.heap.size, 2, none⟩) (by simp)).trans (by go_simp)
    go_wp2_with fail
    refine (impl_ValidPicture x y _ len len _).mono ?_
    rintro e w5 ⟨rfl, b5⟩
    have B5 := Lib.hid b5
    clear b5
    go_wp2_with fail
    have E45 := HB B5.out
    have R5 := Lib.hid (IsFRow.below R4.out E45)
    have D5 := D.out.trans (E45.mono D.out.size)
    have E5 := Lib.hid (HB D5)
    have H5 := Lib.hid (IsFRow.below H.out (HB D5))
    have q0 : w5.cell? ⟨w4.heap.size, 0, none⟩ = some (.int .i64 x) := (B5.out.cell (p := ⟨w4.heap.size, 0, none⟩) (by simp)).trans (by go_simp)
    have q1 : w5.cell? ⟨w4.heap.size, 1, none⟩ = some (.int .i64 y) := (B5.out.cell (p := ⟨w4.heap.size, 1, none⟩) (by simp)).trans (by go_simp)
    have q2 : w5.cell? ⟨w4.heap.size, 2, none⟩ = some (.slice (some ⟨g4, 0, none⟩) len len) := (B5.out.cell (p := ⟨w4.heap.size, 2, none⟩) (by simp)).trans (by go_simp)
    have p0 : w5.cell? ⟨w.heap.size, 0, none⟩ = some (.int .i64 x) := (D5.cell (p := ⟨w.heap.size, 0, none⟩) (by simp)).trans (by go_simp)
    have p1 : w5.cell? ⟨w.heap.size, 1, none⟩ = some (.int .i64 y) := (D5.cell (p := ⟨w.heap.size, 1, none⟩) (by simp)).trans (by go_simp)
    have p2 : w5.cell? ⟨w.heap.size, 2, none⟩ = some (.slice a len cap) := (D5.cell (p := ⟨w.heap.size, 2, none⟩) (by simp)).trans (by go_simp)
    have l4 : w4.heap.size < w5.heap.size := by have := B5.out.size; simp at this; omega
    have l0 : w.heap.size < w5.heap.size := by have := D5.size; simp at this; omega
    clear k0 k1 k2 E45 D5
    refine wp_region_all (by kernel_rfl) (by kernel_rfl) 5 (by kernel_rfl) (fun _ v => ⟨#[.agg #[.int .i64 x, .int .i64 y, .slice a len cap], .pointer (some ⟨w.heap.size, 0, none⟩), .bool false, .int .i64 (1048576 - len), .bool (validB x y len), .pointer (some ⟨w4.heap.size, 0, none⟩), .bool (validB x y len), .agg #[.int .i64 x, .int .i64 y, .slice a len cap], .int .i64 1048576, .int .i64 (1048576 - len), .int .i64 (1048576 - len), .bool (decide (1048576 - (len : Int) < 0)), .agg #[.int .i64 x, .int .i64 y, .slice a len cap], .agg #[.int .i64 x, .int .i64 y, .slice (some ⟨g2, 0, none⟩) len len], .bool (validB x y len), .agg #[.int .i64 x, .int .i64 y, .slice a len cap], .agg #[.int .i64 x, .int .i64 y, .slice (some ⟨g4, 0, none⟩) len len], .agg #[.int .i64 x, .int .i64 y, .slice (some ⟨g4, 0, none⟩) len len], .bool (validB x y len), .bool (validB x y len), .bool (validB x y len), .bool false, v 0, v 1, v 2, v 3, v 4], []⟩)
      (fun W => Below w5.heap.size w5 W)
      (fun j W s => match j with | 0 => s = .agg #[.int .i64 x, .int .i64 y, .slice (some ⟨g4, 0, none⟩) len len] | 1 => s = .agg #[.int .i64 x, .int .i64 y, .slice a len cap] | 2 => ∃ g, s = .agg #[.int .i64 x, .int .i64 y, .slice (some ⟨g, 0, none⟩) len len] ∧ IsFRow W (some ⟨g, 0, none⟩) len len zs | 3 => s = .bool true | 4 => s = .bool false | _ => True) ?_ ?_ (Below.refl _ _).drew ?_ ?_
    · intro j W W' v hb
      rcases j with _ | _ | _ | _ | _ | j
      · exact id
      · exact id
      · rintro ⟨g, e, f⟩
        exact ⟨g, e, IsFRow.below f hb⟩
      · exact id
      · exact id
      · exact id
    · exact ⟨fun _ => undef, rfl⟩
    · intro i o ho hlt vals W hG hd
      rcases i with _ | _ | _ | _ | _ | i
      · refine wpOp_run ho (by cases Option.some.inj ho; rfl) ?_
        cases Option.some.inj ho
        have c0 := (hG.cell (p := ⟨w4.heap.size, 0, none⟩) l4).trans q0
        have c1 := (hG.cell (p := ⟨w4.heap.size, 1, none⟩) l4).trans q1
        have c2 := (hG.cell (p := ⟨w4.heap.size, 2, none⟩) l4).trans q2
        go_simp
        exact ⟨_, rfl, Below.refl _ _, hG, rfl⟩
      · refine wpOp_run ho (by cases Option.some.inj ho; rfl) ?_
        cases Option.some.inj ho
        have c0 := (hG.cell (p := ⟨w.heap.size, 0, none⟩) l0).trans p0
        have c1 := (hG.cell (p := ⟨w.heap.size, 1, none⟩) l0).trans p1
        have c2 := (hG.cell (p := ⟨w.heap.size, 2, none⟩) l0).trans p2
        go_simp
        exact ⟨_, rfl, Below.refl _ _, hG, rfl⟩
      · refine wpOp_run ho (by cases Option.some.inj ho; rfl) ?_
        cases Option.some.inj ho
        have hc := toPicture x y a len cap zs W (IsFRow.below H5.out hG) hl'
        rw [← (show vals 1 = .agg #[.int .i64 x, .int .i64 y, .slice a len cap] from hd ⟨1, .data⟩ (by simp) rfl)] at hc
        go_simp
        refine hc.mono ?_
        rintro e w' ⟨g, rfl, f, hb⟩
        exact ⟨_, rfl, hb, hG.trans (hb.mono hG.size), g, rfl, f⟩
      · refine wpOp_run ho (by cases Option.some.inj ho; rfl) ?_
        cases Option.some.inj ho
        obtain ⟨g, e2, f⟩ := (show ∃ g, vals 2 = .agg #[.int .i64 x, .int .i64 y, .slice (some ⟨g, 0, none⟩) len len] ∧ IsFRow W (some ⟨g, 0, none⟩) len len zs from hd ⟨2, .data⟩ (by simp) rfl)
        have hc := eqPicture x y _ _ len len len zs W (IsFRow.below R5.out hG) f
        rw [← e2, ← (show vals 0 = .agg #[.int .i64 x, .int .i64 y, .slice (some ⟨g4, 0, none⟩) len len] from hd ⟨0, .data⟩ (by simp) rfl)] at hc
        clear e2 f
        go_simp
        refine hc.mono ?_
        rintro e w' ⟨rfl, hb⟩
        exact ⟨_, rfl, hb, hG.trans (hb.mono hG.size), rfl⟩
      · refine wpOp_run ho (by cases Option.some.inj ho; rfl) ?_
        cases Option.some.inj ho
        have e3 : vals 3 = .bool true := hd ⟨3, .data⟩ (by simp) rfl
        go_simp
        exact ⟨.bool false, by simp [upd_at, e3], Below.refl _ _, hG, rfl⟩
      · omega
    · intro vals W hG hR
      have e4 : vals 4 = .bool false := hR 4 (by omega)
      simp only [Exit.then, e4]
      go_wp2_with fail
      go_ret
      exact ⟨rfl, E5.out.trans (hG.mono E5.out.size)⟩
end Go.Proofs.Ytbjahmfijlkajaa
