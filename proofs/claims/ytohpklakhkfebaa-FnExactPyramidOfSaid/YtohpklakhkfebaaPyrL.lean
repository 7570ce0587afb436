/-
  The walk of the law PyramidOf.
-/
import Derived.Test.YtohpklakhkfebaaPyrI
namespace Go.Proofs.Ytohpklakhkfebaa
open Go.RowKit Go.FL
theorem PV.mono {w : World} {lo hi lo' hi' n cap : Nat} {ao : Option Addr} {ds : List PD} (h : PV w lo hi ao n cap ds) (h1 : lo' ≤ lo) (h2 : hi ≤ hi') : PV w lo' hi' ao n cap ds := by
  rcases h with h | ⟨b, e, h⟩
  · exact .inl h
  · exact .inr ⟨b, e, h.mono h1 h2⟩
attribute [local irreducible] Oper.wp in
theorem FnExactPyramidOf_walk (x y : Int) (a : Option Addr) (len cap : Nat) (zs : List Nat) (rc : Int) (w : World) (h : PicOk w x y a len cap zs) (_ : (Lit.int .i64 rc).wf = true) :
    Calls Try.prog 3 #[.agg #[.int .i64 x, .int .i64 y, .slice a len cap], .int .i64 rc] w fun e w' => e = .returned (.bool true) ∧ Below w.heap.size w w' := by
  obtain ⟨hx, hy, hrow⟩ := h
  obtain ⟨n, ok, P, hn, hsame, hs, hi⟩ := PyramidOf_pair x y len zs rc
  clear hx hy
  have hcl : len ≤ 9223372036854775807 := by have h1 := hrow.2.1; have h2 := hrow.2.2.1; unfold maxLen at h2; omega
  have H := Lib.hid hrow
  have HS := Lib.hid hs
  have HI := Lib.hid hi
  have HSM := Lib.hid hsame
  clear hrow hs hi hsame
  by_cases hl : (len : Int) ≤ 1048576
  case neg =>
    go_enter Try.func3, Try.ntmps3
    go_wp2_with fail
    refine (szPicture_no x y a len cap 1048576 _ hcl (by omega) (by omega)).mono ?_
    rintro e w1 ⟨rfl, hb⟩
    go_wp2_with fail
    go_ret
    exact ⟨rfl, (by repeat (first | exact Below.refl _ _ | refine Below.setCell ?_ (by first | (simp; done) | (simp; omega)) _ | refine Below.trans ?_ (Below.mono (by assumption) (by first | (simp; done) | (simp; omega))) | refine Below.alloc ?_ (by first | (simp; done) | (simp; omega)) _ | refine Below.alloc ?_ (Nat.le_refl _) _ | refine below_drewN ?_ _))⟩
  have hl' : len ≤ 1048576 := by omega
  go_enter Try.func3, Try.ntmps3
  go_wp2_with fail
  refine (szPicture_ok x y a len cap 1048576 _ hl (by omega)).mono ?_
  rintro e w1 ⟨rfl, b1⟩
  have t1 : w.heap.size + 1 ≤ w1.heap.size := by have := b1.size; simp at this; omega
  have EE : RowKit.Hid (Below w.heap.size w w1) := Lib.hid ((by repeat (first | exact Below.refl _ _ | refine Below.setCell ?_ (by first | (simp; done) | (simp; omega)) _ | refine Below.trans ?_ (Below.mono (by assumption) (by first | (simp; done) | (simp; omega))) | refine Below.alloc ?_ (by first | (simp; done) | (simp; omega)) _ | refine Below.alloc ?_ (Nat.le_refl _) _ | refine below_drewN ?_ _)))
  have K0 : RowKit.Hid (At3 w1 w.heap.size (.int .i64 x) (.int .i64 y) (.slice a len cap)) := Lib.hid ⟨(b1.cell (p := ⟨w.heap.size, 0, none⟩) (by simp)).trans (by go_simp), (b1.cell (p := ⟨w.heap.size, 1, none⟩) (by simp)).trans (by go_simp), (b1.cell (p := ⟨w.heap.size, 2, none⟩) (by simp)).trans (by go_simp)⟩
  clear b1
  obtain ⟨c00, c01, c02⟩ := K0.out
  go_wp2_with fail
  clear c00 c01 c02
  refine (toPicture_own x y a len cap zs _ (IsFRow.below H.out EE.out) hl').mono ?_
  rintro e w2 ⟨g2, rfl, r2, b2⟩
  have R2 := Lib.hid r2
  clear r2
  have t2 : w1.heap.size ≤ w2.heap.size := b2.size
  have BB : Below w1.heap.size w1 w2 := (by repeat (first | exact Below.refl _ _ | refine Below.setCell ?_ (by first | (simp; done) | (simp; omega)) _ | refine Below.trans ?_ (Below.mono (by assumption) (by first | (simp; done) | (simp; omega))) | refine Below.alloc ?_ (by first | (simp; done) | (simp; omega)) _ | refine Below.alloc ?_ (Nat.le_refl _) _ | refine below_drewN ?_ _))
  replace EE := Lib.hid (EE.out.trans (BB.mono (by omega)))
  replace K0 := Lib.hid (At3.below K0.out BB (by omega))
  clear BB b2
  go_wp2_with fail
  refine (HS.out _ _ _ R2.out.row).mono ?_
  rintro e w3 ⟨ao3, cp3, zs3, rfl, r3, i3, b3⟩
  have R3 := Lib.hid r3
  have I3 := Lib.hid i3
  clear r3 i3 R2
  have t3 : w2.heap.size ≤ w3.heap.size := b3.size
  have BB : Below w2.heap.size w2 w3 := (by repeat (first | exact Below.refl _ _ | refine Below.setCell ?_ (by first | (simp; done) | (simp; omega)) _ | refine Below.trans ?_ (Below.mono (by assumption) (by first | (simp; done) | (simp; omega))) | refine Below.alloc ?_ (by first | (simp; done) | (simp; omega)) _ | refine Below.alloc ?_ (Nat.le_refl _) _ | refine below_drewN ?_ _))
  replace EE := Lib.hid (EE.out.trans (BB.mono (by omega)))
  replace K0 := Lib.hid (At3.below K0.out BB (by omega))
  clear BB b3
  obtain ⟨c00, c01, c02⟩ := K0.out
  go_wp2_with fail
  clear c00 c01 c02
  refine (toPicture_own x y a len cap zs _ (IsFRow.below H.out EE.out) hl').mono ?_
  rintro e w4 ⟨g4, rfl, r4, b4⟩
  have R4 := Lib.hid r4
  clear r4
  have t4 : w3.heap.size ≤ w4.heap.size := b4.size
  have BB : Below w3.heap.size w3 w4 := (by repeat (first | exact Below.refl _ _ | refine Below.setCell ?_ (by first | (simp; done) | (simp; omega)) _ | refine Below.trans ?_ (Below.mono (by assumption) (by first | (simp; done) | (simp; omega))) | refine Below.alloc ?_ (by first | (simp; done) | (simp; omega)) _ | refine Below.alloc ?_ (Nat.le_refl _) _ | refine below_drewN ?_ _))
  replace EE := Lib.hid (EE.out.trans (BB.mono (by omega)))
  replace K0 := Lib.hid (At3.below K0.out BB (by omega))
  replace R3 := Lib.hid (R3.out.below BB)
  clear BB b4
  go_wp2_with fail
  refine (HI.out _ _ _ (R4.out.below (by repeat (first | exact Below.refl _ _ | refine Below.setCell ?_ (by first | (simp; done) | (simp; omega)) _ | refine Below.trans ?_ (Below.mono (by assumption) (by first | (simp; done) | (simp; omega))) | refine Below.alloc ?_ (by first | (simp; done) | (simp; omega)) _ | refine Below.alloc ?_ (Nat.le_refl _) _ | refine below_drewN ?_ _))).row).mono ?_
  rintro e w5 ⟨ao5, cp5, zs5, rfl, r5, i5, b5⟩
  have R5 := Lib.hid (r5.mono (lo' := w4.heap.size + 1) (hi' := w5.heap.size) (by simp) (Nat.le_refl _))
  have I5 := Lib.hid i5
  clear r5 i5
  have t5 : w4.heap.size + 1 ≤ w5.heap.size := by have := b5.size; simp at this; omega
  have BB : Below w4.heap.size w4 w5 := (by repeat (first | exact Below.refl _ _ | refine Below.setCell ?_ (by first | (simp; done) | (simp; omega)) _ | refine Below.trans ?_ (Below.mono (by assumption) (by first | (simp; done) | (simp; omega))) | refine Below.alloc ?_ (by first | (simp; done) | (simp; omega)) _ | refine Below.alloc ?_ (Nat.le_refl _) _ | refine below_drewN ?_ _))
  replace EE := Lib.hid (EE.out.trans (BB.mono (by omega)))
  replace K0 := Lib.hid (At3.below K0.out BB (by omega))
  replace R3 := Lib.hid (R3.out.below BB)
  replace R4 := Lib.hid (R4.out.below BB)
  have K8 : RowKit.Hid (At3 w5 w4.heap.size (.int .i64 x) (.int .i64 y) (.slice (some ⟨g4, 0, none⟩) len len)) := Lib.hid ⟨(b5.cell (p := ⟨w4.heap.size, 0, none⟩) (by simp)).trans (by go_simp), (b5.cell (p := ⟨w4.heap.size, 1, none⟩) (by simp)).trans (by go_simp), (b5.cell (p := ⟨w4.heap.size, 2, none⟩) (by simp)).trans (by go_simp)⟩
  clear BB b5
  go_wp2_with fail
  refine (eqPictureS _ _ n _ _ _ _ _ _ zs5 zs3 _ R5.out R3.out (HSM.out _ _ I5.out I3.out) hn).mono ?_
  rintro e w6 ⟨rfl, b6⟩
  have t6 : w5.heap.size ≤ w6.heap.size := b6.size
  have BB : Below w5.heap.size w5 w6 := (by repeat (first | exact Below.refl _ _ | refine Below.setCell ?_ (by first | (simp; done) | (simp; omega)) _ | refine Below.trans ?_ (Below.mono (by assumption) (by first | (simp; done) | (simp; omega))) | refine Below.alloc ?_ (by first | (simp; done) | (simp; omega)) _ | refine Below.alloc ?_ (Nat.le_refl _) _ | refine below_drewN ?_ _))
  replace EE := Lib.hid (EE.out.trans (BB.mono (by omega)))
  replace K0 := Lib.hid (At3.below K0.out BB (by omega))
  replace K8 := Lib.hid (At3.below K8.out BB (by omega))
  replace R3 := Lib.hid (R3.out.below BB)
  replace R4 := Lib.hid (R4.out.below BB)
  replace R5 := Lib.hid (R5.out.below BB)
  clear BB b6
  go_wp2_with fail
  refine wp_region_all (by kernel_rfl) (by kernel_rfl) 5 (by kernel_rfl) (fun _ v => ⟨#[.agg #[.int .i64 x, .int .i64 y, .slice a len cap], .int .i64 rc, .pointer (some ⟨w.heap.size, 0, none⟩), undef, .bool false, .int .i64 (1048576 - (len : Int)), .slice ao3 n cp3, .bool ok, .pointer (some ⟨w4.heap.size, 0, none⟩), .slice ao5 n cp5, .bool ok, undef, undef, undef, undef, undef, .agg #[.int .i64 x, .int .i64 y, .slice a len cap], .int .i64 1048576, .int .i64 (1048576 - (len : Int)), .int .i64 (1048576 - (len : Int)), .bool (decide ((1048576 - (len : Int)) < 0)), .tuple #[.slice ao3 n cp3, .bool ok], .agg #[.int .i64 x, .int .i64 y, .slice a len cap], .agg #[.int .i64 x, .int .i64 y, .slice (some ⟨g2, 0, none⟩) len len], .int .i64 rc, .tuple #[.slice ao3 n cp3, .bool ok], .slice ao3 n cp3, .bool ok, .agg #[.int .i64 x, .int .i64 y, .slice a len cap], .agg #[.int .i64 x, .int .i64 y, .slice (some ⟨g4, 0, none⟩) len len], .tuple #[.slice ao5 n cp5, .bool ok], .agg #[.int .i64 x, .int .i64 y, .slice (some ⟨g4, 0, none⟩) len len], .int .i64 rc, .tuple #[.slice ao5 n cp5, .bool ok], .slice ao5 n cp5, .bool ok, .slice ao5 n cp5, .slice ao3 n cp3, .bool true, .bool false, .bool false, .bool ok, .bool ok, .bool false, .bool false, v 0, v 1, v 2, v 3, v 4, undef, undef, undef, undef, undef, undef, undef, undef, undef, undef, undef, undef, undef, undef, undef, undef, undef, undef, undef, undef, undef, undef, undef, undef, undef, undef, undef, undef, undef, undef, undef, undef, undef, undef, undef, undef, undef, undef, undef, undef, undef, undef, undef, undef, undef, undef, undef, undef, undef, undef, undef], []⟩)
    (fun W => Below w6.heap.size w6 W)
    (fun j W s => match j with | 0 => s = .agg #[.int .i64 x, .int .i64 y, .slice (some ⟨g4, 0, none⟩) len len] | 1 => s = .agg #[.int .i64 x, .int .i64 y, .slice a len cap] | 2 => ∃ g, s = .agg #[.int .i64 x, .int .i64 y, .slice (some ⟨g, 0, none⟩) len len] ∧ IsFRow W (some ⟨g, 0, none⟩) len len zs | 3 => s = .bool true | 4 => s = .bool false | _ => True) ?_ ?_ (Below.refl _ _).drew ?_ ?_
  · intro j W W' v hb
    rcases j with _ | _ | _ | _ | _ | j
    · exact id
    · exact id
    · rintro ⟨g, e, f⟩
      exact ⟨g, e, IsFRow.below f hb⟩
    · exact id
    · exact id
    · exact id
  · exact ⟨fun _ => undef, rfl⟩
  · intro i o ho hlt vals W hG hd
    rcases i with _ | _ | _ | _ | _ | i
    · refine wpOp_run ho (by cases Option.some.inj ho; rfl) ?_
      cases Option.some.inj ho
      obtain ⟨c0, c1, c2⟩ := At3.below K8.out hG (by omega)
      go_simp
      exact ⟨_, rfl, Below.refl _ _, hG, rfl⟩
    · refine wpOp_run ho (by cases Option.some.inj ho; rfl) ?_
      cases Option.some.inj ho
      obtain ⟨c0, c1, c2⟩ := At3.below K0.out hG (by omega)
      go_simp
      exact ⟨_, rfl, Below.refl _ _, hG, rfl⟩
    · refine wpOp_run ho (by cases Option.some.inj ho; rfl) ?_
      cases Option.some.inj ho
      have hc := toPicture x y a len cap zs W (IsFRow.below H.out (EE.out.trans (hG.mono EE.out.size))) hl'
      rw [← (show vals 1 = .agg #[.int .i64 x, .int .i64 y, .slice a len cap] from hd ⟨1, .data⟩ (by simp) rfl)] at hc
      go_simp
      refine hc.mono ?_
      rintro e w' ⟨g, rfl, f, hb⟩
      exact ⟨_, rfl, hb, hG.trans (hb.mono hG.size), g, rfl, f⟩
    · refine wpOp_run ho (by cases Option.some.inj ho; rfl) ?_
      cases Option.some.inj ho
      obtain ⟨g, e2, f⟩ := (show ∃ g, vals 2 = .agg #[.int .i64 x, .int .i64 y, .slice (some ⟨g, 0, none⟩) len len] ∧ IsFRow W (some ⟨g, 0, none⟩) len len zs from hd ⟨2, .data⟩ (by simp) rfl)
      have hc := eqPicture x y _ _ len len len zs W (R4.out.below hG).row f
      rw [← e2, ← (show vals 0 = .agg #[.int .i64 x, .int .i64 y, .slice (some ⟨g4, 0, none⟩) len len] from hd ⟨0, .data⟩ (by simp) rfl)] at hc
      clear e2 f
      go_simp
      refine hc.mono ?_
      rintro e w' ⟨rfl, hb⟩
      exact ⟨_, rfl, hb, hG.trans (hb.mono hG.size), rfl⟩
    · refine wpOp_run ho (by cases Option.some.inj ho; rfl) ?_
      cases Option.some.inj ho
      have e3 : vals 3 = .bool true := hd ⟨3, .data⟩ (by simp) rfl
      go_simp
      exact ⟨.bool false, by simp [upd_at, e3], Below.refl _ _, hG, rfl⟩
    · omega
  · intro vals w7 b7 hR
    have e4 : vals 4 = .bool false := hR 4 (by omega)
    simp only [Exit.then, e4]
    clear hR
    have t7 : w6.heap.size ≤ w7.heap.size := b7.size
    have BB : Below w6.heap.size w6 w7 := (by repeat (first | exact Below.refl _ _ | refine Below.setCell ?_ (by first | (simp; done) | (simp; omega)) _ | refine Below.trans ?_ (Below.mono (by assumption) (by first | (simp; done) | (simp; omega))) | refine Below.alloc ?_ (by first | (simp; done) | (simp; omega)) _ | refine Below.alloc ?_ (Nat.le_refl _) _ | refine below_drewN ?_ _))
    replace EE := Lib.hid (EE.out.trans (BB.mono (by omega)))
    replace K0 := Lib.hid (At3.below K0.out BB (by omega))
    replace K8 := Lib.hid (At3.below K8.out BB (by omega))
    replace R3 := Lib.hid (R3.out.below BB)
    replace R4 := Lib.hid (R4.out.below BB)
    replace R5 := Lib.hid (R5.out.below BB)
    clear BB b7
    obtain ⟨c80, c81, c82⟩ := K8.out
    go_wp2_with fail
    clear c80 c81 c82
    refine (markPicture x y _ len len _ _ zs 1 _ R4.out hl' (by omega) (by omega)).mono ?_
    rintro e w8 ⟨rfl, r8, b8⟩
    clear r8
    clear R4
    have t8 : w7.heap.size ≤ w8.heap.size := b8.size
    replace EE := Lib.hid (EE.out.trans (b8.below (by omega) (by omega)))
    replace K0 := Lib.hid (At3.only K0.out b8 (by omega) (by omega))
    replace K8 := Lib.hid (At3.only K8.out b8 (by omega) (by omega))
    replace R3 := Lib.hid (R3.out.only b8 (by omega))
    replace R5 := Lib.hid (R5.out.only b8 (by omega))
    clear b8
    go_wp2_with fail
    refine (eqPictureS _ _ n _ _ _ _ _ _ zs5 zs3 _ R5.out R3.out (HSM.out _ _ I5.out I3.out) hn).mono ?_
    rintro e w9 ⟨rfl, b9⟩
    have t9 : w8.heap.size ≤ w9.heap.size := b9.size
    have BB : Below w8.heap.size w8 w9 := (by repeat (first | exact Below.refl _ _ | refine Below.setCell ?_ (by first | (simp; done) | (simp; omega)) _ | refine Below.trans ?_ (Below.mono (by assumption) (by first | (simp; done) | (simp; omega))) | refine Below.alloc ?_ (by first | (simp; done) | (simp; omega)) _ | refine Below.alloc ?_ (Nat.le_refl _) _ | refine below_drewN ?_ _))
    replace EE := Lib.hid (EE.out.trans (BB.mono (by omega)))
    replace K0 := Lib.hid (At3.below K0.out BB (by omega))
    replace K8 := Lib.hid (At3.below K8.out BB (by omega))
    replace R3 := Lib.hid (R3.out.below BB)
    replace R5 := Lib.hid (R5.out.below BB)
    clear BB b9
    go_wp2_with fail
    refine (markPictureS _ n _ _ _ zs5 1 _ R5.out hn (by omega)).mono ?_
    rintro e w10 ⟨rfl, r10, b10⟩
    have R10 := Lib.hid r10
    clear r10 R5
    have t10 : w9.heap.size ≤ w10.heap.size := b10.size
    replace EE := Lib.hid (EE.out.trans (b10.below (by omega) (by omega)))
    replace K0 := Lib.hid (At3.only K0.out b10 (by omega) (by omega))
    replace K8 := Lib.hid (At3.only K8.out b10 (by omega) (by omega))
    replace R3 := Lib.hid (R3.out.only b10 (by omega))
    clear b10
    go_wp2_with fail
    refine (heldPictureS _ n _ _ _ zs5 1 _ R10.out hn (by omega)).mono ?_
    rintro e w11 ⟨rfl, b11⟩
    have t11 : w10.heap.size ≤ w11.heap.size := b11.size
    have BB : Below w10.heap.size w10 w11 := (by repeat (first | exact Below.refl _ _ | refine Below.setCell ?_ (by first | (simp; done) | (simp; omega)) _ | refine Below.trans ?_ (Below.mono (by assumption) (by first | (simp; done) | (simp; omega))) | refine Below.alloc ?_ (by first | (simp; done) | (simp; omega)) _ | refine Below.alloc ?_ (Nat.le_refl _) _ | refine below_drewN ?_ _))
    replace EE := Lib.hid (EE.out.trans (BB.mono (by omega)))
    replace K0 := Lib.hid (At3.below K0.out BB (by omega))
    replace K8 := Lib.hid (At3.below K8.out BB (by omega))
    replace R3 := Lib.hid (R3.out.below BB)
    replace R10 := Lib.hid (R10.out.below BB)
    clear BB b11
    obtain ⟨c00, c01, c02⟩ := K0.out
    go_wp2_with fail
    clear c00 c01 c02
    refine (toPicture_own x y a len cap zs _ (IsFRow.below H.out EE.out) hl').mono ?_
    rintro e w12 ⟨g12, rfl, r12, b12⟩
    have R12 := Lib.hid r12
    clear r12
    have t12 : w11.heap.size ≤ w12.heap.size := b12.size
    have BB : Below w11.heap.size w11 w12 := (by repeat (first | exact Below.refl _ _ | refine Below.setCell ?_ (by first | (simp; done) | (simp; omega)) _ | refine Below.trans ?_ (Below.mono (by assumption) (by first | (simp; done) | (simp; omega))) | refine Below.alloc ?_ (by first | (simp; done) | (simp; omega)) _ | refine Below.alloc ?_ (Nat.le_refl _) _ | refine below_drewN ?_ _))
    replace EE := Lib.hid (EE.out.trans (BB.mono (by omega)))
    replace K0 := Lib.hid (At3.below K0.out BB (by omega))
    replace K8 := Lib.hid (At3.below K8.out BB (by omega))
    replace R3 := Lib.hid (R3.out.below BB)
    replace R10 := Lib.hid (R10.out.below BB)
    clear BB b12
    go_wp2_with fail
    refine (HI.out _ _ _ R12.out.row).mono ?_
    rintro e w13 ⟨ao13, cp13, zs13, rfl, r13, i13, b13⟩
    have R13 := Lib.hid r13
    have I13 := Lib.hid i13
    clear r13 i13 R12
    have t13 : w12.heap.size ≤ w13.heap.size := b13.size
    have BB : Below w12.heap.size w12 w13 := (by repeat (first | exact Below.refl _ _ | refine Below.setCell ?_ (by first | (simp; done) | (simp; omega)) _ | refine Below.trans ?_ (Below.mono (by assumption) (by first | (simp; done) | (simp; omega))) | refine Below.alloc ?_ (by first | (simp; done) | (simp; omega)) _ | refine Below.alloc ?_ (Nat.le_refl _) _ | refine below_drewN ?_ _))
    replace EE := Lib.hid (EE.out.trans (BB.mono (by omega)))
    replace K0 := Lib.hid (At3.below K0.out BB (by omega))
    replace K8 := Lib.hid (At3.below K8.out BB (by omega))
    replace R3 := Lib.hid (R3.out.below BB)
    replace R10 := Lib.hid (R10.out.below BB)
    clear BB b13
    go_wp2_with fail
    refine (eqPictureS _ _ n _ _ _ _ _ _ zs13 zs3 _ R13.out R3.out (HSM.out _ _ I13.out I3.out) hn).mono ?_
    rintro e w14 ⟨rfl, b14⟩
    have t14 : w13.heap.size ≤ w14.heap.size := b14.size
    have BB : Below w13.heap.size w13 w14 := (by repeat (first | exact Below.refl _ _ | refine Below.setCell ?_ (by first | (simp; done) | (simp; omega)) _ | refine Below.trans ?_ (Below.mono (by assumption) (by first | (simp; done) | (simp; omega))) | refine Below.alloc ?_ (by first | (simp; done) | (simp; omega)) _ | refine Below.alloc ?_ (Nat.le_refl _) _ | refine below_drewN ?_ _))
    replace EE := Lib.hid (EE.out.trans (BB.mono (by omega)))
    replace K0 := Lib.hid (At3.below K0.out BB (by omega))
    replace K8 := Lib.hid (At3.below K8.out BB (by omega))
    replace R3 := Lib.hid (R3.out.below BB)
    replace R10 := Lib.hid (R10.out.below BB)
    replace R13 := Lib.hid (R13.out.below BB)
    clear BB b14
    go_wp2_with fail
    refine (heldPictureS _ n _ _ _ zs5 1 _ R10.out hn (by omega)).mono ?_
    rintro e w15 ⟨rfl, b15⟩
    have t15 : w14.heap.size ≤ w15.heap.size := b15.size
    have BB : Below w14.heap.size w14 w15 := (by repeat (first | exact Below.refl _ _ | refine Below.setCell ?_ (by first | (simp; done) | (simp; omega)) _ | refine Below.trans ?_ (Below.mono (by assumption) (by first | (simp; done) | (simp; omega))) | refine Below.alloc ?_ (by first | (simp; done) | (simp; omega)) _ | refine Below.alloc ?_ (Nat.le_refl _) _ | refine below_drewN ?_ _))
    replace EE := Lib.hid (EE.out.trans (BB.mono (by omega)))
    replace K0 := Lib.hid (At3.below K0.out BB (by omega))
    replace K8 := Lib.hid (At3.below K8.out BB (by omega))
    replace R3 := Lib.hid (R3.out.below BB)
    replace R10 := Lib.hid (R10.out.below BB)
    replace R13 := Lib.hid (R13.out.below BB)
    clear BB b15
    go_wp2_with fail
    go_ret
    exact ⟨rfl, EE.out⟩
end Go.Proofs.Ytohpklakhkfebaa
