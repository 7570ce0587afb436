/-
  The difference of two pictures: the law's walk.
-/
import Derived.Test.YtbjahmfijlkajaaLessA
import Derived.Test.YtbjahmfijlkajaaTie
namespace Go.Proofs.Ytbjahmfijlkajaa
open Go.RowKit Go.FL
theorem HB2 {w w' : World} {c c2 : Array Value} {t t2 : TypeId} (h : Below ((w.alloc (.cells c t)).alloc (.cells c2 t2)).heap.size ((w.alloc (.cells c t)).alloc (.cells c2 t2)) w') : Below w.heap.size w w' :=
  (Below.alloc (Below.alloc (Below.refl _ _) (Nat.le_refl _) _) (by simp) _).trans (h.mono (by simp; omega))

theorem ORow.setG {w : World} {lo hi len cap g : Nat} {ao : Option Addr} {zs : List Nat} {cs : Array Value} (h : ORow w lo hi ao len cap zs) (ht : Typ w ao) (hg : w.heap[g]? = some (.cells cs 27 (0, 0))) (i : Nat) (u : Value) : ORow (w.setCell ⟨g, i, none⟩ u) lo hi ao len cap zs := by
  rcases h.own with ⟨rfl, rfl⟩ | ⟨b, rfl, k1, k2, k3, k4⟩
  · exact ⟨⟨h.row.1, h.row.2.1, h.row.2.2.1, h.row.2.2.2.1, .inl rfl⟩, .inl ⟨rfl, rfl⟩⟩
  · have hne : b ≠ g := by
      rintro rfl
      obtain ⟨cur, hc⟩ := ht ⟨b, 0, none⟩ rfl
      have hc' : w.heap[b]? = some (.cells cur 31 (0, 0)) := hc
      rw [hc'] at hg
      simp at hg
    exact ⟨IsFRow.setCell h.row hne u, .inr ⟨b, rfl, k1, k2, by simpa [World.setCell] using k3, fun j => (World.frozen?_of_block (a := ⟨b, j, none⟩) (Below.heap_setCell w ⟨g, i, none⟩ u b hne)).trans (k4 j)⟩⟩
def SpecT (W : World) (lo n : Nat) (ao : Option Addr) (cp : Nat) (os : Nat → Option Nat) : Prop := ∃ zs hi, ORow W lo hi ao n cp zs ∧ (∀ i, i < n → Is .f32 (zs.getD i 0) (os i)) ∧ Typ W ao
theorem SpecT.below {W W' : World} {lo n cp : Nat} {ao : Option Addr} {os : Nat → Option Nat} (h : SpecT W lo n ao cp os) (hb : Below W.heap.size W W') : SpecT W' lo n ao cp os := by
  obtain ⟨zs, hi, h1, h2, h3⟩ := h
  exact ⟨zs, hi, h1.below hb, h2, h3.below hb⟩
theorem SpecT.set {W : World} {lo n cp g : Nat} {ao : Option Addr} {os : Nat → Option Nat} {cs : Array Value} (h : SpecT W lo n ao cp os) (hg : W.heap[g]? = some (.cells cs 27 (0, 0))) (i : Nat) (u : Value) : SpecT (W.setCell ⟨g, i, none⟩ u) lo n ao cp os := by
  obtain ⟨zs, hi, h1, h2, h3⟩ := h
  exact ⟨zs, hi, h1.setG h3 hg i u, h2, h3.set hg i u⟩
/-- the pointer that was stored through, if any -/
def pk (p q : Value) : Value := match p with | .pointer _ => p | _ => q
@[go_sem] theorem pk_bool (q : Value) : pk (.bool false) q = q := rfl
@[go_sem] theorem pk_ptr (p : Option Addr) (q : Value) : pk (.pointer p) q = .pointer p := rfl

theorem ORow.top {w : World} {lo hi len cap : Nat} {ao : Option Addr} {zs : List Nat} (h : ORow w lo hi ao len cap zs) : ORow w lo w.heap.size ao len cap zs := by
  refine ⟨h.row, ?_⟩
  rcases h.own with e | ⟨b, e, k1, k2, k3, k4⟩
  · exact .inl e
  · exact .inr ⟨b, e, k1, k3, k3, k4⟩
set_option maxHeartbeats 2000000 in
attribute [local irreducible] Oper.wp in
theorem FnExactLessPictures_walk (x y : Int) (a : Option Addr) (len cap : Nat) (zs : List Nat) (x1 y1 : Int) (a2 : Option Addr) (len2 cap2 : Nat) (ys : List Nat) (w : World) (h : PicOk w x y a len cap zs) (h2 : PicOk w x1 y1 a2 len2 cap2 ys) :
    Calls Try.prog 9 #[.agg #[.int .i64 x, .int .i64 y, .slice a len cap], .agg #[.int .i64 x1, .int .i64 y1, .slice a2 len2 cap2]] w fun e w' => e = .returned (.bool true) ∧ Below w.heap.size w w' := by
  obtain ⟨-, -, hrow⟩ := h
  obtain ⟨-, -, hrow2⟩ := h2
  obtain ⟨x', y', n, ok, os, hn, hs, hi⟩ := LessPictures_pair x y x1 y1 len len2 zs ys
  have hcl : len ≤ 9223372036854775807 := by have h1 := hrow.2.1; have h2 := hrow.2.2.1; unfold maxLen at h2; omega
  have hcl2 : len2 ≤ 9223372036854775807 := by have h1 := hrow2.2.1; have h2 := hrow2.2.2.1; unfold maxLen at h2; omega
  have H0 := Lib.hid hrow
  have H1 := Lib.hid hrow2
  have HS := Lib.hid hs
  have HI := Lib.hid hi
  clear hrow hrow2 hs hi
  by_cases hl : (len : Int) ≤ 1048576
  case neg =>
    go_enter Try.func9, Try.ntmps9
    go_wp2_with fail
    refine (szPicture_no x y a len cap 1048576 _ hcl (by omega) (by omega)).mono ?_
    rintro e w1 ⟨rfl, hb⟩
    go_wp2_with fail
    go_ret
    exact ⟨rfl, HB2 hb⟩
  by_cases hm : (len2 : Int) ≤ 1048576 - len
  case neg =>
    go_enter Try.func9, Try.ntmps9
    go_wp2_with fail
    refine (szPicture_ok x y a len cap 1048576 _ hl (by omega)).mono ?_
    rintro e w1 ⟨rfl, b1⟩
    have D := Lib.hid b1
    clear b1
    have k00 : w1.cell? ⟨w.heap.size, 0, none⟩ = some (.int .i64 x) := (D.out.cell (p := ⟨w.heap.size, 0, none⟩) (by first | (simp; done) | (simp; omega))).trans (by go_simp)
    have k01 : w1.cell? ⟨w.heap.size, 1, none⟩ = some (.int .i64 y) := (D.out.cell (p := ⟨w.heap.size, 1, none⟩) (by first | (simp; done) | (simp; omega))).trans (by go_simp)
    have k02 : w1.cell? ⟨w.heap.size, 2, none⟩ = some (.slice a len cap) := (D.out.cell (p := ⟨w.heap.size, 2, none⟩) (by first | (simp; done) | (simp; omega))).trans (by go_simp)
    have k10 : w1.cell? ⟨w.heap.size + 1, 0, none⟩ = some (.int .i64 x1) := (D.out.cell (p := ⟨w.heap.size + 1, 0, none⟩) (by first | (simp; done) | (simp; omega))).trans (by go_simp)
    have k11 : w1.cell? ⟨w.heap.size + 1, 1, none⟩ = some (.int .i64 y1) := (D.out.cell (p := ⟨w.heap.size + 1, 1, none⟩) (by first | (simp; done) | (simp; omega))).trans (by go_simp)
    have k12 : w1.cell? ⟨w.heap.size + 1, 2, none⟩ = some (.slice a2 len2 cap2) := (D.out.cell (p := ⟨w.heap.size + 1, 2, none⟩) (by first | (simp; done) | (simp; omega))).trans (by go_simp)
    go_wp2_with fail
    refine (szPicture_no x1 y1 a2 len2 cap2 (1048576 - len) _ hcl2 (by omega) (by omega)).mono ?_
    rintro e w2 ⟨rfl, hb⟩
    have D2 := HB2 (D.out.trans (hb.mono D.out.size))
    go_wp2_with fail
    go_ret
    exact ⟨rfl, D2⟩
  have hl0 : len ≤ 1048576 := by omega
  have hl1 : len2 ≤ 1048576 := by omega
  go_enter Try.func9, Try.ntmps9
  go_wp2_with fail
  refine (szPicture_ok x y a len cap 1048576 _ hl (by omega)).mono ?_
  rintro e w1 ⟨rfl, b1⟩
  have D := Lib.hid b1
  clear b1
  have k00 : w1.cell? ⟨w.heap.size, 0, none⟩ = some (.int .i64 x) := (D.out.cell (p := ⟨w.heap.size, 0, none⟩) (by first | (simp; done) | (simp; omega))).trans (by go_simp)
  have k01 : w1.cell? ⟨w.heap.size, 1, none⟩ = some (.int .i64 y) := (D.out.cell (p := ⟨w.heap.size, 1, none⟩) (by first | (simp; done) | (simp; omega))).trans (by go_simp)
  have k02 : w1.cell? ⟨w.heap.size, 2, none⟩ = some (.slice a len cap) := (D.out.cell (p := ⟨w.heap.size, 2, none⟩) (by first | (simp; done) | (simp; omega))).trans (by go_simp)
  have k10 : w1.cell? ⟨w.heap.size + 1, 0, none⟩ = some (.int .i64 x1) := (D.out.cell (p := ⟨w.heap.size + 1, 0, none⟩) (by first | (simp; done) | (simp; omega))).trans (by go_simp)
  have k11 : w1.cell? ⟨w.heap.size + 1, 1, none⟩ = some (.int .i64 y1) := (D.out.cell (p := ⟨w.heap.size + 1, 1, none⟩) (by first | (simp; done) | (simp; omega))).trans (by go_simp)
  have k12 : w1.cell? ⟨w.heap.size + 1, 2, none⟩ = some (.slice a2 len2 cap2) := (D.out.cell (p := ⟨w.heap.size + 1, 2, none⟩) (by first | (simp; done) | (simp; omega))).trans (by go_simp)
  go_wp2_with fail
  refine (szPicture_ok x1 y1 a2 len2 cap2 (1048576 - len) _ hm (by omega)).mono ?_
  rintro e w2 ⟨rfl, b2⟩
  have t1 : w.heap.size + 2 ≤ w1.heap.size := by have := D.out.size; simp at this; omega
  have t2 : w.heap.size + 2 ≤ w2.heap.size := by have := b2.size; omega
  have EE := Lib.hid (HB2 (D.out.trans (b2.mono D.out.size)))
  have K0 : RowKit.Hid (At3 w2 (w.heap.size) (.int .i64 x) (.int .i64 y) (.slice a len cap)) := Lib.hid ⟨(b2.cell (p := ⟨w.heap.size, 0, none⟩) (show w.heap.size < w1.heap.size from by omega)).trans k00, (b2.cell (p := ⟨w.heap.size, 1, none⟩) (show w.heap.size < w1.heap.size from by omega)).trans k01, (b2.cell (p := ⟨w.heap.size, 2, none⟩) (show w.heap.size < w1.heap.size from by omega)).trans k02⟩
  have K1 : RowKit.Hid (At3 w2 (w.heap.size + 1) (.int .i64 x1) (.int .i64 y1) (.slice a2 len2 cap2)) := Lib.hid ⟨(b2.cell (p := ⟨w.heap.size + 1, 0, none⟩) (show w.heap.size + 1 < w1.heap.size from by omega)).trans k10, (b2.cell (p := ⟨w.heap.size + 1, 1, none⟩) (show w.heap.size + 1 < w1.heap.size from by omega)).trans k11, (b2.cell (p := ⟨w.heap.size + 1, 2, none⟩) (show w.heap.size + 1 < w1.heap.size from by omega)).trans k12⟩
  clear k00 k01 k02 k10 k11 k12 b2 D
  go_wp2_with fail
  refine wp_region_keep (by kernel_rfl) (by kernel_rfl) 10 (by kernel_rfl) 9 (.bool false) (fun j => decide (5 ≤ j)) (fun _ v => ⟨#[Value.agg #[Value.int IntKind.i64 x, Value.int IntKind.i64 y, Value.slice a len cap], Value.agg #[Value.int IntKind.i64 x1, Value.int IntKind.i64 y1, Value.slice a2 len2 cap2], Value.pointer (some ⟨w.heap.size, 0, none⟩), Value.pointer (some ⟨w.heap.size + 1, 0, none⟩), Value.bool false, Value.int IntKind.i64 (1048576 - (len : Int) - (len2 : Int)), pk (v 9) (v 8), undef, undef, undef, undef, undef, undef, undef, undef, undef, undef, Value.agg #[Value.int IntKind.i64 x, Value.int IntKind.i64 y, Value.slice a len cap], Value.int IntKind.i64 1048576, Value.int IntKind.i64 (1048576 - (len : Int)), Value.int IntKind.i64 (1048576 - (len : Int)), Value.bool (decide (1048576 - (len : Int) < 0)), Value.agg #[Value.int IntKind.i64 x1, Value.int IntKind.i64 y1, Value.slice a2 len2 cap2], Value.int IntKind.i64 (1048576 - (len : Int)), Value.int IntKind.i64 (1048576 - (len : Int) - (len2 : Int)), Value.int IntKind.i64 (1048576 - (len : Int) - (len2 : Int)), Value.bool (decide (1048576 - (len : Int) - (len2 : Int) < 0)), v 5, v 0, v 1, v 2, v 3, v 4, v 6, v 7, undef, undef, undef, undef, undef, undef, undef, undef, undef, undef, undef, undef, undef, undef, undef, undef, undef, undef, undef, undef, undef, undef, undef, undef, undef, undef, undef, undef, undef, undef, undef, undef, undef, undef, undef, undef, undef, undef, undef, undef, undef, undef, undef, undef, undef, undef, undef, undef, undef, undef, undef, undef, undef, undef, undef, undef, undef, undef, undef, undef, undef, undef, undef, undef, undef, undef, undef, undef, undef, undef, undef, undef, undef, undef, undef, undef, undef, undef, undef, undef, undef, undef, undef, undef], []⟩)
    (fun _ W => Below w2.heap.size w2 W)
    (fun j W s => match j with | 0 => s = .agg #[.int .i64 x, .int .i64 y, .slice a len cap] | 1 => ∃ g, s = .agg #[.int .i64 x, .int .i64 y, .slice (some ⟨g, 0, none⟩) len len] ∧ IsFRow W (some ⟨g, 0, none⟩) len len zs | 2 => s = .agg #[.int .i64 x1, .int .i64 y1, .slice a2 len2 cap2] | 3 => ∃ g, s = .agg #[.int .i64 x1, .int .i64 y1, .slice (some ⟨g, 0, none⟩) len2 len2] ∧ IsFRow W (some ⟨g, 0, none⟩) len2 len2 ys | 4 => ∃ ao cp, s = .tuple #[.agg #[.int .i64 x', .int .i64 y', .slice ao n cp], .bool ok] ∧ SpecT W w2.heap.size n ao cp os | 5 => ∃ ao cp, s = .tuple #[.agg #[.int .i64 x', .int .i64 y', .slice ao n cp], .bool ok] ∧ SpecT W w2.heap.size n ao cp os | 6 => ∃ ao cp, s = .agg #[.int .i64 x', .int .i64 y', .slice ao n cp] ∧ SpecT W w2.heap.size n ao cp os | 7 => s = .bool ok | 8 => ∃ g, s = .pointer (some ⟨g, 0, none⟩) ∧ w2.heap.size ≤ g ∧ ∃ c0 c1 c2, W.heap[g]? = some (.cells #[c0, c1, c2] 27 (0, 0)) | 9 => ∃ g, s = .pointer (some ⟨g, 0, none⟩) ∧ w2.heap.size ≤ g ∧ ∃ ao cp, W.heap[g]? = some (.cells #[.int .i64 x', .int .i64 y', .slice ao n cp] 27 (0, 0)) ∧ SpecT W w2.heap.size n ao cp os | _ => True) ?_ ⟨fun i => [undef, undef, undef, undef, undef, undef, undef, undef, undef, .bool false].getD i undef, rfl, rfl⟩ (Below.refl _ _).drew ?_ ?_ (by omega) ?_
  · intro j W W' v hb
    rcases j with _ | _ | _ | _ | _ | _ | _ | _ | _ | _ | j
    · exact id
    · rintro ⟨g, e, f⟩
      exact ⟨g, e, IsFRow.below f hb⟩
    · exact id
    · rintro ⟨g, e, f⟩
      exact ⟨g, e, IsFRow.below f hb⟩
    · rintro ⟨ao, cp, e, f⟩
      exact ⟨ao, cp, e, f.below hb⟩
    · rintro ⟨ao, cp, e, f⟩
      exact ⟨ao, cp, e, f.below hb⟩
    · rintro ⟨ao, cp, e, f⟩
      exact ⟨ao, cp, e, f.below hb⟩
    · exact id
    · rintro ⟨g, e, h1, c0, c1, c2, hx⟩
      exact ⟨g, e, h1, c0, c1, c2, (hb.block _ (lt_of_block hx)).trans hx⟩
    · rintro ⟨g, e, h1, ao, cp, hx, f⟩
      exact ⟨g, e, h1, ao, cp, (hb.block _ (lt_of_block hx)).trans hx, f.below hb⟩
    · exact id
  · intro i o ho hlt hne d vals W hG hd hdp
    rcases i with _ | _ | _ | _ | _ | _ | _ | _ | _ | _ | i
    · refine wpOp_run ho (by cases Option.some.inj ho; rfl) ?_
      cases Option.some.inj ho
      obtain ⟨rfl, hmk⟩ := hdp (by kernel_rfl)
      clear hmk
      obtain ⟨c0, c1, c2⟩ := At3.below K0.out hG (by omega)
      go_simp
      exact ⟨_, rfl, Below.refl _ _, hG, rfl⟩
    · refine wpOp_run ho (by cases Option.some.inj ho; rfl) ?_
      cases Option.some.inj ho
      obtain ⟨rfl, hmk⟩ := hdp (by kernel_rfl)
      have hc := toPicture x y a len cap zs W (IsFRow.below H0.out (EE.out.trans (hG.mono EE.out.size))) hl0
      rw [← (show vals 0 = .agg #[.int .i64 x, .int .i64 y, .slice a len cap] from hd ⟨0, .data⟩ (by simp) rfl (fun h => by cases h))] at hc
      clear hmk
      go_simp
      refine hc.mono ?_
      rintro e w' ⟨g, rfl, f, hb⟩
      exact ⟨_, rfl, hb, hG.trans (hb.mono hG.size), g, rfl, f⟩
    · refine wpOp_run ho (by cases Option.some.inj ho; rfl) ?_
      cases Option.some.inj ho
      obtain ⟨rfl, hmk⟩ := hdp (by kernel_rfl)
      clear hmk
      obtain ⟨c0, c1, c2⟩ := At3.below K1.out hG (by omega)
      go_simp
      exact ⟨_, rfl, Below.refl _ _, hG, rfl⟩
    · refine wpOp_run ho (by cases Option.some.inj ho; rfl) ?_
      cases Option.some.inj ho
      obtain ⟨rfl, hmk⟩ := hdp (by kernel_rfl)
      have hc := toPicture x1 y1 a2 len2 cap2 ys W (IsFRow.below H1.out (EE.out.trans (hG.mono EE.out.size))) hl1
      rw [← (show vals 2 = .agg #[.int .i64 x1, .int .i64 y1, .slice a2 len2 cap2] from hd ⟨2, .data⟩ (by simp) rfl (fun h => by cases h))] at hc
      clear hmk
      go_simp
      refine hc.mono ?_
      rintro e w' ⟨g, rfl, f, hb⟩
      exact ⟨_, rfl, hb, hG.trans (hb.mono hG.size), g, rfl, f⟩
    · refine wpOp_run ho (by cases Option.some.inj ho; rfl) ?_
      cases Option.some.inj ho
      obtain ⟨rfl, hmk⟩ := hdp (by kernel_rfl)
      obtain ⟨g0, e1, f0⟩ := (show ∃ g, vals 1 = .agg #[.int .i64 x, .int .i64 y, .slice (some ⟨g, 0, none⟩) len len] ∧ IsFRow W (some ⟨g, 0, none⟩) len len zs from hd ⟨1, .data⟩ (by simp) rfl (fun h => by cases h))
      obtain ⟨g1, e3, f1⟩ := (show ∃ g, vals 3 = .agg #[.int .i64 x1, .int .i64 y1, .slice (some ⟨g, 0, none⟩) len2 len2] ∧ IsFRow W (some ⟨g, 0, none⟩) len2 len2 ys from hd ⟨3, .data⟩ (by simp) rfl (fun h => by cases h))
      have hc := HS.out W _ _ _ _ f0 f1
      rw [← e1, ← e3] at hc
      clear e1 e3 f0 f1 hmk
      go_simp
      refine hc.mono ?_
      rintro e w' ⟨ao, cp, zs3, rfl, r3, i3, ty, hb⟩
      have hlo := hG.size
      exact ⟨_, rfl, hb, hG.trans (hb.mono hG.size), ao, cp, rfl, zs3, w'.heap.size, r3.mono hlo (Nat.le_refl _), i3, ty⟩
    · refine wpOp_run ho (by cases Option.some.inj ho; rfl) ?_
      cases Option.some.inj ho
      obtain ⟨rfl, hmk⟩ := hdp (by kernel_rfl)
      obtain ⟨ao, cp, e4, f⟩ := (show ∃ ao cp, vals 4 = .tuple #[.agg #[.int .i64 x', .int .i64 y', .slice ao n cp], .bool ok] ∧ SpecT W w2.heap.size n ao cp os from hd ⟨4, .data⟩ (by simp) rfl (fun h => by cases h))
      clear hmk
      go_simp
      exact ⟨.tuple #[.agg #[.int .i64 x', .int .i64 y', .slice ao n cp], .bool ok], by simp [upd_at, e4], Below.refl _ _, hG, ao, cp, rfl, f⟩
    · refine wpOp_run ho (by cases Option.some.inj ho; rfl) ?_
      cases Option.some.inj ho
      obtain ⟨rfl, hmk⟩ := hdp (by kernel_rfl)
      obtain ⟨ao, cp, e5, f⟩ := (show ∃ ao cp, vals 5 = .tuple #[.agg #[.int .i64 x', .int .i64 y', .slice ao n cp], .bool ok] ∧ SpecT W w2.heap.size n ao cp os from hd ⟨5, .data⟩ (by simp) rfl (fun h => by cases h))
      clear hmk
      go_simp
      exact ⟨.agg #[.int .i64 x', .int .i64 y', .slice ao n cp], by simp [upd_at, e5], Below.refl _ _, hG, ao, cp, rfl, f⟩
    · refine wpOp_run ho (by cases Option.some.inj ho; rfl) ?_
      cases Option.some.inj ho
      obtain ⟨ao, cp, e5, f⟩ := (show ∃ ao cp, vals 5 = .tuple #[.agg #[.int .i64 x', .int .i64 y', .slice ao n cp], .bool ok] ∧ SpecT W w2.heap.size n ao cp os from hd ⟨5, .data⟩ (by simp) rfl (fun _ => rfl))
      go_simp
      exact ⟨.bool ok, by simp [upd_at, e5], Below.refl _ _, hG, rfl⟩
    · refine wpOp_run ho (by cases Option.some.inj ho; rfl) ?_
      cases Option.some.inj ho
      obtain ⟨rfl, hmk⟩ := hdp (by kernel_rfl)
      have hB : Below W.heap.size W (W.alloc (.cells #[.int .i64 0, .int .i64 0, .slice none 0 0] 27)) := Below.alloc (Below.refl _ _) (Nat.le_refl _) _
      go_simp
      exact ⟨.pointer (some ⟨W.heap.size, 0, none⟩), by simp [upd_at, hmk, pk_bool], hB, hG.trans (hB.mono hG.size), W.heap.size, rfl, hG.size, _, _, _, heap_alloc_new W _⟩
    · exact absurd rfl hne
    · omega
  · intro o ho vals W hG hd hmk
    refine wpOp_run ho (by cases Option.some.inj ho; rfl) ?_
    cases Option.some.inj ho
    obtain ⟨ao, cp, e6, f6⟩ := (show ∃ ao cp, vals 6 = .agg #[.int .i64 x', .int .i64 y', .slice ao n cp] ∧ SpecT W w2.heap.size n ao cp os from hd ⟨6, .data⟩ (by simp) rfl)
    obtain ⟨g, e8, hg, c0, c1, c2, hx⟩ := (show ∃ g, vals 8 = .pointer (some ⟨g, 0, none⟩) ∧ w2.heap.size ≤ g ∧ ∃ c0 c1 c2, W.heap[g]? = some (.cells #[c0, c1, c2] 27 (0, 0)) from hd ⟨8, .data⟩ (by simp) rfl)
    have x0 := box_cell hx 0
    have x1 := box_cell hx 1
    have x2 := box_cell hx 2
    have y0 := box_free hx 0
    have y1 := box_free hx 1
    have y2 := box_free hx 2
    have HX := Lib.hid hx
    have HG := Lib.hid hG
    clear hx hG
    go_simp
    refine ⟨.pointer (some ⟨g, 0, none⟩), by simp [upd_at, e6, e8, pk_ptr], Below.setCell (Below.setCell (Below.setCell HG.out hg _) hg _) hg _, ⟨g, rfl, hg, ao, cp, box_set (i := 2) (cs := #[.int .i64 x', .int .i64 y', c2]) (.slice ao n cp) (box_set (i := 1) (cs := #[.int .i64 x', c1, c2]) (.int .i64 y') (box_set (i := 0) (.int .i64 x') HX.out)), SpecT.set (SpecT.set (SpecT.set f6 HX.out 0 _) (box_set _ HX.out) 1 _) (box_set _ (box_set _ HX.out)) 2 _⟩, ?_⟩
    intro j s hj hk hs
    rcases j with _ | _ | _ | _ | _ | _ | _ | _ | _ | _ | j
    · cases hk
    · cases hk
    · cases hk
    · cases hk
    · cases hk
    · obtain ⟨ao', cp', e, f⟩ := hs
      exact ⟨ao', cp', e, SpecT.set (SpecT.set (SpecT.set f HX.out 0 _) (box_set _ HX.out) 1 _) (box_set _ (box_set _ HX.out)) 2 _⟩
    · obtain ⟨ao', cp', e, f⟩ := hs
      exact ⟨ao', cp', e, SpecT.set (SpecT.set (SpecT.set f HX.out 0 _) (box_set _ HX.out) 1 _) (box_set _ (box_set _ HX.out)) 2 _⟩
    · exact hs
    · obtain ⟨g', e, h1, d0, d1, d2, hx'⟩ := hs
      by_cases hgg : g' = g
      · subst hgg
        exact ⟨g', e, h1, _, _, _, box_set (i := 2) (cs := #[.int .i64 x', .int .i64 y', c2]) (.slice ao n cp) (box_set (i := 1) (cs := #[.int .i64 x', c1, c2]) (.int .i64 y') (box_set (i := 0) (.int .i64 x') HX.out))⟩
      · exact ⟨g', e, h1, d0, d1, d2, (Below.heap_setCell _ _ _ _ hgg).trans ((Below.heap_setCell _ _ _ _ hgg).trans ((Below.heap_setCell _ _ _ _ hgg).trans hx'))⟩
    · exact absurd rfl hj
    · exact hs
  · intro vals w3 b3 hR
    have e7 : vals 7 = .bool ok := hR 7 (by omega) rfl
    obtain ⟨g6, e9, hg6, ao3, cp3, hxg6, fg6⟩ := (show ∃ g, vals 9 = .pointer (some ⟨g, 0, none⟩) ∧ w2.heap.size ≤ g ∧ ∃ ao cp, w3.heap[g]? = some (.cells #[.int .i64 x', .int .i64 y', .slice ao n cp] 27 (0, 0)) ∧ SpecT w3 w2.heap.size n ao cp os from hR 9 (by omega) rfl)
    clear hR
    have lg6 : g6 < w3.heap.size := lt_of_block hxg6
    have HXg6 := Lib.hid hxg6
    have HFg6 := Lib.hid fg6
    have HGg6 := Lib.hid b3
    clear hxg6 fg6 b3
    refine wpOp_run rfl rfl ?_
    go_simp
    have b3 := HGg6.out
    have Kg6 : RowKit.Hid (At3 w3 g6 (.int .i64 x') (.int .i64 y') (.slice ao3 n cp3)) := Lib.hid ⟨box_cell HXg6.out 0, box_cell HXg6.out 1, box_cell HXg6.out 2⟩
    obtain ⟨zsg6, hig6, rg6, ig6, -⟩ := HFg6.out
    have Rg6 := Lib.hid rg6.top
    have Ig6 := Lib.hid ig6
    clear rg6 ig6 HFg6 HXg6 HGg6
    have t3 : w2.heap.size ≤ w3.heap.size := by have := b3.size; first | omega | (simp at this; omega)
    have BB : Below w2.heap.size w2 w3 := (by repeat (first | exact Below.refl _ _ | refine Below.setCell ?_ (by first | (simp; done) | (simp; omega)) _ | refine Below.trans ?_ (Below.mono (by assumption) (by first | (simp; done) | (simp; omega))) | refine Below.alloc ?_ (by first | (simp; done) | (simp; omega)) _ | refine Below.alloc ?_ (Nat.le_refl _) _ | refine below_drewN ?_ _))
    replace EE := Lib.hid (EE.out.trans (BB.mono (by omega)))
    replace K0 := Lib.hid (At3.below K0.out BB (by omega))
    replace K1 := Lib.hid (At3.below K1.out BB (by omega))
    clear BB b3
    obtain ⟨c00, c01, c02⟩ := K0.out
    have n3 : w.heap.size ≠ w3.heap.size := by omega
    have m3 : w.heap.size < w3.heap.size := by omega
    go_wp2_with fail
    clear c00 c01 c02
    refine (toPicture_own x y a len cap zs _ (IsFRow.below H0.out (EE.out.trans (Below.mono (B := w3.heap.size) (by repeat (first | exact Below.refl _ _ | refine Below.setCell ?_ (by first | (simp; done) | (simp; omega)) _ | refine Below.trans ?_ (Below.mono (by assumption) (by first | (simp; done) | (simp; omega))) | refine Below.alloc ?_ (by first | (simp; done) | (simp; omega)) _ | refine Below.alloc ?_ (Nat.le_refl _) _ | refine below_drewN ?_ _)) (by omega)))) hl0).mono ?_
    rintro e w4 ⟨g4, rfl, r4, b4⟩
    have R4 := Lib.hid (r4.mono (lo' := w3.heap.size) (hi' := w4.heap.size) (by first | omega | simp) (Nat.le_refl _))
    clear r4
    have t4 : w3.heap.size ≤ w4.heap.size := by have := b4.size; first | omega | (simp at this; omega)
    have BB : Below w3.heap.size w3 w4 := (by repeat (first | exact Below.refl _ _ | refine Below.setCell ?_ (by first | (simp; done) | (simp; omega)) _ | refine Below.trans ?_ (Below.mono (by assumption) (by first | (simp; done) | (simp; omega))) | refine Below.alloc ?_ (by first | (simp; done) | (simp; omega)) _ | refine Below.alloc ?_ (Nat.le_refl _) _ | refine below_drewN ?_ _))
    replace EE := Lib.hid (EE.out.trans (BB.mono (by omega)))
    replace K0 := Lib.hid (At3.below K0.out BB (by omega))
    replace K1 := Lib.hid (At3.below K1.out BB (by omega))
    replace Kg6 := Lib.hid (At3.below Kg6.out BB (by omega))
    replace Rg6 := Lib.hid (Rg6.out.below BB)
    clear BB b4
    obtain ⟨c10, c11, c12⟩ := K1.out
    have n4 : w.heap.size + 1 ≠ w4.heap.size := by omega
    have m4 : w.heap.size + 1 < w4.heap.size := by omega
    go_wp2_with fail
    clear c10 c11 c12
    refine (toPicture_own x1 y1 a2 len2 cap2 ys _ (IsFRow.below H1.out (EE.out.trans (Below.mono (B := w4.heap.size) (by repeat (first | exact Below.refl _ _ | refine Below.setCell ?_ (by first | (simp; done) | (simp; omega)) _ | refine Below.trans ?_ (Below.mono (by assumption) (by first | (simp; done) | (simp; omega))) | refine Below.alloc ?_ (by first | (simp; done) | (simp; omega)) _ | refine Below.alloc ?_ (Nat.le_refl _) _ | refine below_drewN ?_ _)) (by omega)))) hl1).mono ?_
    rintro e w5 ⟨g5, rfl, r5, b5⟩
    have R5 := Lib.hid (r5.mono (lo' := w4.heap.size + 1) (hi' := w5.heap.size) (by simp) (Nat.le_refl _))
    clear r5
    have t5 : w4.heap.size + 1 ≤ w5.heap.size := by have := b5.size; first | omega | (simp at this; omega)
    have BB : Below w4.heap.size w4 w5 := (by repeat (first | exact Below.refl _ _ | refine Below.setCell ?_ (by first | (simp; done) | (simp; omega)) _ | refine Below.trans ?_ (Below.mono (by assumption) (by first | (simp; done) | (simp; omega))) | refine Below.alloc ?_ (by first | (simp; done) | (simp; omega)) _ | refine Below.alloc ?_ (Nat.le_refl _) _ | refine below_drewN ?_ _))
    replace EE := Lib.hid (EE.out.trans (BB.mono (by omega)))
    replace K0 := Lib.hid (At3.below K0.out BB (by omega))
    replace K1 := Lib.hid (At3.below K1.out BB (by omega))
    replace Kg6 := Lib.hid (At3.below Kg6.out BB (by omega))
    replace Rg6 := Lib.hid (Rg6.out.below BB)
    replace R4 := Lib.hid (R4.out.below BB)
    have K10 : RowKit.Hid (At3 w5 w4.heap.size (.int .i64 x) (.int .i64 y) (.slice (some ⟨g4, 0, none⟩) len len)) := Lib.hid ⟨(b5.cell (p := ⟨w4.heap.size, 0, none⟩) (by simp)).trans (by go_simp), (b5.cell (p := ⟨w4.heap.size, 1, none⟩) (by simp)).trans (by go_simp), (b5.cell (p := ⟨w4.heap.size, 2, none⟩) (by simp)).trans (by go_simp)⟩
    clear BB b5
    obtain ⟨c100, c101, c102⟩ := K10.out
    have n5 : w4.heap.size ≠ w5.heap.size := by omega
    have m5 : w4.heap.size < w5.heap.size := by omega
    go_wp2_with fail
    clear c100 c101 c102
    refine (HI.out _ _ _ _ _ (R4.out.below (by repeat (first | exact Below.refl _ _ | refine Below.setCell ?_ (by first | (simp; done) | (simp; omega)) _ | refine Below.trans ?_ (Below.mono (by assumption) (by first | (simp; done) | (simp; omega))) | refine Below.alloc ?_ (by first | (simp; done) | (simp; omega)) _ | refine Below.alloc ?_ (Nat.le_refl _) _ | refine below_drewN ?_ _))).row (R5.out.below (by repeat (first | exact Below.refl _ _ | refine Below.setCell ?_ (by first | (simp; done) | (simp; omega)) _ | refine Below.trans ?_ (Below.mono (by assumption) (by first | (simp; done) | (simp; omega))) | refine Below.alloc ?_ (by first | (simp; done) | (simp; omega)) _ | refine Below.alloc ?_ (Nat.le_refl _) _ | refine below_drewN ?_ _))).row).mono ?_
    rintro e w6 ⟨ao6, cp6, zs6, rfl, r6, i6, -, b6⟩
    have R6 := Lib.hid (r6.mono (lo' := w5.heap.size + 1) (hi' := w6.heap.size) (by simp) (Nat.le_refl _))
    have I6 := Lib.hid i6
    clear r6 i6
    have t6 : w5.heap.size + 1 ≤ w6.heap.size := by have := b6.size; first | omega | (simp at this; omega)
    have BB : Below w5.heap.size w5 w6 := (by repeat (first | exact Below.refl _ _ | refine Below.setCell ?_ (by first | (simp; done) | (simp; omega)) _ | refine Below.trans ?_ (Below.mono (by assumption) (by first | (simp; done) | (simp; omega))) | refine Below.alloc ?_ (by first | (simp; done) | (simp; omega)) _ | refine Below.alloc ?_ (Nat.le_refl _) _ | refine below_drewN ?_ _))
    replace EE := Lib.hid (EE.out.trans (BB.mono (by omega)))
    replace K0 := Lib.hid (At3.below K0.out BB (by omega))
    replace K1 := Lib.hid (At3.below K1.out BB (by omega))
    replace Kg6 := Lib.hid (At3.below Kg6.out BB (by omega))
    replace K10 := Lib.hid (At3.below K10.out BB (by omega))
    replace Rg6 := Lib.hid (Rg6.out.below BB)
    replace R4 := Lib.hid (R4.out.below BB)
    replace R5 := Lib.hid (R5.out.below BB)
    have K11 : RowKit.Hid (At3 w6 w5.heap.size (.int .i64 x1) (.int .i64 y1) (.slice (some ⟨g5, 0, none⟩) len2 len2)) := Lib.hid ⟨(b6.cell (p := ⟨w5.heap.size, 0, none⟩) (by simp)).trans (by go_simp), (b6.cell (p := ⟨w5.heap.size, 1, none⟩) (by simp)).trans (by go_simp), (b6.cell (p := ⟨w5.heap.size, 2, none⟩) (by simp)).trans (by go_simp)⟩
    clear BB b6
    obtain ⟨cg60, cg61, cg62⟩ := Kg6.out
    clear n3 m3 n4 m4 n5 m5
    have n6 : g6 ≠ w6.heap.size := by omega
    have m6 : g6 < w6.heap.size := by omega
    go_wp2_with fail
    clear cg60 cg61 cg62
    refine (eqP2 x' y' _ _ n _ _ zs6 zsg6 _ (R6.out.below (by repeat (first | exact Below.refl _ _ | refine Below.setCell ?_ (by first | (simp; done) | (simp; omega)) _ | refine Below.trans ?_ (Below.mono (by assumption) (by first | (simp; done) | (simp; omega))) | refine Below.alloc ?_ (by first | (simp; done) | (simp; omega)) _ | refine Below.alloc ?_ (Nat.le_refl _) _ | refine below_drewN ?_ _))).row (Rg6.out.below (by repeat (first | exact Below.refl _ _ | refine Below.setCell ?_ (by first | (simp; done) | (simp; omega)) _ | refine Below.trans ?_ (Below.mono (by assumption) (by first | (simp; done) | (simp; omega))) | refine Below.alloc ?_ (by first | (simp; done) | (simp; omega)) _ | refine Below.alloc ?_ (Nat.le_refl _) _ | refine below_drewN ?_ _))).row (fun i hi => (I6.out i hi).ab.trans (Ig6.out i hi).ab.symm)).mono ?_
    rintro e w7 ⟨rfl, b7⟩
    have t7 : w6.heap.size + 1 ≤ w7.heap.size := by have := b7.size; first | omega | (simp at this; omega)
    have BB : Below w6.heap.size w6 w7 := (by repeat (first | exact Below.refl _ _ | refine Below.setCell ?_ (by first | (simp; done) | (simp; omega)) _ | refine Below.trans ?_ (Below.mono (by assumption) (by first | (simp; done) | (simp; omega))) | refine Below.alloc ?_ (by first | (simp; done) | (simp; omega)) _ | refine Below.alloc ?_ (Nat.le_refl _) _ | refine below_drewN ?_ _))
    replace EE := Lib.hid (EE.out.trans (BB.mono (by omega)))
    replace K0 := Lib.hid (At3.below K0.out BB (by omega))
    replace K1 := Lib.hid (At3.below K1.out BB (by omega))
    replace Kg6 := Lib.hid (At3.below Kg6.out BB (by omega))
    replace K10 := Lib.hid (At3.below K10.out BB (by omega))
    replace K11 := Lib.hid (At3.below K11.out BB (by omega))
    replace Rg6 := Lib.hid (Rg6.out.below BB)
    replace R4 := Lib.hid (R4.out.below BB)
    replace R5 := Lib.hid (R5.out.below BB)
    replace R6 := Lib.hid (R6.out.below BB)
    have Kg : RowKit.Hid (At3 w7 w6.heap.size (.int .i64 x') (.int .i64 y') (.slice ao6 n cp6)) := Lib.hid ⟨(b7.cell (p := ⟨w6.heap.size, 0, none⟩) (by simp)).trans (by go_simp), (b7.cell (p := ⟨w6.heap.size, 1, none⟩) (by simp)).trans (by go_simp), (b7.cell (p := ⟨w6.heap.size, 2, none⟩) (by simp)).trans (by go_simp)⟩
    clear BB b7
    clear n6 m6
    go_wp2_with fail
    refine wp_region_all (by kernel_rfl) (by kernel_rfl) 5 (by kernel_rfl) (fun _ v => ⟨#[Value.agg #[Value.int IntKind.i64 x, Value.int IntKind.i64 y, Value.slice a len cap], Value.agg #[Value.int IntKind.i64 x1, Value.int IntKind.i64 y1, Value.slice a2 len2 cap2], Value.pointer (some ⟨w.heap.size, 0, none⟩), Value.pointer (some ⟨w.heap.size + 1, 0, none⟩), Value.bool false, Value.int IntKind.i64 (1048576 - (len : Int) - (len2 : Int)), Value.pointer (some ⟨g6, 0, none⟩), Value.bool ok, Value.pointer (some ⟨w4.heap.size, 0, none⟩), Value.pointer (some ⟨w5.heap.size, 0, none⟩), Value.pointer (some ⟨w6.heap.size, 0, none⟩), Value.bool ok, undef, undef, undef, undef, undef, Value.agg #[Value.int IntKind.i64 x, Value.int IntKind.i64 y, Value.slice a len cap], Value.int IntKind.i64 1048576, Value.int IntKind.i64 (1048576 - (len : Int)), Value.int IntKind.i64 (1048576 - (len : Int)), Value.bool (decide (1048576 - (len : Int) < 0)), Value.agg #[Value.int IntKind.i64 x1, Value.int IntKind.i64 y1, Value.slice a2 len2 cap2], Value.int IntKind.i64 (1048576 - (len : Int)), Value.int IntKind.i64 (1048576 - (len : Int) - (len2 : Int)), Value.int IntKind.i64 (1048576 - (len : Int) - (len2 : Int)), Value.bool (decide (1048576 - (len : Int) - (len2 : Int) < 0)), vals 5, vals 0, vals 1, vals 2, vals 3, vals 4, vals 6, Value.bool ok, Value.agg #[Value.int IntKind.i64 x, Value.int IntKind.i64 y, Value.slice a len cap], Value.agg #[Value.int IntKind.i64 x, Value.int IntKind.i64 y, Value.slice (some ⟨g4, 0, none⟩) len len], Value.agg #[Value.int IntKind.i64 x1, Value.int IntKind.i64 y1, Value.slice a2 len2 cap2], Value.agg #[Value.int IntKind.i64 x1, Value.int IntKind.i64 y1, Value.slice (some ⟨g5, 0, none⟩) len2 len2], Value.tuple #[Value.agg #[Value.int IntKind.i64 x', Value.int IntKind.i64 y', Value.slice ao6 n cp6], Value.bool ok], Value.agg #[Value.int IntKind.i64 x, Value.int IntKind.i64 y, Value.slice (some ⟨g4, 0, none⟩) len len], Value.agg #[Value.int IntKind.i64 x1, Value.int IntKind.i64 y1, Value.slice (some ⟨g5, 0, none⟩) len2 len2], Value.tuple #[Value.agg #[Value.int IntKind.i64 x', Value.int IntKind.i64 y', Value.slice ao6 n cp6], Value.bool ok], Value.agg #[Value.int IntKind.i64 x', Value.int IntKind.i64 y', Value.slice ao6 n cp6], Value.bool ok, Value.agg #[Value.int IntKind.i64 x', Value.int IntKind.i64 y', Value.slice ao6 n cp6], Value.agg #[Value.int IntKind.i64 x', Value.int IntKind.i64 y', Value.slice ao3 n cp3], Value.bool true, Value.bool false, Value.bool false, Value.bool ok, Value.bool ok, Value.bool false, Value.bool false, v 0, v 1, v 2, v 3, v 4, undef, undef, undef, undef, undef, undef, undef, undef, undef, undef, undef, undef, undef, undef, undef, undef, undef, undef, undef, undef, undef, undef, undef, undef, undef, undef, undef, undef, undef, undef, undef, undef, undef, undef, undef, undef, undef, undef, undef, undef, undef, undef, undef, undef, undef, undef, undef, undef, undef, undef, undef, undef, undef, undef, undef, undef, undef, undef, undef, undef], []⟩)
      (fun W => Below w7.heap.size w7 W)
      (fun j W s => match j with | 0 => s = .agg #[.int .i64 x, .int .i64 y, .slice (some ⟨g4, 0, none⟩) len len] | 1 => s = .agg #[.int .i64 x, .int .i64 y, .slice a len cap] | 2 => ∃ g, s = .agg #[.int .i64 x, .int .i64 y, .slice (some ⟨g, 0, none⟩) len len] ∧ IsFRow W (some ⟨g, 0, none⟩) len len zs | 3 => s = .bool true | 4 => s = .bool false | _ => True) ?_ ?_ (Below.refl _ _).drew ?_ ?_
    · intro j W W' v hb
      rcases j with _ | _ | _ | _ | _ | j
      · exact id
      · exact id
      · rintro ⟨g, e, f⟩
        exact ⟨g, e, IsFRow.below f hb⟩
      · exact id
      · exact id
      · exact id
    · exact ⟨fun _ => undef, rfl⟩
    · intro i o ho hlt vb W hG hd
      rcases i with _ | _ | _ | _ | _ | i
      · refine wpOp_run ho (by cases Option.some.inj ho; rfl) ?_
        cases Option.some.inj ho
        obtain ⟨c0, c1, c2⟩ := At3.below K10.out hG (by omega)
        go_simp
        exact ⟨_, rfl, Below.refl _ _, hG, rfl⟩
      · refine wpOp_run ho (by cases Option.some.inj ho; rfl) ?_
        cases Option.some.inj ho
        obtain ⟨c0, c1, c2⟩ := At3.below K0.out hG (by omega)
        go_simp
        exact ⟨_, rfl, Below.refl _ _, hG, rfl⟩
      · refine wpOp_run ho (by cases Option.some.inj ho; rfl) ?_
        cases Option.some.inj ho
        have hc := toPicture x y a len cap zs W (IsFRow.below H0.out (EE.out.trans (hG.mono EE.out.size))) hl0
        rw [← (show vb 1 = .agg #[.int .i64 x, .int .i64 y, .slice a len cap] from hd ⟨1, .data⟩ (by simp) rfl)] at hc
        go_simp
        refine hc.mono ?_
        rintro e w' ⟨g, rfl, f, hb⟩
        exact ⟨_, rfl, hb, hG.trans (hb.mono hG.size), g, rfl, f⟩
      · refine wpOp_run ho (by cases Option.some.inj ho; rfl) ?_
        cases Option.some.inj ho
        obtain ⟨g, e2, f⟩ := (show ∃ g, vb 2 = .agg #[.int .i64 x, .int .i64 y, .slice (some ⟨g, 0, none⟩) len len] ∧ IsFRow W (some ⟨g, 0, none⟩) len len zs from hd ⟨2, .data⟩ (by simp) rfl)
        have hc := eqPicture x y _ _ len len len zs W (R4.out.below hG).row f
        rw [← e2, ← (show vb 0 = .agg #[.int .i64 x, .int .i64 y, .slice (some ⟨g4, 0, none⟩) len len] from hd ⟨0, .data⟩ (by simp) rfl)] at hc
        clear e2 f
        go_simp
        refine hc.mono ?_
        rintro e w' ⟨rfl, hb⟩
        exact ⟨_, rfl, hb, hG.trans (hb.mono hG.size), rfl⟩
      · refine wpOp_run ho (by cases Option.some.inj ho; rfl) ?_
        cases Option.some.inj ho
        have e3 : vb 3 = .bool true := hd ⟨3, .data⟩ (by simp) rfl
        go_simp
        exact ⟨.bool false, by simp [upd_at, e3], Below.refl _ _, hG, rfl⟩
      · omega
    · intro vb w8 b8 hR
      have e4 : vb 4 = .bool false := hR 4 (by omega)
      simp only [Exit.then, e4]
      clear hR
      have t8 : w7.heap.size ≤ w8.heap.size := by have := b8.size; first | omega | (simp at this; omega)
      have BB : Below w7.heap.size w7 w8 := (by repeat (first | exact Below.refl _ _ | refine Below.setCell ?_ (by first | (simp; done) | (simp; omega)) _ | refine Below.trans ?_ (Below.mono (by assumption) (by first | (simp; done) | (simp; omega))) | refine Below.alloc ?_ (by first | (simp; done) | (simp; omega)) _ | refine Below.alloc ?_ (Nat.le_refl _) _ | refine below_drewN ?_ _))
      replace EE := Lib.hid (EE.out.trans (BB.mono (by omega)))
      replace K0 := Lib.hid (At3.below K0.out BB (by omega))
      replace K1 := Lib.hid (At3.below K1.out BB (by omega))
      replace Kg6 := Lib.hid (At3.below Kg6.out BB (by omega))
      replace K10 := Lib.hid (At3.below K10.out BB (by omega))
      replace K11 := Lib.hid (At3.below K11.out BB (by omega))
      replace Kg := Lib.hid (At3.below Kg.out BB (by omega))
      replace Rg6 := Lib.hid (Rg6.out.below BB)
      replace R4 := Lib.hid (R4.out.below BB)
      replace R5 := Lib.hid (R5.out.below BB)
      replace R6 := Lib.hid (R6.out.below BB)
      clear BB b8
      go_wp2_with fail
      refine wp_region_all (by kernel_rfl) (by kernel_rfl) 5 (by kernel_rfl) (fun _ v => ⟨#[Value.agg #[Value.int IntKind.i64 x, Value.int IntKind.i64 y, Value.slice a len cap], Value.agg #[Value.int IntKind.i64 x1, Value.int IntKind.i64 y1, Value.slice a2 len2 cap2], Value.pointer (some ⟨w.heap.size, 0, none⟩), Value.pointer (some ⟨w.heap.size + 1, 0, none⟩), Value.bool false, Value.int IntKind.i64 (1048576 - (len : Int) - (len2 : Int)), Value.pointer (some ⟨g6, 0, none⟩), Value.bool ok, Value.pointer (some ⟨w4.heap.size, 0, none⟩), Value.pointer (some ⟨w5.heap.size, 0, none⟩), Value.pointer (some ⟨w6.heap.size, 0, none⟩), Value.bool ok, undef, undef, undef, undef, undef, Value.agg #[Value.int IntKind.i64 x, Value.int IntKind.i64 y, Value.slice a len cap], Value.int IntKind.i64 1048576, Value.int IntKind.i64 (1048576 - (len : Int)), Value.int IntKind.i64 (1048576 - (len : Int)), Value.bool (decide (1048576 - (len : Int) < 0)), Value.agg #[Value.int IntKind.i64 x1, Value.int IntKind.i64 y1, Value.slice a2 len2 cap2], Value.int IntKind.i64 (1048576 - (len : Int)), Value.int IntKind.i64 (1048576 - (len : Int) - (len2 : Int)), Value.int IntKind.i64 (1048576 - (len : Int) - (len2 : Int)), Value.bool (decide (1048576 - (len : Int) - (len2 : Int) < 0)), vals 5, vals 0, vals 1, vals 2, vals 3, vals 4, vals 6, Value.bool ok, Value.agg #[Value.int IntKind.i64 x, Value.int IntKind.i64 y, Value.slice a len cap], Value.agg #[Value.int IntKind.i64 x, Value.int IntKind.i64 y, Value.slice (some ⟨g4, 0, none⟩) len len], Value.agg #[Value.int IntKind.i64 x1, Value.int IntKind.i64 y1, Value.slice a2 len2 cap2], Value.agg #[Value.int IntKind.i64 x1, Value.int IntKind.i64 y1, Value.slice (some ⟨g5, 0, none⟩) len2 len2], Value.tuple #[Value.agg #[Value.int IntKind.i64 x', Value.int IntKind.i64 y', Value.slice ao6 n cp6], Value.bool ok], Value.agg #[Value.int IntKind.i64 x, Value.int IntKind.i64 y, Value.slice (some ⟨g4, 0, none⟩) len len], Value.agg #[Value.int IntKind.i64 x1, Value.int IntKind.i64 y1, Value.slice (some ⟨g5, 0, none⟩) len2 len2], Value.tuple #[Value.agg #[Value.int IntKind.i64 x', Value.int IntKind.i64 y', Value.slice ao6 n cp6], Value.bool ok], Value.agg #[Value.int IntKind.i64 x', Value.int IntKind.i64 y', Value.slice ao6 n cp6], Value.bool ok, Value.agg #[Value.int IntKind.i64 x', Value.int IntKind.i64 y', Value.slice ao6 n cp6], Value.agg #[Value.int IntKind.i64 x', Value.int IntKind.i64 y', Value.slice ao3 n cp3], Value.bool true, Value.bool false, Value.bool false, Value.bool ok, Value.bool ok, Value.bool false, Value.bool false, vb 0, vb 1, vb 2, vb 3, Value.bool false, v 0, v 1, v 2, v 3, v 4, undef, undef, undef, undef, undef, undef, undef, undef, undef, undef, undef, undef, undef, undef, undef, undef, undef, undef, undef, undef, undef, undef, undef, undef, undef, undef, undef, undef, undef, undef, undef, undef, undef, undef, undef, undef, undef, undef, undef, undef, undef, undef, undef, undef, undef, undef, undef, undef, undef, undef, undef, undef, undef, undef, undef], []⟩)
        (fun W => Below w8.heap.size w8 W)
        (fun j W s => match j with | 0 => s = .agg #[.int .i64 x1, .int .i64 y1, .slice (some ⟨g5, 0, none⟩) len2 len2] | 1 => s = .agg #[.int .i64 x1, .int .i64 y1, .slice a2 len2 cap2] | 2 => ∃ g, s = .agg #[.int .i64 x1, .int .i64 y1, .slice (some ⟨g, 0, none⟩) len2 len2] ∧ IsFRow W (some ⟨g, 0, none⟩) len2 len2 ys | 3 => s = .bool true | 4 => s = .bool false | _ => True) ?_ ?_ (Below.refl _ _).drew ?_ ?_
      · intro j W W' v hb
        rcases j with _ | _ | _ | _ | _ | j
        · exact id
        · exact id
        · rintro ⟨g, e, f⟩
          exact ⟨g, e, IsFRow.below f hb⟩
        · exact id
        · exact id
        · exact id
      · exact ⟨fun _ => undef, rfl⟩
      · intro i o ho hlt vc W hG hd
        rcases i with _ | _ | _ | _ | _ | i
        · refine wpOp_run ho (by cases Option.some.inj ho; rfl) ?_
          cases Option.some.inj ho
          obtain ⟨c0, c1, c2⟩ := At3.below K11.out hG (by omega)
          go_simp
          exact ⟨_, rfl, Below.refl _ _, hG, rfl⟩
        · refine wpOp_run ho (by cases Option.some.inj ho; rfl) ?_
          cases Option.some.inj ho
          obtain ⟨c0, c1, c2⟩ := At3.below K1.out hG (by omega)
          go_simp
          exact ⟨_, rfl, Below.refl _ _, hG, rfl⟩
        · refine wpOp_run ho (by cases Option.some.inj ho; rfl) ?_
          cases Option.some.inj ho
          have hc := toPicture x1 y1 a2 len2 cap2 ys W (IsFRow.below H1.out (EE.out.trans (hG.mono EE.out.size))) hl1
          rw [← (show vc 1 = .agg #[.int .i64 x1, .int .i64 y1, .slice a2 len2 cap2] from hd ⟨1, .data⟩ (by simp) rfl)] at hc
          go_simp
          refine hc.mono ?_
          rintro e w' ⟨g, rfl, f, hb⟩
          exact ⟨_, rfl, hb, hG.trans (hb.mono hG.size), g, rfl, f⟩
        · refine wpOp_run ho (by cases Option.some.inj ho; rfl) ?_
          cases Option.some.inj ho
          obtain ⟨g, e2, f⟩ := (show ∃ g, vc 2 = .agg #[.int .i64 x1, .int .i64 y1, .slice (some ⟨g, 0, none⟩) len2 len2] ∧ IsFRow W (some ⟨g, 0, none⟩) len2 len2 ys from hd ⟨2, .data⟩ (by simp) rfl)
          have hc := eqPicture x1 y1 _ _ len2 len2 len2 ys W (R5.out.below hG).row f
          rw [← e2, ← (show vc 0 = .agg #[.int .i64 x1, .int .i64 y1, .slice (some ⟨g5, 0, none⟩) len2 len2] from hd ⟨0, .data⟩ (by simp) rfl)] at hc
          clear e2 f
          go_simp
          refine hc.mono ?_
          rintro e w' ⟨rfl, hb⟩
          exact ⟨_, rfl, hb, hG.trans (hb.mono hG.size), rfl⟩
        · refine wpOp_run ho (by cases Option.some.inj ho; rfl) ?_
          cases Option.some.inj ho
          have e3 : vc 3 = .bool true := hd ⟨3, .data⟩ (by simp) rfl
          go_simp
          exact ⟨.bool false, by simp [upd_at, e3], Below.refl _ _, hG, rfl⟩
        · omega
      · intro vc w9 b9 hR
        have e4 : vc 4 = .bool false := hR 4 (by omega)
        simp only [Exit.then, e4]
        clear hR
        have t9 : w8.heap.size ≤ w9.heap.size := by have := b9.size; first | omega | (simp at this; omega)
        have BB : Below w8.heap.size w8 w9 := (by repeat (first | exact Below.refl _ _ | refine Below.setCell ?_ (by first | (simp; done) | (simp; omega)) _ | refine Below.trans ?_ (Below.mono (by assumption) (by first | (simp; done) | (simp; omega))) | refine Below.alloc ?_ (by first | (simp; done) | (simp; omega)) _ | refine Below.alloc ?_ (Nat.le_refl _) _ | refine below_drewN ?_ _))
        replace EE := Lib.hid (EE.out.trans (BB.mono (by omega)))
        replace K0 := Lib.hid (At3.below K0.out BB (by omega))
        replace K1 := Lib.hid (At3.below K1.out BB (by omega))
        replace Kg6 := Lib.hid (At3.below Kg6.out BB (by omega))
        replace K10 := Lib.hid (At3.below K10.out BB (by omega))
        replace K11 := Lib.hid (At3.below K11.out BB (by omega))
        replace Kg := Lib.hid (At3.below Kg.out BB (by omega))
        replace Rg6 := Lib.hid (Rg6.out.below BB)
        replace R4 := Lib.hid (R4.out.below BB)
        replace R5 := Lib.hid (R5.out.below BB)
        replace R6 := Lib.hid (R6.out.below BB)
        clear BB b9
        obtain ⟨c100, c101, c102⟩ := K10.out
        go_wp2_with fail
        clear c100 c101 c102
        refine (markPicture x y _ len len _ _ zs 1 _ R4.out hl0 (by omega) (by omega)).mono ?_
        rintro e w10 ⟨rfl, r10, b10⟩
        clear r10
        clear R4
        have t10 : w9.heap.size ≤ w10.heap.size := by have := b10.size; first | omega | (simp at this; omega)
        replace EE := Lib.hid (EE.out.trans (b10.below (by omega) (by omega)))
        replace K0 := Lib.hid (At3.only K0.out b10 (by omega) (by omega))
        replace K1 := Lib.hid (At3.only K1.out b10 (by omega) (by omega))
        replace Kg6 := Lib.hid (At3.only Kg6.out b10 (by omega) (by omega))
        replace K10 := Lib.hid (At3.only K10.out b10 (by omega) (by omega))
        replace K11 := Lib.hid (At3.only K11.out b10 (by omega) (by omega))
        replace Kg := Lib.hid (At3.only Kg.out b10 (by omega) (by omega))
        replace Rg6 := Lib.hid (Rg6.out.only b10 (by omega))
        replace R5 := Lib.hid (R5.out.only b10 (by omega))
        replace R6 := Lib.hid (R6.out.only b10 (by omega))
        clear b10
        obtain ⟨c110, c111, c112⟩ := K11.out
        go_wp2_with fail
        clear c110 c111 c112
        refine (markPicture x1 y1 _ len2 len2 _ _ ys _ _ R5.out hl1 (by omega) (by omega)).mono ?_
        rintro e w11 ⟨rfl, r11, b11⟩
        clear r11
        clear R5
        have t11 : w10.heap.size ≤ w11.heap.size := by have := b11.size; first | omega | (simp at this; omega)
        replace EE := Lib.hid (EE.out.trans (b11.below (by omega) (by omega)))
        replace K0 := Lib.hid (At3.only K0.out b11 (by omega) (by omega))
        replace K1 := Lib.hid (At3.only K1.out b11 (by omega) (by omega))
        replace Kg6 := Lib.hid (At3.only Kg6.out b11 (by omega) (by omega))
        replace K10 := Lib.hid (At3.only K10.out b11 (by omega) (by omega))
        replace K11 := Lib.hid (At3.only K11.out b11 (by omega) (by omega))
        replace Kg := Lib.hid (At3.only Kg.out b11 (by omega) (by omega))
        replace Rg6 := Lib.hid (Rg6.out.only b11 (by omega))
        replace R6 := Lib.hid (R6.out.only b11 (by omega))
        clear b11
        obtain ⟨cg0, cg1, cg2⟩ := Kg.out
        obtain ⟨cg60, cg61, cg62⟩ := Kg6.out
        go_wp2_with fail
        clear cg0 cg1 cg2 cg60 cg61 cg62
        refine (eqP2 x' y' _ _ n _ _ zs6 zsg6 _ R6.out.row Rg6.out.row (fun i hi => (I6.out i hi).ab.trans (Ig6.out i hi).ab.symm)).mono ?_
        rintro e w12 ⟨rfl, b12⟩
        have t12 : w11.heap.size ≤ w12.heap.size := by have := b12.size; first | omega | (simp at this; omega)
        have BB : Below w11.heap.size w11 w12 := (by repeat (first | exact Below.refl _ _ | refine Below.setCell ?_ (by first | (simp; done) | (simp; omega)) _ | refine Below.trans ?_ (Below.mono (by assumption) (by first | (simp; done) | (simp; omega))) | refine Below.alloc ?_ (by first | (simp; done) | (simp; omega)) _ | refine Below.alloc ?_ (Nat.le_refl _) _ | refine below_drewN ?_ _))
        replace EE := Lib.hid (EE.out.trans (BB.mono (by omega)))
        replace K0 := Lib.hid (At3.below K0.out BB (by omega))
        replace K1 := Lib.hid (At3.below K1.out BB (by omega))
        replace Kg6 := Lib.hid (At3.below Kg6.out BB (by omega))
        replace K10 := Lib.hid (At3.below K10.out BB (by omega))
        replace K11 := Lib.hid (At3.below K11.out BB (by omega))
        replace Kg := Lib.hid (At3.below Kg.out BB (by omega))
        replace Rg6 := Lib.hid (Rg6.out.below BB)
        replace R6 := Lib.hid (R6.out.below BB)
        clear BB b12
        obtain ⟨cg0, cg1, cg2⟩ := Kg.out
        go_wp2_with fail
        clear cg0 cg1 cg2
        refine (markPicture x' y' _ n _ _ _ zs6 1 _ R6.out (by omega) (by omega) (by omega)).mono ?_
        rintro e w13 ⟨rfl, r13, b13⟩
        have R13 := Lib.hid r13
        clear r13 R6
        have t13 : w12.heap.size ≤ w13.heap.size := by have := b13.size; first | omega | (simp at this; omega)
        replace EE := Lib.hid (EE.out.trans (b13.below (by omega) (by omega)))
        replace K0 := Lib.hid (At3.only K0.out b13 (by omega) (by omega))
        replace K1 := Lib.hid (At3.only K1.out b13 (by omega) (by omega))
        replace Kg6 := Lib.hid (At3.only Kg6.out b13 (by omega) (by omega))
        replace K10 := Lib.hid (At3.only K10.out b13 (by omega) (by omega))
        replace K11 := Lib.hid (At3.only K11.out b13 (by omega) (by omega))
        replace Kg := Lib.hid (At3.only Kg.out b13 (by omega) (by omega))
        replace Rg6 := Lib.hid (Rg6.out.only b13 (by omega))
        clear b13
        obtain ⟨cg0, cg1, cg2⟩ := Kg.out
        go_wp2_with fail
        clear cg0 cg1 cg2
        refine (heldPicture x' y' _ n _ _ _ 1 _ R13.out (by omega) (by omega) (by omega)).mono ?_
        rintro e w14 ⟨rfl, b14⟩
        have t14 : w13.heap.size ≤ w14.heap.size := by have := b14.size; first | omega | (simp at this; omega)
        have BB : Below w13.heap.size w13 w14 := (by repeat (first | exact Below.refl _ _ | refine Below.setCell ?_ (by first | (simp; done) | (simp; omega)) _ | refine Below.trans ?_ (Below.mono (by assumption) (by first | (simp; done) | (simp; omega))) | refine Below.alloc ?_ (by first | (simp; done) | (simp; omega)) _ | refine Below.alloc ?_ (Nat.le_refl _) _ | refine below_drewN ?_ _))
        replace EE := Lib.hid (EE.out.trans (BB.mono (by omega)))
        replace K0 := Lib.hid (At3.below K0.out BB (by omega))
        replace K1 := Lib.hid (At3.below K1.out BB (by omega))
        replace Kg6 := Lib.hid (At3.below Kg6.out BB (by omega))
        replace K10 := Lib.hid (At3.below K10.out BB (by omega))
        replace K11 := Lib.hid (At3.below K11.out BB (by omega))
        replace Kg := Lib.hid (At3.below Kg.out BB (by omega))
        replace Rg6 := Lib.hid (Rg6.out.below BB)
        replace R13 := Lib.hid (R13.out.below BB)
        clear BB b14
        go_wp2_with fail
        refine wp_region_keep (by kernel_rfl) (by kernel_rfl) 10 (by kernel_rfl) 9 (.bool false) (fun j => decide (5 ≤ j)) (fun _ v => ⟨#[Value.agg #[Value.int IntKind.i64 x, Value.int IntKind.i64 y, Value.slice a len cap], Value.agg #[Value.int IntKind.i64 x1, Value.int IntKind.i64 y1, Value.slice a2 len2 cap2], Value.pointer (some ⟨w.heap.size, 0, none⟩), Value.pointer (some ⟨w.heap.size + 1, 0, none⟩), Value.bool false, Value.int IntKind.i64 (1048576 - (len : Int) - (len2 : Int)), Value.pointer (some ⟨g6, 0, none⟩), Value.bool ok, Value.pointer (some ⟨w4.heap.size, 0, none⟩), Value.pointer (some ⟨w5.heap.size, 0, none⟩), Value.pointer (some ⟨w6.heap.size, 0, none⟩), Value.bool ok, Value.int IntKind.i64 (1 + (len : Int) + (len2 : Int)), Value.int IntKind.i64 (1 + (n : Int)), Value.int IntKind.i64 (1 + (n : Int)), pk (v 9) (v 8), undef, Value.agg #[Value.int IntKind.i64 x, Value.int IntKind.i64 y, Value.slice a len cap], Value.int IntKind.i64 1048576, Value.int IntKind.i64 (1048576 - (len : Int)), Value.int IntKind.i64 (1048576 - (len : Int)), Value.bool (decide (1048576 - (len : Int) < 0)), Value.agg #[Value.int IntKind.i64 x1, Value.int IntKind.i64 y1, Value.slice a2 len2 cap2], Value.int IntKind.i64 (1048576 - (len : Int)), Value.int IntKind.i64 (1048576 - (len : Int) - (len2 : Int)), Value.int IntKind.i64 (1048576 - (len : Int) - (len2 : Int)), Value.bool (decide (1048576 - (len : Int) - (len2 : Int) < 0)), vals 5, vals 0, vals 1, vals 2, vals 3, vals 4, vals 6, Value.bool ok, Value.agg #[Value.int IntKind.i64 x, Value.int IntKind.i64 y, Value.slice a len cap], Value.agg #[Value.int IntKind.i64 x, Value.int IntKind.i64 y, Value.slice (some ⟨g4, 0, none⟩) len len], Value.agg #[Value.int IntKind.i64 x1, Value.int IntKind.i64 y1, Value.slice a2 len2 cap2], Value.agg #[Value.int IntKind.i64 x1, Value.int IntKind.i64 y1, Value.slice (some ⟨g5, 0, none⟩) len2 len2], Value.tuple #[Value.agg #[Value.int IntKind.i64 x', Value.int IntKind.i64 y', Value.slice ao6 n cp6], Value.bool ok], Value.agg #[Value.int IntKind.i64 x, Value.int IntKind.i64 y, Value.slice (some ⟨g4, 0, none⟩) len len], Value.agg #[Value.int IntKind.i64 x1, Value.int IntKind.i64 y1, Value.slice (some ⟨g5, 0, none⟩) len2 len2], Value.tuple #[Value.agg #[Value.int IntKind.i64 x', Value.int IntKind.i64 y', Value.slice ao6 n cp6], Value.bool ok], Value.agg #[Value.int IntKind.i64 x', Value.int IntKind.i64 y', Value.slice ao6 n cp6], Value.bool ok, Value.agg #[Value.int IntKind.i64 x', Value.int IntKind.i64 y', Value.slice ao6 n cp6], Value.agg #[Value.int IntKind.i64 x', Value.int IntKind.i64 y', Value.slice ao3 n cp3], Value.bool true, Value.bool false, Value.bool false, Value.bool ok, Value.bool ok, Value.bool false, Value.bool false, vb 0, vb 1, vb 2, vb 3, Value.bool false, vc 0, vc 1, vc 2, vc 3, Value.bool false, Value.agg #[Value.int IntKind.i64 x, Value.int IntKind.i64 y, Value.slice (some ⟨g4, 0, none⟩) len len], Value.int IntKind.i64 1, Value.int IntKind.i64 (1 + (len : Int)), Value.agg #[Value.int IntKind.i64 x1, Value.int IntKind.i64 y1, Value.slice (some ⟨g5, 0, none⟩) len2 len2], Value.int IntKind.i64 (1 + (len : Int)), Value.int IntKind.i64 (1 + (len : Int) + (len2 : Int)), Value.int IntKind.i64 (1 + (len : Int) + (len2 : Int)), Value.bool (decide (1 + (len : Int) + (len2 : Int) < 0)), Value.bool (decide (1 + (len : Int) + (len2 : Int) < 0)), Value.agg #[Value.int IntKind.i64 x', Value.int IntKind.i64 y', Value.slice ao6 n cp6], Value.agg #[Value.int IntKind.i64 x', Value.int IntKind.i64 y', Value.slice ao3 n cp3], Value.bool true, Value.bool false, Value.bool (decide (1 + (len : Int) + (len2 : Int) < 0)), Value.bool (decide (1 + (len : Int) + (len2 : Int) < 0)), Value.bool ok, Value.bool ok, Value.bool false, Value.bool (decide (1 + (len : Int) + (len2 : Int) < 0)), Value.agg #[Value.int IntKind.i64 x', Value.int IntKind.i64 y', Value.slice ao6 n cp6], Value.int IntKind.i64 1, Value.int IntKind.i64 (1 + (n : Int)), Value.agg #[Value.int IntKind.i64 x', Value.int IntKind.i64 y', Value.slice ao6 n cp6], Value.int IntKind.i64 1, Value.int IntKind.i64 (1 + (n : Int)), Value.int IntKind.i64 (1 + (n : Int)), Value.bool (decide (1 + (n : Int) < 0)), Value.int IntKind.i64 (1 + (n : Int)), Value.int IntKind.i64 (1 + (n : Int)), Value.bool false, v 5, v 0, v 1, v 2, v 3, v 4, v 6, v 7, undef, undef, undef, undef, undef, undef, undef, undef, undef, undef, undef, undef, undef, undef, undef, undef, undef], []⟩)
          (fun _ W => Below w14.heap.size w14 W)
          (fun j W s => match j with | 0 => s = .agg #[.int .i64 x, .int .i64 y, .slice a len cap] | 1 => ∃ g, s = .agg #[.int .i64 x, .int .i64 y, .slice (some ⟨g, 0, none⟩) len len] ∧ IsFRow W (some ⟨g, 0, none⟩) len len zs | 2 => s = .agg #[.int .i64 x1, .int .i64 y1, .slice a2 len2 cap2] | 3 => ∃ g, s = .agg #[.int .i64 x1, .int .i64 y1, .slice (some ⟨g, 0, none⟩) len2 len2] ∧ IsFRow W (some ⟨g, 0, none⟩) len2 len2 ys | 4 => ∃ ao cp, s = .tuple #[.agg #[.int .i64 x', .int .i64 y', .slice ao n cp], .bool ok] ∧ SpecT W w14.heap.size n ao cp os | 5 => ∃ ao cp, s = .tuple #[.agg #[.int .i64 x', .int .i64 y', .slice ao n cp], .bool ok] ∧ SpecT W w14.heap.size n ao cp os | 6 => ∃ ao cp, s = .agg #[.int .i64 x', .int .i64 y', .slice ao n cp] ∧ SpecT W w14.heap.size n ao cp os | 7 => s = .bool ok | 8 => ∃ g, s = .pointer (some ⟨g, 0, none⟩) ∧ w14.heap.size ≤ g ∧ ∃ c0 c1 c2, W.heap[g]? = some (.cells #[c0, c1, c2] 27 (0, 0)) | 9 => ∃ g, s = .pointer (some ⟨g, 0, none⟩) ∧ w14.heap.size ≤ g ∧ ∃ ao cp, W.heap[g]? = some (.cells #[.int .i64 x', .int .i64 y', .slice ao n cp] 27 (0, 0)) ∧ SpecT W w14.heap.size n ao cp os | _ => True) ?_ ⟨fun i => [undef, undef, undef, undef, undef, undef, undef, undef, undef, .bool false].getD i undef, rfl, rfl⟩ (Below.refl _ _).drew ?_ ?_ (by omega) ?_
        · intro j W W' v hb
          rcases j with _ | _ | _ | _ | _ | _ | _ | _ | _ | _ | j
          · exact id
          · rintro ⟨g, e, f⟩
            exact ⟨g, e, IsFRow.below f hb⟩
          · exact id
          · rintro ⟨g, e, f⟩
            exact ⟨g, e, IsFRow.below f hb⟩
          · rintro ⟨ao, cp, e, f⟩
            exact ⟨ao, cp, e, f.below hb⟩
          · rintro ⟨ao, cp, e, f⟩
            exact ⟨ao, cp, e, f.below hb⟩
          · rintro ⟨ao, cp, e, f⟩
            exact ⟨ao, cp, e, f.below hb⟩
          · exact id
          · rintro ⟨g, e, h1, c0, c1, c2, hx⟩
            exact ⟨g, e, h1, c0, c1, c2, (hb.block _ (lt_of_block hx)).trans hx⟩
          · rintro ⟨g, e, h1, ao, cp, hx, f⟩
            exact ⟨g, e, h1, ao, cp, (hb.block _ (lt_of_block hx)).trans hx, f.below hb⟩
          · exact id
        · intro i o ho hlt hne d vd W hG hd hdp
          rcases i with _ | _ | _ | _ | _ | _ | _ | _ | _ | _ | i
          · refine wpOp_run ho (by cases Option.some.inj ho; rfl) ?_
            cases Option.some.inj ho
            obtain ⟨rfl, hmk⟩ := hdp (by kernel_rfl)
            clear hmk
            obtain ⟨c0, c1, c2⟩ := At3.below K0.out hG (by omega)
            go_simp
            exact ⟨_, rfl, Below.refl _ _, hG, rfl⟩
          · refine wpOp_run ho (by cases Option.some.inj ho; rfl) ?_
            cases Option.some.inj ho
            obtain ⟨rfl, hmk⟩ := hdp (by kernel_rfl)
            have hc := toPicture x y a len cap zs W (IsFRow.below H0.out (EE.out.trans (hG.mono EE.out.size))) hl0
            rw [← (show vd 0 = .agg #[.int .i64 x, .int .i64 y, .slice a len cap] from hd ⟨0, .data⟩ (by simp) rfl (fun h => by cases h))] at hc
            clear hmk
            go_simp
            refine hc.mono ?_
            rintro e w' ⟨g, rfl, f, hb⟩
            exact ⟨_, rfl, hb, hG.trans (hb.mono hG.size), g, rfl, f⟩
          · refine wpOp_run ho (by cases Option.some.inj ho; rfl) ?_
            cases Option.some.inj ho
            obtain ⟨rfl, hmk⟩ := hdp (by kernel_rfl)
            clear hmk
            obtain ⟨c0, c1, c2⟩ := At3.below K1.out hG (by omega)
            go_simp
            exact ⟨_, rfl, Below.refl _ _, hG, rfl⟩
          · refine wpOp_run ho (by cases Option.some.inj ho; rfl) ?_
            cases Option.some.inj ho
            obtain ⟨rfl, hmk⟩ := hdp (by kernel_rfl)
            have hc := toPicture x1 y1 a2 len2 cap2 ys W (IsFRow.below H1.out (EE.out.trans (hG.mono EE.out.size))) hl1
            rw [← (show vd 2 = .agg #[.int .i64 x1, .int .i64 y1, .slice a2 len2 cap2] from hd ⟨2, .data⟩ (by simp) rfl (fun h => by cases h))] at hc
            clear hmk
            go_simp
            refine hc.mono ?_
            rintro e w' ⟨g, rfl, f, hb⟩
            exact ⟨_, rfl, hb, hG.trans (hb.mono hG.size), g, rfl, f⟩
          · refine wpOp_run ho (by cases Option.some.inj ho; rfl) ?_
            cases Option.some.inj ho
            obtain ⟨rfl, hmk⟩ := hdp (by kernel_rfl)
            obtain ⟨g0, e1, f0⟩ := (show ∃ g, vd 1 = .agg #[.int .i64 x, .int .i64 y, .slice (some ⟨g, 0, none⟩) len len] ∧ IsFRow W (some ⟨g, 0, none⟩) len len zs from hd ⟨1, .data⟩ (by simp) rfl (fun h => by cases h))
            obtain ⟨g1, e3, f1⟩ := (show ∃ g, vd 3 = .agg #[.int .i64 x1, .int .i64 y1, .slice (some ⟨g, 0, none⟩) len2 len2] ∧ IsFRow W (some ⟨g, 0, none⟩) len2 len2 ys from hd ⟨3, .data⟩ (by simp) rfl (fun h => by cases h))
            have hc := HI.out W _ _ _ _ f0 f1
            rw [← e1, ← e3] at hc
            clear e1 e3 f0 f1 hmk
            go_simp
            refine hc.mono ?_
            rintro e w' ⟨ao, cp, zs3, rfl, r3, i3, ty, hb⟩
            have hlo := hG.size
            exact ⟨_, rfl, hb, hG.trans (hb.mono hG.size), ao, cp, rfl, zs3, w'.heap.size, r3.mono hlo (Nat.le_refl _), i3, ty⟩
          · refine wpOp_run ho (by cases Option.some.inj ho; rfl) ?_
            cases Option.some.inj ho
            obtain ⟨rfl, hmk⟩ := hdp (by kernel_rfl)
            obtain ⟨ao, cp, e4, f⟩ := (show ∃ ao cp, vd 4 = .tuple #[.agg #[.int .i64 x', .int .i64 y', .slice ao n cp], .bool ok] ∧ SpecT W w14.heap.size n ao cp os from hd ⟨4, .data⟩ (by simp) rfl (fun h => by cases h))
            clear hmk
            go_simp
            exact ⟨.tuple #[.agg #[.int .i64 x', .int .i64 y', .slice ao n cp], .bool ok], by simp [upd_at, e4], Below.refl _ _, hG, ao, cp, rfl, f⟩
          · refine wpOp_run ho (by cases Option.some.inj ho; rfl) ?_
            cases Option.some.inj ho
            obtain ⟨rfl, hmk⟩ := hdp (by kernel_rfl)
            obtain ⟨ao, cp, e5, f⟩ := (show ∃ ao cp, vd 5 = .tuple #[.agg #[.int .i64 x', .int .i64 y', .slice ao n cp], .bool ok] ∧ SpecT W w14.heap.size n ao cp os from hd ⟨5, .data⟩ (by simp) rfl (fun h => by cases h))
            clear hmk
            go_simp
            exact ⟨.agg #[.int .i64 x', .int .i64 y', .slice ao n cp], by simp [upd_at, e5], Below.refl _ _, hG, ao, cp, rfl, f⟩
          · refine wpOp_run ho (by cases Option.some.inj ho; rfl) ?_
            cases Option.some.inj ho
            obtain ⟨ao, cp, e5, f⟩ := (show ∃ ao cp, vd 5 = .tuple #[.agg #[.int .i64 x', .int .i64 y', .slice ao n cp], .bool ok] ∧ SpecT W w14.heap.size n ao cp os from hd ⟨5, .data⟩ (by simp) rfl (fun _ => rfl))
            go_simp
            exact ⟨.bool ok, by simp [upd_at, e5], Below.refl _ _, hG, rfl⟩
          · refine wpOp_run ho (by cases Option.some.inj ho; rfl) ?_
            cases Option.some.inj ho
            obtain ⟨rfl, hmk⟩ := hdp (by kernel_rfl)
            have hB : Below W.heap.size W (W.alloc (.cells #[.int .i64 0, .int .i64 0, .slice none 0 0] 27)) := Below.alloc (Below.refl _ _) (Nat.le_refl _) _
            go_simp
            exact ⟨.pointer (some ⟨W.heap.size, 0, none⟩), by simp [upd_at, hmk, pk_bool], hB, hG.trans (hB.mono hG.size), W.heap.size, rfl, hG.size, _, _, _, heap_alloc_new W _⟩
          · exact absurd rfl hne
          · omega
        · intro o ho vd W hG hd hmk
          refine wpOp_run ho (by cases Option.some.inj ho; rfl) ?_
          cases Option.some.inj ho
          obtain ⟨ao, cp, e6, f6⟩ := (show ∃ ao cp, vd 6 = .agg #[.int .i64 x', .int .i64 y', .slice ao n cp] ∧ SpecT W w14.heap.size n ao cp os from hd ⟨6, .data⟩ (by simp) rfl)
          obtain ⟨g, e8, hg, c0, c1, c2, hx⟩ := (show ∃ g, vd 8 = .pointer (some ⟨g, 0, none⟩) ∧ w14.heap.size ≤ g ∧ ∃ c0 c1 c2, W.heap[g]? = some (.cells #[c0, c1, c2] 27 (0, 0)) from hd ⟨8, .data⟩ (by simp) rfl)
          have x0 := box_cell hx 0
          have x1 := box_cell hx 1
          have x2 := box_cell hx 2
          have y0 := box_free hx 0
          have y1 := box_free hx 1
          have y2 := box_free hx 2
          have HX := Lib.hid hx
          have HG := Lib.hid hG
          clear hx hG
          go_simp
          refine ⟨.pointer (some ⟨g, 0, none⟩), by simp [upd_at, e6, e8, pk_ptr], Below.setCell (Below.setCell (Below.setCell HG.out hg _) hg _) hg _, ⟨g, rfl, hg, ao, cp, box_set (i := 2) (cs := #[.int .i64 x', .int .i64 y', c2]) (.slice ao n cp) (box_set (i := 1) (cs := #[.int .i64 x', c1, c2]) (.int .i64 y') (box_set (i := 0) (.int .i64 x') HX.out)), SpecT.set (SpecT.set (SpecT.set f6 HX.out 0 _) (box_set _ HX.out) 1 _) (box_set _ (box_set _ HX.out)) 2 _⟩, ?_⟩
          intro j s hj hk hs
          rcases j with _ | _ | _ | _ | _ | _ | _ | _ | _ | _ | j
          · cases hk
          · cases hk
          · cases hk
          · cases hk
          · cases hk
          · obtain ⟨ao', cp', e, f⟩ := hs
            exact ⟨ao', cp', e, SpecT.set (SpecT.set (SpecT.set f HX.out 0 _) (box_set _ HX.out) 1 _) (box_set _ (box_set _ HX.out)) 2 _⟩
          · obtain ⟨ao', cp', e, f⟩ := hs
            exact ⟨ao', cp', e, SpecT.set (SpecT.set (SpecT.set f HX.out 0 _) (box_set _ HX.out) 1 _) (box_set _ (box_set _ HX.out)) 2 _⟩
          · exact hs
          · obtain ⟨g', e, h1, d0, d1, d2, hx'⟩ := hs
            by_cases hgg : g' = g
            · subst hgg
              exact ⟨g', e, h1, _, _, _, box_set (i := 2) (cs := #[.int .i64 x', .int .i64 y', c2]) (.slice ao n cp) (box_set (i := 1) (cs := #[.int .i64 x', c1, c2]) (.int .i64 y') (box_set (i := 0) (.int .i64 x') HX.out))⟩
            · exact ⟨g', e, h1, d0, d1, d2, (Below.heap_setCell _ _ _ _ hgg).trans ((Below.heap_setCell _ _ _ _ hgg).trans ((Below.heap_setCell _ _ _ _ hgg).trans hx'))⟩
          · exact absurd rfl hj
          · exact hs
        · intro vd w17 b17 hR
          have e7 : vd 7 = .bool ok := hR 7 (by omega) rfl
          obtain ⟨g16, e9, hg16, ao17, cp17, hxg16, fg16⟩ := (show ∃ g, vd 9 = .pointer (some ⟨g, 0, none⟩) ∧ w14.heap.size ≤ g ∧ ∃ ao cp, w17.heap[g]? = some (.cells #[.int .i64 x', .int .i64 y', .slice ao n cp] 27 (0, 0)) ∧ SpecT w17 w14.heap.size n ao cp os from hR 9 (by omega) rfl)
          clear hR
          have lg16 : g16 < w17.heap.size := lt_of_block hxg16
          have HXg16 := Lib.hid hxg16
          have HFg16 := Lib.hid fg16
          have HGg16 := Lib.hid b17
          clear hxg16 fg16 b17
          refine wpOp_run rfl rfl ?_
          go_simp
          have b17 := HGg16.out
          have Kg16 : RowKit.Hid (At3 w17 g16 (.int .i64 x') (.int .i64 y') (.slice ao17 n cp17)) := Lib.hid ⟨box_cell HXg16.out 0, box_cell HXg16.out 1, box_cell HXg16.out 2⟩
          obtain ⟨zsg16, hig16, rg16, ig16, -⟩ := HFg16.out
          have Rg16 := Lib.hid rg16.top
          have Ig16 := Lib.hid ig16
          clear rg16 ig16 HFg16 HXg16 HGg16
          have t17 : w14.heap.size ≤ w17.heap.size := by have := b17.size; first | omega | (simp at this; omega)
          have BB : Below w14.heap.size w14 w17 := (by repeat (first | exact Below.refl _ _ | refine Below.setCell ?_ (by first | (simp; done) | (simp; omega)) _ | refine Below.trans ?_ (Below.mono (by assumption) (by first | (simp; done) | (simp; omega))) | refine Below.alloc ?_ (by first | (simp; done) | (simp; omega)) _ | refine Below.alloc ?_ (Nat.le_refl _) _ | refine below_drewN ?_ _))
          replace EE := Lib.hid (EE.out.trans (BB.mono (by omega)))
          replace K0 := Lib.hid (At3.below K0.out BB (by omega))
          replace K1 := Lib.hid (At3.below K1.out BB (by omega))
          replace Kg6 := Lib.hid (At3.below Kg6.out BB (by omega))
          replace K10 := Lib.hid (At3.below K10.out BB (by omega))
          replace K11 := Lib.hid (At3.below K11.out BB (by omega))
          replace Kg := Lib.hid (At3.below Kg.out BB (by omega))
          replace Rg6 := Lib.hid (Rg6.out.below BB)
          replace R13 := Lib.hid (R13.out.below BB)
          clear BB b17
          obtain ⟨cg60, cg61, cg62⟩ := Kg6.out
          obtain ⟨cg160, cg161, cg162⟩ := Kg16.out
          go_wp2_with fail
          clear cg60 cg61 cg62 cg160 cg161 cg162
          refine (eqP2 x' y' _ _ n _ _ zsg16 zsg6 _ Rg16.out.row Rg6.out.row (fun i hi => (Ig16.out i hi).ab.trans (Ig6.out i hi).ab.symm)).mono ?_
          rintro e w18 ⟨rfl, b18⟩
          have t18 : w17.heap.size ≤ w18.heap.size := by have := b18.size; first | omega | (simp at this; omega)
          have BB : Below w17.heap.size w17 w18 := (by repeat (first | exact Below.refl _ _ | refine Below.setCell ?_ (by first | (simp; done) | (simp; omega)) _ | refine Below.trans ?_ (Below.mono (by assumption) (by first | (simp; done) | (simp; omega))) | refine Below.alloc ?_ (by first | (simp; done) | (simp; omega)) _ | refine Below.alloc ?_ (Nat.le_refl _) _ | refine below_drewN ?_ _))
          replace EE := Lib.hid (EE.out.trans (BB.mono (by omega)))
          replace K0 := Lib.hid (At3.below K0.out BB (by omega))
          replace K1 := Lib.hid (At3.below K1.out BB (by omega))
          replace Kg6 := Lib.hid (At3.below Kg6.out BB (by omega))
          replace K10 := Lib.hid (At3.below K10.out BB (by omega))
          replace K11 := Lib.hid (At3.below K11.out BB (by omega))
          replace Kg := Lib.hid (At3.below Kg.out BB (by omega))
          replace Kg16 := Lib.hid (At3.below Kg16.out BB (by omega))
          replace Rg6 := Lib.hid (Rg6.out.below BB)
          replace R13 := Lib.hid (R13.out.below BB)
          replace Rg16 := Lib.hid (Rg16.out.below BB)
          clear BB b18
          obtain ⟨cg0, cg1, cg2⟩ := Kg.out
          go_wp2_with fail
          clear cg0 cg1 cg2
          refine (heldPicture x' y' _ n _ _ _ 1 _ R13.out (by omega) (by omega) (by omega)).mono ?_
          rintro e w19 ⟨rfl, b19⟩
          have t19 : w18.heap.size ≤ w19.heap.size := by have := b19.size; first | omega | (simp at this; omega)
          have BB : Below w18.heap.size w18 w19 := (by repeat (first | exact Below.refl _ _ | refine Below.setCell ?_ (by first | (simp; done) | (simp; omega)) _ | refine Below.trans ?_ (Below.mono (by assumption) (by first | (simp; done) | (simp; omega))) | refine Below.alloc ?_ (by first | (simp; done) | (simp; omega)) _ | refine Below.alloc ?_ (Nat.le_refl _) _ | refine below_drewN ?_ _))
          replace EE := Lib.hid (EE.out.trans (BB.mono (by omega)))
          replace K0 := Lib.hid (At3.below K0.out BB (by omega))
          replace K1 := Lib.hid (At3.below K1.out BB (by omega))
          replace Kg6 := Lib.hid (At3.below Kg6.out BB (by omega))
          replace K10 := Lib.hid (At3.below K10.out BB (by omega))
          replace K11 := Lib.hid (At3.below K11.out BB (by omega))
          replace Kg := Lib.hid (At3.below Kg.out BB (by omega))
          replace Kg16 := Lib.hid (At3.below Kg16.out BB (by omega))
          replace Rg6 := Lib.hid (Rg6.out.below BB)
          replace R13 := Lib.hid (R13.out.below BB)
          replace Rg16 := Lib.hid (Rg16.out.below BB)
          clear BB b19
          go_wp2_with fail
          go_ret
          exact ⟨rfl, EE.out⟩
end Go.Proofs.Ytbjahmfijlkajaa
