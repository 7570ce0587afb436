/-
  Whether two vectors are the same: the program's function, and the law.
-/
import Derived.Test.YtegonfniagpnkaaSame
namespace Go.Proofs.Ytegonfniagpnkaa
open Go.RowKit Go.FL

theorem same3 (x y z x1 y1 z1 : Nat) : decide (allSame [x, y, z] [x1, y1, z1] 3) = (decide (bitsOf x = bitsOf x1) && decide (bitsOf y = bitsOf y1) && decide (bitsOf z = bitsOf z1)) := by
  rw [Bool.eq_iff_iff]
  simp only [decide_eq_true_eq, Bool.and_eq_true]
  constructor
  · intro h
    exact ⟨⟨h 0 (by omega), h 1 (by omega)⟩, h 2 (by omega)⟩
  · rintro ⟨⟨h0, h1⟩, h2⟩ j hj
    rcases j with _ | _ | _ | j
    · exact h0
    · exact h1
    · exact h2
    · omega

def Row3 (x y z : Nat) (W : World) (s : Value) : Prop := ∃ g, s = .slice (some ⟨g, 0, none⟩) 3 3 ∧ IsFRow W (some ⟨g, 0, none⟩) 3 3 [x, y, z]

attribute [local irreducible] Oper.wp in
theorem SameVector (x y z x1 y1 z1 : Nat) (w : World) (hv : VecOk x y z := by assumption) (hv1 : VecOk x1 y1 z1 := by assumption) : Calls Try.prog 26 #[.agg #[.float .f32 x, .float .f32 y, .float .f32 z], .agg #[.float .f32 x1, .float .f32 y1, .float .f32 z1]] w fun e w' =>
    e = .returned (.bool (decide (bitsOf x = bitsOf x1) && decide (bitsOf y = bitsOf y1) && decide (bitsOf z = bitsOf z1))) ∧ Below w.heap.size w w' := by
  rw [← same3]
  go_enter Try.func26, Try.ntmps26
  go_upto_region 1 with fail
  have hG0 : GG [(w.heap.size, 0, Value.float .f32 x), (w.heap.size, 1, Value.float .f32 y), (w.heap.size, 2, Value.float .f32 z), (w.heap.size + 1, 0, Value.float .f32 x1), (w.heap.size + 1, 1, Value.float .f32 y1), (w.heap.size + 1, 2, Value.float .f32 z1)] (w.heap.size + 2) w.heap.size w ((w.alloc (.cells #[.float .f32 x, .float .f32 y, .float .f32 z] 25)).alloc (.cells #[.float .f32 x1, .float .f32 y1, .float .f32 z1] 25)) := by
    refine ⟨?_, by simp, by omega, by simp, Below.alloc (Below.alloc (Below.refl _ _) (Nat.le_refl _) _) (by simp) _⟩
    simp only [List.forall_mem_cons]
    go_simp
  refine wp_region_steps (by kernel_rfl) (by kernel_rfl) 5 (by kernel_rfl) (fun _ v => ⟨#[.agg #[.float .f32 x, .float .f32 y, .float .f32 z], .agg #[.float .f32 x1, .float .f32 y1, .float .f32 z1], .pointer (some ⟨w.heap.size, 0, none⟩), .pointer (some ⟨w.heap.size + 1, 0, none⟩), .bool false, v 0, v 1, v 2, v 3, v 4], []⟩)
    (fun W => GG [(w.heap.size, 0, Value.float .f32 x), (w.heap.size, 1, Value.float .f32 y), (w.heap.size, 2, Value.float .f32 z), (w.heap.size + 1, 0, Value.float .f32 x1), (w.heap.size + 1, 1, Value.float .f32 y1), (w.heap.size + 1, 2, Value.float .f32 z1)] (w.heap.size + 2) w.heap.size w W)
    (fun j W s => match j with | 0 => s = .agg #[.float .f32 x, .float .f32 y, .float .f32 z] | 1 => Row3 x y z W s | 2 => s = .agg #[.float .f32 x1, .float .f32 y1, .float .f32 z1] | 3 => Row3 x1 y1 z1 W s | 4 => s = .bool (decide (allSame [x, y, z] [x1, y1, z1] 3)) | _ => True) ?_ ?_ hG0.drew ?_ ?_
  · intro j W W' v hb
    rcases j with _ | _ | _ | _ | _ | j
    · exact id
    · rintro ⟨g, e, f⟩
      exact ⟨g, e, IsFRow.below f hb⟩
    · exact id
    · rintro ⟨g, e, f⟩
      exact ⟨g, e, IsFRow.below f hb⟩
    · exact id
    · exact id
  · exact ⟨fun _ => undef, rfl⟩
  · intro i o ho hlt vals W hG hd
    rcases i with _ | _ | _ | _ | _ | i
    · refine wpOp_run ho (by cases Option.some.inj ho; rfl) ?_
      cases Option.some.inj ho
      have c0 := hG.at (b := w.heap.size) (o := 0) (v := .float .f32 x) (by simp)
      have c1 := hG.at (b := w.heap.size) (o := 1) (v := .float .f32 y) (by simp)
      have c2 := hG.at (b := w.heap.size) (o := 2) (v := .float .f32 z) (by simp)
      go_simp
      exact ⟨_, rfl, Below.refl _ _, hG, rfl⟩
    · refine wpOp_run ho (by cases Option.some.inj ho; rfl) ?_
      cases Option.some.inj ho
      have hc := numbers x y z W hv
      rw [← (show vals 0 = .agg #[.float .f32 x, .float .f32 y, .float .f32 z] from hd ⟨0, .data⟩ (by simp) rfl)] at hc
      go_simp
      refine hc.mono ?_
      rintro e w' ⟨g, rfl, f, hb⟩
      exact ⟨_, rfl, hb, hG.call hb, g, rfl, f⟩
    · refine wpOp_run ho (by cases Option.some.inj ho; rfl) ?_
      cases Option.some.inj ho
      have c0 := hG.at (b := w.heap.size + 1) (o := 0) (v := .float .f32 x1) (by simp)
      have c1 := hG.at (b := w.heap.size + 1) (o := 1) (v := .float .f32 y1) (by simp)
      have c2 := hG.at (b := w.heap.size + 1) (o := 2) (v := .float .f32 z1) (by simp)
      go_simp
      exact ⟨_, rfl, Below.refl _ _, hG, rfl⟩
    · refine wpOp_run ho (by cases Option.some.inj ho; rfl) ?_
      cases Option.some.inj ho
      have hc := numbers x1 y1 z1 W hv1
      rw [← (show vals 2 = .agg #[.float .f32 x1, .float .f32 y1, .float .f32 z1] from hd ⟨2, .data⟩ (by simp) rfl)] at hc
      go_simp
      refine hc.mono ?_
      rintro e w' ⟨g, rfl, f, hb⟩
      exact ⟨_, rfl, hb, hG.call hb, g, rfl, f⟩
    · refine wpOp_run ho (by cases Option.some.inj ho; rfl) ?_
      cases Option.some.inj ho
      obtain ⟨g0, e0, f0⟩ := (show Row3 x y z W (vals 1) from hd ⟨1, .data⟩ (by simp) rfl)
      obtain ⟨g1, e1, f1⟩ := (show Row3 x1 y1 z1 W (vals 3) from hd ⟨3, .data⟩ (by simp) rfl)
      have hc := sameList _ _ 3 3 3 _ _ W f0 f1
      rw [← e0, ← e1] at hc
      clear e0 e1 f0 f1
      go_simp
      refine hc.mono ?_
      rintro e w' ⟨rfl, rfl⟩
      exact ⟨_, rfl, Below.refl _ _, hG, rfl⟩
    · omega
  · intro vals W hG hR
    refine wpOp_run rfl rfl ?_
    have e4 : vals 4 = _ := hR 4 (by omega)
    have hB := hG.below
    go_simp
    go_wp2_with fail
    go_ret
    exact ⟨rfl, hB⟩

attribute [local irreducible] Oper.wp in
/-- the law's own variables -/
abbrev FnExactSameVector_boxes (w : World) (x y z : Nat) (x1 y1 z1 : Nat) : List (Nat × Nat × Value) := [((w.heap.size), 0, Value.float .f32 x), ((w.heap.size), 1, Value.float .f32 y), ((w.heap.size), 2, Value.float .f32 z), ((w.heap.size + 1), 0, Value.float .f32 x1), ((w.heap.size + 1), 1, Value.float .f32 y1), ((w.heap.size + 1), 2, Value.float .f32 z1)]
theorem FnExactSameVector_start (w : World) (x y z : Nat) (x1 y1 z1 : Nat) : GG (FnExactSameVector_boxes w x y z x1 y1 z1) (w.heap.size + 2) w.heap.size w ((w.alloc (.cells #[.float .f32 x, .float .f32 y, .float .f32 z] 24)).alloc (.cells #[.float .f32 x1, .float .f32 y1, .float .f32 z1] 24)) := by
  refine ⟨?_, by simp [FnExactSameVector_boxes], by omega, by simp, Below.alloc (Below.alloc (Below.refl _ _) (Nat.le_refl _) _) (by simp) _⟩
  simp only [FnExactSameVector_boxes, List.forall_mem_cons]
  go_simp
set_option maxHeartbeats 1600000 in
theorem FnExactSameVector_walk (x y z : Nat) (x1 y1 z1 : Nat) (w : World) (_ : VecOk x y z) (_ : VecOk x1 y1 z1) : Calls Try.prog 7 #[.agg #[.float .f32 x, .float .f32 y, .float .f32 z], .agg #[.float .f32 x1, .float .f32 y1, .float .f32 z1]] w fun e w' => e = .returned (.bool true) ∧ Below w.heap.size w w' := by
  go_enter Try.func7, Try.ntmps7
  go_upto_region 1 with fail
  have hG0 := FnExactSameVector_start w x y z x1 y1 z1
  go_cut [5] (fun s5 wx => s5 = .bool (decide (bitsOf x = bitsOf x1) && decide (bitsOf y = bitsOf y1) && decide (bitsOf z = bitsOf z1)) ∧ GG (FnExactSameVector_boxes w x y z x1 y1 z1) (w.heap.size + 2) w.heap.size w wx)
  case first =>
    refine wp_region_steps (by kernel_rfl) (by kernel_rfl) 5 (by kernel_rfl) (fun _ v => ⟨#[.agg #[.float .f32 x, .float .f32 y, .float .f32 z], .agg #[.float .f32 x1, .float .f32 y1, .float .f32 z1], .pointer (some ⟨w.heap.size, 0, none⟩), .pointer (some ⟨w.heap.size + 1, 0, none⟩), .bool false, undef, undef, v 0, v 1, v 2, v 3, v 4, undef, undef, undef, undef, undef, undef, undef, undef], []⟩) (GG (FnExactSameVector_boxes w x y z x1 y1 z1) (w.heap.size + 2) w.heap.size w) (fun j W s => match j with | 0 => s = .agg #[.float .f32 x, .float .f32 y, .float .f32 z] | 1 => s = .agg #[.float .f32 x, .float .f32 y, .float .f32 z] | 2 => s = .agg #[.float .f32 x1, .float .f32 y1, .float .f32 z1] | 3 => s = .agg #[.float .f32 x1, .float .f32 y1, .float .f32 z1] | 4 => s = .bool (decide (bitsOf x = bitsOf x1) && decide (bitsOf y = bitsOf y1) && decide (bitsOf z = bitsOf z1)) | _ => True) ?_ ?_ hG0.drew ?_ ?_
    · intro j W W' v hb
      rcases j with _ | _ | _ | _ | _ | j <;> first | exact id | exact New3.call hb
    · exact ⟨fun j => match j with | 0 => undef | 1 => undef | 2 => undef | 3 => undef | 4 => undef | _ => undef, rfl⟩
    · intro i o ho hlt vals W hG hd
      rcases i with _ | _ | _ | _ | _ | i
      · refine wpOp_run ho (by cases Option.some.inj ho; rfl) ?_
        cases Option.some.inj ho
        have c0 := hG.at (b := w.heap.size) (o := 0) (v := .float .f32 x) (by simp [FnExactSameVector_boxes])
        have c1 := hG.at (b := w.heap.size) (o := 1) (v := .float .f32 y) (by simp [FnExactSameVector_boxes])
        have c2 := hG.at (b := w.heap.size) (o := 2) (v := .float .f32 z) (by simp [FnExactSameVector_boxes])
        go_simp
        exact ⟨_, rfl, Below.refl _ _, hG, rfl⟩
      · refine wpOp_run ho (by cases Option.some.inj ho; rfl) ?_
        cases Option.some.inj ho
        have hc := toVector x y z W
        rw [← (show vals 0 = .agg #[.float .f32 x, .float .f32 y, .float .f32 z] from hd ⟨0, .data⟩ (by simp) rfl)] at hc
        go_simp
        refine hc.mono ?_
        rintro e w' ⟨rfl, hb⟩
        exact ⟨_, rfl, hb, hG.call hb, hd ⟨0, .data⟩ (by simp) rfl⟩
      · refine wpOp_run ho (by cases Option.some.inj ho; rfl) ?_
        cases Option.some.inj ho
        have c0 := hG.at (b := w.heap.size + 1) (o := 0) (v := .float .f32 x1) (by simp [FnExactSameVector_boxes])
        have c1 := hG.at (b := w.heap.size + 1) (o := 1) (v := .float .f32 y1) (by simp [FnExactSameVector_boxes])
        have c2 := hG.at (b := w.heap.size + 1) (o := 2) (v := .float .f32 z1) (by simp [FnExactSameVector_boxes])
        go_simp
        exact ⟨_, rfl, Below.refl _ _, hG, rfl⟩
      · refine wpOp_run ho (by cases Option.some.inj ho; rfl) ?_
        cases Option.some.inj ho
        have hc := toVector x1 y1 z1 W
        rw [← (show vals 2 = .agg #[.float .f32 x1, .float .f32 y1, .float .f32 z1] from hd ⟨2, .data⟩ (by simp) rfl)] at hc
        go_simp
        refine hc.mono ?_
        rintro e w' ⟨rfl, hb⟩
        exact ⟨_, rfl, hb, hG.call hb, hd ⟨2, .data⟩ (by simp) rfl⟩
      · refine wpOp_run ho (by cases Option.some.inj ho; rfl) ?_
        cases Option.some.inj ho
        have hc := spec_SameVector x y z x1 y1 z1 W
        rw [← (show vals 1 = .agg #[.float .f32 x, .float .f32 y, .float .f32 z] from hd ⟨1, .data⟩ (by simp) rfl), ← (show vals 3 = .agg #[.float .f32 x1, .float .f32 y1, .float .f32 z1] from hd ⟨3, .data⟩ (by simp) rfl)] at hc
        go_simp
        refine hc.mono ?_
        rintro e w' ⟨rfl, hb⟩
        exact ⟨_, rfl, hb, hG.call hb, rfl⟩
      · omega
    · intro vals W hG hR
      refine wpOp_run rfl rfl ?_
      have e4 : vals 4 = _ := hR 4 (by omega)
      go_simp
      go_wp2_with fail
      go_meet
      exact ⟨rfl, hG⟩
  case rest =>
    obtain ⟨rfl, hG⟩ := hcut
    go_upto_region 2 with fail
    go_cut [6] (fun s6 wx => s6 = .bool (decide (bitsOf x = bitsOf x1) && decide (bitsOf y = bitsOf y1) && decide (bitsOf z = bitsOf z1)) ∧ GG (FnExactSameVector_boxes w x y z x1 y1 z1) (w.heap.size + 2) w.heap.size w wx)
    case first =>
      refine wp_region_steps (by kernel_rfl) (by kernel_rfl) 5 (by kernel_rfl) (fun _ v => ⟨#[.agg #[.float .f32 x, .float .f32 y, .float .f32 z], .agg #[.float .f32 x1, .float .f32 y1, .float .f32 z1], .pointer (some ⟨w.heap.size, 0, none⟩), .pointer (some ⟨w.heap.size + 1, 0, none⟩), .bool false, .bool (decide (bitsOf x = bitsOf x1) && decide (bitsOf y = bitsOf y1) && decide (bitsOf z = bitsOf z1)), undef, u7, u8, u9, u10, u11, v 0, v 1, v 2, v 3, v 4, u17, u18, u19], []⟩) (GG (FnExactSameVector_boxes w x y z x1 y1 z1) (w.heap.size + 2) w.heap.size w) (fun j W s => match j with | 0 => s = .agg #[.float .f32 x, .float .f32 y, .float .f32 z] | 1 => s = .agg #[.float .f32 x, .float .f32 y, .float .f32 z] | 2 => s = .agg #[.float .f32 x1, .float .f32 y1, .float .f32 z1] | 3 => s = .agg #[.float .f32 x1, .float .f32 y1, .float .f32 z1] | 4 => s = .bool (decide (bitsOf x = bitsOf x1) && decide (bitsOf y = bitsOf y1) && decide (bitsOf z = bitsOf z1)) | _ => True) ?_ ?_ hG.drew ?_ ?_
      · intro j W W' v hb
        rcases j with _ | _ | _ | _ | _ | j <;> first | exact id | exact New3.call hb
      · exact ⟨fun j => match j with | 0 => u12 | 1 => u13 | 2 => u14 | 3 => u15 | 4 => u16 | _ => undef, rfl⟩
      · intro i o ho hlt vals W hG hd
        rcases i with _ | _ | _ | _ | _ | i
        · refine wpOp_run ho (by cases Option.some.inj ho; rfl) ?_
          cases Option.some.inj ho
          have c0 := hG.at (b := w.heap.size) (o := 0) (v := .float .f32 x) (by simp [FnExactSameVector_boxes])
          have c1 := hG.at (b := w.heap.size) (o := 1) (v := .float .f32 y) (by simp [FnExactSameVector_boxes])
          have c2 := hG.at (b := w.heap.size) (o := 2) (v := .float .f32 z) (by simp [FnExactSameVector_boxes])
          go_simp
          exact ⟨_, rfl, Below.refl _ _, hG, rfl⟩
        · refine wpOp_run ho (by cases Option.some.inj ho; rfl) ?_
          cases Option.some.inj ho
          have hc := toVector x y z W
          rw [← (show vals 0 = .agg #[.float .f32 x, .float .f32 y, .float .f32 z] from hd ⟨0, .data⟩ (by simp) rfl)] at hc
          go_simp
          refine hc.mono ?_
          rintro e w' ⟨rfl, hb⟩
          exact ⟨_, rfl, hb, hG.call hb, hd ⟨0, .data⟩ (by simp) rfl⟩
        · refine wpOp_run ho (by cases Option.some.inj ho; rfl) ?_
          cases Option.some.inj ho
          have c0 := hG.at (b := w.heap.size + 1) (o := 0) (v := .float .f32 x1) (by simp [FnExactSameVector_boxes])
          have c1 := hG.at (b := w.heap.size + 1) (o := 1) (v := .float .f32 y1) (by simp [FnExactSameVector_boxes])
          have c2 := hG.at (b := w.heap.size + 1) (o := 2) (v := .float .f32 z1) (by simp [FnExactSameVector_boxes])
          go_simp
          exact ⟨_, rfl, Below.refl _ _, hG, rfl⟩
        · refine wpOp_run ho (by cases Option.some.inj ho; rfl) ?_
          cases Option.some.inj ho
          have hc := toVector x1 y1 z1 W
          rw [← (show vals 2 = .agg #[.float .f32 x1, .float .f32 y1, .float .f32 z1] from hd ⟨2, .data⟩ (by simp) rfl)] at hc
          go_simp
          refine hc.mono ?_
          rintro e w' ⟨rfl, hb⟩
          exact ⟨_, rfl, hb, hG.call hb, hd ⟨2, .data⟩ (by simp) rfl⟩
        · refine wpOp_run ho (by cases Option.some.inj ho; rfl) ?_
          cases Option.some.inj ho
          have hc := SameVector x y z x1 y1 z1 W
          rw [← (show vals 1 = .agg #[.float .f32 x, .float .f32 y, .float .f32 z] from hd ⟨1, .data⟩ (by simp) rfl), ← (show vals 3 = .agg #[.float .f32 x1, .float .f32 y1, .float .f32 z1] from hd ⟨3, .data⟩ (by simp) rfl)] at hc
          go_simp
          refine hc.mono ?_
          rintro e w' ⟨rfl, hb⟩
          exact ⟨_, rfl, hb, hG.call hb, rfl⟩
        · omega
      · intro vals W hG hR
        refine wpOp_run rfl rfl ?_
        have e4 : vals 4 = _ := hR 4 (by omega)
        go_simp
        go_wp2_with fail
        go_meet
        exact ⟨rfl, hG⟩
    case rest =>
      obtain ⟨rfl, hH⟩ := hcut
      go_wp2
      go_ret
      exact ⟨rfl, hH.below⟩

end Go.Proofs.Ytegonfniagpnkaa
