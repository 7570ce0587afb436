/-
  The walks of the laws over vectors.
-/
import Derived.Test.YtegonfniagpnkaaCross
import Derived.Test.YtegonfniagpnkaaVecA
import Derived.ProofKit
import Derived.Deep.RegionHeld3
import Derived.Deep.DrawnRows
import Derived.Deep.DeepCutAuto
import Derived.Lib.Hide
import Derived.Carry
namespace Go.Proofs.Ytegonfniagpnkaa
open Go.RowKit Go.FL

attribute [local irreducible] Oper.wp

theorem BetweenVectors_start (w : World) (x y z x1 y1 z1 : Nat) (t a b c : Nat) : GG [(w.heap.size, 0, Value.float .f32 x), (w.heap.size, 1, Value.float .f32 y), (w.heap.size, 2, Value.float .f32 z), (w.heap.size + 1, 0, Value.float .f32 x1), (w.heap.size + 1, 1, Value.float .f32 y1), (w.heap.size + 1, 2, Value.float .f32 z1)] (w.heap.size + 2) w.heap.size w (((w.alloc (.cells #[.float .f32 x, .float .f32 y, .float .f32 z] t)).alloc (.cells #[.float .f32 x1, .float .f32 y1, .float .f32 z1] t)).alloc (.cells #[.float .f32 a, .float .f32 b, .float .f32 c] t)) := by
  refine ⟨?_, by simp, by omega, by simp, Below.alloc (Below.alloc (Below.alloc (Below.refl _ _) (Nat.le_refl _) _) (by simp) _) (by simp; omega) _⟩
  simp only [List.forall_mem_cons]
  go_simp
set_option maxHeartbeats 1600000 in
theorem BetweenVectors (x y z x1 y1 z1 t : Nat) (w : World) : Calls Try.prog 32 #[.agg #[.float .f32 x, .float .f32 y, .float .f32 z], .agg #[.float .f32 x1, .float .f32 y1, .float .f32 z1], .float .f32 t] w (RetVec (oop .add .f32 (ab .f32 x) (oop .mul .f32 (oop .sub .f32 (ab .f32 x1) (ab .f32 x)) (ab .f32 t))) (oop .add .f32 (ab .f32 y) (oop .mul .f32 (oop .sub .f32 (ab .f32 y1) (ab .f32 y)) (ab .f32 t))) (oop .add .f32 (ab .f32 z) (oop .mul .f32 (oop .sub .f32 (ab .f32 z1) (ab .f32 z)) (ab .f32 t))) w) := by
  go_enter Try.func32, Try.ntmps32
  go_upto_region 1 with fail
  have hG0 := BetweenVectors_start w x y z x1 y1 z1 25 0 0 0
  have hN : New3 (w.heap.size + 2) (((w.alloc (.cells #[.float .f32 x, .float .f32 y, .float .f32 z] 25)).alloc (.cells #[.float .f32 x1, .float .f32 y1, .float .f32 z1] 25)).alloc (.cells #[.float .f32 0, .float .f32 0, .float .f32 0] 25)).drew (.pointer (some ⟨w.heap.size + 1 + 1, 0, none⟩)) := by
    have := New3.mk (N := w.heap.size + 2) (W := (w.alloc (.cells #[.float .f32 x, .float .f32 y, .float .f32 z] 25)).alloc (.cells #[.float .f32 x1, .float .f32 y1, .float .f32 z1] 25)) (by simp) (.float .f32 0) (.float .f32 0) (.float .f32 0) 25
    exact New3.call (Below.drew (Below.refl _ _)) (by simpa using this)
  go_cut [] (fun wx => ∃ (r0 r1 r2 : Nat), Is .f32 r0 (oop .add .f32 (ab .f32 x) (oop .mul .f32 (oop .sub .f32 (ab .f32 x1) (ab .f32 x)) (ab .f32 t))) ∧ Is .f32 r1 (oop .add .f32 (ab .f32 y) (oop .mul .f32 (oop .sub .f32 (ab .f32 y1) (ab .f32 y)) (ab .f32 t))) ∧ Is .f32 r2 (oop .add .f32 (ab .f32 z) (oop .mul .f32 (oop .sub .f32 (ab .f32 z1) (ab .f32 z)) (ab .f32 t))) ∧ At3 wx (w.heap.size + 1 + 1) (.float .f32 r0) (.float .f32 r1) (.float .f32 r2) ∧ Below w.heap.size w wx)
  case first =>
    refine wp_region_steps (by kernel_rfl) (by kernel_rfl) 7 (by kernel_rfl) (fun _ v => ⟨#[.agg #[.float .f32 x, .float .f32 y, .float .f32 z], .agg #[.float .f32 x1, .float .f32 y1, .float .f32 z1], .float .f32 t, .pointer (some ⟨w.heap.size, 0, none⟩), .pointer (some ⟨w.heap.size + 1, 0, none⟩), undef, .pointer (some ⟨w.heap.size + 1 + 1, 0, none⟩), v 0, v 1, v 2, v 3, v 4, v 5, v 6], []⟩)
      (fun W => GG [(w.heap.size, 0, Value.float .f32 x), (w.heap.size, 1, Value.float .f32 y), (w.heap.size, 2, Value.float .f32 z), (w.heap.size + 1, 0, Value.float .f32 x1), (w.heap.size + 1, 1, Value.float .f32 y1), (w.heap.size + 1, 2, Value.float .f32 z1)] (w.heap.size + 2) w.heap.size w W ∧ New3 (w.heap.size + 2) W (.pointer (some ⟨w.heap.size + 1 + 1, 0, none⟩)))
      (fun j W s => match j with | 0 => s = .agg #[.float .f32 x, .float .f32 y, .float .f32 z] | 1 => s = .agg #[.float .f32 x1, .float .f32 y1, .float .f32 z1] | 2 => s = .agg #[.float .f32 x, .float .f32 y, .float .f32 z] | 3 => IsVec (oop .sub .f32 (ab .f32 x1) (ab .f32 x)) (oop .sub .f32 (ab .f32 y1) (ab .f32 y)) (oop .sub .f32 (ab .f32 z1) (ab .f32 z)) s | 4 => s = .float .f32 t | 5 => IsVec (oop .mul .f32 (oop .sub .f32 (ab .f32 x1) (ab .f32 x)) (ab .f32 t)) (oop .mul .f32 (oop .sub .f32 (ab .f32 y1) (ab .f32 y)) (ab .f32 t)) (oop .mul .f32 (oop .sub .f32 (ab .f32 z1) (ab .f32 z)) (ab .f32 t)) s | 6 => IsVec (oop .add .f32 (ab .f32 x) (oop .mul .f32 (oop .sub .f32 (ab .f32 x1) (ab .f32 x)) (ab .f32 t))) (oop .add .f32 (ab .f32 y) (oop .mul .f32 (oop .sub .f32 (ab .f32 y1) (ab .f32 y)) (ab .f32 t))) (oop .add .f32 (ab .f32 z) (oop .mul .f32 (oop .sub .f32 (ab .f32 z1) (ab .f32 z)) (ab .f32 t))) s | _ => True) ?_ ?_ ⟨hG0.drew, hN⟩ ?_ ?_
    · intro j W W' v hb
      rcases j with _ | _ | _ | _ | _ | _ | _ | j <;> exact id
    · exact ⟨fun _ => undef, rfl⟩
    · intro i o ho hlt vals W hGN hd
      obtain ⟨hG, hN⟩ := hGN
      rcases i with _ | _ | _ | _ | _ | _ | _ | i
      · refine wpOp_run ho (by cases Option.some.inj ho; rfl) ?_
        cases Option.some.inj ho
        have c0 := hG.at (b := w.heap.size) (o := 0) (v := .float .f32 x) (by simp)
        have c1 := hG.at (b := w.heap.size) (o := 1) (v := .float .f32 y) (by simp)
        have c2 := hG.at (b := w.heap.size) (o := 2) (v := .float .f32 z) (by simp)
        go_simp
        exact ⟨_, rfl, Below.refl _ _, ⟨hG, hN⟩, rfl⟩
      · refine wpOp_run ho (by cases Option.some.inj ho; rfl) ?_
        cases Option.some.inj ho
        have c0 := hG.at (b := w.heap.size + 1) (o := 0) (v := .float .f32 x1) (by simp)
        have c1 := hG.at (b := w.heap.size + 1) (o := 1) (v := .float .f32 y1) (by simp)
        have c2 := hG.at (b := w.heap.size + 1) (o := 2) (v := .float .f32 z1) (by simp)
        go_simp
        exact ⟨_, rfl, Below.refl _ _, ⟨hG, hN⟩, rfl⟩
      · refine wpOp_run ho (by cases Option.some.inj ho; rfl) ?_
        cases Option.some.inj ho
        have c0 := hG.at (b := w.heap.size) (o := 0) (v := .float .f32 x) (by simp)
        have c1 := hG.at (b := w.heap.size) (o := 1) (v := .float .f32 y) (by simp)
        have c2 := hG.at (b := w.heap.size) (o := 2) (v := .float .f32 z) (by simp)
        go_simp
        exact ⟨_, rfl, Below.refl _ _, ⟨hG, hN⟩, rfl⟩
      · refine wpOp_run ho (by cases Option.some.inj ho; rfl) ?_
        cases Option.some.inj ho
        have hc := LessVectors x1 y1 z1 x y z W
        rw [← (show vals 1 = .agg #[.float .f32 x1, .float .f32 y1, .float .f32 z1] from hd ⟨1, .data⟩ (by simp) rfl), ← (show vals 2 = .agg #[.float .f32 x, .float .f32 y, .float .f32 z] from hd ⟨2, .data⟩ (by simp) rfl)] at hc
        go_simp
        refine hc.mono ?_
        rintro e w' ⟨r0, r1, r2, k0, k1, k2, rfl, hb⟩
        exact ⟨_, rfl, hb, ⟨hG.call hb, hN.call hb⟩, ⟨r0, r1, r2, rfl, k0, k1, k2⟩⟩
      · refine wpOp_run ho (by cases Option.some.inj ho; rfl) ?_
        cases Option.some.inj ho
        go_simp
        exact ⟨_, rfl, Below.refl _ _, ⟨hG, hN⟩, rfl⟩
      · refine wpOp_run ho (by cases Option.some.inj ho; rfl) ?_
        cases Option.some.inj ho
        obtain ⟨r0, r1, r2, e3, k0, k1, k2⟩ := (show IsVec _ _ _ (vals 3) from hd ⟨3, .data⟩ (by simp) rfl)
        have hc := ScaleVector r0 r1 r2 t W
        rw [← e3, ← (show vals 4 = .float .f32 t from hd ⟨4, .data⟩ (by simp) rfl)] at hc
        clear e3
        go_simp
        refine hc.mono ?_
        rintro e w' ⟨q0, q1, q2, j0, j1, j2, rfl, hb⟩
        rw [k0.ab] at j0
        rw [k1.ab] at j1
        rw [k2.ab] at j2
        exact ⟨_, rfl, hb, ⟨hG.call hb, hN.call hb⟩, ⟨q0, q1, q2, rfl, j0, j1, j2⟩⟩
      · refine wpOp_run ho (by cases Option.some.inj ho; rfl) ?_
        cases Option.some.inj ho
        obtain ⟨r0, r1, r2, e3, k0, k1, k2⟩ := (show IsVec _ _ _ (vals 5) from hd ⟨5, .data⟩ (by simp) rfl)
        have hc := AddVectors x y z r0 r1 r2 W
        rw [← e3, ← (show vals 0 = .agg #[.float .f32 x, .float .f32 y, .float .f32 z] from hd ⟨0, .data⟩ (by simp) rfl)] at hc
        clear e3
        go_simp
        refine hc.mono ?_
        rintro e w' ⟨q0, q1, q2, j0, j1, j2, rfl, hb⟩
        rw [k0.ab] at j0
        rw [k1.ab] at j1
        rw [k2.ab] at j2
        exact ⟨_, rfl, hb, ⟨hG.call hb, hN.call hb⟩, ⟨q0, q1, q2, rfl, j0, j1, j2⟩⟩
      · omega
    · intro vals W hGN hR
      obtain ⟨hG, hN⟩ := hGN
      refine wpOp_run rfl rfl ?_
      obtain ⟨r0, r1, r2, e4, k0, k1, k2⟩ := (show IsVec _ _ _ (vals 6) from hR 6 (by omega))
      obtain ⟨g, e5, hg1, hg2, hf, c0, c1, c2, d0, d1, d2⟩ := hN
      simp only [Value.pointer.injEq, Option.some.injEq, Addr.mk.injEq, and_true] at e5
      subst e5
      have h3 := at3_set W (w.heap.size + 1 + 1) (.float .f32 r0) (.float .f32 r1) (.float .f32 r2) _ _ _ ⟨d0, d1, d2⟩
      have hG' := ((hG.set hg1 (o := 0) (.float .f32 r0)).set hg1 (o := 1) (.float .f32 r1)).set hg1 (o := 2) (.float .f32 r2)
      have hB := hG'.below
      clear hG'
      go_simp
      go_wp2_with fail
      go_meet
      exact ⟨r0, r1, r2, k0, k1, k2, h3, hB⟩
  case rest =>
    obtain ⟨r0, r1, r2, k0, k1, k2, ⟨d0, d1, d2⟩, hB⟩ := hcut
    go_wp2_with fail
    exact bodyPost_ret (v := .agg #[.float .f32 r0, .float .f32 r1, .float .f32 r2]) (by simp [results, Try.results32, go_sem, d0, d1, d2]) rfl ⟨_, _, _, k0, k1, k2, rfl, hB⟩

theorem l01Between_start (w : World) (x y z x1 y1 z1 : Nat) (t a b c : Nat) : GG [(w.heap.size, 0, Value.float .f32 x), (w.heap.size, 1, Value.float .f32 y), (w.heap.size, 2, Value.float .f32 z), (w.heap.size + 1, 0, Value.float .f32 x1), (w.heap.size + 1, 1, Value.float .f32 y1), (w.heap.size + 1, 2, Value.float .f32 z1)] (w.heap.size + 2) w.heap.size w (((w.alloc (.cells #[.float .f32 x, .float .f32 y, .float .f32 z] t)).alloc (.cells #[.float .f32 x1, .float .f32 y1, .float .f32 z1] t)).alloc (.cells #[.float .f32 a, .float .f32 b, .float .f32 c] t)) := by
  refine ⟨?_, by simp, by omega, by simp, Below.alloc (Below.alloc (Below.alloc (Below.refl _ _) (Nat.le_refl _) _) (by simp) _) (by simp; omega) _⟩
  simp only [List.forall_mem_cons]
  go_simp
set_option maxHeartbeats 1600000 in
theorem l01Between (x y z x1 y1 z1 t : Nat) (w : World) : Calls Try.prog 54 #[.agg #[.float .f32 x, .float .f32 y, .float .f32 z], .agg #[.float .f32 x1, .float .f32 y1, .float .f32 z1], .float .f32 t] w (RetVec (oop .add .f32 (ab .f32 x) (oop .mul .f32 (oop .sub .f32 (ab .f32 x1) (ab .f32 x)) (ab .f32 t))) (oop .add .f32 (ab .f32 y) (oop .mul .f32 (oop .sub .f32 (ab .f32 y1) (ab .f32 y)) (ab .f32 t))) (oop .add .f32 (ab .f32 z) (oop .mul .f32 (oop .sub .f32 (ab .f32 z1) (ab .f32 z)) (ab .f32 t))) w) := by
  go_enter Try.func54, Try.ntmps54
  go_upto_region 1 with fail
  have hG0 := l01Between_start w x y z x1 y1 z1 25 0 0 0
  have hN : New3 (w.heap.size + 2) (((w.alloc (.cells #[.float .f32 x, .float .f32 y, .float .f32 z] 25)).alloc (.cells #[.float .f32 x1, .float .f32 y1, .float .f32 z1] 25)).alloc (.cells #[.float .f32 0, .float .f32 0, .float .f32 0] 25)).drew (.pointer (some ⟨w.heap.size + 1 + 1, 0, none⟩)) := by
    have := New3.mk (N := w.heap.size + 2) (W := (w.alloc (.cells #[.float .f32 x, .float .f32 y, .float .f32 z] 25)).alloc (.cells #[.float .f32 x1, .float .f32 y1, .float .f32 z1] 25)) (by simp) (.float .f32 0) (.float .f32 0) (.float .f32 0) 25
    exact New3.call (Below.drew (Below.refl _ _)) (by simpa using this)
  go_cut [] (fun wx => ∃ (r0 r1 r2 : Nat), Is .f32 r0 (oop .add .f32 (ab .f32 x) (oop .mul .f32 (oop .sub .f32 (ab .f32 x1) (ab .f32 x)) (ab .f32 t))) ∧ Is .f32 r1 (oop .add .f32 (ab .f32 y) (oop .mul .f32 (oop .sub .f32 (ab .f32 y1) (ab .f32 y)) (ab .f32 t))) ∧ Is .f32 r2 (oop .add .f32 (ab .f32 z) (oop .mul .f32 (oop .sub .f32 (ab .f32 z1) (ab .f32 z)) (ab .f32 t))) ∧ At3 wx (w.heap.size + 1 + 1) (.float .f32 r0) (.float .f32 r1) (.float .f32 r2) ∧ Below w.heap.size w wx)
  case first =>
    refine wp_region_steps (by kernel_rfl) (by kernel_rfl) 7 (by kernel_rfl) (fun _ v => ⟨#[.agg #[.float .f32 x, .float .f32 y, .float .f32 z], .agg #[.float .f32 x1, .float .f32 y1, .float .f32 z1], .float .f32 t, .pointer (some ⟨w.heap.size, 0, none⟩), .pointer (some ⟨w.heap.size + 1, 0, none⟩), undef, .pointer (some ⟨w.heap.size + 1 + 1, 0, none⟩), v 0, v 1, v 2, v 3, v 4, v 5, v 6], []⟩)
      (fun W => GG [(w.heap.size, 0, Value.float .f32 x), (w.heap.size, 1, Value.float .f32 y), (w.heap.size, 2, Value.float .f32 z), (w.heap.size + 1, 0, Value.float .f32 x1), (w.heap.size + 1, 1, Value.float .f32 y1), (w.heap.size + 1, 2, Value.float .f32 z1)] (w.heap.size + 2) w.heap.size w W ∧ New3 (w.heap.size + 2) W (.pointer (some ⟨w.heap.size + 1 + 1, 0, none⟩)))
      (fun j W s => match j with | 0 => s = .agg #[.float .f32 x, .float .f32 y, .float .f32 z] | 1 => s = .agg #[.float .f32 x1, .float .f32 y1, .float .f32 z1] | 2 => s = .agg #[.float .f32 x, .float .f32 y, .float .f32 z] | 3 => IsVec (oop .sub .f32 (ab .f32 x1) (ab .f32 x)) (oop .sub .f32 (ab .f32 y1) (ab .f32 y)) (oop .sub .f32 (ab .f32 z1) (ab .f32 z)) s | 4 => s = .float .f32 t | 5 => IsVec (oop .mul .f32 (oop .sub .f32 (ab .f32 x1) (ab .f32 x)) (ab .f32 t)) (oop .mul .f32 (oop .sub .f32 (ab .f32 y1) (ab .f32 y)) (ab .f32 t)) (oop .mul .f32 (oop .sub .f32 (ab .f32 z1) (ab .f32 z)) (ab .f32 t)) s | 6 => IsVec (oop .add .f32 (ab .f32 x) (oop .mul .f32 (oop .sub .f32 (ab .f32 x1) (ab .f32 x)) (ab .f32 t))) (oop .add .f32 (ab .f32 y) (oop .mul .f32 (oop .sub .f32 (ab .f32 y1) (ab .f32 y)) (ab .f32 t))) (oop .add .f32 (ab .f32 z) (oop .mul .f32 (oop .sub .f32 (ab .f32 z1) (ab .f32 z)) (ab .f32 t))) s | _ => True) ?_ ?_ ⟨hG0.drew, hN⟩ ?_ ?_
    · intro j W W' v hb
      rcases j with _ | _ | _ | _ | _ | _ | _ | j <;> exact id
    · exact ⟨fun _ => undef, rfl⟩
    · intro i o ho hlt vals W hGN hd
      obtain ⟨hG, hN⟩ := hGN
      rcases i with _ | _ | _ | _ | _ | _ | _ | i
      · refine wpOp_run ho (by cases Option.some.inj ho; rfl) ?_
        cases Option.some.inj ho
        have c0 := hG.at (b := w.heap.size) (o := 0) (v := .float .f32 x) (by simp)
        have c1 := hG.at (b := w.heap.size) (o := 1) (v := .float .f32 y) (by simp)
        have c2 := hG.at (b := w.heap.size) (o := 2) (v := .float .f32 z) (by simp)
        go_simp
        exact ⟨_, rfl, Below.refl _ _, ⟨hG, hN⟩, rfl⟩
      · refine wpOp_run ho (by cases Option.some.inj ho; rfl) ?_
        cases Option.some.inj ho
        have c0 := hG.at (b := w.heap.size + 1) (o := 0) (v := .float .f32 x1) (by simp)
        have c1 := hG.at (b := w.heap.size + 1) (o := 1) (v := .float .f32 y1) (by simp)
        have c2 := hG.at (b := w.heap.size + 1) (o := 2) (v := .float .f32 z1) (by simp)
        go_simp
        exact ⟨_, rfl, Below.refl _ _, ⟨hG, hN⟩, rfl⟩
      · refine wpOp_run ho (by cases Option.some.inj ho; rfl) ?_
        cases Option.some.inj ho
        have c0 := hG.at (b := w.heap.size) (o := 0) (v := .float .f32 x) (by simp)
        have c1 := hG.at (b := w.heap.size) (o := 1) (v := .float .f32 y) (by simp)
        have c2 := hG.at (b := w.heap.size) (o := 2) (v := .float .f32 z) (by simp)
        go_simp
        exact ⟨_, rfl, Below.refl _ _, ⟨hG, hN⟩, rfl⟩
      · refine wpOp_run ho (by cases Option.some.inj ho; rfl) ?_
        cases Option.some.inj ho
        have hc := l01Less x1 y1 z1 x y z W
        rw [← (show vals 1 = .agg #[.float .f32 x1, .float .f32 y1, .float .f32 z1] from hd ⟨1, .data⟩ (by simp) rfl), ← (show vals 2 = .agg #[.float .f32 x, .float .f32 y, .float .f32 z] from hd ⟨2, .data⟩ (by simp) rfl)] at hc
        go_simp
        refine hc.mono ?_
        rintro e w' ⟨r0, r1, r2, k0, k1, k2, rfl, hb⟩
        exact ⟨_, rfl, hb, ⟨hG.call hb, hN.call hb⟩, ⟨r0, r1, r2, rfl, k0, k1, k2⟩⟩
      · refine wpOp_run ho (by cases Option.some.inj ho; rfl) ?_
        cases Option.some.inj ho
        go_simp
        exact ⟨_, rfl, Below.refl _ _, ⟨hG, hN⟩, rfl⟩
      · refine wpOp_run ho (by cases Option.some.inj ho; rfl) ?_
        cases Option.some.inj ho
        obtain ⟨r0, r1, r2, e3, k0, k1, k2⟩ := (show IsVec _ _ _ (vals 3) from hd ⟨3, .data⟩ (by simp) rfl)
        have hc := l01Scale r0 r1 r2 t W
        rw [← e3, ← (show vals 4 = .float .f32 t from hd ⟨4, .data⟩ (by simp) rfl)] at hc
        clear e3
        go_simp
        refine hc.mono ?_
        rintro e w' ⟨q0, q1, q2, j0, j1, j2, rfl, hb⟩
        rw [k0.ab] at j0
        rw [k1.ab] at j1
        rw [k2.ab] at j2
        exact ⟨_, rfl, hb, ⟨hG.call hb, hN.call hb⟩, ⟨q0, q1, q2, rfl, j0, j1, j2⟩⟩
      · refine wpOp_run ho (by cases Option.some.inj ho; rfl) ?_
        cases Option.some.inj ho
        obtain ⟨r0, r1, r2, e3, k0, k1, k2⟩ := (show IsVec _ _ _ (vals 5) from hd ⟨5, .data⟩ (by simp) rfl)
        have hc := l01Add x y z r0 r1 r2 W
        rw [← e3, ← (show vals 0 = .agg #[.float .f32 x, .float .f32 y, .float .f32 z] from hd ⟨0, .data⟩ (by simp) rfl)] at hc
        clear e3
        go_simp
        refine hc.mono ?_
        rintro e w' ⟨q0, q1, q2, j0, j1, j2, rfl, hb⟩
        rw [k0.ab] at j0
        rw [k1.ab] at j1
        rw [k2.ab] at j2
        exact ⟨_, rfl, hb, ⟨hG.call hb, hN.call hb⟩, ⟨q0, q1, q2, rfl, j0, j1, j2⟩⟩
      · omega
    · intro vals W hGN hR
      obtain ⟨hG, hN⟩ := hGN
      refine wpOp_run rfl rfl ?_
      obtain ⟨r0, r1, r2, e4, k0, k1, k2⟩ := (show IsVec _ _ _ (vals 6) from hR 6 (by omega))
      obtain ⟨g, e5, hg1, hg2, hf, c0, c1, c2, d0, d1, d2⟩ := hN
      simp only [Value.pointer.injEq, Option.some.injEq, Addr.mk.injEq, and_true] at e5
      subst e5
      have h3 := at3_set W (w.heap.size + 1 + 1) (.float .f32 r0) (.float .f32 r1) (.float .f32 r2) _ _ _ ⟨d0, d1, d2⟩
      have hG' := ((hG.set hg1 (o := 0) (.float .f32 r0)).set hg1 (o := 1) (.float .f32 r1)).set hg1 (o := 2) (.float .f32 r2)
      have hB := hG'.below
      clear hG'
      go_simp
      go_wp2_with fail
      go_meet
      exact ⟨r0, r1, r2, k0, k1, k2, h3, hB⟩
  case rest =>
    obtain ⟨r0, r1, r2, k0, k1, k2, ⟨d0, d1, d2⟩, hB⟩ := hcut
    go_wp2_with fail
    exact bodyPost_ret (v := .agg #[.float .f32 r0, .float .f32 r1, .float .f32 r2]) (by simp [results, Try.results54, go_sem, d0, d1, d2]) rfl ⟨_, _, _, k0, k1, k2, rfl, hB⟩

theorem spec_BetweenVectors (x y z x1 y1 z1 t : Nat) (w : World) : Calls Try.prog 31 #[.agg #[.float .f32 x, .float .f32 y, .float .f32 z], .agg #[.float .f32 x1, .float .f32 y1, .float .f32 z1], .float .f32 t] w (RetVec (oop .add .f32 (ab .f32 x) (oop .mul .f32 (oop .sub .f32 (ab .f32 x1) (ab .f32 x)) (ab .f32 t))) (oop .add .f32 (ab .f32 y) (oop .mul .f32 (oop .sub .f32 (ab .f32 y1) (ab .f32 y)) (ab .f32 t))) (oop .add .f32 (ab .f32 z) (oop .mul .f32 (oop .sub .f32 (ab .f32 z1) (ab .f32 z)) (ab .f32 t))) w) := by
  go_enter Try.func31, Try.ntmps31
  go_wp2_with fail
  refine (l01Between _ _ _ _ _ _ _ _).mono ?_
  rintro e w1 ⟨r0, r1, r2, k0, k1, k2, rfl, hb⟩
  obtain ⟨hc, hf⟩ := bcell hb
  go_wp2_with fail
  exact bodyPost_ret (v := .agg #[.float .f32 r0, .float .f32 r1, .float .f32 r2]) (by simp [results, Try.results31, go_sem, hc]) rfl ⟨_, _, _, k0, k1, k2, rfl, (by repeat (first | exact Below.refl _ _ | refine Below.setCell ?_ (by first | (simp; done) | (simp; omega)) _ | refine Below.trans ?_ (Below.mono (by assumption) (by first | (simp; done) | (simp; omega))) | refine Below.alloc ?_ (by first | (simp; done) | (simp; omega)) _ | refine Below.alloc ?_ (Nat.le_refl _) _ | refine below_drewN ?_ _))⟩



/-- the law's own variables -/
abbrev FnExactScaleVector_boxes (w : World) (x y z : Nat) : List (Nat × Nat × Value) := [((w.heap.size), 0, Value.float .f32 x), ((w.heap.size), 1, Value.float .f32 y), ((w.heap.size), 2, Value.float .f32 z)]
theorem FnExactScaleVector_start (w : World) (x y z : Nat) : GG (FnExactScaleVector_boxes w x y z) (w.heap.size + 1) w.heap.size w (w.alloc (.cells #[.float .f32 x, .float .f32 y, .float .f32 z] 24)) := by
  refine ⟨?_, by simp [FnExactScaleVector_boxes], by omega, by simp, Below.alloc (Below.refl _ _) (Nat.le_refl _) _⟩
  simp only [FnExactScaleVector_boxes, List.forall_mem_cons]
  go_simp
set_option maxHeartbeats 1600000 in
theorem FnExactScaleVector_walk (x y z : Nat) (by_ : Nat) (w : World) (_ : VecOk x y z) (_ : (Lit.float .f32 by_).wf = true) : Calls Try.prog 3 #[.agg #[.float .f32 x, .float .f32 y, .float .f32 z], .float .f32 by_] w fun e w' => e = .returned (.bool true) ∧ Below w.heap.size w w' := by
  go_enter Try.func3, Try.ntmps3
  go_upto_region 1 with fail
  have hG0 := FnExactScaleVector_start w x y z
  go_cut [5] (fun s5 wx => ∃ (g r0 r1 r2 N : Nat), s5 = .pointer (some ⟨g, 0, none⟩) ∧ Is .f32 r0 (oop .mul .f32 (ab .f32 x) (ab .f32 by_)) ∧ Is .f32 r1 (oop .mul .f32 (ab .f32 y) (ab .f32 by_)) ∧ Is .f32 r2 (oop .mul .f32 (ab .f32 z) (ab .f32 by_)) ∧ GG ([(g, 0, Value.float .f32 r0), (g, 1, .float .f32 r1), (g, 2, .float .f32 r2)] ++ FnExactScaleVector_boxes w x y z) N w.heap.size w wx)
  case first =>
    refine wp_region_steps_seq (by kernel_rfl) 5 (by kernel_rfl) (fun _ v => ⟨#[.agg #[.float .f32 x, .float .f32 y, .float .f32 z], .float .f32 by_, .pointer (some ⟨w.heap.size, 0, none⟩), undef, .bool false, v 4, undef, v 0, v 1, v 2, v 3, undef, undef, undef, undef, undef, undef, undef, undef], []⟩) (GG (FnExactScaleVector_boxes w x y z) (w.heap.size + 1) w.heap.size w) (fun j W s => match j with | 0 => s = .agg #[.float .f32 x, .float .f32 y, .float .f32 z] | 1 => s = .agg #[.float .f32 x, .float .f32 y, .float .f32 z] | 2 => s = .float .f32 by_ | 3 => IsVec (oop .mul .f32 (ab .f32 x) (ab .f32 by_)) (oop .mul .f32 (ab .f32 y) (ab .f32 by_)) (oop .mul .f32 (ab .f32 z) (ab .f32 by_)) s | 4 => New3 (w.heap.size + 1) W s | _ => True) ?_ ?_ hG0 ?_ ?_
    · intro j W W' v hb
      rcases j with _ | _ | _ | _ | _ | j <;> first | exact id | exact New3.call hb
    · exact ⟨fun j => match j with | 0 => undef | 1 => undef | 2 => undef | 3 => undef | 4 => undef | _ => undef, rfl⟩
    · intro i o ho hlt vals W hG hd
      rcases i with _ | _ | _ | _ | _ | i
      · refine wpOp_run ho (by cases Option.some.inj ho; rfl) ?_
        cases Option.some.inj ho
        have c0 := hG.at (b := w.heap.size) (o := 0) (v := .float .f32 x) (by simp [FnExactScaleVector_boxes])
        have c1 := hG.at (b := w.heap.size) (o := 1) (v := .float .f32 y) (by simp [FnExactScaleVector_boxes])
        have c2 := hG.at (b := w.heap.size) (o := 2) (v := .float .f32 z) (by simp [FnExactScaleVector_boxes])
        go_simp
        exact ⟨_, rfl, Below.refl _ _, hG, rfl⟩
      · refine wpOp_run ho (by cases Option.some.inj ho; rfl) ?_
        cases Option.some.inj ho
        have hc := toVector x y z W
        rw [← (show vals 0 = .agg #[.float .f32 x, .float .f32 y, .float .f32 z] from hd ⟨0, .data⟩ (by simp) rfl)] at hc
        go_simp
        refine hc.mono ?_
        rintro e w' ⟨rfl, hb⟩
        exact ⟨_, rfl, hb, hG.call hb, hd ⟨0, .data⟩ (by simp) rfl⟩
      · refine wpOp_run ho (by cases Option.some.inj ho; rfl) ?_
        cases Option.some.inj ho
        go_simp
        exact ⟨_, rfl, Below.refl _ _, hG, rfl⟩
      · refine wpOp_run ho (by cases Option.some.inj ho; rfl) ?_
        cases Option.some.inj ho
        have hc := spec_ScaleVector x y z by_ W
        rw [← (show vals 1 = .agg #[.float .f32 x, .float .f32 y, .float .f32 z] from hd ⟨1, .data⟩ (by simp) rfl), ← (show vals 2 = .float .f32 by_ from hd ⟨2, .data⟩ (by simp) rfl)] at hc
        go_simp
        refine hc.mono ?_
        rintro e w' ⟨r0, r1, r2, k0, k1, k2, rfl, hb⟩
        exact ⟨_, rfl, hb, hG.call hb, ⟨r0, r1, r2, rfl, k0, k1, k2⟩⟩
      · refine wpOp_run ho (by cases Option.some.inj ho; rfl) ?_
        cases Option.some.inj ho
        go_simp
        have hb : Below W.heap.size W (W.alloc (.cells #[.float .f32 0, .float .f32 0, .float .f32 0] 25)) := (Below.refl _ _).alloc (Nat.le_refl _) _
        exact ⟨_, rfl, hb, hG.call hb, New3.mk hG.size _ _ _ _⟩
      · omega
    · intro vals W hG hR
      refine wpOp_run rfl rfl ?_
      obtain ⟨r0, r1, r2, e4, k0, k1, k2⟩ := hR 3 (by omega)
      obtain ⟨g, e5, hg1, hg2, hf, c0, c1, c2, d0, d1, d2⟩ := hR 4 (by omega)
      have h3 := at3_set W g (.float .f32 r0) (.float .f32 r1) (.float .f32 r2) _ _ _ ⟨d0, d1, d2⟩
      have hG' := ((hG.set hg1 (o := 0) (.float .f32 r0)).set hg1 (o := 1) (.float .f32 r1)).set hg1 (o := 2) (.float .f32 r2)
      have hm := hG'.more [(g, 0, .float .f32 r0), (g, 1, .float .f32 r1), (g, 2, .float .f32 r2)] (by simp only [List.forall_mem_cons]; exact ⟨h3.1, h3.2.1, h3.2.2, by simp⟩)
      clear h3 hG'
      go_simp
      go_wp2_with fail
      go_meet
      exact ⟨g, r0, r1, r2, _, rfl, k0, k1, k2, hm⟩
  case rest =>
    obtain ⟨g, r0, r1, r2, N, rfl, k0, k1, k2, hG⟩ := hcut
    go_upto_region 2 with fail
    go_cut [6] (fun s6 wx => ∃ (g' q0 q1 q2 N' : Nat), s6 = .pointer (some ⟨g', 0, none⟩) ∧ Is .f32 q0 (oop .mul .f32 (ab .f32 x) (ab .f32 by_)) ∧ Is .f32 q1 (oop .mul .f32 (ab .f32 y) (ab .f32 by_)) ∧ Is .f32 q2 (oop .mul .f32 (ab .f32 z) (ab .f32 by_)) ∧ GG ([(g', 0, Value.float .f32 q0), (g', 1, .float .f32 q1), (g', 2, .float .f32 q2)] ++ ([(g, 0, Value.float .f32 r0), (g, 1, .float .f32 r1), (g, 2, .float .f32 r2)] ++ FnExactScaleVector_boxes w x y z)) N' w.heap.size w wx)
    case first =>
      refine wp_region_steps_seq (by kernel_rfl) 5 (by kernel_rfl) (fun _ v => ⟨#[.agg #[.float .f32 x, .float .f32 y, .float .f32 z], .float .f32 by_, .pointer (some ⟨w.heap.size, 0, none⟩), undef, .bool false, .pointer (some ⟨g, 0, none⟩), v 4, u7, u8, u9, u10, v 0, v 1, v 2, v 3, u15, u16, u17, u18], []⟩) (GG ([(g, 0, Value.float .f32 r0), (g, 1, .float .f32 r1), (g, 2, .float .f32 r2)] ++ FnExactScaleVector_boxes w x y z) N w.heap.size w) (fun j W s => match j with | 0 => s = .agg #[.float .f32 x, .float .f32 y, .float .f32 z] | 1 => s = .agg #[.float .f32 x, .float .f32 y, .float .f32 z] | 2 => s = .float .f32 by_ | 3 => IsVec (oop .mul .f32 (ab .f32 x) (ab .f32 by_)) (oop .mul .f32 (ab .f32 y) (ab .f32 by_)) (oop .mul .f32 (ab .f32 z) (ab .f32 by_)) s | 4 => New3 N W s | _ => True) ?_ ?_ hG ?_ ?_
      · intro j W W' v hb
        rcases j with _ | _ | _ | _ | _ | j <;> first | exact id | exact New3.call hb
      · exact ⟨fun j => match j with | 0 => u11 | 1 => u12 | 2 => u13 | 3 => u14 | 4 => undef | _ => undef, rfl⟩
      · intro i o ho hlt vals W hG hd
        rcases i with _ | _ | _ | _ | _ | i
        · refine wpOp_run ho (by cases Option.some.inj ho; rfl) ?_
          cases Option.some.inj ho
          have c0 := hG.at (b := w.heap.size) (o := 0) (v := .float .f32 x) (by simp [FnExactScaleVector_boxes])
          have c1 := hG.at (b := w.heap.size) (o := 1) (v := .float .f32 y) (by simp [FnExactScaleVector_boxes])
          have c2 := hG.at (b := w.heap.size) (o := 2) (v := .float .f32 z) (by simp [FnExactScaleVector_boxes])
          go_simp
          exact ⟨_, rfl, Below.refl _ _, hG, rfl⟩
        · refine wpOp_run ho (by cases Option.some.inj ho; rfl) ?_
          cases Option.some.inj ho
          have hc := toVector x y z W
          rw [← (show vals 0 = .agg #[.float .f32 x, .float .f32 y, .float .f32 z] from hd ⟨0, .data⟩ (by simp) rfl)] at hc
          go_simp
          refine hc.mono ?_
          rintro e w' ⟨rfl, hb⟩
          exact ⟨_, rfl, hb, hG.call hb, hd ⟨0, .data⟩ (by simp) rfl⟩
        · refine wpOp_run ho (by cases Option.some.inj ho; rfl) ?_
          cases Option.some.inj ho
          go_simp
          exact ⟨_, rfl, Below.refl _ _, hG, rfl⟩
        · refine wpOp_run ho (by cases Option.some.inj ho; rfl) ?_
          cases Option.some.inj ho
          have hc := ScaleVector x y z by_ W
          rw [← (show vals 1 = .agg #[.float .f32 x, .float .f32 y, .float .f32 z] from hd ⟨1, .data⟩ (by simp) rfl), ← (show vals 2 = .float .f32 by_ from hd ⟨2, .data⟩ (by simp) rfl)] at hc
          go_simp
          refine hc.mono ?_
          rintro e w' ⟨r0, r1, r2, k0, k1, k2, rfl, hb⟩
          exact ⟨_, rfl, hb, hG.call hb, ⟨r0, r1, r2, rfl, k0, k1, k2⟩⟩
        · refine wpOp_run ho (by cases Option.some.inj ho; rfl) ?_
          cases Option.some.inj ho
          go_simp
          have hb : Below W.heap.size W (W.alloc (.cells #[.float .f32 0, .float .f32 0, .float .f32 0] 25)) := (Below.refl _ _).alloc (Nat.le_refl _) _
          exact ⟨_, rfl, hb, hG.call hb, New3.mk hG.size _ _ _ _⟩
        · omega
      · intro vals W hG hR
        refine wpOp_run rfl rfl ?_
        obtain ⟨r0, r1, r2, e4, k0, k1, k2⟩ := hR 3 (by omega)
        obtain ⟨g, e5, hg1, hg2, hf, c0, c1, c2, d0, d1, d2⟩ := hR 4 (by omega)
        have h3 := at3_set W g (.float .f32 r0) (.float .f32 r1) (.float .f32 r2) _ _ _ ⟨d0, d1, d2⟩
        have hG' := ((hG.set hg1 (o := 0) (.float .f32 r0)).set hg1 (o := 1) (.float .f32 r1)).set hg1 (o := 2) (.float .f32 r2)
        have hm := hG'.more [(g, 0, .float .f32 r0), (g, 1, .float .f32 r1), (g, 2, .float .f32 r2)] (by simp only [List.forall_mem_cons]; exact ⟨h3.1, h3.2.1, h3.2.2, by simp⟩)
        clear h3 hG'
        go_simp
        go_wp2_with fail
        go_meet
        exact ⟨g, r0, r1, r2, _, rfl, k0, k1, k2, hm⟩
    case rest =>
      obtain ⟨g', q0, q1, q2, N', rfl, j0, j1, j2, hH⟩ := hcut
      have a0 := hH.at (b := g') (o := 0) (v := .float .f32 q0) (by simp)
      have a1 := hH.at (b := g') (o := 1) (v := .float .f32 q1) (by simp)
      have a2 := hH.at (b := g') (o := 2) (v := .float .f32 q2) (by simp)
      have b0 := hH.at (b := g) (o := 0) (v := .float .f32 r0) (by simp)
      have b1 := hH.at (b := g) (o := 1) (v := .float .f32 r1) (by simp)
      have b2 := hH.at (b := g) (o := 2) (v := .float .f32 r2) (by simp)
      have hc := fun w => eqVector q0 q1 q2 r0 r1 r2 w (j0.ab.trans k0.ab.symm) (j1.ab.trans k1.ab.symm) (j2.ab.trans k2.ab.symm)
      clear hG hG0
      go_wp2_with (go_at_call 17; refine (hc _).mono ?_; rintro e w' ⟨rfl, hb⟩)
      go_ret
      exact ⟨rfl, hH.below.trans (hb.mono (Nat.le_trans hH.base hH.size))⟩



/-- the law's own variables -/
abbrev FnExactCrossOf_boxes (w : World) (x y z : Nat) (x1 y1 z1 : Nat) : List (Nat × Nat × Value) := [((w.heap.size), 0, Value.float .f32 x), ((w.heap.size), 1, Value.float .f32 y), ((w.heap.size), 2, Value.float .f32 z), ((w.heap.size + 1), 0, Value.float .f32 x1), ((w.heap.size + 1), 1, Value.float .f32 y1), ((w.heap.size + 1), 2, Value.float .f32 z1)]
theorem FnExactCrossOf_start (w : World) (x y z : Nat) (x1 y1 z1 : Nat) : GG (FnExactCrossOf_boxes w x y z x1 y1 z1) (w.heap.size + 2) w.heap.size w ((w.alloc (.cells #[.float .f32 x, .float .f32 y, .float .f32 z] 24)).alloc (.cells #[.float .f32 x1, .float .f32 y1, .float .f32 z1] 24)) := by
  refine ⟨?_, by simp [FnExactCrossOf_boxes], by omega, by simp, Below.alloc (Below.alloc (Below.refl _ _) (Nat.le_refl _) _) (by simp) _⟩
  simp only [FnExactCrossOf_boxes, List.forall_mem_cons]
  go_simp
set_option maxHeartbeats 1600000 in
theorem FnExactCrossOf_walk (x y z : Nat) (x1 y1 z1 : Nat) (w : World) (_ : VecOk x y z) (_ : VecOk x1 y1 z1) : Calls Try.prog 4 #[.agg #[.float .f32 x, .float .f32 y, .float .f32 z], .agg #[.float .f32 x1, .float .f32 y1, .float .f32 z1]] w fun e w' => e = .returned (.bool true) ∧ Below w.heap.size w w' := by
  go_enter Try.func4, Try.ntmps4
  go_upto_region 1 with fail
  have hG0 := FnExactCrossOf_start w x y z x1 y1 z1
  go_cut [5] (fun s5 wx => ∃ (g r0 r1 r2 N : Nat), s5 = .pointer (some ⟨g, 0, none⟩) ∧ Is .f32 r0 (oop .sub .f32 (oop .mul .f32 (ab .f32 y) (ab .f32 z1)) (oop .mul .f32 (ab .f32 z) (ab .f32 y1))) ∧ Is .f32 r1 (oop .sub .f32 (oop .mul .f32 (ab .f32 z) (ab .f32 x1)) (oop .mul .f32 (ab .f32 x) (ab .f32 z1))) ∧ Is .f32 r2 (oop .sub .f32 (oop .mul .f32 (ab .f32 x) (ab .f32 y1)) (oop .mul .f32 (ab .f32 y) (ab .f32 x1))) ∧ GG ([(g, 0, Value.float .f32 r0), (g, 1, .float .f32 r1), (g, 2, .float .f32 r2)] ++ FnExactCrossOf_boxes w x y z x1 y1 z1) N w.heap.size w wx)
  case first =>
    refine wp_region_steps (by kernel_rfl) (by kernel_rfl) 6 (by kernel_rfl) (fun _ v => ⟨#[.agg #[.float .f32 x, .float .f32 y, .float .f32 z], .agg #[.float .f32 x1, .float .f32 y1, .float .f32 z1], .pointer (some ⟨w.heap.size, 0, none⟩), .pointer (some ⟨w.heap.size + 1, 0, none⟩), .bool false, v 5, undef, v 0, v 1, v 2, v 3, v 4, undef, undef, undef, undef, undef, undef, undef, undef, undef], []⟩) (GG (FnExactCrossOf_boxes w x y z x1 y1 z1) (w.heap.size + 2) w.heap.size w) (fun j W s => match j with | 0 => s = .agg #[.float .f32 x, .float .f32 y, .float .f32 z] | 1 => s = .agg #[.float .f32 x, .float .f32 y, .float .f32 z] | 2 => s = .agg #[.float .f32 x1, .float .f32 y1, .float .f32 z1] | 3 => s = .agg #[.float .f32 x1, .float .f32 y1, .float .f32 z1] | 4 => IsVec (oop .sub .f32 (oop .mul .f32 (ab .f32 y) (ab .f32 z1)) (oop .mul .f32 (ab .f32 z) (ab .f32 y1))) (oop .sub .f32 (oop .mul .f32 (ab .f32 z) (ab .f32 x1)) (oop .mul .f32 (ab .f32 x) (ab .f32 z1))) (oop .sub .f32 (oop .mul .f32 (ab .f32 x) (ab .f32 y1)) (oop .mul .f32 (ab .f32 y) (ab .f32 x1))) s | 5 => New3 (w.heap.size + 2) W s | _ => True) ?_ ?_ hG0.drew ?_ ?_
    · intro j W W' v hb
      rcases j with _ | _ | _ | _ | _ | _ | j <;> first | exact id | exact New3.call hb
    · exact ⟨fun j => match j with | 0 => undef | 1 => undef | 2 => undef | 3 => undef | 4 => undef | 5 => undef | _ => undef, rfl⟩
    · intro i o ho hlt vals W hG hd
      rcases i with _ | _ | _ | _ | _ | _ | i
      · refine wpOp_run ho (by cases Option.some.inj ho; rfl) ?_
        cases Option.some.inj ho
        have c0 := hG.at (b := w.heap.size) (o := 0) (v := .float .f32 x) (by simp [FnExactCrossOf_boxes])
        have c1 := hG.at (b := w.heap.size) (o := 1) (v := .float .f32 y) (by simp [FnExactCrossOf_boxes])
        have c2 := hG.at (b := w.heap.size) (o := 2) (v := .float .f32 z) (by simp [FnExactCrossOf_boxes])
        go_simp
        exact ⟨_, rfl, Below.refl _ _, hG, rfl⟩
      · refine wpOp_run ho (by cases Option.some.inj ho; rfl) ?_
        cases Option.some.inj ho
        have hc := toVector x y z W
        rw [← (show vals 0 = .agg #[.float .f32 x, .float .f32 y, .float .f32 z] from hd ⟨0, .data⟩ (by simp) rfl)] at hc
        go_simp
        refine hc.mono ?_
        rintro e w' ⟨rfl, hb⟩
        exact ⟨_, rfl, hb, hG.call hb, hd ⟨0, .data⟩ (by simp) rfl⟩
      · refine wpOp_run ho (by cases Option.some.inj ho; rfl) ?_
        cases Option.some.inj ho
        have c0 := hG.at (b := w.heap.size + 1) (o := 0) (v := .float .f32 x1) (by simp [FnExactCrossOf_boxes])
        have c1 := hG.at (b := w.heap.size + 1) (o := 1) (v := .float .f32 y1) (by simp [FnExactCrossOf_boxes])
        have c2 := hG.at (b := w.heap.size + 1) (o := 2) (v := .float .f32 z1) (by simp [FnExactCrossOf_boxes])
        go_simp
        exact ⟨_, rfl, Below.refl _ _, hG, rfl⟩
      · refine wpOp_run ho (by cases Option.some.inj ho; rfl) ?_
        cases Option.some.inj ho
        have hc := toVector x1 y1 z1 W
        rw [← (show vals 2 = .agg #[.float .f32 x1, .float .f32 y1, .float .f32 z1] from hd ⟨2, .data⟩ (by simp) rfl)] at hc
        go_simp
        refine hc.mono ?_
        rintro e w' ⟨rfl, hb⟩
        exact ⟨_, rfl, hb, hG.call hb, hd ⟨2, .data⟩ (by simp) rfl⟩
      · refine wpOp_run ho (by cases Option.some.inj ho; rfl) ?_
        cases Option.some.inj ho
        have hc := spec_CrossOf x y z x1 y1 z1 W
        rw [← (show vals 1 = .agg #[.float .f32 x, .float .f32 y, .float .f32 z] from hd ⟨1, .data⟩ (by simp) rfl), ← (show vals 3 = .agg #[.float .f32 x1, .float .f32 y1, .float .f32 z1] from hd ⟨3, .data⟩ (by simp) rfl)] at hc
        go_simp
        refine hc.mono ?_
        rintro e w' ⟨r0, r1, r2, k0, k1, k2, rfl, hb⟩
        exact ⟨_, rfl, hb, hG.call hb, ⟨r0, r1, r2, rfl, k0, k1, k2⟩⟩
      · refine wpOp_run ho (by cases Option.some.inj ho; rfl) ?_
        cases Option.some.inj ho
        go_simp
        have hb : Below W.heap.size W (W.alloc (.cells #[.float .f32 0, .float .f32 0, .float .f32 0] 25)) := (Below.refl _ _).alloc (Nat.le_refl _) _
        exact ⟨_, rfl, hb, hG.call hb, New3.mk hG.size _ _ _ _⟩
      · omega
    · intro vals W hG hR
      refine wpOp_run rfl rfl ?_
      obtain ⟨r0, r1, r2, e4, k0, k1, k2⟩ := hR 4 (by omega)
      obtain ⟨g, e5, hg1, hg2, hf, c0, c1, c2, d0, d1, d2⟩ := hR 5 (by omega)
      have h3 := at3_set W g (.float .f32 r0) (.float .f32 r1) (.float .f32 r2) _ _ _ ⟨d0, d1, d2⟩
      have hG' := ((hG.set hg1 (o := 0) (.float .f32 r0)).set hg1 (o := 1) (.float .f32 r1)).set hg1 (o := 2) (.float .f32 r2)
      have hm := hG'.more [(g, 0, .float .f32 r0), (g, 1, .float .f32 r1), (g, 2, .float .f32 r2)] (by simp only [List.forall_mem_cons]; exact ⟨h3.1, h3.2.1, h3.2.2, by simp⟩)
      clear h3 hG'
      go_simp
      go_wp2_with fail
      go_meet
      exact ⟨g, r0, r1, r2, _, rfl, k0, k1, k2, hm⟩
  case rest =>
    obtain ⟨g, r0, r1, r2, N, rfl, k0, k1, k2, hG⟩ := hcut
    go_upto_region 2 with fail
    go_cut [6] (fun s6 wx => ∃ (g' q0 q1 q2 N' : Nat), s6 = .pointer (some ⟨g', 0, none⟩) ∧ Is .f32 q0 (oop .sub .f32 (oop .mul .f32 (ab .f32 y) (ab .f32 z1)) (oop .mul .f32 (ab .f32 z) (ab .f32 y1))) ∧ Is .f32 q1 (oop .sub .f32 (oop .mul .f32 (ab .f32 z) (ab .f32 x1)) (oop .mul .f32 (ab .f32 x) (ab .f32 z1))) ∧ Is .f32 q2 (oop .sub .f32 (oop .mul .f32 (ab .f32 x) (ab .f32 y1)) (oop .mul .f32 (ab .f32 y) (ab .f32 x1))) ∧ GG ([(g', 0, Value.float .f32 q0), (g', 1, .float .f32 q1), (g', 2, .float .f32 q2)] ++ ([(g, 0, Value.float .f32 r0), (g, 1, .float .f32 r1), (g, 2, .float .f32 r2)] ++ FnExactCrossOf_boxes w x y z x1 y1 z1)) N' w.heap.size w wx)
    case first =>
      refine wp_region_steps (by kernel_rfl) (by kernel_rfl) 6 (by kernel_rfl) (fun _ v => ⟨#[.agg #[.float .f32 x, .float .f32 y, .float .f32 z], .agg #[.float .f32 x1, .float .f32 y1, .float .f32 z1], .pointer (some ⟨w.heap.size, 0, none⟩), .pointer (some ⟨w.heap.size + 1, 0, none⟩), .bool false, .pointer (some ⟨g, 0, none⟩), v 5, u7, u8, u9, u10, u11, v 0, v 1, v 2, v 3, v 4, u17, u18, u19, u20], []⟩) (GG ([(g, 0, Value.float .f32 r0), (g, 1, .float .f32 r1), (g, 2, .float .f32 r2)] ++ FnExactCrossOf_boxes w x y z x1 y1 z1) N w.heap.size w) (fun j W s => match j with | 0 => s = .agg #[.float .f32 x, .float .f32 y, .float .f32 z] | 1 => s = .agg #[.float .f32 x, .float .f32 y, .float .f32 z] | 2 => s = .agg #[.float .f32 x1, .float .f32 y1, .float .f32 z1] | 3 => s = .agg #[.float .f32 x1, .float .f32 y1, .float .f32 z1] | 4 => IsVec (oop .sub .f32 (oop .mul .f32 (ab .f32 y) (ab .f32 z1)) (oop .mul .f32 (ab .f32 z) (ab .f32 y1))) (oop .sub .f32 (oop .mul .f32 (ab .f32 z) (ab .f32 x1)) (oop .mul .f32 (ab .f32 x) (ab .f32 z1))) (oop .sub .f32 (oop .mul .f32 (ab .f32 x) (ab .f32 y1)) (oop .mul .f32 (ab .f32 y) (ab .f32 x1))) s | 5 => New3 N W s | _ => True) ?_ ?_ hG.drew ?_ ?_
      · intro j W W' v hb
        rcases j with _ | _ | _ | _ | _ | _ | j <;> first | exact id | exact New3.call hb
      · exact ⟨fun j => match j with | 0 => u12 | 1 => u13 | 2 => u14 | 3 => u15 | 4 => u16 | 5 => undef | _ => undef, rfl⟩
      · intro i o ho hlt vals W hG hd
        rcases i with _ | _ | _ | _ | _ | _ | i
        · refine wpOp_run ho (by cases Option.some.inj ho; rfl) ?_
          cases Option.some.inj ho
          have c0 := hG.at (b := w.heap.size) (o := 0) (v := .float .f32 x) (by simp [FnExactCrossOf_boxes])
          have c1 := hG.at (b := w.heap.size) (o := 1) (v := .float .f32 y) (by simp [FnExactCrossOf_boxes])
          have c2 := hG.at (b := w.heap.size) (o := 2) (v := .float .f32 z) (by simp [FnExactCrossOf_boxes])
          go_simp
          exact ⟨_, rfl, Below.refl _ _, hG, rfl⟩
        · refine wpOp_run ho (by cases Option.some.inj ho; rfl) ?_
          cases Option.some.inj ho
          have hc := toVector x y z W
          rw [← (show vals 0 = .agg #[.float .f32 x, .float .f32 y, .float .f32 z] from hd ⟨0, .data⟩ (by simp) rfl)] at hc
          go_simp
          refine hc.mono ?_
          rintro e w' ⟨rfl, hb⟩
          exact ⟨_, rfl, hb, hG.call hb, hd ⟨0, .data⟩ (by simp) rfl⟩
        · refine wpOp_run ho (by cases Option.some.inj ho; rfl) ?_
          cases Option.some.inj ho
          have c0 := hG.at (b := w.heap.size + 1) (o := 0) (v := .float .f32 x1) (by simp [FnExactCrossOf_boxes])
          have c1 := hG.at (b := w.heap.size + 1) (o := 1) (v := .float .f32 y1) (by simp [FnExactCrossOf_boxes])
          have c2 := hG.at (b := w.heap.size + 1) (o := 2) (v := .float .f32 z1) (by simp [FnExactCrossOf_boxes])
          go_simp
          exact ⟨_, rfl, Below.refl _ _, hG, rfl⟩
        · refine wpOp_run ho (by cases Option.some.inj ho; rfl) ?_
          cases Option.some.inj ho
          have hc := toVector x1 y1 z1 W
          rw [← (show vals 2 = .agg #[.float .f32 x1, .float .f32 y1, .float .f32 z1] from hd ⟨2, .data⟩ (by simp) rfl)] at hc
          go_simp
          refine hc.mono ?_
          rintro e w' ⟨rfl, hb⟩
          exact ⟨_, rfl, hb, hG.call hb, hd ⟨2, .data⟩ (by simp) rfl⟩
        · refine wpOp_run ho (by cases Option.some.inj ho; rfl) ?_
          cases Option.some.inj ho
          have hc := CrossOf x y z x1 y1 z1 W
          rw [← (show vals 1 = .agg #[.float .f32 x, .float .f32 y, .float .f32 z] from hd ⟨1, .data⟩ (by simp) rfl), ← (show vals 3 = .agg #[.float .f32 x1, .float .f32 y1, .float .f32 z1] from hd ⟨3, .data⟩ (by simp) rfl)] at hc
          go_simp
          refine hc.mono ?_
          rintro e w' ⟨r0, r1, r2, k0, k1, k2, rfl, hb⟩
          exact ⟨_, rfl, hb, hG.call hb, ⟨r0, r1, r2, rfl, k0, k1, k2⟩⟩
        · refine wpOp_run ho (by cases Option.some.inj ho; rfl) ?_
          cases Option.some.inj ho
          go_simp
          have hb : Below W.heap.size W (W.alloc (.cells #[.float .f32 0, .float .f32 0, .float .f32 0] 25)) := (Below.refl _ _).alloc (Nat.le_refl _) _
          exact ⟨_, rfl, hb, hG.call hb, New3.mk hG.size _ _ _ _⟩
        · omega
      · intro vals W hG hR
        refine wpOp_run rfl rfl ?_
        obtain ⟨r0, r1, r2, e4, k0, k1, k2⟩ := hR 4 (by omega)
        obtain ⟨g, e5, hg1, hg2, hf, c0, c1, c2, d0, d1, d2⟩ := hR 5 (by omega)
        have h3 := at3_set W g (.float .f32 r0) (.float .f32 r1) (.float .f32 r2) _ _ _ ⟨d0, d1, d2⟩
        have hG' := ((hG.set hg1 (o := 0) (.float .f32 r0)).set hg1 (o := 1) (.float .f32 r1)).set hg1 (o := 2) (.float .f32 r2)
        have hm := hG'.more [(g, 0, .float .f32 r0), (g, 1, .float .f32 r1), (g, 2, .float .f32 r2)] (by simp only [List.forall_mem_cons]; exact ⟨h3.1, h3.2.1, h3.2.2, by simp⟩)
        clear h3 hG'
        go_simp
        go_wp2_with fail
        go_meet
        exact ⟨g, r0, r1, r2, _, rfl, k0, k1, k2, hm⟩
    case rest =>
      obtain ⟨g', q0, q1, q2, N', rfl, j0, j1, j2, hH⟩ := hcut
      have a0 := hH.at (b := g') (o := 0) (v := .float .f32 q0) (by simp)
      have a1 := hH.at (b := g') (o := 1) (v := .float .f32 q1) (by simp)
      have a2 := hH.at (b := g') (o := 2) (v := .float .f32 q2) (by simp)
      have b0 := hH.at (b := g) (o := 0) (v := .float .f32 r0) (by simp)
      have b1 := hH.at (b := g) (o := 1) (v := .float .f32 r1) (by simp)
      have b2 := hH.at (b := g) (o := 2) (v := .float .f32 r2) (by simp)
      have hc := fun w => eqVector q0 q1 q2 r0 r1 r2 w (j0.ab.trans k0.ab.symm) (j1.ab.trans k1.ab.symm) (j2.ab.trans k2.ab.symm)
      clear hG hG0
      go_wp2_with (go_at_call 17; refine (hc _).mono ?_; rintro e w' ⟨rfl, hb⟩)
      go_ret
      exact ⟨rfl, hH.below.trans (hb.mono (Nat.le_trans hH.base hH.size))⟩



/-- the law's own variables -/
abbrev FnExactBetweenVectors_boxes (w : World) (x y z : Nat) (x1 y1 z1 : Nat) : List (Nat × Nat × Value) := [((w.heap.size), 0, Value.float .f32 x), ((w.heap.size), 1, Value.float .f32 y), ((w.heap.size), 2, Value.float .f32 z), ((w.heap.size + 1), 0, Value.float .f32 x1), ((w.heap.size + 1), 1, Value.float .f32 y1), ((w.heap.size + 1), 2, Value.float .f32 z1)]
theorem FnExactBetweenVectors_start (w : World) (x y z : Nat) (x1 y1 z1 : Nat) : GG (FnExactBetweenVectors_boxes w x y z x1 y1 z1) (w.heap.size + 2) w.heap.size w ((w.alloc (.cells #[.float .f32 x, .float .f32 y, .float .f32 z] 24)).alloc (.cells #[.float .f32 x1, .float .f32 y1, .float .f32 z1] 24)) := by
  refine ⟨?_, by simp [FnExactBetweenVectors_boxes], by omega, by simp, Below.alloc (Below.alloc (Below.refl _ _) (Nat.le_refl _) _) (by simp) _⟩
  simp only [FnExactBetweenVectors_boxes, List.forall_mem_cons]
  go_simp
set_option maxHeartbeats 1600000 in
theorem FnExactBetweenVectors_walk (x y z : Nat) (x1 y1 z1 : Nat) (t : Nat) (w : World) (_ : VecOk x y z) (_ : VecOk x1 y1 z1) (_ : (Lit.float .f32 t).wf = true) : Calls Try.prog 10 #[.agg #[.float .f32 x, .float .f32 y, .float .f32 z], .agg #[.float .f32 x1, .float .f32 y1, .float .f32 z1], .float .f32 t] w fun e w' => e = .returned (.bool true) ∧ Below w.heap.size w w' := by
  go_enter Try.func10, Try.ntmps10
  go_upto_region 1 with fail
  have hG0 := FnExactBetweenVectors_start w x y z x1 y1 z1
  go_cut [7] (fun s7 wx => ∃ (g r0 r1 r2 N : Nat), s7 = .pointer (some ⟨g, 0, none⟩) ∧ Is .f32 r0 (oop .add .f32 (ab .f32 x) (oop .mul .f32 (oop .sub .f32 (ab .f32 x1) (ab .f32 x)) (ab .f32 t))) ∧ Is .f32 r1 (oop .add .f32 (ab .f32 y) (oop .mul .f32 (oop .sub .f32 (ab .f32 y1) (ab .f32 y)) (ab .f32 t))) ∧ Is .f32 r2 (oop .add .f32 (ab .f32 z) (oop .mul .f32 (oop .sub .f32 (ab .f32 z1) (ab .f32 z)) (ab .f32 t))) ∧ GG ([(g, 0, Value.float .f32 r0), (g, 1, .float .f32 r1), (g, 2, .float .f32 r2)] ++ FnExactBetweenVectors_boxes w x y z x1 y1 z1) N w.heap.size w wx)
  case first =>
    refine wp_region_steps (by kernel_rfl) (by kernel_rfl) 7 (by kernel_rfl) (fun _ v => ⟨#[.agg #[.float .f32 x, .float .f32 y, .float .f32 z], .agg #[.float .f32 x1, .float .f32 y1, .float .f32 z1], .float .f32 t, .pointer (some ⟨w.heap.size, 0, none⟩), .pointer (some ⟨w.heap.size + 1, 0, none⟩), undef, .bool false, v 6, undef, v 0, v 1, v 2, v 3, v 4, v 5, undef, undef, undef, undef, undef, undef, undef, undef, undef, undef], []⟩) (GG (FnExactBetweenVectors_boxes w x y z x1 y1 z1) (w.heap.size + 2) w.heap.size w) (fun j W s => match j with | 0 => s = .agg #[.float .f32 x, .float .f32 y, .float .f32 z] | 1 => s = .agg #[.float .f32 x, .float .f32 y, .float .f32 z] | 2 => s = .agg #[.float .f32 x1, .float .f32 y1, .float .f32 z1] | 3 => s = .agg #[.float .f32 x1, .float .f32 y1, .float .f32 z1] | 4 => s = .float .f32 t | 5 => IsVec (oop .add .f32 (ab .f32 x) (oop .mul .f32 (oop .sub .f32 (ab .f32 x1) (ab .f32 x)) (ab .f32 t))) (oop .add .f32 (ab .f32 y) (oop .mul .f32 (oop .sub .f32 (ab .f32 y1) (ab .f32 y)) (ab .f32 t))) (oop .add .f32 (ab .f32 z) (oop .mul .f32 (oop .sub .f32 (ab .f32 z1) (ab .f32 z)) (ab .f32 t))) s | 6 => New3 (w.heap.size + 2) W s | _ => True) ?_ ?_ hG0.drew ?_ ?_
    · intro j W W' v hb
      rcases j with _ | _ | _ | _ | _ | _ | _ | j <;> first | exact id | exact New3.call hb
    · exact ⟨fun j => match j with | 0 => undef | 1 => undef | 2 => undef | 3 => undef | 4 => undef | 5 => undef | 6 => undef | _ => undef, rfl⟩
    · intro i o ho hlt vals W hG hd
      rcases i with _ | _ | _ | _ | _ | _ | _ | i
      · refine wpOp_run ho (by cases Option.some.inj ho; rfl) ?_
        cases Option.some.inj ho
        have c0 := hG.at (b := w.heap.size) (o := 0) (v := .float .f32 x) (by simp [FnExactBetweenVectors_boxes])
        have c1 := hG.at (b := w.heap.size) (o := 1) (v := .float .f32 y) (by simp [FnExactBetweenVectors_boxes])
        have c2 := hG.at (b := w.heap.size) (o := 2) (v := .float .f32 z) (by simp [FnExactBetweenVectors_boxes])
        go_simp
        exact ⟨_, rfl, Below.refl _ _, hG, rfl⟩
      · refine wpOp_run ho (by cases Option.some.inj ho; rfl) ?_
        cases Option.some.inj ho
        have hc := toVector x y z W
        rw [← (show vals 0 = .agg #[.float .f32 x, .float .f32 y, .float .f32 z] from hd ⟨0, .data⟩ (by simp) rfl)] at hc
        go_simp
        refine hc.mono ?_
        rintro e w' ⟨rfl, hb⟩
        exact ⟨_, rfl, hb, hG.call hb, hd ⟨0, .data⟩ (by simp) rfl⟩
      · refine wpOp_run ho (by cases Option.some.inj ho; rfl) ?_
        cases Option.some.inj ho
        have c0 := hG.at (b := w.heap.size + 1) (o := 0) (v := .float .f32 x1) (by simp [FnExactBetweenVectors_boxes])
        have c1 := hG.at (b := w.heap.size + 1) (o := 1) (v := .float .f32 y1) (by simp [FnExactBetweenVectors_boxes])
        have c2 := hG.at (b := w.heap.size + 1) (o := 2) (v := .float .f32 z1) (by simp [FnExactBetweenVectors_boxes])
        go_simp
        exact ⟨_, rfl, Below.refl _ _, hG, rfl⟩
      · refine wpOp_run ho (by cases Option.some.inj ho; rfl) ?_
        cases Option.some.inj ho
        have hc := toVector x1 y1 z1 W
        rw [← (show vals 2 = .agg #[.float .f32 x1, .float .f32 y1, .float .f32 z1] from hd ⟨2, .data⟩ (by simp) rfl)] at hc
        go_simp
        refine hc.mono ?_
        rintro e w' ⟨rfl, hb⟩
        exact ⟨_, rfl, hb, hG.call hb, hd ⟨2, .data⟩ (by simp) rfl⟩
      · refine wpOp_run ho (by cases Option.some.inj ho; rfl) ?_
        cases Option.some.inj ho
        go_simp
        exact ⟨_, rfl, Below.refl _ _, hG, rfl⟩
      · refine wpOp_run ho (by cases Option.some.inj ho; rfl) ?_
        cases Option.some.inj ho
        have hc := spec_BetweenVectors x y z x1 y1 z1 t W
        rw [← (show vals 1 = .agg #[.float .f32 x, .float .f32 y, .float .f32 z] from hd ⟨1, .data⟩ (by simp) rfl), ← (show vals 3 = .agg #[.float .f32 x1, .float .f32 y1, .float .f32 z1] from hd ⟨3, .data⟩ (by simp) rfl), ← (show vals 4 = .float .f32 t from hd ⟨4, .data⟩ (by simp) rfl)] at hc
        go_simp
        refine hc.mono ?_
        rintro e w' ⟨r0, r1, r2, k0, k1, k2, rfl, hb⟩
        exact ⟨_, rfl, hb, hG.call hb, ⟨r0, r1, r2, rfl, k0, k1, k2⟩⟩
      · refine wpOp_run ho (by cases Option.some.inj ho; rfl) ?_
        cases Option.some.inj ho
        go_simp
        have hb : Below W.heap.size W (W.alloc (.cells #[.float .f32 0, .float .f32 0, .float .f32 0] 25)) := (Below.refl _ _).alloc (Nat.le_refl _) _
        exact ⟨_, rfl, hb, hG.call hb, New3.mk hG.size _ _ _ _⟩
      · omega
    · intro vals W hG hR
      refine wpOp_run rfl rfl ?_
      obtain ⟨r0, r1, r2, e4, k0, k1, k2⟩ := hR 5 (by omega)
      obtain ⟨g, e5, hg1, hg2, hf, c0, c1, c2, d0, d1, d2⟩ := hR 6 (by omega)
      have h3 := at3_set W g (.float .f32 r0) (.float .f32 r1) (.float .f32 r2) _ _ _ ⟨d0, d1, d2⟩
      have hG' := ((hG.set hg1 (o := 0) (.float .f32 r0)).set hg1 (o := 1) (.float .f32 r1)).set hg1 (o := 2) (.float .f32 r2)
      have hm := hG'.more [(g, 0, .float .f32 r0), (g, 1, .float .f32 r1), (g, 2, .float .f32 r2)] (by simp only [List.forall_mem_cons]; exact ⟨h3.1, h3.2.1, h3.2.2, by simp⟩)
      clear h3 hG'
      go_simp
      go_wp2_with fail
      go_meet
      exact ⟨g, r0, r1, r2, _, rfl, k0, k1, k2, hm⟩
  case rest =>
    obtain ⟨g, r0, r1, r2, N, rfl, k0, k1, k2, hG⟩ := hcut
    go_upto_region 2 with fail
    go_cut [8] (fun s8 wx => ∃ (g' q0 q1 q2 N' : Nat), s8 = .pointer (some ⟨g', 0, none⟩) ∧ Is .f32 q0 (oop .add .f32 (ab .f32 x) (oop .mul .f32 (oop .sub .f32 (ab .f32 x1) (ab .f32 x)) (ab .f32 t))) ∧ Is .f32 q1 (oop .add .f32 (ab .f32 y) (oop .mul .f32 (oop .sub .f32 (ab .f32 y1) (ab .f32 y)) (ab .f32 t))) ∧ Is .f32 q2 (oop .add .f32 (ab .f32 z) (oop .mul .f32 (oop .sub .f32 (ab .f32 z1) (ab .f32 z)) (ab .f32 t))) ∧ GG ([(g', 0, Value.float .f32 q0), (g', 1, .float .f32 q1), (g', 2, .float .f32 q2)] ++ ([(g, 0, Value.float .f32 r0), (g, 1, .float .f32 r1), (g, 2, .float .f32 r2)] ++ FnExactBetweenVectors_boxes w x y z x1 y1 z1)) N' w.heap.size w wx)
    case first =>
      refine wp_region_steps (by kernel_rfl) (by kernel_rfl) 7 (by kernel_rfl) (fun _ v => ⟨#[.agg #[.float .f32 x, .float .f32 y, .float .f32 z], .agg #[.float .f32 x1, .float .f32 y1, .float .f32 z1], .float .f32 t, .pointer (some ⟨w.heap.size, 0, none⟩), .pointer (some ⟨w.heap.size + 1, 0, none⟩), undef, .bool false, .pointer (some ⟨g, 0, none⟩), v 6, u9, u10, u11, u12, u13, u14, v 0, v 1, v 2, v 3, v 4, v 5, u21, u22, u23, u24], []⟩) (GG ([(g, 0, Value.float .f32 r0), (g, 1, .float .f32 r1), (g, 2, .float .f32 r2)] ++ FnExactBetweenVectors_boxes w x y z x1 y1 z1) N w.heap.size w) (fun j W s => match j with | 0 => s = .agg #[.float .f32 x, .float .f32 y, .float .f32 z] | 1 => s = .agg #[.float .f32 x, .float .f32 y, .float .f32 z] | 2 => s = .agg #[.float .f32 x1, .float .f32 y1, .float .f32 z1] | 3 => s = .agg #[.float .f32 x1, .float .f32 y1, .float .f32 z1] | 4 => s = .float .f32 t | 5 => IsVec (oop .add .f32 (ab .f32 x) (oop .mul .f32 (oop .sub .f32 (ab .f32 x1) (ab .f32 x)) (ab .f32 t))) (oop .add .f32 (ab .f32 y) (oop .mul .f32 (oop .sub .f32 (ab .f32 y1) (ab .f32 y)) (ab .f32 t))) (oop .add .f32 (ab .f32 z) (oop .mul .f32 (oop .sub .f32 (ab .f32 z1) (ab .f32 z)) (ab .f32 t))) s | 6 => New3 N W s | _ => True) ?_ ?_ hG.drew ?_ ?_
      · intro j W W' v hb
        rcases j with _ | _ | _ | _ | _ | _ | _ | j <;> first | exact id | exact New3.call hb
      · exact ⟨fun j => match j with | 0 => u15 | 1 => u16 | 2 => u17 | 3 => u18 | 4 => u19 | 5 => u20 | 6 => undef | _ => undef, rfl⟩
      · intro i o ho hlt vals W hG hd
        rcases i with _ | _ | _ | _ | _ | _ | _ | i
        · refine wpOp_run ho (by cases Option.some.inj ho; rfl) ?_
          cases Option.some.inj ho
          have c0 := hG.at (b := w.heap.size) (o := 0) (v := .float .f32 x) (by simp [FnExactBetweenVectors_boxes])
          have c1 := hG.at (b := w.heap.size) (o := 1) (v := .float .f32 y) (by simp [FnExactBetweenVectors_boxes])
          have c2 := hG.at (b := w.heap.size) (o := 2) (v := .float .f32 z) (by simp [FnExactBetweenVectors_boxes])
          go_simp
          exact ⟨_, rfl, Below.refl _ _, hG, rfl⟩
        · refine wpOp_run ho (by cases Option.some.inj ho; rfl) ?_
          cases Option.some.inj ho
          have hc := toVector x y z W
          rw [← (show vals 0 = .agg #[.float .f32 x, .float .f32 y, .float .f32 z] from hd ⟨0, .data⟩ (by simp) rfl)] at hc
          go_simp
          refine hc.mono ?_
          rintro e w' ⟨rfl, hb⟩
          exact ⟨_, rfl, hb, hG.call hb, hd ⟨0, .data⟩ (by simp) rfl⟩
        · refine wpOp_run ho (by cases Option.some.inj ho; rfl) ?_
          cases Option.some.inj ho
          have c0 := hG.at (b := w.heap.size + 1) (o := 0) (v := .float .f32 x1) (by simp [FnExactBetweenVectors_boxes])
          have c1 := hG.at (b := w.heap.size + 1) (o := 1) (v := .float .f32 y1) (by simp [FnExactBetweenVectors_boxes])
          have c2 := hG.at (b := w.heap.size + 1) (o := 2) (v := .float .f32 z1) (by simp [FnExactBetweenVectors_boxes])
          go_simp
          exact ⟨_, rfl, Below.refl _ _, hG, rfl⟩
        · refine wpOp_run ho (by cases Option.some.inj ho; rfl) ?_
          cases Option.some.inj ho
          have hc := toVector x1 y1 z1 W
          rw [← (show vals 2 = .agg #[.float .f32 x1, .float .f32 y1, .float .f32 z1] from hd ⟨2, .data⟩ (by simp) rfl)] at hc
          go_simp
          refine hc.mono ?_
          rintro e w' ⟨rfl, hb⟩
          exact ⟨_, rfl, hb, hG.call hb, hd ⟨2, .data⟩ (by simp) rfl⟩
        · refine wpOp_run ho (by cases Option.some.inj ho; rfl) ?_
          cases Option.some.inj ho
          go_simp
          exact ⟨_, rfl, Below.refl _ _, hG, rfl⟩
        · refine wpOp_run ho (by cases Option.some.inj ho; rfl) ?_
          cases Option.some.inj ho
          have hc := BetweenVectors x y z x1 y1 z1 t W
          rw [← (show vals 1 = .agg #[.float .f32 x, .float .f32 y, .float .f32 z] from hd ⟨1, .data⟩ (by simp) rfl), ← (show vals 3 = .agg #[.float .f32 x1, .float .f32 y1, .float .f32 z1] from hd ⟨3, .data⟩ (by simp) rfl), ← (show vals 4 = .float .f32 t from hd ⟨4, .data⟩ (by simp) rfl)] at hc
          go_simp
          refine hc.mono ?_
          rintro e w' ⟨r0, r1, r2, k0, k1, k2, rfl, hb⟩
          exact ⟨_, rfl, hb, hG.call hb, ⟨r0, r1, r2, rfl, k0, k1, k2⟩⟩
        · refine wpOp_run ho (by cases Option.some.inj ho; rfl) ?_
          cases Option.some.inj ho
          go_simp
          have hb : Below W.heap.size W (W.alloc (.cells #[.float .f32 0, .float .f32 0, .float .f32 0] 25)) := (Below.refl _ _).alloc (Nat.le_refl _) _
          exact ⟨_, rfl, hb, hG.call hb, New3.mk hG.size _ _ _ _⟩
        · omega
      · intro vals W hG hR
        refine wpOp_run rfl rfl ?_
        obtain ⟨r0, r1, r2, e4, k0, k1, k2⟩ := hR 5 (by omega)
        obtain ⟨g, e5, hg1, hg2, hf, c0, c1, c2, d0, d1, d2⟩ := hR 6 (by omega)
        have h3 := at3_set W g (.float .f32 r0) (.float .f32 r1) (.float .f32 r2) _ _ _ ⟨d0, d1, d2⟩
        have hG' := ((hG.set hg1 (o := 0) (.float .f32 r0)).set hg1 (o := 1) (.float .f32 r1)).set hg1 (o := 2) (.float .f32 r2)
        have hm := hG'.more [(g, 0, .float .f32 r0), (g, 1, .float .f32 r1), (g, 2, .float .f32 r2)] (by simp only [List.forall_mem_cons]; exact ⟨h3.1, h3.2.1, h3.2.2, by simp⟩)
        clear h3 hG'
        go_simp
        go_wp2_with fail
        go_meet
        exact ⟨g, r0, r1, r2, _, rfl, k0, k1, k2, hm⟩
    case rest =>
      obtain ⟨g', q0, q1, q2, N', rfl, j0, j1, j2, hH⟩ := hcut
      have a0 := hH.at (b := g') (o := 0) (v := .float .f32 q0) (by simp)
      have a1 := hH.at (b := g') (o := 1) (v := .float .f32 q1) (by simp)
      have a2 := hH.at (b := g') (o := 2) (v := .float .f32 q2) (by simp)
      have b0 := hH.at (b := g) (o := 0) (v := .float .f32 r0) (by simp)
      have b1 := hH.at (b := g) (o := 1) (v := .float .f32 r1) (by simp)
      have b2 := hH.at (b := g) (o := 2) (v := .float .f32 r2) (by simp)
      have hc := fun w => eqVector q0 q1 q2 r0 r1 r2 w (j0.ab.trans k0.ab.symm) (j1.ab.trans k1.ab.symm) (j2.ab.trans k2.ab.symm)
      clear hG hG0
      go_wp2_with (go_at_call 17; refine (hc _).mono ?_; rintro e w' ⟨rfl, hb⟩)
      go_ret
      exact ⟨rfl, hH.below.trans (hb.mono (Nat.le_trans hH.base hH.size))⟩



end Go.Proofs.Ytegonfniagpnkaa
