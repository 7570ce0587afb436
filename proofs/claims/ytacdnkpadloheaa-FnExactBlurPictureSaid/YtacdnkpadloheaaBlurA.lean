/-
  BlurPicture of a picture: the specification's walk, the program's walk, that they agree, and the law's walk.
-/
import Derived.Test.YtacdnkpadloheaaImpl
import Derived.Test.YtacdnkpadloheaaCopy
namespace Go.Proofs.Ytacdnkpadloheaa
open Go.RowKit Go.FL
attribute [local irreducible] Oper.wp in
theorem spec_l02Blur (b W H : Nat) (a : Option Addr) (len cap : Nat) (zs : List Nat) (dx : Int) (dy : Int) (w : World) (c0 : w.cell? ⟨b, 0, none⟩ = some (.int .i64 W)) (c1 : w.cell? ⟨b, 1, none⟩ = some (.int .i64 H)) (c2 : w.cell? ⟨b, 2, none⟩ = some (.slice a len cap)) (h : IsFRow w a len cap zs) (hl : len = W * H) (hW : 1 ≤ W ∧ W ≤ 24) (hH : 1 ≤ H ∧ H ≤ 24) (hd1 : 0 ≤ dx) (hd2 : dx ≤ 1) (hd3 : 0 ≤ dy) (hd4 : dy ≤ 1) :
    Calls Try.prog 73 #[.pointer (some ⟨b, 0, none⟩), .int .i64 dx, .int .i64 dy] w (RetQ W H (H * W) ((osXY (W) (fun (x y : Nat) => oop .mul .f32 (ab .f32 1056964608) (oop .add .f32 (oop .mul .f32 (ab .f32 1056964608) (oop .add .f32 (ab .f32 (grey zs W H (x - dx) (y - dy))) (ab .f32 (grey zs W H (x + dx) (y + dy))))) (ab .f32 (grey zs W H (x) (y))))))) w) := by
  have hbw : b < w.heap.size := World.block_lt_of_cell? w _ c0
  have hzl : ∀ z ∈ zs, z < 4294967296 := h.2.2.2.1
  have hzn : zs.length = len := h.1
  have hcap : len ≤ cap := h.2.1
  have hcm : cap ≤ 9223372036854775807 := by have := h.2.2.1; unfold maxLen at this; omega
  have hlen : len ≤ 576 := by rw [hl]; exact Nat.mul_le_mul hW.2 hH.2
  have HH := Lib.hid h
  have HZ := Lib.hid hzl
  have HL := Lib.hid hl
  have HW := Lib.hid hW
  have HHH := Lib.hid hH
  obtain ⟨hW1, hW2⟩ := hW
  obtain ⟨hH1, hH2⟩ := hH
  clear h hzl hl
  obtain ⟨OS, HOE0⟩ : ∃ f : Nat → Nat → Option Nat, f = (fun (x y : Nat) => oop .mul .f32 (ab .f32 1056964608) (oop .add .f32 (oop .mul .f32 (ab .f32 1056964608) (oop .add .f32 (ab .f32 (grey zs W H (x - dx) (y - dy))) (ab .f32 (grey zs W H (x + dx) (y + dy))))) (ab .f32 (grey zs W H (x) (y))))) := ⟨_, rfl⟩
  have HOE := Lib.hid HOE0
  clear HOE0
  rw [show (fun (x y : Nat) => oop .mul .f32 (ab .f32 1056964608) (oop .add .f32 (oop .mul .f32 (ab .f32 1056964608) (oop .add .f32 (ab .f32 (grey zs W H (x - dx) (y - dy))) (ab .f32 (grey zs W H (x + dx) (y + dy))))) (ab .f32 (grey zs W H (x) (y))))) = OS from HOE.out.symm]
  go_enter Try.func73, Try.ntmps73
  go_wp2_with fail
  refine wp_region_steps (by kernel_rfl) (by kernel_rfl) 10 (by kernel_rfl) (fun _ v => ⟨#[.pointer (some ⟨b, 0, none⟩), .int .i64 dx, .int .i64 dy, undef, undef, undef, .pointer (some ⟨w.heap.size, 0, none⟩), v 9, undef, undef, undef, v 0, v 1, v 2, v 3, v 4, v 5, v 6, v 7, v 8, undef, undef, undef, undef, undef, undef, undef, undef, undef, undef, undef, undef, undef, undef, undef, undef, undef, undef, undef, undef, undef, undef, undef, undef, undef, undef, undef, undef, undef, undef, undef, undef, undef, undef, undef, undef, undef, undef, undef, undef, undef, undef, undef, undef, undef, undef, undef], []⟩)
    (fun WW => Below (w.heap.size + 1) (w.alloc (.cells #[.int .i64 0, .int .i64 0, .slice none 0 0] 26)) WW)
    (fun j WW s => match j with | 0 => s = .pointer (some ⟨b, 0, none⟩) | 1 => s = .pointer (some ⟨b, 0, none⟩) | 2 => s = .pointer (some ⟨b, 0, none⟩) | 3 => s = .int .i64 W | 4 => s = .pointer (some ⟨b, 0, none⟩) | 5 => s = .pointer (some ⟨b, 0, none⟩) | 6 => s = .pointer (some ⟨b, 1, none⟩) | 7 => s = .int .i64 H | 8 => ∃ nb, s = .agg #[.int .i64 W, .int .i64 H, .slice (some ⟨nb, 0, none⟩) 0 0] ∧ OwnF WW (w.heap.size + 1) (.slice (some ⟨nb, 0, none⟩) 0 0) 0 (osXY (W) OS) | 9 => ∃ g, s = .pointer (some ⟨g, 0, none⟩) ∧ (w.heap.size + 1) ≤ g ∧ WW.heap[g]? = some (.cells #[.int .i64 0, .int .i64 0, .slice none 0 0] 26 (0, 0)) | _ => True) ?_ ⟨fun _ => undef, rfl⟩ (Below.refl _ _).drew ?_ ?_
  · intro j WW W2 s hb
    rcases j with _ | _ | _ | _ | _ | _ | _ | _ | _ | _ | j
    · exact id
    · exact id
    · exact id
    · exact id
    · exact id
    · exact id
    · exact id
    · exact id
    · rintro ⟨nb, e, ho⟩
      exact ⟨nb, e, ho.below hb⟩
    · rintro ⟨g, e, hg, hbx⟩
      exact ⟨g, e, hg, (hb.block _ (lt_of_block hbx)).trans hbx⟩
    · exact id
  · intro i o ho hlt2 vals WW hG hd
    rcases i with _ | _ | _ | _ | _ | _ | _ | _ | _ | _ | i
    · refine wpOp_run ho (by cases Option.some.inj ho; rfl) ?_
      cases Option.some.inj ho
      go_simp
      exact ⟨.pointer (some ⟨b, 0, none⟩), by simp [upd_at], Below.refl _ _, hG, rfl⟩
    · refine wpOp_run ho (by cases Option.some.inj ho; rfl) ?_
      cases Option.some.inj ho
      have e0 : vals 0 = .pointer (some ⟨b, 0, none⟩) := hd ⟨0, .data⟩ (by simp) rfl
      go_simp
      exact ⟨.pointer (some ⟨b, 0, none⟩), by simp [upd_at, e0], Below.refl _ _, hG, rfl⟩
    · refine wpOp_run ho (by cases Option.some.inj ho; rfl) ?_
      cases Option.some.inj ho
      have e1 : vals 1 = .pointer (some ⟨b, 0, none⟩) := hd ⟨1, .data⟩ (by simp) rfl
      go_simp
      exact ⟨.pointer (some ⟨b, 0, none⟩), by simp [upd_at, e1], Below.refl _ _, hG, rfl⟩
    · refine wpOp_run ho (by cases Option.some.inj ho; rfl) ?_
      cases Option.some.inj ho
      have e2 : vals 2 = .pointer (some ⟨b, 0, none⟩) := hd ⟨2, .data⟩ (by simp) rfl
      have hcx := (hG.cell (p := ⟨b, 0, none⟩) (show b < _ from by omega)).trans (show _ = some (.int .i64 W) from by go_simp)
      go_simp
      exact ⟨.int .i64 W, by simp [upd_at, e2], Below.refl _ _, hG, rfl⟩
    · refine wpOp_run ho (by cases Option.some.inj ho; rfl) ?_
      cases Option.some.inj ho
      go_simp
      exact ⟨.pointer (some ⟨b, 0, none⟩), by simp [upd_at], Below.refl _ _, hG, rfl⟩
    · refine wpOp_run ho (by cases Option.some.inj ho; rfl) ?_
      cases Option.some.inj ho
      have e4 : vals 4 = .pointer (some ⟨b, 0, none⟩) := hd ⟨4, .data⟩ (by simp) rfl
      go_simp
      exact ⟨.pointer (some ⟨b, 0, none⟩), by simp [upd_at, e4], Below.refl _ _, hG, rfl⟩
    · refine wpOp_run ho (by cases Option.some.inj ho; rfl) ?_
      cases Option.some.inj ho
      have e5 : vals 5 = .pointer (some ⟨b, 0, none⟩) := hd ⟨5, .data⟩ (by simp) rfl
      go_simp
      exact ⟨.pointer (some ⟨b, 1, none⟩), by simp [upd_at, e5], Below.refl _ _, hG, rfl⟩
    · refine wpOp_run ho (by cases Option.some.inj ho; rfl) ?_
      cases Option.some.inj ho
      have e6 : vals 6 = .pointer (some ⟨b, 1, none⟩) := hd ⟨6, .data⟩ (by simp) rfl
      have hcx := (hG.cell (p := ⟨b, 1, none⟩) (show b < _ from by omega)).trans (show _ = some (.int .i64 H) from by go_simp)
      go_simp
      exact ⟨.int .i64 H, by simp [upd_at, e6], Below.refl _ _, hG, rfl⟩
    · refine wpOp_run ho (by cases Option.some.inj ho; rfl) ?_
      cases Option.some.inj ho
      have e3 : vals 3 = .int .i64 W := hd ⟨3, .data⟩ (by simp) rfl
      have e7 : vals 7 = .int .i64 H := hd ⟨7, .data⟩ (by simp) rfl
      have hc := spec_l02New (W) (H) WW (osXY (W) OS)
      have hsz : (w.heap.size + 1) ≤ WW.heap.size := by have := hG.size; simp at this; omega
      go_simp
      refine hc.mono ?_
      rintro e w' ⟨nb, rfl, ho, hB⟩
      go_simp
      exact ⟨.agg #[.int .i64 W, .int .i64 H, .slice (some ⟨nb, 0, none⟩) 0 0], by simp [upd_at, e3, e7], hB, hG.trans (hB.mono (by have := hG.size; simp at this; omega)), nb, rfl, ho.mono hsz⟩
    · refine wpOp_run ho (by cases Option.some.inj ho; rfl) ?_
      cases Option.some.inj ho
      have hB : Below WW.heap.size WW (WW.alloc (.cells #[.int .i64 0, .int .i64 0, .slice none 0 0] 26)) := Below.alloc (Below.refl _ _) (Nat.le_refl _) _
      have hsz : (w.heap.size + 1) ≤ WW.heap.size := by have := hG.size; simp at this; omega
      go_simp
      exact ⟨.pointer (some ⟨WW.heap.size, 0, none⟩), by simp [upd_at], hB, hG.trans (hB.mono (by have := hG.size; simp at this; omega)), WW.heap.size, rfl, hsz, heap_alloc_new WW _⟩
    · omega
  intro vals w2 hG hR
  obtain ⟨nb, e8, ho2⟩ := (show ∃ nb, vals 8 = .agg #[.int .i64 W, .int .i64 H, .slice (some ⟨nb, 0, none⟩) 0 0] ∧ OwnF w2 (w.heap.size + 1) (.slice (some ⟨nb, 0, none⟩) 0 0) 0 (osXY (W) OS) from hR 8 (by omega))
  obtain ⟨g, e9, hg, hgb⟩ := (show ∃ g, vals 9 = .pointer (some ⟨g, 0, none⟩) ∧ (w.heap.size + 1) ≤ g ∧ w2.heap[g]? = some (.cells #[.int .i64 0, .int .i64 0, .slice none 0 0] 26 (0, 0)) from hR 9 (by omega))
  refine wpOp_run rfl rfl ?_
  have x0 := box_cell hgb 0
  have x1 := box_cell hgb 1
  have x2 := box_cell hgb 2
  have y0 := box_free hgb 0
  have y1 := box_free hgb 1
  have y2 := box_free hgb 2
  have HGB := Lib.hid (box_set (i := 2) (cs := #[.int .i64 W, .int .i64 H, .slice none 0 0]) (.slice (some ⟨nb, 0, none⟩) 0 0) (box_set (i := 1) (cs := #[.int .i64 W, .int .i64 0, .slice none 0 0]) (.int .i64 H) (box_set (i := 0) (.int .i64 W) hgb)))
  have HGO := Lib.hid (OwnF.setBox (OwnF.setBox (OwnF.setBox ho2 hgb 0 (.int .i64 W)) (box_set _ hgb) 1 (.int .i64 H)) (box_set _ (box_set _ hgb)) 2 (.slice (some ⟨nb, 0, none⟩) 0 0))
  have HBB := Lib.hid (Below.setCell (Below.setCell (Below.setCell hG hg (p := ⟨g, 0, none⟩) (.int .i64 W)) hg (p := ⟨g, 1, none⟩) (.int .i64 H)) hg (p := ⟨g, 2, none⟩) (.slice (some ⟨nb, 0, none⟩) 0 0))
  have k0 : w2.cell? ⟨b, 0, none⟩ = some (.int .i64 W) := (hG.cell (p := ⟨b, 0, none⟩) (show b < _ from by omega)).trans (by go_simp)
  have k1 : w2.cell? ⟨b, 1, none⟩ = some (.int .i64 H) := (hG.cell (p := ⟨b, 1, none⟩) (show b < _ from by omega)).trans (by go_simp)
  have k2 : w2.cell? ⟨b, 2, none⟩ = some (.slice a len cap) := (hG.cell (p := ⟨b, 2, none⟩) (show b < _ from by omega)).trans (by go_simp)
  have hgb' : b ≠ g := by omega
  clear hR hG hgb ho2
  go_simp
  go_wp2_with fail
  go_loopw [8] (fun i wr => ∃ y : Nat, ∃ v, y ≤ H ∧ i = .int .i64 y ∧ wr.heap[g]? = some (.cells #[.int .i64 W, .int .i64 H, v] 26 (0, 0)) ∧ OwnF wr (w.heap.size + 1) v (y * (W)) (osXY (W) OS) ∧ Below (w.heap.size + 1) (w.alloc (.cells #[.int .i64 0, .int .i64 0, .slice none 0 0] 26)) wr) (fun i _ => H - (intOf i).toNat)
  case atStart => exact ⟨0, _, by omega, rfl, HGB.out, HGO.out.congr (by simp) (fun _ _ => rfl), HBB.out⟩
  case round =>
    clear k0 k1 k2
    obtain ⟨y, v, hy, rfl, hbx, ho, hb⟩ := hrel
    obtain ⟨ao, cp, rfl⟩ := ho.shape
    have k0 : wr.cell? ⟨b, 0, none⟩ = some (.int .i64 W) := (hb.cell (p := ⟨b, 0, none⟩) (show b < _ from by omega)).trans (by go_simp)
    have k1 : wr.cell? ⟨b, 1, none⟩ = some (.int .i64 H) := (hb.cell (p := ⟨b, 1, none⟩) (show b < _ from by omega)).trans (by go_simp)
    have k2 : wr.cell? ⟨b, 2, none⟩ = some (.slice a len cap) := (hb.cell (p := ⟨b, 2, none⟩) (show b < _ from by omega)).trans (by go_simp)
    have HO := Lib.hid ho
    have HB := Lib.hid hb
    have HX := Lib.hid hbx
    clear ho hb hbx
    by_cases hlt : y < H
    · go_wp2_with fail
      go_loopw [9] (fun i wr => ∃ x : Nat, ∃ v, x ≤ W ∧ i = .int .i64 x ∧ wr.heap[g]? = some (.cells #[.int .i64 W, .int .i64 H, v] 26 (0, 0)) ∧ OwnF wr (w.heap.size + 1) v (y * (W) + x) (osXY (W) OS) ∧ Below (w.heap.size + 1) (w.alloc (.cells #[.int .i64 0, .int .i64 0, .slice none 0 0] 26)) wr) (fun i _ => W - (intOf i).toNat)
      case atStart => exact ⟨0, _, by omega, rfl, HX.out, HO.out, HB.out⟩
      case round =>
        clear HX HO HB ao cp k0 k1 k2
        obtain ⟨x, v, hx, rfl, hbx, ho, hb⟩ := hrel
        obtain ⟨ao, cp, rfl⟩ := ho.shape
        have k0 : wr.cell? ⟨b, 0, none⟩ = some (.int .i64 W) := (hb.cell (p := ⟨b, 0, none⟩) (show b < _ from by omega)).trans (by go_simp)
        have k1 : wr.cell? ⟨b, 1, none⟩ = some (.int .i64 H) := (hb.cell (p := ⟨b, 1, none⟩) (show b < _ from by omega)).trans (by go_simp)
        have k2 : wr.cell? ⟨b, 2, none⟩ = some (.slice a len cap) := (hb.cell (p := ⟨b, 2, none⟩) (show b < _ from by omega)).trans (by go_simp)
        have HO := Lib.hid ho
        have HB := Lib.hid hb
        have HX := Lib.hid hbx
        clear ho hb hbx
        by_cases hlx : x < W
        · have hn : (y * (W) + x) ≤ 1000 := by
            have h1 : y * (W) ≤ 24 * 24 := Nat.mul_le_mul (by omega) (by omega)
            omega
          have HOS : RowKit.Hid ((osXY (W) OS) (y * (W) + x) = _) := Lib.hid ((osXY_at (os := OS) hlx).trans (congrFun (congrFun HOE.out x) y))
          have BRW : Below w.heap.size w wr := (Below.alloc (Below.refl _ _) (Nat.le_refl _) _).trans (HB.out.mono (by omega))
          go_wp2_with (first | (go_at_call 48; refine (spec_l02At b W H _ _ a len cap zs _ (by go_simp) (by go_simp) (by go_simp) (IsFRow.below HH.out (BRW.trans (by repeat (first | exact Below.refl _ _ | refine Below.setCell ?_ (by first | (simp; done) | (simp; omega)) _ | refine Below.trans ?_ (Below.mono (by assumption) (by first | (simp; done) | (simp; omega))) | refine Below.alloc ?_ (by first | (simp; done) | (simp; omega)) _ | refine Below.alloc ?_ (Nat.le_refl _) _ | refine below_drewN ?_ _)))) HL.out HW.out HHH.out).mono ?_; rintro e w' ⟨q, rfl, rfl⟩) | ((fail_if_success (have := g1)); refine wpList_arith _ _ _ _ _ rfl rfl _ _ _ rfl rfl rfl ?_; intro r1 n1 g1) | ((fail_if_success (have := g2)); refine wpList_arith _ _ _ _ _ rfl rfl _ _ _ rfl rfl rfl ?_; intro r2 n2 g2))
          have GG := g2
          rw [g1.ab] at GG
          refine wp_region_own (by kernel_rfl) (by kernel_rfl) 12 (by kernel_rfl) 10 (fun _ v => ⟨#[Value.pointer (some ⟨b, 0, none⟩), Value.int IntKind.i64 dx, Value.int IntKind.i64 dy, undef, undef, undef, Value.pointer (some ⟨w.heap.size, 0, none⟩), Value.pointer (some ⟨g, 0, none⟩), Value.int IntKind.i64 (y : Int), Value.int IntKind.i64 (x : Int), Value.float FloatKind.f32 r2, vals 0, vals 1, vals 2, vals 3, vals 4, vals 5, vals 6, vals 7, Value.agg #[Value.int IntKind.i64 (W : Int), Value.int IntKind.i64 (H : Int), Value.slice (some ⟨nb, 0, none⟩) 0 0], Value.int IntKind.i64 (y : Int), Value.pointer (some ⟨b, 0, none⟩), Value.pointer (some ⟨b, 0, none⟩), Value.pointer (some ⟨b, 1, none⟩), Value.int IntKind.i64 (H : Int), Value.bool true, u26, u27, Value.int IntKind.i64 (x : Int), Value.pointer (some ⟨b, 0, none⟩), Value.pointer (some ⟨b, 0, none⟩), Value.pointer (some ⟨b, 0, none⟩), Value.int IntKind.i64 (W : Int), Value.bool true, u34, u35, Value.pointer (some ⟨b, 0, none⟩), Value.int IntKind.i64 (x : Int), Value.int IntKind.i64 dx, Value.int IntKind.i64 ((x : Int) - dx), Value.int IntKind.i64 (y : Int), Value.int IntKind.i64 dy, Value.int IntKind.i64 ((y : Int) - dy), Value.float FloatKind.f32 (grey zs W H ((x : Int) - dx) ((y : Int) - dy)), Value.pointer (some ⟨b, 0, none⟩), Value.int IntKind.i64 (x : Int), Value.int IntKind.i64 dx, Value.int IntKind.i64 ((x : Int) + dx), Value.int IntKind.i64 (y : Int), Value.int IntKind.i64 dy, Value.int IntKind.i64 ((y : Int) + dy), Value.float FloatKind.f32 (grey zs W H ((x : Int) + dx) ((y : Int) + dy)), Value.float FloatKind.f32 r1, Value.float FloatKind.f32 r2, v 0, v 1, v 2, v 3, v 4, v 5, v 6, v 7, v 8, v 9, v 10, v 11, undef], []⟩) (fun d WW => Below (w.heap.size + 1) (w.alloc (.cells #[.int .i64 0, .int .i64 0, .slice none 0 0] 26)) WW ∧ wr.heap.size ≤ WW.heap.size ∧ WW.heap[g]? = some (.cells #[.int .i64 W, .int .i64 H, .slice ao (y * (W) + x) cp] 26 (0, 0)) ∧ (d = false → OwnF WW (w.heap.size + 1) (.slice ao (y * (W) + x) cp) (y * (W) + x) (osXY (W) OS)))
            (fun j WW s => match j with | 0 => s = .pointer (some ⟨g, 2, none⟩) | 1 => s = .slice ao (y * (W) + x) cp | 2 => ∃ r, s = .float .f32 r ∧ Is .f32 r (oop .mul .f32 (ab .f32 1056964608) (oop .add .f32 (ab .f32 (grey zs W H (x - dx) (y - dy))) (ab .f32 (grey zs W H (x + dx) (y + dy))))) | 3 => s = .pointer (some ⟨b, 0, none⟩) | 4 => s = .int .i64 x | 5 => s = .int .i64 y | 6 => s = .float .f32 (grey zs W H (x) (y)) | 7 => ∃ r, s = .float .f32 r ∧ Is .f32 r (oop .add .f32 (oop .mul .f32 (ab .f32 1056964608) (oop .add .f32 (ab .f32 (grey zs W H (x - dx) (y - dy))) (ab .f32 (grey zs W H (x + dx) (y + dy))))) (ab .f32 ((grey zs W H (x) (y))))) | 8 => ∃ r, s = .float .f32 r ∧ Is .f32 r (oop .mul .f32 (ab .f32 (1056964608)) (oop .add .f32 (oop .mul .f32 (ab .f32 1056964608) (oop .add .f32 (ab .f32 (grey zs W H (x - dx) (y - dy))) (ab .f32 (grey zs W H (x + dx) (y + dy))))) (ab .f32 ((grey zs W H (x) (y)))))) | 9 => ∃ nb, s = .slice (some ⟨nb, 0, none⟩) 1 1 ∧ ∃ r, Is .f32 r (oop .mul .f32 (ab .f32 (1056964608)) (oop .add .f32 (oop .mul .f32 (ab .f32 1056964608) (oop .add .f32 (ab .f32 (grey zs W H (x - dx) (y - dy))) (ab .f32 (grey zs W H (x + dx) (y + dy))))) (ab .f32 ((grey zs W H (x) (y)))))) ∧ wr.heap.size ≤ nb ∧ nb < WW.heap.size ∧ WW.cell? ⟨nb, 0, none⟩ = some (.float .f32 r) | 10 => OwnF WW (w.heap.size + 1) s ((y * (W) + x) + 1) (osXY (W) OS) | 11 => s = .pointer (some ⟨g, 2, none⟩) | _ => True) ?_ ⟨fun i => [u54, u55, u56, u57, u58, u59, u60, u61, u62, u63, u64, u65].getD i undef, rfl⟩ ⟨(below_drewN HB.out _).drew, Nat.le_refl _, HX.out, fun _ => HO.out.below (below_drewN (Below.refl _ _) _).drew⟩ ?_ ?_ (by omega) ?_
          · intro j WW W2 s hb
            rcases j with _ | _ | _ | _ | _ | _ | _ | _ | _ | _ | _ | _ | j
            · exact id
            · exact id
            · exact id
            · exact id
            · exact id
            · exact id
            · exact id
            · exact id
            · exact id
            · rintro ⟨nb, e, r, hr, h1, h2, hc⟩
              exact ⟨nb, e, r, hr, h1, Nat.lt_of_lt_of_le h2 hb.size, (hb.cell (p := ⟨nb, 0, none⟩) h2).trans hc⟩
            · exact fun h => h.below hb
            · exact id
            · exact id
          · intro i o ho hlt2 hne d vals WW hG hd
            rcases i with _ | _ | _ | _ | _ | _ | _ | _ | _ | _ | _ | _ | i
            · refine wpOp_run ho (by cases Option.some.inj ho; rfl) ?_
              cases Option.some.inj ho
              go_simp
              exact ⟨.pointer (some ⟨g, 2, none⟩), by simp [upd_at], Below.refl _ _, hG, rfl⟩
            · refine wpOp_run ho (by cases Option.some.inj ho; rfl) ?_
              cases Option.some.inj ho
              have e0 : vals 0 = .pointer (some ⟨g, 2, none⟩) := hd ⟨0, .data⟩ (by simp) rfl
              have hcx := (box_cell hG.2.2.1 2)
              go_simp
              exact ⟨.slice ao (y * (W) + x) cp, by simp [upd_at, e0], Below.refl _ _, hG, rfl⟩
            · refine wpOp_run ho (by cases Option.some.inj ho; rfl) ?_
              cases Option.some.inj ho
              go_simp
              exact ⟨.float .f32 r2, by simp [upd_at], Below.refl _ _, hG, r2, rfl, GG⟩
            · refine wpOp_run ho (by cases Option.some.inj ho; rfl) ?_
              cases Option.some.inj ho
              go_simp
              exact ⟨.pointer (some ⟨b, 0, none⟩), by simp [upd_at], Below.refl _ _, hG, rfl⟩
            · refine wpOp_run ho (by cases Option.some.inj ho; rfl) ?_
              cases Option.some.inj ho
              go_simp
              exact ⟨.int .i64 x, by simp [upd_at], Below.refl _ _, hG, rfl⟩
            · refine wpOp_run ho (by cases Option.some.inj ho; rfl) ?_
              cases Option.some.inj ho
              go_simp
              exact ⟨.int .i64 y, by simp [upd_at], Below.refl _ _, hG, rfl⟩
            · refine wpOp_run ho (by cases Option.some.inj ho; rfl) ?_
              cases Option.some.inj ho
              have e3 : vals 3 = .pointer (some ⟨b, 0, none⟩) := hd ⟨3, .data⟩ (by simp) rfl
              have e4 : vals 4 = .int .i64 x := hd ⟨4, .data⟩ (by simp) rfl
              have e5 : vals 5 = .int .i64 y := hd ⟨5, .data⟩ (by simp) rfl
              have d0 := (hG.1.cell (p := ⟨b, 0, none⟩) (show b < _ from by omega)).trans (show _ = some (.int .i64 W) from by go_simp)
              have d1 := (hG.1.cell (p := ⟨b, 1, none⟩) (show b < _ from by omega)).trans (show _ = some (.int .i64 H) from by go_simp)
              have d2 := (hG.1.cell (p := ⟨b, 2, none⟩) (show b < _ from by omega)).trans (show _ = some (.slice a len cap) from by go_simp)
              have BG : Below w.heap.size w WW := (Below.alloc (Below.refl _ _) (Nat.le_refl _) _).trans (hG.1.mono (by omega))
              have hc := spec_l02At b W H (x) (y) a len cap zs WW d0 d1 d2 (IsFRow.below HH.out BG) HL.out HW.out HHH.out
              go_simp
              refine hc.mono ?_
              rintro e w' ⟨q, rfl, rfl⟩
              have hB := below_drewN (Below.refl WW.heap.size WW) q
              go_simp
              exact ⟨.float .f32 (grey zs W H (x) (y)), by simp [upd_at, e3, e4, e5], hB, ⟨hG.1.trans (hB.mono (by have := hG.1.size; simp at this; omega)), Nat.le_trans hG.2.1 hB.size, (hB.block _ (lt_of_block hG.2.2.1)).trans hG.2.2.1, fun e => (hG.2.2.2 e).below hB⟩, rfl⟩
            · refine wpOp_run ho (by cases Option.some.inj ho; rfl) ?_
              cases Option.some.inj ho
              obtain ⟨r2, e2, k2⟩ := (show ∃ r, vals 2 = .float .f32 r ∧ Is .f32 r (oop .mul .f32 (ab .f32 1056964608) (oop .add .f32 (ab .f32 (grey zs W H (x - dx) (y - dy))) (ab .f32 (grey zs W H (x + dx) (y + dy))))) from hd ⟨2, .data⟩ (by simp) rfl)
              have e6 : vals 6 = .float .f32 (grey zs W H (x) (y)) := hd ⟨6, .data⟩ (by simp) rfl
              obtain ⟨r, q, hrun, hr⟩ := run_arith (P := Try.prog) .add rfl 52 .f32 r2 ((grey zs W H (x) (y))) WW
              have hB := below_drewN (Below.refl WW.heap.size WW) q
              go_simp
              exact ⟨.float .f32 r, by simp [upd_at, e2, e6], by simpa using hB, ⟨hG.1.trans (hB.mono (by have := hG.1.size; simp at this; omega)), Nat.le_trans hG.2.1 hB.size, (hB.block _ (lt_of_block hG.2.2.1)).trans hG.2.2.1, fun e => (hG.2.2.2 e).below hB⟩, r, rfl, by rw [← k2.ab]; exact hr⟩
            · refine wpOp_run ho (by cases Option.some.inj ho; rfl) ?_
              cases Option.some.inj ho
              obtain ⟨r7, e7, k7⟩ := (show ∃ r, vals 7 = .float .f32 r ∧ Is .f32 r (oop .add .f32 (oop .mul .f32 (ab .f32 1056964608) (oop .add .f32 (ab .f32 (grey zs W H (x - dx) (y - dy))) (ab .f32 (grey zs W H (x + dx) (y + dy))))) (ab .f32 ((grey zs W H (x) (y))))) from hd ⟨7, .data⟩ (by simp) rfl)
              obtain ⟨r, q, hrun, hr⟩ := run_arith (P := Try.prog) .mul rfl 52 .f32 (1056964608) r7 WW
              have hB := below_drewN (Below.refl WW.heap.size WW) q
              go_simp
              exact ⟨.float .f32 r, by simp [upd_at, e7], by simpa using hB, ⟨hG.1.trans (hB.mono (by have := hG.1.size; simp at this; omega)), Nat.le_trans hG.2.1 hB.size, (hB.block _ (lt_of_block hG.2.2.1)).trans hG.2.2.1, fun e => (hG.2.2.2 e).below hB⟩, r, rfl, by rw [← k7.ab]; exact hr⟩
            · refine wpOp_run ho (by cases Option.some.inj ho; rfl) ?_
              cases Option.some.inj ho
              obtain ⟨r8, e8, k8⟩ := (show ∃ r, vals 8 = .float .f32 r ∧ Is .f32 r (oop .mul .f32 (ab .f32 (1056964608)) (oop .add .f32 (oop .mul .f32 (ab .f32 1056964608) (oop .add .f32 (ab .f32 (grey zs W H (x - dx) (y - dy))) (ab .f32 (grey zs W H (x + dx) (y + dy))))) (ab .f32 ((grey zs W H (x) (y)))))) from hd ⟨8, .data⟩ (by simp) rfl)
              have hB : Below WW.heap.size WW (WW.alloc (.cells #[.float .f32 r8] 52)) := Below.alloc (Below.refl _ _) (Nat.le_refl _) _
              go_simp
              exact ⟨.slice (some ⟨WW.heap.size, 0, none⟩) 1 1, by simp [upd_at, e8], hB, ⟨hG.1.trans (hB.mono (by have := hG.1.size; simp at this; omega)), Nat.le_trans hG.2.1 hB.size, (hB.block _ (lt_of_block hG.2.2.1)).trans hG.2.2.1, fun e => (hG.2.2.2 e).below hB⟩, WW.heap.size, rfl, r8, (show Is .f32 r8 (oop .mul .f32 (ab .f32 (1056964608)) (oop .add .f32 (oop .mul .f32 (ab .f32 1056964608) (oop .add .f32 (ab .f32 (grey zs W H (x - dx) (y - dy))) (ab .f32 (grey zs W H (x + dx) (y + dy))))) (ab .f32 ((grey zs W H (x) (y)))))) from k8), hG.2.1, by simp, by go_simp⟩
            · exact absurd rfl hne
            · refine wpOp_run ho (by cases Option.some.inj ho; rfl) ?_
              cases Option.some.inj ho
              go_simp
              exact ⟨.pointer (some ⟨g, 2, none⟩), by simp [upd_at], Below.refl _ _, hG, rfl⟩
            · omega
          · intro o ho _ vals WW hG hd
            refine wpOp_run ho (by cases Option.some.inj ho; rfl) ?_
            cases Option.some.inj ho
            have e1 : vals 1 = .slice ao (y * (W) + x) cp := hd ⟨1, .data⟩ (by simp) rfl
            obtain ⟨nb, e6, r, hr, h1, h2, hc⟩ := (show ∃ nb, vals 9 = .slice (some ⟨nb, 0, none⟩) 1 1 ∧ ∃ r, Is .f32 r (oop .mul .f32 (ab .f32 (1056964608)) (oop .add .f32 (oop .mul .f32 (ab .f32 1056964608) (oop .add .f32 (ab .f32 (grey zs W H (x - dx) (y - dy))) (ab .f32 (grey zs W H (x + dx) (y + dy))))) (ab .f32 ((grey zs W H (x) (y)))))) ∧ wr.heap.size ≤ nb ∧ nb < WW.heap.size ∧ WW.cell? ⟨nb, 0, none⟩ = some (.float .f32 r) from hd ⟨9, .data⟩ (by simp) rfl)
            have hv := hG.2.2.2 rfl
            refine wp_append1 (.tmp 55) (.tmp 63) rfl e1 e6 hv (by have := hG.1.size; simp at this; omega) hn hc (by rw [HOS.out]; exact hr) ?_
            intro v' w' h7 hgr
            have hB := hv.grown (by have := hG.1.size; simp at this; omega) hgr
            refine ⟨v', by simp [upd_at, Act.put], ⟨hG.1.trans hB, Nat.le_trans hG.2.1 hgr.size, (hgr.block _ (lt_of_block hG.2.2.1) (own_ne_box hv hG.2.2.1).symm).trans hG.2.2.1, fun e => by cases e⟩, h7, ?_⟩
            intro j s hj hs
            rcases j with _ | _ | _ | _ | _ | _ | _ | _ | _ | _ | _ | _ | j
            · exact hs
            · exact hs
            · exact hs
            · exact hs
            · exact hs
            · exact hs
            · exact hs
            · exact hs
            · exact hs
            · obtain ⟨nb, e, r, hr, h1, h2, hc⟩ := hs
              exact ⟨nb, e, r, hr, h1, Nat.lt_of_lt_of_le h2 hgr.size, hgr.cell hc fun e => by have := (HO.out.lt nb e.symm).2; omega⟩
            · exact absurd rfl hj
            · exact hs
            · exact hs
          · intro vals WW hG hR
            refine wpOp_run rfl rfl ?_
            have h7 : OwnF WW (w.heap.size + 1) (vals 10) ((y * (W) + x) + 1) (osXY (W) OS) := hR 10 (by omega)
            have e8 : vals 11 = .pointer (some ⟨g, 2, none⟩) := hR 11 (by omega)
            have hcx := (box_cell hG.2.2.1 2)
            have hfx := (box_free hG.2.2.1 2)
            clear hR
            obtain ⟨a7, c7, e7⟩ := h7.shape
            rw [e7] at h7
            go_simp
            go_wp2_with fail
            go_roundw
            case rel => exact ⟨x + 1, .slice a7 ((y * (W) + x) + 1) c7, by omega, rfl, box_set (i := 2) (.slice a7 ((y * (W) + x) + 1) c7) hG.2.2.1, h7.setBox hG.2.2.1 _ _, Below.setCell hG.1 (by omega) _⟩
            case measure => simp [intOf]; omega
        · have hxe : x = W := by omega
          go_wp2_with fail
          go_roundw
          case rel => exact ⟨y + 1, _, by omega, rfl, HX.out, HO.out.congr (by rw [hxe, Nat.succ_mul]) (fun _ _ => rfl), HB.out⟩
          case measure => simp [intOf]; omega
    · obtain rfl : H = y := by omega
      have hz : wr.heap[w.heap.size]? = some (.cells #[.int .i64 0, .int .i64 0, .slice none 0 0] 26 (0, 0)) := (HB.out.block (w.heap.size) (by omega)).trans (heap_alloc_new w _)
      have z0 := box_cell hz 0
      have z1 := box_cell hz 1
      have z2 := box_cell hz 2
      have f0 := box_free hz 0
      have f1 := box_free hz 1
      have f2 := box_free hz 2
      have c0 := box_cell HX.out 0
      have c1 := box_cell HX.out 1
      have c2 := box_cell HX.out 2
      go_wp2_with fail
      have BW : Below w.heap.size w wr := (Below.alloc (Below.refl _ _) (Nat.le_refl _) _).trans (HB.out.mono (by omega))
      have hend := OwnF.setBox (OwnF.setBox (OwnF.setBox (HO.out.mono (base' := w.heap.size) (by omega)) hz 0 (.int .i64 W)) (box_set _ hz) 1 (.int .i64 H)) (box_set _ (box_set _ hz)) 2 (.slice ao (H * (W)) cp)
      obtain ⟨ao', cp', zs', e, hro, his⟩ := (hend.congr (m := H * W) rfl (fun _ _ => rfl)).orow (Nat.le_trans (Nat.mul_le_mul (show H ≤ 24 by omega) (show W ≤ 24 by omega)) (by omega))
      simp only [Value.slice.injEq, true_and] at e
      obtain ⟨rfl, rfl⟩ := e
      refine bodyPost_ret (v := .agg #[.int .i64 W, .int .i64 H, .slice ao (H * (W)) cp]) ?_ rfl ⟨ao, cp, zs', rfl, hro, his, ?_⟩
      · simp [results, Try.results73, go_sem, z0, z1, z2]
      · exact Below.setCell (Below.setCell (Below.setCell BW (by simp) _) (by simp) _) (by simp) _
end Go.Proofs.Ytacdnkpadloheaa
