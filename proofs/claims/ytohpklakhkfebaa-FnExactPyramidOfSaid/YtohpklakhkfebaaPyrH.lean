/-
  A picture of half the size: the specification's walk (from a picture anywhere in memory) and the program's walk.
-/
import Derived.Test.YtohpklakhkfebaaImpl
import Derived.Test.YtohpklakhkfebaaSeq
import Derived.Test.YtohpklakhkfebaaAtO
namespace Go.Proofs.Ytohpklakhkfebaa
open Go.RowKit Go.FL
attribute [local irreducible] Oper.wp in
theorem spec_l02Halve (b o W H : Nat) (a : Option Addr) (len cap : Nat) (zs : List Nat)  (w : World) (c0 : w.cell? ⟨b, o, none⟩ = some (.int .i64 W)) (c1 : w.cell? ⟨b, o + 1, none⟩ = some (.int .i64 H)) (c2 : w.cell? ⟨b, o + 2, none⟩ = some (.slice a len cap)) (h : IsFRow w a len cap zs) (hl : len = W * H) (hW : 1 ≤ W ∧ W ≤ 24) (hH : 1 ≤ H ∧ H ≤ 24) (U V : Nat) (hU : U = (W + 1) / 2) (hV : V = (H + 1) / 2) :
    Calls Try.prog 17 #[.pointer (some ⟨b, o, none⟩)] w (RetQ U V (V * U) ((osXY (U) (fun (x y : Nat) => oop .mul .f32 (ab .f32 1048576000) (oop .add .f32 (oop .add .f32 (oop .add .f32 (ab .f32 (grey zs W H (2 * x) (2 * y))) (ab .f32 (grey zs W H (2 * x + 1) (2 * y)))) (ab .f32 (grey zs W H (2 * x) (2 * y + 1)))) (ab .f32 (grey zs W H (2 * x + 1) (2 * y + 1))))))) w) := by
  have hbw : b < w.heap.size := World.block_lt_of_cell? w _ c0
  have hzl : ∀ z ∈ zs, z < 4294967296 := h.2.2.2.1
  have hzn : zs.length = len := h.1
  have hcap : len ≤ cap := h.2.1
  have hcm : cap ≤ 9223372036854775807 := by have := h.2.2.1; unfold maxLen at this; omega
  have hlen : len ≤ 576 := by rw [hl]; exact Nat.mul_le_mul hW.2 hH.2
  have HH := Lib.hid h
  have HZ := Lib.hid hzl
  have HL := Lib.hid hl
  have HW := Lib.hid hW
  have HHH := Lib.hid hH
  obtain ⟨hW1, hW2⟩ := hW
  obtain ⟨hH1, hH2⟩ := hH
  clear h hzl hl
  obtain ⟨OS, HOE0⟩ : ∃ f : Nat → Nat → Option Nat, f = (fun (x y : Nat) => oop .mul .f32 (ab .f32 1048576000) (oop .add .f32 (oop .add .f32 (oop .add .f32 (ab .f32 (grey zs W H (2 * x) (2 * y))) (ab .f32 (grey zs W H (2 * x + 1) (2 * y)))) (ab .f32 (grey zs W H (2 * x) (2 * y + 1)))) (ab .f32 (grey zs W H (2 * x + 1) (2 * y + 1))))) := ⟨_, rfl⟩
  have HOE := Lib.hid HOE0
  clear HOE0
  rw [show (fun (x y : Nat) => oop .mul .f32 (ab .f32 1048576000) (oop .add .f32 (oop .add .f32 (oop .add .f32 (ab .f32 (grey zs W H (2 * x) (2 * y))) (ab .f32 (grey zs W H (2 * x + 1) (2 * y)))) (ab .f32 (grey zs W H (2 * x) (2 * y + 1)))) (ab .f32 (grey zs W H (2 * x + 1) (2 * y + 1))))) = OS from HOE.out.symm]
  have hUi : ((W : Int) + 1) / 2 = (U : Int) := by omega
  have hVi : ((H : Int) + 1) / 2 = (V : Int) := by omega
  have hU1 : 1 ≤ U := by omega
  have hU2 : U ≤ 24 := by omega
  have hV1 : 1 ≤ V := by omega
  have hV2 : V ≤ 24 := by omega
  clear hU hV
  go_enter Try.func17, Try.ntmps17
  go_wp2_with fail
  refine wp_region_steps (by kernel_rfl) (by kernel_rfl) 14 (by kernel_rfl) (fun _ v => ⟨#[.pointer (some ⟨b, o, none⟩), undef, .pointer (some ⟨w.heap.size, 0, none⟩), v 13, undef, undef, undef, v 0, v 1, v 2, v 3, v 4, v 5, v 6, v 7, v 8, v 9, v 10, v 11, v 12, undef, undef, undef, undef, undef, undef, undef, undef, undef, undef, undef, undef, undef, undef, undef, undef, undef, undef, undef, undef, undef, undef, undef, undef, undef, undef, undef, undef, undef, undef, undef, undef, undef, undef, undef, undef, undef, undef, undef, undef, undef, undef, undef, undef, undef, undef, undef, undef, undef, undef, undef, undef, undef], []⟩)
    (fun WW => Below (w.heap.size + 1) (w.alloc (.cells #[.int .i64 0, .int .i64 0, .slice none 0 0] 29)) WW)
    (fun j WW s => match j with | 0 => s = .pointer (some ⟨b, o, none⟩) | 1 => s = .pointer (some ⟨b, o, none⟩) | 2 => s = .pointer (some ⟨b, o, none⟩) | 3 => s = .int .i64 W | 4 => s = .int .i64 (W + 1) | 5 => s = .int .i64 U | 6 => s = .pointer (some ⟨b, o, none⟩) | 7 => s = .pointer (some ⟨b, o, none⟩) | 8 => s = .pointer (some ⟨b, o + 1, none⟩) | 9 => s = .int .i64 H | 10 => s = .int .i64 (H + 1) | 11 => s = .int .i64 V | 12 => ∃ nb, s = .agg #[.int .i64 U, .int .i64 V, .slice (some ⟨nb, 0, none⟩) 0 0] ∧ OwnF WW (w.heap.size + 1) (.slice (some ⟨nb, 0, none⟩) 0 0) 0 (osXY (U) OS) | 13 => ∃ g, s = .pointer (some ⟨g, 0, none⟩) ∧ (w.heap.size + 1) ≤ g ∧ WW.heap[g]? = some (.cells #[.int .i64 0, .int .i64 0, .slice none 0 0] 29 (0, 0)) | _ => True) ?_ ⟨fun _ => undef, rfl⟩ (Below.refl _ _).drew ?_ ?_
  · intro j WW W2 s hb
    rcases j with _ | _ | _ | _ | _ | _ | _ | _ | _ | _ | _ | _ | _ | _ | j
    · exact id
    · exact id
    · exact id
    · exact id
    · exact id
    · exact id
    · exact id
    · exact id
    · exact id
    · exact id
    · exact id
    · exact id
    · rintro ⟨nb, e, ho⟩
      exact ⟨nb, e, ho.below hb⟩
    · rintro ⟨g, e, hg, hbx⟩
      exact ⟨g, e, hg, (hb.block _ (lt_of_block hbx)).trans hbx⟩
    · exact id
  · intro i o ho hlt2 vals WW hG hd
    rcases i with _ | _ | _ | _ | _ | _ | _ | _ | _ | _ | _ | _ | _ | _ | i
    · refine wpOp_run ho (by cases Option.some.inj ho; rfl) ?_
      cases Option.some.inj ho
      go_simp
      exact ⟨.pointer (some ⟨b, o, none⟩), by simp [upd_at], Below.refl _ _, hG, rfl⟩
    · refine wpOp_run ho (by cases Option.some.inj ho; rfl) ?_
      cases Option.some.inj ho
      have e0 : vals 0 = .pointer (some ⟨b, o, none⟩) := hd ⟨0, .data⟩ (by simp) rfl
      go_simp
      exact ⟨.pointer (some ⟨b, o, none⟩), by simp [upd_at, e0], Below.refl _ _, hG, rfl⟩
    · refine wpOp_run ho (by cases Option.some.inj ho; rfl) ?_
      cases Option.some.inj ho
      have e1 : vals 1 = .pointer (some ⟨b, o, none⟩) := hd ⟨1, .data⟩ (by simp) rfl
      go_simp
      exact ⟨.pointer (some ⟨b, o, none⟩), by simp [upd_at, e1], Below.refl _ _, hG, rfl⟩
    · refine wpOp_run ho (by cases Option.some.inj ho; rfl) ?_
      cases Option.some.inj ho
      have e2 : vals 2 = .pointer (some ⟨b, o, none⟩) := hd ⟨2, .data⟩ (by simp) rfl
      have hcx := (hG.cell (p := ⟨b, o, none⟩) (show b < _ from by omega)).trans (show _ = some (.int .i64 W) from by go_simp)
      go_simp
      exact ⟨.int .i64 W, by simp [upd_at, e2], Below.refl _ _, hG, rfl⟩
    · refine wpOp_run ho (by cases Option.some.inj ho; rfl) ?_
      cases Option.some.inj ho
      have e3 : vals 3 = .int .i64 W := hd ⟨3, .data⟩ (by simp) rfl
      have hv4 : IntKind.i64.wrap ((W : Int) + 1) = W + 1 := by rw [IntKind.wrap_i64]; omega
      go_simp
      exact ⟨.int .i64 (W + 1), by simp [upd_at, e3], Below.refl _ _, hG, rfl⟩
    · refine wpOp_run ho (by cases Option.some.inj ho; rfl) ?_
      cases Option.some.inj ho
      have e4 : vals 4 = .int .i64 (W + 1) := hd ⟨4, .data⟩ (by simp) rfl
      have hv5 : IntKind.i64.wrap (Int.tdiv ((W + 1) : Int) 2) = U := by rw [Int.tdiv_eq_ediv_of_nonneg (by omega), IntKind.wrap_i64]; omega
      go_simp
      exact ⟨.int .i64 U, by simp [upd_at, e4], Below.refl _ _, hG, rfl⟩
    · refine wpOp_run ho (by cases Option.some.inj ho; rfl) ?_
      cases Option.some.inj ho
      go_simp
      exact ⟨.pointer (some ⟨b, o, none⟩), by simp [upd_at], Below.refl _ _, hG, rfl⟩
    · refine wpOp_run ho (by cases Option.some.inj ho; rfl) ?_
      cases Option.some.inj ho
      have e6 : vals 6 = .pointer (some ⟨b, o, none⟩) := hd ⟨6, .data⟩ (by simp) rfl
      go_simp
      exact ⟨.pointer (some ⟨b, o, none⟩), by simp [upd_at, e6], Below.refl _ _, hG, rfl⟩
    · refine wpOp_run ho (by cases Option.some.inj ho; rfl) ?_
      cases Option.some.inj ho
      have e7 : vals 7 = .pointer (some ⟨b, o, none⟩) := hd ⟨7, .data⟩ (by simp) rfl
      go_simp
      exact ⟨.pointer (some ⟨b, o + 1, none⟩), by simp [upd_at, e7], Below.refl _ _, hG, rfl⟩
    · refine wpOp_run ho (by cases Option.some.inj ho; rfl) ?_
      cases Option.some.inj ho
      have e8 : vals 8 = .pointer (some ⟨b, o + 1, none⟩) := hd ⟨8, .data⟩ (by simp) rfl
      have hcx := (hG.cell (p := ⟨b, o + 1, none⟩) (show b < _ from by omega)).trans (show _ = some (.int .i64 H) from by go_simp)
      go_simp
      exact ⟨.int .i64 H, by simp [upd_at, e8], Below.refl _ _, hG, rfl⟩
    · refine wpOp_run ho (by cases Option.some.inj ho; rfl) ?_
      cases Option.some.inj ho
      have e9 : vals 9 = .int .i64 H := hd ⟨9, .data⟩ (by simp) rfl
      have hv10 : IntKind.i64.wrap ((H : Int) + 1) = H + 1 := by rw [IntKind.wrap_i64]; omega
      go_simp
      exact ⟨.int .i64 (H + 1), by simp [upd_at, e9], Below.refl _ _, hG, rfl⟩
    · refine wpOp_run ho (by cases Option.some.inj ho; rfl) ?_
      cases Option.some.inj ho
      have e10 : vals 10 = .int .i64 (H + 1) := hd ⟨10, .data⟩ (by simp) rfl
      have hv11 : IntKind.i64.wrap (Int.tdiv ((H + 1) : Int) 2) = V := by rw [Int.tdiv_eq_ediv_of_nonneg (by omega), IntKind.wrap_i64]; omega
      go_simp
      exact ⟨.int .i64 V, by simp [upd_at, e10], Below.refl _ _, hG, rfl⟩
    · refine wpOp_run ho (by cases Option.some.inj ho; rfl) ?_
      cases Option.some.inj ho
      have e5 : vals 5 = .int .i64 U := hd ⟨5, .data⟩ (by simp) rfl
      have e11 : vals 11 = .int .i64 V := hd ⟨11, .data⟩ (by simp) rfl
      have hc := spec_l02New (U) (V) WW (osXY (U) OS)
      have hsz : (w.heap.size + 1) ≤ WW.heap.size := by have := hG.size; simp at this; omega
      go_simp
      refine hc.mono ?_
      rintro e w' ⟨nb, rfl, ho, hB⟩
      go_simp
      exact ⟨.agg #[.int .i64 U, .int .i64 V, .slice (some ⟨nb, 0, none⟩) 0 0], by simp [upd_at, e5, e11], hB, hG.trans (hB.mono (by have := hG.size; simp at this; omega)), nb, rfl, ho.mono hsz⟩
    · refine wpOp_run ho (by cases Option.some.inj ho; rfl) ?_
      cases Option.some.inj ho
      have hB : Below WW.heap.size WW (WW.alloc (.cells #[.int .i64 0, .int .i64 0, .slice none 0 0] 29)) := Below.alloc (Below.refl _ _) (Nat.le_refl _) _
      have hsz : (w.heap.size + 1) ≤ WW.heap.size := by have := hG.size; simp at this; omega
      go_simp
      exact ⟨.pointer (some ⟨WW.heap.size, 0, none⟩), by simp [upd_at], hB, hG.trans (hB.mono (by have := hG.size; simp at this; omega)), WW.heap.size, rfl, hsz, heap_alloc_new WW _⟩
    · omega
  intro vals w2 hG hR
  obtain ⟨nb, e8, ho2⟩ := (show ∃ nb, vals 12 = .agg #[.int .i64 U, .int .i64 V, .slice (some ⟨nb, 0, none⟩) 0 0] ∧ OwnF w2 (w.heap.size + 1) (.slice (some ⟨nb, 0, none⟩) 0 0) 0 (osXY (U) OS) from hR 12 (by omega))
  obtain ⟨g, e9, hg, hgb⟩ := (show ∃ g, vals 13 = .pointer (some ⟨g, 0, none⟩) ∧ (w.heap.size + 1) ≤ g ∧ w2.heap[g]? = some (.cells #[.int .i64 0, .int .i64 0, .slice none 0 0] 29 (0, 0)) from hR 13 (by omega))
  refine wpOp_run rfl rfl ?_
  have x0 := box_cell hgb 0
  have x1 := box_cell hgb 1
  have x2 := box_cell hgb 2
  have y0 := box_free hgb 0
  have y1 := box_free hgb 1
  have y2 := box_free hgb 2
  have HGB := Lib.hid (box_set (i := 2) (cs := #[.int .i64 U, .int .i64 V, .slice none 0 0]) (.slice (some ⟨nb, 0, none⟩) 0 0) (box_set (i := 1) (cs := #[.int .i64 U, .int .i64 0, .slice none 0 0]) (.int .i64 V) (box_set (i := 0) (.int .i64 U) hgb)))
  have HGO := Lib.hid (OwnF.setBox (OwnF.setBox (OwnF.setBox ho2 hgb 0 (.int .i64 U)) (box_set _ hgb) 1 (.int .i64 V)) (box_set _ (box_set _ hgb)) 2 (.slice (some ⟨nb, 0, none⟩) 0 0))
  have HBB := Lib.hid (Below.setCell (Below.setCell (Below.setCell hG hg (p := ⟨g, 0, none⟩) (.int .i64 U)) hg (p := ⟨g, 1, none⟩) (.int .i64 V)) hg (p := ⟨g, 2, none⟩) (.slice (some ⟨nb, 0, none⟩) 0 0))
  have k0 : w2.cell? ⟨b, o, none⟩ = some (.int .i64 W) := (hG.cell (p := ⟨b, o, none⟩) (show b < _ from by omega)).trans (by go_simp)
  have k1 : w2.cell? ⟨b, o + 1, none⟩ = some (.int .i64 H) := (hG.cell (p := ⟨b, o + 1, none⟩) (show b < _ from by omega)).trans (by go_simp)
  have k2 : w2.cell? ⟨b, o + 2, none⟩ = some (.slice a len cap) := (hG.cell (p := ⟨b, o + 2, none⟩) (show b < _ from by omega)).trans (by go_simp)
  have hgb' : b ≠ g := by omega
  clear hR hG hgb ho2
  go_simp
  go_wp2_with fail
  go_loopw [4] (fun i wr => ∃ y : Nat, ∃ v, y ≤ V ∧ i = .int .i64 y ∧ wr.heap[g]? = some (.cells #[.int .i64 U, .int .i64 V, v] 29 (0, 0)) ∧ OwnF wr (w.heap.size + 1) v (y * (U)) (osXY (U) OS) ∧ Below (w.heap.size + 1) (w.alloc (.cells #[.int .i64 0, .int .i64 0, .slice none 0 0] 29)) wr) (fun i _ => V - (intOf i).toNat)
  case atStart => exact ⟨0, _, by omega, rfl, HGB.out, HGO.out.congr (by simp) (fun _ _ => rfl), HBB.out⟩
  case round =>
    clear k0 k1 k2
    obtain ⟨y, v, hy, rfl, hbx, ho, hb⟩ := hrel
    obtain ⟨ao, cp, rfl⟩ := ho.shape
    have k0 : wr.cell? ⟨b, o, none⟩ = some (.int .i64 W) := (hb.cell (p := ⟨b, o, none⟩) (show b < _ from by omega)).trans (by go_simp)
    have k1 : wr.cell? ⟨b, o + 1, none⟩ = some (.int .i64 H) := (hb.cell (p := ⟨b, o + 1, none⟩) (show b < _ from by omega)).trans (by go_simp)
    have k2 : wr.cell? ⟨b, o + 2, none⟩ = some (.slice a len cap) := (hb.cell (p := ⟨b, o + 2, none⟩) (show b < _ from by omega)).trans (by go_simp)
    have ob0 := box_cell hbx 0
    have ob1 := box_cell hbx 1
    have HO := Lib.hid ho
    have HB := Lib.hid hb
    have HX := Lib.hid hbx
    clear ho hb hbx
    by_cases hlt : y < V
    · go_wp2_with fail
      go_loopw [5] (fun i wr => ∃ x : Nat, ∃ v, x ≤ U ∧ i = .int .i64 x ∧ wr.heap[g]? = some (.cells #[.int .i64 U, .int .i64 V, v] 29 (0, 0)) ∧ OwnF wr (w.heap.size + 1) v (y * (U) + x) (osXY (U) OS) ∧ Below (w.heap.size + 1) (w.alloc (.cells #[.int .i64 0, .int .i64 0, .slice none 0 0] 29)) wr) (fun i _ => U - (intOf i).toNat)
      case atStart => exact ⟨0, _, by omega, rfl, HX.out, HO.out, HB.out⟩
      case round =>
        clear HX HO HB ob0 ob1 ao cp k0 k1 k2
        obtain ⟨x, v, hx, rfl, hbx, ho, hb⟩ := hrel
        obtain ⟨ao, cp, rfl⟩ := ho.shape
        have k0 : wr.cell? ⟨b, o, none⟩ = some (.int .i64 W) := (hb.cell (p := ⟨b, o, none⟩) (show b < _ from by omega)).trans (by go_simp)
        have k1 : wr.cell? ⟨b, o + 1, none⟩ = some (.int .i64 H) := (hb.cell (p := ⟨b, o + 1, none⟩) (show b < _ from by omega)).trans (by go_simp)
        have k2 : wr.cell? ⟨b, o + 2, none⟩ = some (.slice a len cap) := (hb.cell (p := ⟨b, o + 2, none⟩) (show b < _ from by omega)).trans (by go_simp)
        have ob0 := box_cell hbx 0
        have ob1 := box_cell hbx 1
        have HO := Lib.hid ho
        have HB := Lib.hid hb
        have HX := Lib.hid hbx
        clear ho hb hbx
        by_cases hlx : x < U
        · have hn : (y * (U) + x) ≤ 1000 := by
            have h1 : y * (U) ≤ 24 * 24 := Nat.mul_le_mul (by omega) (by omega)
            omega
          have HOS : RowKit.Hid ((osXY (U) OS) (y * (U) + x) = _) := Lib.hid ((osXY_at (os := OS) hlx).trans (congrFun (congrFun HOE.out x) y))
          have BRW : Below w.heap.size w wr := (Below.alloc (Below.refl _ _) (Nat.le_refl _) _).trans (HB.out.mono (by omega))
          have hsr : (w.heap.size + 1) ≤ wr.heap.size := by have := HB.out.size; simp at this; omega
          have ob2 := box_cell HX.out 2
          go_wp2_with (first | (at_builtin; refine wpList_append1 rfl (.tmp 66) (.tmp 69) rfl rfl rfl (HO.out.below (by repeat (first | exact Below.refl _ _ | refine Below.setCell ?_ (by first | (simp; done) | (simp; omega)) _ | refine Below.trans ?_ (Below.mono (by assumption) (by first | (simp; done) | (simp; omega))) | refine Below.alloc ?_ (by first | (simp; done) | (simp; omega)) _ | refine Below.alloc ?_ (Nat.le_refl _) _ | refine below_drewN ?_ _))) (by first | omega | (simp; done) | (simp; omega)) hn (by go_simp; rfl) (by have g5 := g4; rw [g3.ab, g2.ab, g1.ab] at g5; rw [HOS.out]; exact g5) ?_; intro v' w' h7 hgr; obtain ⟨hxn, hbn⟩ := own_step HO.out (by repeat (first | exact Below.refl _ _ | refine Below.setCell ?_ (by first | (simp; done) | (simp; omega)) _ | refine Below.trans ?_ (Below.mono (by assumption) (by first | (simp; done) | (simp; omega))) | refine Below.alloc ?_ (by first | (simp; done) | (simp; omega)) _ | refine Below.alloc ?_ (Nat.le_refl _) _ | refine below_drewN ?_ _)) hgr HX.out HB.out (by first | (simp; done) | (simp; omega)); obtain ⟨a7, c7, rfl⟩ := h7.shape; have hcx := box_cell hxn 2; have hfx := box_free hxn 2) | (go_at_call 30; refine (spec_l02AtO b o W H _ _ a len cap zs _ (by go_simp) (by go_simp) (by go_simp) (IsFRow.below HH.out (BRW.trans (by repeat (first | exact Below.refl _ _ | refine Below.setCell ?_ (by first | (simp; done) | (simp; omega)) _ | refine Below.trans ?_ (Below.mono (by assumption) (by first | (simp; done) | (simp; omega))) | refine Below.alloc ?_ (by first | (simp; done) | (simp; omega)) _ | refine Below.alloc ?_ (Nat.le_refl _) _ | refine below_drewN ?_ _)))) HL.out HW.out HHH.out).mono ?_; rintro e w' ⟨q, rfl, rfl⟩) | ((fail_if_success (have := g1)); refine wpList_arith _ _ _ _ _ rfl rfl _ _ _ rfl rfl rfl ?_; intro r1 n1 g1) | ((fail_if_success (have := g2)); refine wpList_arith _ _ _ _ _ rfl rfl _ _ _ rfl rfl rfl ?_; intro r2 n2 g2) | ((fail_if_success (have := g3)); refine wpList_arith _ _ _ _ _ rfl rfl _ _ _ rfl rfl rfl ?_; intro r3 n3 g3) | ((fail_if_success (have := g4)); refine wpList_arith _ _ _ _ _ rfl rfl _ _ _ rfl rfl rfl ?_; intro r4 n4 g4))
          go_roundw
          case rel => exact ⟨x + 1, .slice a7 ((y * (U) + x) + 1) c7, by omega, rfl, box_set (i := 2) (.slice a7 ((y * (U) + x) + 1) c7) hxn, h7.setBox hxn _ _, Below.setCell hbn (by omega) _⟩
          case measure => simp [intOf]; omega
        · have hxe : x = U := by omega
          go_wp2_with fail
          go_roundw
          case rel => exact ⟨y + 1, _, by omega, rfl, HX.out, HO.out.congr (by rw [hxe, Nat.succ_mul]) (fun _ _ => rfl), HB.out⟩
          case measure => simp [intOf]; omega
    · obtain rfl : V = y := by omega
      have hz : wr.heap[w.heap.size]? = some (.cells #[.int .i64 0, .int .i64 0, .slice none 0 0] 29 (0, 0)) := (HB.out.block (w.heap.size) (by omega)).trans (heap_alloc_new w _)
      have z0 := box_cell hz 0
      have z1 := box_cell hz 1
      have z2 := box_cell hz 2
      have f0 := box_free hz 0
      have f1 := box_free hz 1
      have f2 := box_free hz 2
      have c0 := box_cell HX.out 0
      have c1 := box_cell HX.out 1
      have c2 := box_cell HX.out 2
      go_wp2_with fail
      have BW : Below w.heap.size w wr := (Below.alloc (Below.refl _ _) (Nat.le_refl _) _).trans (HB.out.mono (by omega))
      have hend := OwnF.setBox (OwnF.setBox (OwnF.setBox (HO.out.mono (base' := w.heap.size) (by omega)) hz 0 (.int .i64 U)) (box_set _ hz) 1 (.int .i64 V)) (box_set _ (box_set _ hz)) 2 (.slice ao (V * (U)) cp)
      obtain ⟨ao', cp', zs', e, hro, his⟩ := (hend.congr (m := V * U) rfl (fun _ _ => rfl)).orow (Nat.le_trans (Nat.mul_le_mul (show V ≤ 24 by omega) (show U ≤ 24 by omega)) (by omega))
      simp only [Value.slice.injEq, true_and] at e
      obtain ⟨rfl, rfl⟩ := e
      refine bodyPost_ret (v := .agg #[.int .i64 U, .int .i64 V, .slice ao (V * (U)) cp]) ?_ rfl ⟨ao, cp, zs', rfl, hro, his, ?_⟩
      · simp [results, Try.results17, go_sem, z0, z1, z2]
      · exact Below.setCell (Below.setCell (Below.setCell BW (by simp) _) (by simp) _) (by simp) _

theorem impl_halfUp (n U : Nat) (h : ((n : Int) + 1) / 2 = (U : Int)) (hn : n ≤ 24) (w : World) : Calls Try.prog 34 #[.int .i64 n] w fun e w' => e = .returned (.int .i64 U) ∧ w = w' := by
  go_enter Try.func34, Try.ntmps34
  go_wp2
  go_ret
  exact ⟨by rw [← h]; rfl, rfl⟩
theorem halved_clos (b W H : Nat) (a : Option Addr) (len cap : Nat) (zs : List Nat)   (w : World) (c0 : w.cell? ⟨b, 0, none⟩ = some (.int .i64 W)) (c1 : w.cell? ⟨b, 1, none⟩ = some (.int .i64 H)) (c2 : w.cell? ⟨b, 2, none⟩ = some (.slice a len cap))
    (hr : IsFRow w a len cap zs) (hl : len = W * H) (hW : 1 ≤ W ∧ W ≤ 24) (hH : 1 ≤ H ∧ H ≤ 24) (U V : Nat) (hU2 : U ≤ 24) (hV2 : V ≤ 24)  (x y : Nat) (hx : x < U) (hy : y < V) :
    Calls Try.prog 35 #[.int .i64 x, .int .i64 y, .pointer (some ⟨b, 0, none⟩)] w (RetF .f32 ((fun (x y : Nat) => oop .quo .f32 (oop .add .f32 (oop .add .f32 (oop .add .f32 (ab .f32 (grey zs W H (2 * x) (2 * y))) (ab .f32 (grey zs W H (2 * x + 1) (2 * y)))) (ab .f32 (grey zs W H (2 * x) (2 * y + 1)))) (ab .f32 (grey zs W H (2 * x + 1) (2 * y + 1)))) (ab .f32 1082130432)) x y) w) := by
  have _hx := hx
  have _hy := hy
  have HR := Lib.hid hr
  have HL := Lib.hid hl
  have HW := Lib.hid hW
  have HH := Lib.hid hH
  have hzl : ∀ z ∈ zs, z < 4294967296 := hr.2.2.2.1
  obtain ⟨hW1, hW2⟩ := hW
  obtain ⟨hH1, hH2⟩ := hH
  clear hr hl
  go_enter Try.func35, Try.ntmps35
  go_wp2_with (first | (go_at_call 23; refine (impl_about b W H _ _ a len cap zs _ (by go_simp) (by go_simp) (by go_simp) (IsFRow.below HR.out (by repeat (first | exact Below.refl _ _ | refine Below.setCell ?_ (by first | (simp; done) | (simp; omega)) _ | refine Below.trans ?_ (Below.mono (by assumption) (by first | (simp; done) | (simp; omega))) | refine Below.alloc ?_ (by first | (simp; done) | (simp; omega)) _ | refine Below.alloc ?_ (Nat.le_refl _) _ | refine below_drewN ?_ _))) HL.out HW.out HH.out).mono ?_; rintro e w' ⟨q, rfl, rfl⟩) | ((fail_if_success (have := g1)); refine wpList_arith _ _ _ _ _ rfl rfl _ _ _ rfl rfl rfl ?_; intro r1 n1 g1) | ((fail_if_success (have := g2)); refine wpList_arith _ _ _ _ _ rfl rfl _ _ _ rfl rfl rfl ?_; intro r2 n2 g2) | ((fail_if_success (have := g3)); refine wpList_arith _ _ _ _ _ rfl rfl _ _ _ rfl rfl rfl ?_; intro r3 n3 g3) | ((fail_if_success (have := g4)); refine wpList_arith _ _ _ _ _ rfl rfl _ _ _ rfl rfl rfl ?_; intro r4 n4 g4))
  go_ret
  rw [g1.ab] at g2
  rw [g2.ab] at g3
  rw [g3.ab] at g4
  exact RetF.mk _ g4
attribute [local irreducible] Oper.wp in
theorem impl_halved (W H : Nat) (a : Option Addr) (len cap : Nat) (zs : List Nat) (w : World) (h : IsFRow w a len cap zs) (hl : len = W * H) (hW : 1 ≤ W ∧ W ≤ 24) (hH : 1 ≤ H ∧ H ≤ 24) (U V : Nat) (hU : U = (W + 1) / 2) (hV : V = (H + 1) / 2) :
    Calls Try.prog 24 #[.agg #[.int .i64 W, .int .i64 H, .slice a len cap]] w (RetQ U V (V * U) (osXY U (fun (x y : Nat) => oop .quo .f32 (oop .add .f32 (oop .add .f32 (oop .add .f32 (ab .f32 (grey zs W H (2 * x) (2 * y))) (ab .f32 (grey zs W H (2 * x + 1) (2 * y)))) (ab .f32 (grey zs W H (2 * x) (2 * y + 1)))) (ab .f32 (grey zs W H (2 * x + 1) (2 * y + 1)))) (ab .f32 1082130432))) w) := by
  have HR := Lib.hid h
  have HL := Lib.hid hl
  have HW := Lib.hid hW
  have HH := Lib.hid hH
  obtain ⟨hW1, hW2⟩ := hW
  obtain ⟨hH1, hH2⟩ := hH
  have hUi : ((W : Int) + 1) / 2 = (U : Int) := by omega
  have hVi : ((H : Int) + 1) / 2 = (V : Int) := by omega
  have hU1 : 1 ≤ U := by omega
  have hU2 : U ≤ 24 := by omega
  have hV1 : 1 ≤ V := by omega
  have hV2 : V ≤ 24 := by omega
  clear hU hV
  have HUI := Lib.hid hUi
  have HVI := Lib.hid hVi
  clear h hl hUi hVi
  have hmf : ∀ (fn : Fn) (first cap : Array Value) (w : World), (Instr.makeFunc fn first cap).run Try.prog w = .ok (.func fn first cap) w := fun _ _ _ _ => rfl
  have BA : Below w.heap.size w ((w.alloc (.cells #[.int .i64 W, .int .i64 H, .slice a len cap] 29)).alloc (.cells #[.int .i64 0, .int .i64 0, .slice none 0 0] 29)) := (by repeat (first | exact Below.refl _ _ | refine Below.setCell ?_ (by first | (simp; done) | (simp; omega)) _ | refine Below.trans ?_ (Below.mono (by assumption) (by first | (simp; done) | (simp; omega))) | refine Below.alloc ?_ (by first | (simp; done) | (simp; omega)) _ | refine Below.alloc ?_ (Nat.le_refl _) _ | refine below_drewN ?_ _))
  go_enter Try.func24, Try.ntmps24
  go_wp2_with fail
  refine wp_region_steps (by kernel_rfl) (by kernel_rfl) 8 (by kernel_rfl) (fun _ v => ⟨#[.agg #[.int .i64 W, .int .i64 H, .slice a len cap], .pointer (some ⟨w.heap.size, 0, none⟩), .pointer (some ⟨w.heap.size + 1, 0, none⟩), v 0, v 1, v 2, v 3, v 4, v 5, v 6, v 7], []⟩)
    (fun WW => Below (w.heap.size + 2) ((w.alloc (.cells #[.int .i64 W, .int .i64 H, .slice a len cap] 29)).alloc (.cells #[.int .i64 0, .int .i64 0, .slice none 0 0] 29)) WW)
    (fun j WW s => match j with | 0 => s = .pointer (some ⟨w.heap.size, 0, none⟩) | 1 => s = .int .i64 W | 2 => s = .int .i64 U | 3 => s = .pointer (some ⟨w.heap.size, 1, none⟩) | 4 => s = .int .i64 H | 5 => s = .int .i64 V | 6 => s = .func (.func 35) #[] #[.pointer (some ⟨w.heap.size, 0, none⟩)] | 7 => ∃ ao c, s = .agg #[.int .i64 U, .int .i64 V, .slice ao (V * U) c] ∧ OwnF WW (w.heap.size + 2) (.slice ao (V * U) c) (V * U) (osXY U (fun (x y : Nat) => oop .quo .f32 (oop .add .f32 (oop .add .f32 (oop .add .f32 (ab .f32 (grey zs W H (2 * x) (2 * y))) (ab .f32 (grey zs W H (2 * x + 1) (2 * y)))) (ab .f32 (grey zs W H (2 * x) (2 * y + 1)))) (ab .f32 (grey zs W H (2 * x + 1) (2 * y + 1)))) (ab .f32 1082130432))) | _ => True) ?_ ⟨fun _ => undef, rfl⟩ (Below.refl _ _).drew ?_ ?_
  · intro j WW W2 s hb
    rcases j with _ | _ | _ | _ | _ | _ | _ | _ | j
    · exact id
    · exact id
    · exact id
    · exact id
    · exact id
    · exact id
    · exact id
    · rintro ⟨ao, c, e, ho⟩
      exact ⟨ao, c, e, ho.below hb⟩
    · exact id
  · intro i o ho hlt2 vals WW hG hd
    rcases i with _ | _ | _ | _ | _ | _ | _ | _ | i
    · refine wpOp_run ho (by cases Option.some.inj ho; rfl) ?_
      cases Option.some.inj ho
      go_simp
      exact ⟨.pointer (some ⟨w.heap.size, 0, none⟩), by simp [upd_at], Below.refl _ _, hG, rfl⟩
    · refine wpOp_run ho (by cases Option.some.inj ho; rfl) ?_
      cases Option.some.inj ho
      have e0 : vals 0 = .pointer (some ⟨w.heap.size, 0, none⟩) := hd ⟨0, .data⟩ (by simp) rfl
      have hcx := (hG.cell (p := ⟨w.heap.size, 0, none⟩) (by simp)).trans (show _ = some (.int .i64 W) from by go_simp)
      go_simp
      exact ⟨.int .i64 W, by simp [upd_at, e0], Below.refl _ _, hG, rfl⟩
    · refine wpOp_run ho (by cases Option.some.inj ho; rfl) ?_
      cases Option.some.inj ho
      have e1 : vals 1 = .int .i64 W := hd ⟨1, .data⟩ (by simp) rfl
      have hc := impl_halfUp W U HUI.out (by omega) WW
      go_simp
      refine hc.mono ?_
      rintro e w' ⟨rfl, rfl⟩
      go_simp
      exact ⟨.int .i64 U, by simp [upd_at, e1], Below.refl _ _, hG, rfl⟩
    · refine wpOp_run ho (by cases Option.some.inj ho; rfl) ?_
      cases Option.some.inj ho
      go_simp
      exact ⟨.pointer (some ⟨w.heap.size, 1, none⟩), by simp [upd_at], Below.refl _ _, hG, rfl⟩
    · refine wpOp_run ho (by cases Option.some.inj ho; rfl) ?_
      cases Option.some.inj ho
      have e3 : vals 3 = .pointer (some ⟨w.heap.size, 1, none⟩) := hd ⟨3, .data⟩ (by simp) rfl
      have hcx := (hG.cell (p := ⟨w.heap.size, 1, none⟩) (by simp)).trans (show _ = some (.int .i64 H) from by go_simp)
      go_simp
      exact ⟨.int .i64 H, by simp [upd_at, e3], Below.refl _ _, hG, rfl⟩
    · refine wpOp_run ho (by cases Option.some.inj ho; rfl) ?_
      cases Option.some.inj ho
      have e4 : vals 4 = .int .i64 H := hd ⟨4, .data⟩ (by simp) rfl
      have hc := impl_halfUp H V HVI.out (by omega) WW
      go_simp
      refine hc.mono ?_
      rintro e w' ⟨rfl, rfl⟩
      go_simp
      exact ⟨.int .i64 V, by simp [upd_at, e4], Below.refl _ _, hG, rfl⟩
    · refine wpOp_run ho (by cases Option.some.inj ho; rfl) ?_
      cases Option.some.inj ho
      go_simp
      exact ⟨_, rfl, Below.refl _ _, hG, rfl⟩
    · refine wpOp_run ho (by cases Option.some.inj ho; rfl) ?_
      cases Option.some.inj ho
      have e2 : vals 2 = .int .i64 U := hd ⟨2, .data⟩ (by simp) rfl
      have e5 : vals 5 = .int .i64 V := hd ⟨5, .data⟩ (by simp) rfl
      have e6 : vals 6 = .func (.func 35) #[] #[.pointer (some ⟨w.heap.size, 0, none⟩)] := hd ⟨6, .data⟩ (by simp) rfl
      have hk : ∀ args W', (callFunc 35 args).run Try.prog W' = .ok (.enter 35 args) W' := fun args W' => by go_simp
      have hsz : w.heap.size + 2 ≤ WW.heap.size := by have := hG.size; simp at this; omega
      have hf : ∀ x y : Nat, x < U → y < V → ∀ w', Below WW.heap.size WW w' → Calls Try.prog 35 (#[.int .i64 x, .int .i64 y] ++ #[.pointer (some ⟨w.heap.size, 0, none⟩)]) w' (RetF .f32 ((fun (x y : Nat) => oop .quo .f32 (oop .add .f32 (oop .add .f32 (oop .add .f32 (ab .f32 (grey zs W H (2 * x) (2 * y))) (ab .f32 (grey zs W H (2 * x + 1) (2 * y)))) (ab .f32 (grey zs W H (2 * x) (2 * y + 1)))) (ab .f32 (grey zs W H (2 * x + 1) (2 * y + 1)))) (ab .f32 1082130432)) x y) w') := by
        intro x y hx hy w' hb
        have hG2 := hG.trans (hb.mono hsz)
        exact halved_clos w.heap.size W H a len cap zs w' ((hG2.cell (p := ⟨w.heap.size, 0, none⟩) (by simp)).trans (by go_simp)) ((hG2.cell (p := ⟨w.heap.size, 1, none⟩) (by simp)).trans (by go_simp)) ((hG2.cell (p := ⟨w.heap.size, 2, none⟩) (by simp)).trans (by go_simp)) (IsFRow.below HR.out (BA.trans (hG2.mono (by omega)))) HL.out HW.out HH.out U V hU2 hV2 x y hx hy
      have hc := impl_made U V hU2 hV2 35 #[.pointer (some ⟨w.heap.size, 0, none⟩)] (fun (x y : Nat) => oop .quo .f32 (oop .add .f32 (oop .add .f32 (oop .add .f32 (ab .f32 (grey zs W H (2 * x) (2 * y))) (ab .f32 (grey zs W H (2 * x + 1) (2 * y)))) (ab .f32 (grey zs W H (2 * x) (2 * y + 1)))) (ab .f32 (grey zs W H (2 * x + 1) (2 * y + 1)))) (ab .f32 1082130432)) WW hk hf
      clear hk hf
      go_simp
      refine hc.mono ?_
      rintro e w' ⟨v, rfl, ho, hB⟩
      obtain ⟨ao, c, rfl⟩ := ho.shape
      go_simp
      exact ⟨.agg #[.int .i64 U, .int .i64 V, .slice ao (V * U) c], by simp [upd_at, e2, e5, e6], hB, hG.trans (hB.mono (by have := hG.size; simp at this; omega)), ao, c, rfl, ho.mono hsz⟩
    · omega
  intro vals w2 hG hR
  obtain ⟨ao, c, e7, ho⟩ := (show ∃ ao c, vals 7 = .agg #[.int .i64 U, .int .i64 V, .slice ao (V * U) c] ∧ OwnF w2 (w.heap.size + 2) (.slice ao (V * U) c) (V * U) (osXY U (fun (x y : Nat) => oop .quo .f32 (oop .add .f32 (oop .add .f32 (oop .add .f32 (ab .f32 (grey zs W H (2 * x) (2 * y))) (ab .f32 (grey zs W H (2 * x + 1) (2 * y)))) (ab .f32 (grey zs W H (2 * x) (2 * y + 1)))) (ab .f32 (grey zs W H (2 * x + 1) (2 * y + 1)))) (ab .f32 1082130432))) from hR 7 (by omega))
  refine wpOp_run rfl rfl ?_
  have hz : w2.heap[w.heap.size + 1]? = some (.cells #[.int .i64 0, .int .i64 0, .slice none 0 0] 29 (0, 0)) := (hG.block (w.heap.size + 1) (by omega)).trans (by have h := heap_alloc_new (w.alloc (.cells #[.int .i64 W, .int .i64 H, .slice a len cap] 29)) (.cells #[.int .i64 0, .int .i64 0, .slice none 0 0] 29); rw [show (w.alloc (.cells #[.int .i64 W, .int .i64 H, .slice a len cap] 29)).heap.size = w.heap.size + 1 from by simp] at h; exact h)
  have z0 := box_cell hz 0
  have z1 := box_cell hz 1
  have z2 := box_cell hz 2
  have f0 := box_free hz 0
  have f1 := box_free hz 1
  have f2 := box_free hz 2
  have HO := Lib.hid ho
  have HB := Lib.hid (BA.trans (hG.mono (by omega)))
  clear hR ho hG BA
  go_simp
  go_wp2_with fail
  have hend := OwnF.setBox (OwnF.setBox (OwnF.setBox (HO.out.mono (base' := w.heap.size) (by omega)) hz 0 (.int .i64 U)) (box_set _ hz) 1 (.int .i64 V)) (box_set _ (box_set _ hz)) 2 (.slice ao (V * U) c)
  obtain ⟨ao', cp', zs', e, hro, his⟩ := hend.orow (Nat.le_trans (Nat.mul_le_mul hV2 hU2) (by omega))
  simp only [Value.slice.injEq, true_and] at e
  obtain ⟨rfl, rfl⟩ := e
  refine bodyPost_ret (v := .agg #[.int .i64 U, .int .i64 V, .slice ao (V * U) c]) ?_ rfl ⟨ao, c, zs', rfl, hro, his, Below.setCell (Below.setCell (Below.setCell HB.out (by simp) _) (by simp) _) (by simp) _⟩
  simp [results, Try.results24, go_sem, z0, z1, z2]
end Go.Proofs.Ytohpklakhkfebaa
