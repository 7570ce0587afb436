/-
  BoxPicture of a picture: the specification's walk, the program's walk, that they agree, and the law's walk.
-/
import Derived.Test.YtacdnkpadloheaaImpl
import Derived.Test.YtacdnkpadloheaaSeq
namespace Go.Proofs.Ytacdnkpadloheaa
open Go.RowKit Go.FL
/-- the sum of a row of a window -/
def bRow (zs : List Nat) (W H : Nat) (x0 v : Int) (acc : Option Nat) : Nat → Option Nat
  | 0 => acc
  | j + 1 => oop .add .f32 (bRow zs W H x0 v acc j) (ab .f32 (grey zs W H (x0 + j) v))
/-- the sum of a window -/
def bAll (zs : List Nat) (W H : Nat) (x y rc : Int) : Nat → Option Nat
  | 0 => ab .f32 0
  | i + 1 => bRow zs W H (x - rc) (y - rc + i) (bAll zs W H x y rc i) (2 * rc + 1).toNat
set_option maxHeartbeats 1000000 in
attribute [local irreducible] Oper.wp in
theorem spec_l02Box (b W H : Nat) (a : Option Addr) (len cap : Nat) (zs : List Nat) (rc : Int) (w : World) (c0 : w.cell? ⟨b, 0, none⟩ = some (.int .i64 W)) (c1 : w.cell? ⟨b, 1, none⟩ = some (.int .i64 H)) (c2 : w.cell? ⟨b, 2, none⟩ = some (.slice a len cap)) (h : IsFRow w a len cap zs) (hl : len = W * H) (hW : 1 ≤ W ∧ W ≤ 24) (hH : 1 ≤ H ∧ H ≤ 24) (hb1 : 0 ≤ rc) (hb2 : rc ≤ 3) :
    Calls Try.prog 69 #[.pointer (some ⟨b, 0, none⟩), .int .i64 rc] w (RetQ W H (H * W) ((osXY (W) (fun (x y : Nat) => oop .quo .f32 (bAll zs W H x y rc (2 * rc + 1).toNat) (ab .f32 (floatOfInt .f32 ((2 * rc + 1) * (2 * rc + 1))))))) w) := by
  have hbw : b < w.heap.size := World.block_lt_of_cell? w _ c0
  have hzl : ∀ z ∈ zs, z < 4294967296 := h.2.2.2.1
  have hzn : zs.length = len := h.1
  have hcap : len ≤ cap := h.2.1
  have hcm : cap ≤ 9223372036854775807 := by have := h.2.2.1; unfold maxLen at this; omega
  have hlen : len ≤ 576 := by rw [hl]; exact Nat.mul_le_mul hW.2 hH.2
  have HH := Lib.hid h
  have HZ := Lib.hid hzl
  have HL := Lib.hid hl
  have HW := Lib.hid hW
  have HHH := Lib.hid hH
  obtain ⟨hW1, hW2⟩ := hW
  obtain ⟨hH1, hH2⟩ := hH
  clear h hzl hl
  obtain ⟨OS, HOE0⟩ : ∃ f : Nat → Nat → Option Nat, f = (fun (x y : Nat) => oop .quo .f32 (bAll zs W H x y rc (2 * rc + 1).toNat) (ab .f32 (floatOfInt .f32 ((2 * rc + 1) * (2 * rc + 1))))) := ⟨_, rfl⟩
  have HOE := Lib.hid HOE0
  clear HOE0
  rw [show (fun (x y : Nat) => oop .quo .f32 (bAll zs W H x y rc (2 * rc + 1).toNat) (ab .f32 (floatOfInt .f32 ((2 * rc + 1) * (2 * rc + 1))))) = OS from HOE.out.symm]
  have hww := (show IntKind.i64.wrap ((2 * rc + 1) * (2 * rc + 1)) = (2 * rc + 1) * (2 * rc + 1) from by rcases (show rc = 0 ∨ rc = 1 ∨ rc = 2 ∨ rc = 3 by omega) with rfl | rfl | rfl | rfl <;> decide)
  go_enter Try.func69, Try.ntmps69
  go_wp2_with fail
  refine wp_region_steps (by kernel_rfl) (by kernel_rfl) 10 (by kernel_rfl) (fun _ v => ⟨#[.pointer (some ⟨b, 0, none⟩), .int .i64 rc, undef, undef, .pointer (some ⟨w.heap.size, 0, none⟩), v 9, undef, undef, undef, undef, undef, undef, v 0, v 1, v 2, v 3, v 4, v 5, v 6, v 7, v 8, undef, undef, undef, undef, undef, undef, undef, undef, undef, undef, undef, undef, undef, undef, undef, undef, undef, undef, undef, undef, undef, undef, undef, undef, undef, undef, undef, undef, undef, undef, undef, undef, undef, undef, undef, undef, undef, undef, undef, undef, undef, undef, undef, undef, undef, undef, undef, undef, undef, undef, undef, undef, undef, undef, undef, undef, undef, undef, undef], []⟩)
    (fun WW => Below (w.heap.size + 1) (w.alloc (.cells #[.int .i64 0, .int .i64 0, .slice none 0 0] 26)) WW)
    (fun j WW s => match j with | 0 => s = .pointer (some ⟨b, 0, none⟩) | 1 => s = .pointer (some ⟨b, 0, none⟩) | 2 => s = .pointer (some ⟨b, 0, none⟩) | 3 => s = .int .i64 W | 4 => s = .pointer (some ⟨b, 0, none⟩) | 5 => s = .pointer (some ⟨b, 0, none⟩) | 6 => s = .pointer (some ⟨b, 1, none⟩) | 7 => s = .int .i64 H | 8 => ∃ nb, s = .agg #[.int .i64 W, .int .i64 H, .slice (some ⟨nb, 0, none⟩) 0 0] ∧ OwnF WW (w.heap.size + 1) (.slice (some ⟨nb, 0, none⟩) 0 0) 0 (osXY (W) OS) | 9 => ∃ g, s = .pointer (some ⟨g, 0, none⟩) ∧ (w.heap.size + 1) ≤ g ∧ WW.heap[g]? = some (.cells #[.int .i64 0, .int .i64 0, .slice none 0 0] 26 (0, 0)) | _ => True) ?_ ⟨fun _ => undef, rfl⟩ (Below.refl _ _).drew ?_ ?_
  · intro j WW W2 s hb
    rcases j with _ | _ | _ | _ | _ | _ | _ | _ | _ | _ | j
    · exact id
    · exact id
    · exact id
    · exact id
    · exact id
    · exact id
    · exact id
    · exact id
    · rintro ⟨nb, e, ho⟩
      exact ⟨nb, e, ho.below hb⟩
    · rintro ⟨g, e, hg, hbx⟩
      exact ⟨g, e, hg, (hb.block _ (lt_of_block hbx)).trans hbx⟩
    · exact id
  · intro i o ho hlt2 vals WW hG hd
    rcases i with _ | _ | _ | _ | _ | _ | _ | _ | _ | _ | i
    · refine wpOp_run ho (by cases Option.some.inj ho; rfl) ?_
      cases Option.some.inj ho
      go_simp
      exact ⟨.pointer (some ⟨b, 0, none⟩), by simp [upd_at], Below.refl _ _, hG, rfl⟩
    · refine wpOp_run ho (by cases Option.some.inj ho; rfl) ?_
      cases Option.some.inj ho
      have e0 : vals 0 = .pointer (some ⟨b, 0, none⟩) := hd ⟨0, .data⟩ (by simp) rfl
      go_simp
      exact ⟨.pointer (some ⟨b, 0, none⟩), by simp [upd_at, e0], Below.refl _ _, hG, rfl⟩
    · refine wpOp_run ho (by cases Option.some.inj ho; rfl) ?_
      cases Option.some.inj ho
      have e1 : vals 1 = .pointer (some ⟨b, 0, none⟩) := hd ⟨1, .data⟩ (by simp) rfl
      go_simp
      exact ⟨.pointer (some ⟨b, 0, none⟩), by simp [upd_at, e1], Below.refl _ _, hG, rfl⟩
    · refine wpOp_run ho (by cases Option.some.inj ho; rfl) ?_
      cases Option.some.inj ho
      have e2 : vals 2 = .pointer (some ⟨b, 0, none⟩) := hd ⟨2, .data⟩ (by simp) rfl
      have hcx := (hG.cell (p := ⟨b, 0, none⟩) (show b < _ from by omega)).trans (show _ = some (.int .i64 W) from by go_simp)
      go_simp
      exact ⟨.int .i64 W, by simp [upd_at, e2], Below.refl _ _, hG, rfl⟩
    · refine wpOp_run ho (by cases Option.some.inj ho; rfl) ?_
      cases Option.some.inj ho
      go_simp
      exact ⟨.pointer (some ⟨b, 0, none⟩), by simp [upd_at], Below.refl _ _, hG, rfl⟩
    · refine wpOp_run ho (by cases Option.some.inj ho; rfl) ?_
      cases Option.some.inj ho
      have e4 : vals 4 = .pointer (some ⟨b, 0, none⟩) := hd ⟨4, .data⟩ (by simp) rfl
      go_simp
      exact ⟨.pointer (some ⟨b, 0, none⟩), by simp [upd_at, e4], Below.refl _ _, hG, rfl⟩
    · refine wpOp_run ho (by cases Option.some.inj ho; rfl) ?_
      cases Option.some.inj ho
      have e5 : vals 5 = .pointer (some ⟨b, 0, none⟩) := hd ⟨5, .data⟩ (by simp) rfl
      go_simp
      exact ⟨.pointer (some ⟨b, 1, none⟩), by simp [upd_at, e5], Below.refl _ _, hG, rfl⟩
    · refine wpOp_run ho (by cases Option.some.inj ho; rfl) ?_
      cases Option.some.inj ho
      have e6 : vals 6 = .pointer (some ⟨b, 1, none⟩) := hd ⟨6, .data⟩ (by simp) rfl
      have hcx := (hG.cell (p := ⟨b, 1, none⟩) (show b < _ from by omega)).trans (show _ = some (.int .i64 H) from by go_simp)
      go_simp
      exact ⟨.int .i64 H, by simp [upd_at, e6], Below.refl _ _, hG, rfl⟩
    · refine wpOp_run ho (by cases Option.some.inj ho; rfl) ?_
      cases Option.some.inj ho
      have e3 : vals 3 = .int .i64 W := hd ⟨3, .data⟩ (by simp) rfl
      have e7 : vals 7 = .int .i64 H := hd ⟨7, .data⟩ (by simp) rfl
      have hc := spec_l02New (W) (H) WW (osXY (W) OS)
      have hsz : (w.heap.size + 1) ≤ WW.heap.size := by have := hG.size; simp at this; omega
      go_simp
      refine hc.mono ?_
      rintro e w' ⟨nb, rfl, ho, hB⟩
      go_simp
      exact ⟨.agg #[.int .i64 W, .int .i64 H, .slice (some ⟨nb, 0, none⟩) 0 0], by simp [upd_at, e3, e7], hB, hG.trans (hB.mono (by have := hG.size; simp at this; omega)), nb, rfl, ho.mono hsz⟩
    · refine wpOp_run ho (by cases Option.some.inj ho; rfl) ?_
      cases Option.some.inj ho
      have hB : Below WW.heap.size WW (WW.alloc (.cells #[.int .i64 0, .int .i64 0, .slice none 0 0] 26)) := Below.alloc (Below.refl _ _) (Nat.le_refl _) _
      have hsz : (w.heap.size + 1) ≤ WW.heap.size := by have := hG.size; simp at this; omega
      go_simp
      exact ⟨.pointer (some ⟨WW.heap.size, 0, none⟩), by simp [upd_at], hB, hG.trans (hB.mono (by have := hG.size; simp at this; omega)), WW.heap.size, rfl, hsz, heap_alloc_new WW _⟩
    · omega
  intro vals w2 hG hR
  obtain ⟨nb, e8, ho2⟩ := (show ∃ nb, vals 8 = .agg #[.int .i64 W, .int .i64 H, .slice (some ⟨nb, 0, none⟩) 0 0] ∧ OwnF w2 (w.heap.size + 1) (.slice (some ⟨nb, 0, none⟩) 0 0) 0 (osXY (W) OS) from hR 8 (by omega))
  obtain ⟨g, e9, hg, hgb⟩ := (show ∃ g, vals 9 = .pointer (some ⟨g, 0, none⟩) ∧ (w.heap.size + 1) ≤ g ∧ w2.heap[g]? = some (.cells #[.int .i64 0, .int .i64 0, .slice none 0 0] 26 (0, 0)) from hR 9 (by omega))
  refine wpOp_run rfl rfl ?_
  have x0 := box_cell hgb 0
  have x1 := box_cell hgb 1
  have x2 := box_cell hgb 2
  have y0 := box_free hgb 0
  have y1 := box_free hgb 1
  have y2 := box_free hgb 2
  have HGB := Lib.hid (box_set (i := 2) (cs := #[.int .i64 W, .int .i64 H, .slice none 0 0]) (.slice (some ⟨nb, 0, none⟩) 0 0) (box_set (i := 1) (cs := #[.int .i64 W, .int .i64 0, .slice none 0 0]) (.int .i64 H) (box_set (i := 0) (.int .i64 W) hgb)))
  have HGO := Lib.hid (OwnF.setBox (OwnF.setBox (OwnF.setBox ho2 hgb 0 (.int .i64 W)) (box_set _ hgb) 1 (.int .i64 H)) (box_set _ (box_set _ hgb)) 2 (.slice (some ⟨nb, 0, none⟩) 0 0))
  have HBB := Lib.hid (Below.setCell (Below.setCell (Below.setCell hG hg (p := ⟨g, 0, none⟩) (.int .i64 W)) hg (p := ⟨g, 1, none⟩) (.int .i64 H)) hg (p := ⟨g, 2, none⟩) (.slice (some ⟨nb, 0, none⟩) 0 0))
  have k0 : w2.cell? ⟨b, 0, none⟩ = some (.int .i64 W) := (hG.cell (p := ⟨b, 0, none⟩) (show b < _ from by omega)).trans (by go_simp)
  have k1 : w2.cell? ⟨b, 1, none⟩ = some (.int .i64 H) := (hG.cell (p := ⟨b, 1, none⟩) (show b < _ from by omega)).trans (by go_simp)
  have k2 : w2.cell? ⟨b, 2, none⟩ = some (.slice a len cap) := (hG.cell (p := ⟨b, 2, none⟩) (show b < _ from by omega)).trans (by go_simp)
  have hgb' : b ≠ g := by omega
  clear hR hG hgb ho2
  go_simp
  go_wp2_with fail
  go_loopw [7] (fun i wr => ∃ y : Nat, ∃ v, y ≤ H ∧ i = .int .i64 y ∧ wr.heap[g]? = some (.cells #[.int .i64 W, .int .i64 H, v] 26 (0, 0)) ∧ OwnF wr (w.heap.size + 1) v (y * (W)) (osXY (W) OS) ∧ Below (w.heap.size + 1) (w.alloc (.cells #[.int .i64 0, .int .i64 0, .slice none 0 0] 26)) wr) (fun i _ => H - (intOf i).toNat)
  case atStart => exact ⟨0, _, by omega, rfl, HGB.out, HGO.out.congr (by simp) (fun _ _ => rfl), HBB.out⟩
  case round =>
    clear k0 k1 k2
    obtain ⟨y, v, hy, rfl, hbx, ho, hb⟩ := hrel
    obtain ⟨ao, cp, rfl⟩ := ho.shape
    have k0 : wr.cell? ⟨b, 0, none⟩ = some (.int .i64 W) := (hb.cell (p := ⟨b, 0, none⟩) (show b < _ from by omega)).trans (by go_simp)
    have k1 : wr.cell? ⟨b, 1, none⟩ = some (.int .i64 H) := (hb.cell (p := ⟨b, 1, none⟩) (show b < _ from by omega)).trans (by go_simp)
    have k2 : wr.cell? ⟨b, 2, none⟩ = some (.slice a len cap) := (hb.cell (p := ⟨b, 2, none⟩) (show b < _ from by omega)).trans (by go_simp)
    have HO := Lib.hid ho
    have HB := Lib.hid hb
    have HX := Lib.hid hbx
    clear ho hb hbx
    by_cases hlt : y < H
    · go_wp2_with fail
      go_loopw [8] (fun i wr => ∃ x : Nat, ∃ v, x ≤ W ∧ i = .int .i64 x ∧ wr.heap[g]? = some (.cells #[.int .i64 W, .int .i64 H, v] 26 (0, 0)) ∧ OwnF wr (w.heap.size + 1) v (y * (W) + x) (osXY (W) OS) ∧ Below (w.heap.size + 1) (w.alloc (.cells #[.int .i64 0, .int .i64 0, .slice none 0 0] 26)) wr) (fun i _ => W - (intOf i).toNat)
      case atStart => exact ⟨0, _, by omega, rfl, HX.out, HO.out, HB.out⟩
      case round =>
        clear HX HO HB ao cp k0 k1 k2
        obtain ⟨x, v, hx, rfl, hbx, ho, hb⟩ := hrel
        obtain ⟨ao, cp, rfl⟩ := ho.shape
        have k0 : wr.cell? ⟨b, 0, none⟩ = some (.int .i64 W) := (hb.cell (p := ⟨b, 0, none⟩) (show b < _ from by omega)).trans (by go_simp)
        have k1 : wr.cell? ⟨b, 1, none⟩ = some (.int .i64 H) := (hb.cell (p := ⟨b, 1, none⟩) (show b < _ from by omega)).trans (by go_simp)
        have k2 : wr.cell? ⟨b, 2, none⟩ = some (.slice a len cap) := (hb.cell (p := ⟨b, 2, none⟩) (show b < _ from by omega)).trans (by go_simp)
        have HO := Lib.hid ho
        have HB := Lib.hid hb
        have HX := Lib.hid hbx
        clear ho hb hbx
        by_cases hlx : x < W
        · have hn : (y * (W) + x) ≤ 1000 := by
            have h1 : y * (W) ≤ 24 * 24 := Nat.mul_le_mul (by omega) (by omega)
            omega
          have HOS : RowKit.Hid ((osXY (W) OS) (y * (W) + x) = _) := Lib.hid ((osXY_at (os := OS) hlx).trans (congrFun (congrFun HOE.out x) y))
          have BRW : Below w.heap.size w wr := (Below.alloc (Below.refl _ _) (Nat.le_refl _) _).trans (HB.out.mono (by omega))
          have hsr : (w.heap.size + 1) ≤ wr.heap.size := by have := HB.out.size; simp at this; omega
          have ob2 := box_cell HX.out 2
          go_wp2_with fail
          go_loopw [9, 10] (fun s v wq => ∃ i n r : Nat, (i : Int) ≤ 2 * rc + 1 ∧ v = .int .i64 (y - rc + i) ∧ wq = wr.drewN n ∧ s = .float .f32 r ∧ Is .f32 r (bAll zs W H x y rc i)) (fun _ v _ => ((y : Int) + rc + 1 - intOf v).toNat)
          case atStart => exact ⟨0, 0, 0, by omega, by simp, rfl, rfl, is32 (by omega)⟩
          case round =>
            obtain ⟨i, n, r, hi, rfl, rfl, rfl, hr⟩ := hrel
            have HR1 := Lib.hid hr
            clear hr
            by_cases hlt1 : (i : Int) < 2 * rc + 1
            · have hd1 : decide ((y : Int) - rc + i ≤ y + rc) = true := decide_eq_true (by omega)
              go_wp2_with fail
              go_loopw [9, 11] (fun s u wq => ∃ j n r : Nat, (j : Int) ≤ 2 * rc + 1 ∧ u = .int .i64 (x - rc + j) ∧ wq = wr.drewN n ∧ s = .float .f32 r ∧ Is .f32 r (bRow zs W H (x - rc) (y - rc + i) (bAll zs W H x y rc i) j)) (fun _ u _ => ((x : Int) + rc + 1 - intOf u).toNat)
              case atStart => exact ⟨0, n, r, by omega, by simp, rfl, rfl, HR1.out⟩
              case round =>
                clear HR1
                obtain ⟨j, n, r, hj, rfl, rfl, rfl, hr⟩ := hrel
                have HR2 := Lib.hid hr
                clear hr
                by_cases hlt2 : (j : Int) < 2 * rc + 1
                · go_wp2_with (first | (go_at_call 48; refine (spec_l02At b W H _ _ a len cap zs _ (by go_simp) (by go_simp) (by go_simp) (IsFRow.below HH.out (BRW.trans (by repeat (first | exact Below.refl _ _ | refine Below.setCell ?_ (by first | (simp; done) | (simp; omega)) _ | refine Below.trans ?_ (Below.mono (by assumption) (by first | (simp; done) | (simp; omega))) | refine Below.alloc ?_ (by first | (simp; done) | (simp; omega)) _ | refine Below.alloc ?_ (Nat.le_refl _) _ | refine below_drewN ?_ _)))) HL.out HW.out HHH.out).mono ?_; rintro e w' ⟨q, rfl, rfl⟩) | ((fail_if_success (have := g1)); refine wpList_arith _ _ _ _ _ rfl rfl _ _ _ rfl rfl rfl ?_; intro r1 n1 g1))
                  go_roundw
                  case rel => exact ⟨j + 1, _, _, by omega, by go_num, rfl, rfl, by show Is .f32 _ (oop .add .f32 _ _); rw [← HR2.out.ab]; exact g1⟩
                  case measure => simp [intOf]; omega
                · have hje : j = (2 * rc + 1).toNat := by omega
                  go_wp2_with fail
                  go_roundw
                  case rel => exact ⟨i + 1, _, _, by omega, by go_num, rfl, rfl, by show Is .f32 _ (bRow zs W H _ _ _ (2 * rc + 1).toNat); rw [← hje]; exact HR2.out⟩
                  case measure => simp [intOf]; omega
            · have hie : i = (2 * rc + 1).toNat := by omega
              have hrr := HR1.out.ab
              rw [hie] at hrr
              have HRR := Lib.hid hrr
              clear HR1 hrr
              go_wp2_with (first | (at_builtin; refine wpList_append1 rfl (.tmp 72) (.tmp 76) rfl rfl rfl (HO.out.below (by repeat (first | exact Below.refl _ _ | refine Below.setCell ?_ (by first | (simp; done) | (simp; omega)) _ | refine Below.trans ?_ (Below.mono (by assumption) (by first | (simp; done) | (simp; omega))) | refine Below.alloc ?_ (by first | (simp; done) | (simp; omega)) _ | refine Below.alloc ?_ (Nat.le_refl _) _ | refine below_drewN ?_ _))) (by first | omega | (simp; done) | (simp; omega)) hn (by go_simp; rfl) (by rw [HOS.out]; have g5 := g1; rw [HRR.out] at g5; exact g5) ?_; intro v' w' h7 hgr; obtain ⟨hxn, hbn⟩ := own_step HO.out (by repeat (first | exact Below.refl _ _ | refine Below.setCell ?_ (by first | (simp; done) | (simp; omega)) _ | refine Below.trans ?_ (Below.mono (by assumption) (by first | (simp; done) | (simp; omega))) | refine Below.alloc ?_ (by first | (simp; done) | (simp; omega)) _ | refine Below.alloc ?_ (Nat.le_refl _) _ | refine below_drewN ?_ _)) hgr HX.out HB.out (by first | (simp; done) | (simp; omega)); obtain ⟨a7, c7, rfl⟩ := h7.shape; have hcx := box_cell hxn 2; have hfx := box_free hxn 2) | ((fail_if_success (have := g1)); refine wpList_arith _ _ _ _ _ rfl rfl _ _ _ rfl rfl rfl ?_; intro r1 n1 g1))
              go_roundw
              case rel => exact ⟨x + 1, .slice a7 ((y * (W) + x) + 1) c7, by omega, rfl, box_set (i := 2) (.slice a7 ((y * (W) + x) + 1) c7) hxn, h7.setBox hxn _ _, Below.setCell hbn (by omega) _⟩
              case measure => simp [intOf]; omega
        · have hxe : x = W := by omega
          go_wp2_with fail
          go_roundw
          case rel => exact ⟨y + 1, _, by omega, rfl, HX.out, HO.out.congr (by rw [hxe, Nat.succ_mul]) (fun _ _ => rfl), HB.out⟩
          case measure => simp [intOf]; omega
    · obtain rfl : H = y := by omega
      have hz : wr.heap[w.heap.size]? = some (.cells #[.int .i64 0, .int .i64 0, .slice none 0 0] 26 (0, 0)) := (HB.out.block (w.heap.size) (by omega)).trans (heap_alloc_new w _)
      have z0 := box_cell hz 0
      have z1 := box_cell hz 1
      have z2 := box_cell hz 2
      have f0 := box_free hz 0
      have f1 := box_free hz 1
      have f2 := box_free hz 2
      have c0 := box_cell HX.out 0
      have c1 := box_cell HX.out 1
      have c2 := box_cell HX.out 2
      go_wp2_with fail
      have BW : Below w.heap.size w wr := (Below.alloc (Below.refl _ _) (Nat.le_refl _) _).trans (HB.out.mono (by omega))
      have hend := OwnF.setBox (OwnF.setBox (OwnF.setBox (HO.out.mono (base' := w.heap.size) (by omega)) hz 0 (.int .i64 W)) (box_set _ hz) 1 (.int .i64 H)) (box_set _ (box_set _ hz)) 2 (.slice ao (H * (W)) cp)
      obtain ⟨ao', cp', zs', e, hro, his⟩ := (hend.congr (m := H * W) rfl (fun _ _ => rfl)).orow (Nat.le_trans (Nat.mul_le_mul (show H ≤ 24 by omega) (show W ≤ 24 by omega)) (by omega))
      simp only [Value.slice.injEq, true_and] at e
      obtain ⟨rfl, rfl⟩ := e
      refine bodyPost_ret (v := .agg #[.int .i64 W, .int .i64 H, .slice ao (H * (W)) cp]) ?_ rfl ⟨ao, cp, zs', rfl, hro, his, ?_⟩
      · simp [results, Try.results69, go_sem, z0, z1, z2]
      · exact Below.setCell (Below.setCell (Below.setCell BW (by simp) _) (by simp) _) (by simp) _

theorem spec_BoxPicture_ok (W H : Nat) (a : Option Addr) (len cap : Nat) (zs : List Nat) (rc : Int) (w : World) (h : IsFRow w a len cap zs) (hl : len = W * H) (hW : 1 ≤ W ∧ W ≤ 24) (hH : 1 ≤ H ∧ H ≤ 24) (hvb : validB W H len = true) (hb1 : 0 ≤ rc) (hb2 : rc ≤ 3) :
    Calls Try.prog 30 #[.agg #[.int .i64 W, .int .i64 H, .slice a len cap], .int .i64 rc] w (RetP W H (H * W) true (osXY (W) (fun (x y : Nat) => oop .quo .f32 (bAll zs W H x y rc (2 * rc + 1).toNat) (ab .f32 (floatOfInt .f32 ((2 * rc + 1) * (2 * rc + 1)))))) w) := by
  have HH := Lib.hid h
  have HL := Lib.hid hl
  clear h hl
  go_enter Try.func30, Try.ntmps30
  go_wp2_with fail
  have hq := spec_l02Is w.heap.size W H a len cap ((w.alloc (.cells #[.int .i64 W, .int .i64 H, .slice a len cap] 26)).alloc (.cells #[.int .i64 0, .int .i64 0, .slice none 0 0] 26)) (by go_simp) (by go_simp) (by go_simp)
  rw [hvb] at hq
  refine hq.mono ?_
  clear hq
  rintro e w1 hq
  obtain ⟨rfl, BZ⟩ := RetB.below hq
  clear hq
  have BZ := BZ.mono (show w.heap.size + 2 ≤ _ by simp)
  have k0 : w1.cell? ⟨w.heap.size, 0, none⟩ = some (.int .i64 W) := (BZ.cell (p := ⟨w.heap.size, 0, none⟩) (by simp)).trans (by go_simp)
  have k1 : w1.cell? ⟨w.heap.size, 1, none⟩ = some (.int .i64 H) := (BZ.cell (p := ⟨w.heap.size, 1, none⟩) (by simp)).trans (by go_simp)
  have k2 : w1.cell? ⟨w.heap.size, 2, none⟩ = some (.slice a len cap) := (BZ.cell (p := ⟨w.heap.size, 2, none⟩) (by simp)).trans (by go_simp)
  have BW : Below w.heap.size w w1 := (Below.alloc (Below.alloc (Below.refl _ _) (Nat.le_refl _) _) (by simp) _).trans (BZ.mono (by omega))
  have hs1 : w.heap.size + 2 ≤ w1.heap.size := by have := BZ.size; simp at this; omega
  go_wp2_with (first | (go_at_call 63; refine (spec_l00In _ _ _ _).mono ?_; rintro e w' ⟨rfl, rfl⟩) | fail)
  refine (spec_l02Box w.heap.size W H a len cap zs rc w1 k0 k1 k2 (IsFRow.below HH.out BW) HL.out hW hH hb1 hb2).mono ?_
  rintro e w2 ⟨ao, cp, ys, rfl, ho, his, b2⟩
  have B2 := BZ.trans (b2.mono hs1)
  have hz : w2.heap[w.heap.size + 1]? = some (.cells #[.int .i64 0, .int .i64 0, .slice none 0 0] 26 (0, 0)) := (B2.block (w.heap.size + 1) (by omega)).trans (by have h := heap_alloc_new (w.alloc (.cells #[.int .i64 W, .int .i64 H, .slice a len cap] 26)) (.cells #[.int .i64 0, .int .i64 0, .slice none 0 0] 26); rw [show (w.alloc (.cells #[.int .i64 W, .int .i64 H, .slice a len cap] 26)).heap.size = w.heap.size + 1 from by simp] at h; exact h)
  have z0 := box_cell hz 0
  have z1 := box_cell hz 1
  have z2 := box_cell hz 2
  have f0 := box_free hz 0
  have f1 := box_free hz 1
  have f2 := box_free hz 2
  have HO := Lib.hid (ho.mono (lo' := w.heap.size + 2) (hi' := w2.heap.size) hs1 (Nat.le_refl _))
  have HI := Lib.hid his
  have HB := Lib.hid (BW.trans (b2.mono (by omega)))
  clear ho his b2 B2 BW hW hH
  go_wp2_with fail
  refine bodyPost_ret (v := .tuple #[.agg #[.int .i64 W, .int .i64 H, .slice ao (H * W) cp], .bool true]) ?_ rfl ⟨ao, cp, ys, rfl, ORow.mono (ORow.setBox (ORow.setBox (ORow.setBox HO.out (by omega) _ _) (by omega) _ _) (by omega) _ _) (by omega) (by simp), HI.out, Below.setCell (Below.setCell (Below.setCell HB.out (by simp) _) (by simp) _) (by simp) _⟩
  simp [results, Try.results30, go_sem, z0, z1, z2]
theorem impl_boxed (b W H : Nat) (a : Option Addr) (len cap : Nat) (zs : List Nat) (rc : Int) (w : World) (c0 : w.cell? ⟨b, 0, none⟩ = some (.int .i64 W)) (c1 : w.cell? ⟨b, 1, none⟩ = some (.int .i64 H)) (c2 : w.cell? ⟨b, 2, none⟩ = some (.slice a len cap))
    (hr : IsFRow w a len cap zs) (hl : len = W * H) (hW : 1 ≤ W ∧ W ≤ 24) (hH : 1 ≤ H ∧ H ≤ 24) (hb1 : 0 ≤ rc) (hb2 : rc ≤ 3) (x y : Nat) (hx : x < 24) (hy : y < 24) :
    Calls Try.prog 71 #[.pointer (some ⟨b, 0, none⟩), .int .i64 x, .int .i64 y, .int .i64 rc] w (RetF .f32 ((fun (x y : Nat) => oop .quo .f32 (bAll zs W H x y rc (2 * rc + 1).toNat) (ab .f32 (floatOfInt .f32 ((2 * rc + 1) * (2 * rc + 1))))) x y) w) := by
  have HR := Lib.hid hr
  have HL := Lib.hid hl
  have HW := Lib.hid hW
  have HH := Lib.hid hH
  have hww := (show IntKind.i64.wrap ((2 * rc + 1) * (2 * rc + 1)) = (2 * rc + 1) * (2 * rc + 1) from by rcases (show rc = 0 ∨ rc = 1 ∨ rc = 2 ∨ rc = 3 by omega) with rfl | rfl | rfl | rfl <;> decide)
  obtain ⟨hW1, hW2⟩ := hW
  obtain ⟨hH1, hH2⟩ := hH
  clear hr hl
  go_enter Try.func71, Try.ntmps71
  go_wp2_with fail
  go_loopw [9, 10] (fun s v wq => ∃ i n r : Nat, (i : Int) ≤ 2 * rc + 1 ∧ v = .int .i64 (y - rc + i) ∧ wq = w.drewN n ∧ s = .float .f32 r ∧ Is .f32 r (bAll zs W H x y rc i)) (fun _ v _ => ((y : Int) + rc + 1 - intOf v).toNat)
  case atStart => exact ⟨0, 0, 0, by omega, by simp, rfl, rfl, is32 (by omega)⟩
  case round =>
    obtain ⟨i, n, r, hi, rfl, rfl, rfl, hr⟩ := hrel
    have HR1 := Lib.hid hr
    clear hr
    by_cases hlt1 : (i : Int) < 2 * rc + 1
    · have hd1 : decide ((y : Int) - rc + i ≤ y + rc) = true := decide_eq_true (by omega)
      go_wp2_with fail
      go_loopw [9, 11] (fun s u wq => ∃ j n r : Nat, (j : Int) ≤ 2 * rc + 1 ∧ u = .int .i64 (x - rc + j) ∧ wq = w.drewN n ∧ s = .float .f32 r ∧ Is .f32 r (bRow zs W H (x - rc) (y - rc + i) (bAll zs W H x y rc i) j)) (fun _ u _ => ((x : Int) + rc + 1 - intOf u).toNat)
      case atStart => exact ⟨0, n, r, by omega, by simp, rfl, rfl, HR1.out⟩
      case round =>
        clear HR1
        obtain ⟨j, n, r, hj, rfl, rfl, rfl, hr⟩ := hrel
        have HR2 := Lib.hid hr
        clear hr
        by_cases hlt2 : (j : Int) < 2 * rc + 1
        · go_wp2_with (first | (go_at_call 54; refine (impl_about b W H _ _ a len cap zs _ (by go_simp) (by go_simp) (by go_simp) (IsFRow.below HR.out (by repeat (first | exact Below.refl _ _ | refine Below.setCell ?_ (by first | (simp; done) | (simp; omega)) _ | refine Below.trans ?_ (Below.mono (by assumption) (by first | (simp; done) | (simp; omega))) | refine Below.alloc ?_ (by first | (simp; done) | (simp; omega)) _ | refine Below.alloc ?_ (Nat.le_refl _) _ | refine below_drewN ?_ _))) HL.out HW.out HH.out).mono ?_; rintro e w' ⟨q, rfl, rfl⟩) | ((fail_if_success (have := g1)); refine wpList_arith _ _ _ _ _ rfl rfl _ _ _ rfl rfl rfl ?_; intro r1 n1 g1))
          go_roundw
          case rel => exact ⟨j + 1, _, _, by omega, by go_num, rfl, rfl, by show Is .f32 _ (oop .add .f32 _ _); rw [← HR2.out.ab]; exact g1⟩
          case measure => simp [intOf]; omega
        · have hje : j = (2 * rc + 1).toNat := by omega
          go_wp2_with fail
          go_roundw
          case rel => exact ⟨i + 1, _, _, by omega, by go_num, rfl, rfl, by show Is .f32 _ (bRow zs W H _ _ _ (2 * rc + 1).toNat); rw [← hje]; exact HR2.out⟩
          case measure => simp [intOf]; omega
    · have hie : i = (2 * rc + 1).toNat := by omega
      have hrr := HR1.out.ab
      rw [hie] at hrr
      have HRR := Lib.hid hrr
      clear HR1 hrr
      go_wp2_with (first | ((fail_if_success (have := g1)); refine wpList_arith _ _ _ _ _ rfl rfl _ _ _ rfl rfl rfl ?_; intro r1 n1 g1))
      go_ret
      rw [HRR.out] at g1
      exact RetF.mk _ g1
theorem BoxPicture_clos (b W H : Nat) (a : Option Addr) (len cap : Nat) (zs : List Nat) (rc : Int) (q0 : Nat) (w : World) (c0 : w.cell? ⟨b, 0, none⟩ = some (.int .i64 W)) (c1 : w.cell? ⟨b, 1, none⟩ = some (.int .i64 H)) (c2 : w.cell? ⟨b, 2, none⟩ = some (.slice a len cap))
    (hr : IsFRow w a len cap zs) (hl : len = W * H) (hW : 1 ≤ W ∧ W ≤ 24) (hH : 1 ≤ H ∧ H ≤ 24) (hb1 : 0 ≤ rc) (hb2 : rc ≤ 3) (d0 : w.cell? ⟨q0, 0, none⟩ = some (.int .i64 rc)) (x y : Nat) (hx : x < W) (hy : y < H) :
    Calls Try.prog 70 #[.int .i64 x, .int .i64 y, .pointer (some ⟨b, 0, none⟩), .pointer (some ⟨q0, 0, none⟩)] w (RetF .f32 ((fun (x y : Nat) => oop .quo .f32 (bAll zs W H x y rc (2 * rc + 1).toNat) (ab .f32 (floatOfInt .f32 ((2 * rc + 1) * (2 * rc + 1))))) x y) w) := by
  have _hx := hx
  have _hy := hy
  have HR := Lib.hid hr
  have HL := Lib.hid hl
  have HW := Lib.hid hW
  have HH := Lib.hid hH
  have hzl : ∀ z ∈ zs, z < 4294967296 := hr.2.2.2.1
  obtain ⟨hW1, hW2⟩ := hW
  obtain ⟨hH1, hH2⟩ := hH
  clear hr hl
  go_enter Try.func70, Try.ntmps70
  go_wp2_with (first | (go_at_call 71; refine (impl_boxed b W H a len cap zs rc _ (by go_simp) (by go_simp) (by go_simp) (IsFRow.below HR.out (by repeat (first | exact Below.refl _ _ | refine Below.setCell ?_ (by first | (simp; done) | (simp; omega)) _ | refine Below.trans ?_ (Below.mono (by assumption) (by first | (simp; done) | (simp; omega))) | refine Below.alloc ?_ (by first | (simp; done) | (simp; omega)) _ | refine Below.alloc ?_ (Nat.le_refl _) _ | refine below_drewN ?_ _))) HL.out HW.out HH.out hb1 hb2 x y (by omega) (by omega)).mono ?_; rintro e w' ⟨r, q, hq, rfl, rfl⟩))
  go_ret
  exact ⟨_, _, hq, rfl, rfl⟩
theorem impl_BoxPicture_ok (W H : Nat) (a : Option Addr) (len cap : Nat) (zs : List Nat) (rc : Int) (w : World) (h : IsFRow w a len cap zs) (hl : len = W * H) (hW : 1 ≤ W ∧ W ≤ 24) (hH : 1 ≤ H ∧ H ≤ 24) (hvb : validB W H len = true) (hb1 : 0 ≤ rc) (hb2 : rc ≤ 3) :
    Calls Try.prog 31 #[.agg #[.int .i64 W, .int .i64 H, .slice a len cap], .int .i64 rc] w (RetP W H (H * W) true (osXY W (fun (x y : Nat) => oop .quo .f32 (bAll zs W H x y rc (2 * rc + 1).toNat) (ab .f32 (floatOfInt .f32 ((2 * rc + 1) * (2 * rc + 1)))))) w) := by
  have HR := Lib.hid h
  have HL := Lib.hid hl
  clear h hl
  have hmf : ∀ (fn : Fn) (first cap : Array Value) (w : World), (Instr.makeFunc fn first cap).run Try.prog w = .ok (.func fn first cap) w := fun _ _ _ _ => rfl
  go_enter Try.func31, Try.ntmps31
  go_wp2_with (first | (go_at_call 65; refine (impl_in _ _ _ _).mono ?_; rintro e w' ⟨rfl, rfl⟩) | fail)
  have BA : Below w.heap.size w (((w.alloc (.cells #[.int .i64 W, .int .i64 H, .slice a len cap] 26)).alloc (.cells #[.int .i64 rc] 2)).alloc (.cells #[.int .i64 0, .int .i64 0, .slice none 0 0] 26)) := (by repeat (first | exact Below.refl _ _ | refine Below.setCell ?_ (by first | (simp; done) | (simp; omega)) _ | refine Below.trans ?_ (Below.mono (by assumption) (by first | (simp; done) | (simp; omega))) | refine Below.alloc ?_ (by first | (simp; done) | (simp; omega)) _ | refine Below.alloc ?_ (Nat.le_refl _) _ | refine below_drewN ?_ _))
  have hk : ∀ args W', (callFunc 70 args).run Try.prog W' = .ok (.enter 70 args) W' := fun args W' => by go_simp
  have hf : ∀ x y : Nat, x < W → y < H → ∀ w', Below (((w.alloc (.cells #[.int .i64 W, .int .i64 H, .slice a len cap] 26)).alloc (.cells #[.int .i64 rc] 2)).alloc (.cells #[.int .i64 0, .int .i64 0, .slice none 0 0] 26)).heap.size (((w.alloc (.cells #[.int .i64 W, .int .i64 H, .slice a len cap] 26)).alloc (.cells #[.int .i64 rc] 2)).alloc (.cells #[.int .i64 0, .int .i64 0, .slice none 0 0] 26)) w' → Calls Try.prog 70 (#[.int .i64 x, .int .i64 y] ++ #[.pointer (some ⟨w.heap.size, 0, none⟩), .pointer (some ⟨w.heap.size + 1, 0, none⟩)]) w' (RetF .f32 ((fun (x y : Nat) => oop .quo .f32 (bAll zs W H x y rc (2 * rc + 1).toNat) (ab .f32 (floatOfInt .f32 ((2 * rc + 1) * (2 * rc + 1))))) x y) w') := by
    intro x y hx hy w' hb
    exact BoxPicture_clos w.heap.size W H a len cap zs rc (w.heap.size + 1) w' ((hb.cell (p := ⟨w.heap.size, 0, none⟩) (by simp; try omega)).trans (by go_simp)) ((hb.cell (p := ⟨w.heap.size, 1, none⟩) (by simp; try omega)).trans (by go_simp)) ((hb.cell (p := ⟨w.heap.size, 2, none⟩) (by simp; try omega)).trans (by go_simp)) (IsFRow.below HR.out (BA.trans (hb.mono (by simp; try omega)))) HL.out hW hH  hb1 hb2 ((hb.cell (p := ⟨w.heap.size + 1, 0, none⟩) (by simp; try omega)).trans (by go_simp)) x y hx hy
  have hq := impl_remade_ok W H a len cap 70 #[.pointer (some ⟨w.heap.size, 0, none⟩), .pointer (some ⟨w.heap.size + 1, 0, none⟩)] (fun (x y : Nat) => oop .quo .f32 (bAll zs W H x y rc (2 * rc + 1).toNat) (ab .f32 (floatOfInt .f32 ((2 * rc + 1) * (2 * rc + 1))))) (((w.alloc (.cells #[.int .i64 W, .int .i64 H, .slice a len cap] 26)).alloc (.cells #[.int .i64 rc] 2)).alloc (.cells #[.int .i64 0, .int .i64 0, .slice none 0 0] 26)) hvb hW.2 hH.2 hk hf
  refine hq.mono ?_
  clear hq hf hk hvb hW hH
  rintro e w1 ⟨ao, cp, ys, rfl, ho, his, b1⟩
  have hz : w1.heap[w.heap.size + 2]? = some (.cells #[.int .i64 0, .int .i64 0, .slice none 0 0] 26 (0, 0)) := (b1.block (w.heap.size + 2) (by simp; try omega)).trans (by have h := heap_alloc_new ((w.alloc (.cells #[.int .i64 W, .int .i64 H, .slice a len cap] 26)).alloc (.cells #[.int .i64 rc] 2)) (.cells #[.int .i64 0, .int .i64 0, .slice none 0 0] 26); rw [show ((w.alloc (.cells #[.int .i64 W, .int .i64 H, .slice a len cap] 26)).alloc (.cells #[.int .i64 rc] 2)).heap.size = w.heap.size + 2 from by simp] at h; exact h)
  have z0 := box_cell hz 0
  have z1 := box_cell hz 1
  have z2 := box_cell hz 2
  have f0 := box_free hz 0
  have f1 := box_free hz 1
  have f2 := box_free hz 2
  have B1 := BA.trans (b1.mono BA.size)
  have ho := ho.mono (lo' := w.heap.size + 2 + 1) (hi' := w1.heap.size) (by simp) (Nat.le_refl _)
  have HO := Lib.hid ho
  have HI := Lib.hid his
  have HB := Lib.hid B1
  clear ho his B1 b1 BA
  go_wp2_with fail
  refine bodyPost_ret (v := .tuple #[.agg #[.int .i64 W, .int .i64 H, .slice ao (H * W) cp], .bool true]) ?_ rfl ⟨ao, cp, ys, rfl, ORow.mono (ORow.setBox (ORow.setBox (ORow.setBox HO.out (by omega) _ _) (by omega) _ _) (by omega) _ _) (by omega) (by simp), HI.out, Below.setCell (Below.setCell (Below.setCell HB.out (by first | (simp; done) | (simp; omega)) _) (by first | (simp; done) | (simp; omega)) _) (by first | (simp; done) | (simp; omega)) _⟩
  simp [results, Try.results31, go_sem, z0, z1, z2]

theorem impl_BoxPicture_bad (x y : Int) (a : Option Addr) (len cap : Nat) (rc : Int) (os : Nat → Option Nat) (w : World) (hvb : validB x y len = false) (hb1 : 0 ≤ rc) (hb2 : rc ≤ 3) :
    Calls Try.prog 31 #[.agg #[.int .i64 x, .int .i64 y, .slice a len cap], .int .i64 rc] w (RetP 0 0 0 false os w) := by
  have hmf : ∀ (fn : Fn) (first cap : Array Value) (w : World), (Instr.makeFunc fn first cap).run Try.prog w = .ok (.func fn first cap) w := fun _ _ _ _ => rfl
  go_enter Try.func31, Try.ntmps31
  go_wp2_with (first | (go_at_call 65; refine (impl_in _ _ _ _).mono ?_; rintro e w' ⟨rfl, rfl⟩) | fail)
  have BA : Below w.heap.size w (((w.alloc (.cells #[.int .i64 x, .int .i64 y, .slice a len cap] 26)).alloc (.cells #[.int .i64 rc] 2)).alloc (.cells #[.int .i64 0, .int .i64 0, .slice none 0 0] 26)) := (by repeat (first | exact Below.refl _ _ | refine Below.setCell ?_ (by first | (simp; done) | (simp; omega)) _ | refine Below.trans ?_ (Below.mono (by assumption) (by first | (simp; done) | (simp; omega))) | refine Below.alloc ?_ (by first | (simp; done) | (simp; omega)) _ | refine Below.alloc ?_ (Nat.le_refl _) _ | refine below_drewN ?_ _))
  refine (impl_remade_bad x y a len cap _ os (((w.alloc (.cells #[.int .i64 x, .int .i64 y, .slice a len cap] 26)).alloc (.cells #[.int .i64 rc] 2)).alloc (.cells #[.int .i64 0, .int .i64 0, .slice none 0 0] 26)) hvb).mono ?_
  rintro e w1 ⟨ao, cp, ys, rfl, ho, his, b1⟩
  have hz : w1.heap[w.heap.size + 2]? = some (.cells #[.int .i64 0, .int .i64 0, .slice none 0 0] 26 (0, 0)) := (b1.block (w.heap.size + 2) (by simp; try omega)).trans (by have h := heap_alloc_new ((w.alloc (.cells #[.int .i64 x, .int .i64 y, .slice a len cap] 26)).alloc (.cells #[.int .i64 rc] 2)) (.cells #[.int .i64 0, .int .i64 0, .slice none 0 0] 26); rw [show ((w.alloc (.cells #[.int .i64 x, .int .i64 y, .slice a len cap] 26)).alloc (.cells #[.int .i64 rc] 2)).heap.size = w.heap.size + 2 from by simp] at h; exact h)
  have z0 := box_cell hz 0
  have z1 := box_cell hz 1
  have z2 := box_cell hz 2
  have f0 := box_free hz 0
  have f1 := box_free hz 1
  have f2 := box_free hz 2
  have B1 := BA.trans (b1.mono BA.size)
  have ho := ho.mono (lo' := w.heap.size + 2 + 1) (hi' := w1.heap.size) (by simp) (Nat.le_refl _)
  have HO := Lib.hid ho
  have HI := Lib.hid his
  have HB := Lib.hid B1
  clear ho his B1 b1 BA
  go_wp2_with fail
  refine bodyPost_ret (v := .tuple #[.agg #[.int .i64 0, .int .i64 0, .slice ao 0 cp], .bool false]) ?_ rfl ⟨ao, cp, ys, rfl, ORow.mono (ORow.setBox (ORow.setBox (ORow.setBox HO.out (by omega) _ _) (by omega) _ _) (by omega) _ _) (by omega) (by simp), HI.out, Below.setCell (Below.setCell (Below.setCell HB.out (by first | (simp; done) | (simp; omega)) _) (by first | (simp; done) | (simp; omega)) _) (by first | (simp; done) | (simp; omega)) _⟩
  simp [results, Try.results31, go_sem, z0, z1, z2]

theorem spec_BoxPicture_bad (x y : Int) (a : Option Addr) (len cap : Nat) (rc : Int) (os : Nat → Option Nat) (w : World) (hvb : validB x y len = false)  :
    Calls Try.prog 30 #[.agg #[.int .i64 x, .int .i64 y, .slice a len cap], .int .i64 rc] w (RetP 0 0 0 false os w) := by
  go_enter Try.func30, Try.ntmps30
  go_wp2_with fail
  have hq := spec_l02Is w.heap.size x y a len cap ((w.alloc (.cells #[.int .i64 x, .int .i64 y, .slice a len cap] 26)).alloc (.cells #[.int .i64 0, .int .i64 0, .slice none 0 0] 26)) (by go_simp) (by go_simp) (by go_simp)
  rw [hvb] at hq
  refine hq.mono ?_
  clear hq
  rintro e w1 hq
  obtain ⟨rfl, b1⟩ := RetB.below hq
  clear hq
  have hz : w1.heap[w.heap.size + 1]? = some (.cells #[.int .i64 0, .int .i64 0, .slice none 0 0] 26 (0, 0)) := (b1.block (w.heap.size + 1) (by simp)).trans (by have h := heap_alloc_new (w.alloc (.cells #[.int .i64 x, .int .i64 y, .slice a len cap] 26)) (.cells #[.int .i64 0, .int .i64 0, .slice none 0 0] 26); rw [show (w.alloc (.cells #[.int .i64 x, .int .i64 y, .slice a len cap] 26)).heap.size = w.heap.size + 1 from by simp] at h; exact h)
  have z0 := box_cell hz 0
  have z1 := box_cell hz 1
  have z2 := box_cell hz 2
  have f0 := box_free hz 0
  have f1 := box_free hz 1
  have f2 := box_free hz 2
  go_wp2_with fail
  refine bodyPost_ret (v := .tuple #[.agg #[.int .i64 0, .int .i64 0, .slice none 0 0], .bool false]) ?_ rfl (RetP.none os rfl (by repeat (first | exact Below.refl _ _ | refine Below.setCell ?_ (by first | (simp; done) | (simp; omega)) _ | refine Below.trans ?_ (Below.mono (by assumption) (by first | (simp; done) | (simp; omega))) | refine Below.alloc ?_ (by first | (simp; done) | (simp; omega)) _ | refine Below.alloc ?_ (Nat.le_refl _) _ | refine below_drewN ?_ _)))
  simp [results, Try.results30, go_sem, z0, z1, z2]

theorem spec_BoxPicture_bad2 (x y : Int) (a : Option Addr) (len cap : Nat) (rc : Int) (os : Nat → Option Nat) (w : World) (hvb : validB x y len = true) (hrg : (decide (0 ≤ rc) && decide (rc ≤ 3)) = false) :
    Calls Try.prog 30 #[.agg #[.int .i64 x, .int .i64 y, .slice a len cap], .int .i64 rc] w (RetP 0 0 0 false os w) := by
  go_enter Try.func30, Try.ntmps30
  go_wp2_with fail
  have hq := spec_l02Is w.heap.size x y a len cap ((w.alloc (.cells #[.int .i64 x, .int .i64 y, .slice a len cap] 26)).alloc (.cells #[.int .i64 0, .int .i64 0, .slice none 0 0] 26)) (by go_simp) (by go_simp) (by go_simp)
  rw [hvb] at hq
  refine hq.mono ?_
  clear hq
  rintro e w1 hq
  obtain ⟨rfl, b1⟩ := RetB.below hq
  clear hq hvb
  have hz : w1.heap[w.heap.size + 1]? = some (.cells #[.int .i64 0, .int .i64 0, .slice none 0 0] 26 (0, 0)) := (b1.block (w.heap.size + 1) (by first | (simp; done) | (simp; omega) | omega)).trans (by have h := heap_alloc_new (w.alloc (.cells #[.int .i64 x, .int .i64 y, .slice a len cap] 26)) (.cells #[.int .i64 0, .int .i64 0, .slice none 0 0] 26); rw [show (w.alloc (.cells #[.int .i64 x, .int .i64 y, .slice a len cap] 26)).heap.size = w.heap.size + 1 from by simp] at h; exact h)
  have z0 := box_cell hz 0
  have z1 := box_cell hz 1
  have z2 := box_cell hz 2
  have f0 := box_free hz 0
  have f1 := box_free hz 1
  have f2 := box_free hz 2
  go_wp2_with (first | (go_at_call 63; refine (spec_l00In _ _ _ _).mono ?_; rintro e w' ⟨rfl, rfl⟩) | fail)
  refine bodyPost_ret (v := .tuple #[.agg #[.int .i64 0, .int .i64 0, .slice none 0 0], .bool false]) ?_ rfl (RetP.none os rfl (by repeat (first | exact Below.refl _ _ | refine Below.setCell ?_ (by first | (simp; done) | (simp; omega)) _ | refine Below.trans ?_ (Below.mono (by assumption) (by first | (simp; done) | (simp; omega))) | refine Below.alloc ?_ (by first | (simp; done) | (simp; omega)) _ | refine Below.alloc ?_ (Nat.le_refl _) _ | refine below_drewN ?_ _)))
  simp [results, Try.results30, go_sem, z0, z1, z2]

theorem impl_BoxPicture_bad1 (x y : Int) (a : Option Addr) (len cap : Nat) (rc : Int) (os : Nat → Option Nat) (w : World) (hrg : (decide (0 ≤ rc) && decide (rc ≤ 3)) = false) :
    Calls Try.prog 31 #[.agg #[.int .i64 x, .int .i64 y, .slice a len cap], .int .i64 rc] w (RetP 0 0 0 false os w) := by
  go_enter Try.func31, Try.ntmps31
  go_wp2_with (first | (go_at_call 65; refine (impl_in _ _ _ _).mono ?_; rintro e w' ⟨rfl, rfl⟩) | fail)
  refine bodyPost_ret (v := .tuple #[.agg #[.int .i64 0, .int .i64 0, .slice none 0 0], .bool false]) ?_ rfl (RetP.none os rfl (by repeat (first | exact Below.refl _ _ | refine Below.setCell ?_ (by first | (simp; done) | (simp; omega)) _ | refine Below.trans ?_ (Below.mono (by assumption) (by first | (simp; done) | (simp; omega))) | refine Below.alloc ?_ (by first | (simp; done) | (simp; omega)) _ | refine Below.alloc ?_ (Nat.le_refl _) _ | refine below_drewN ?_ _)))
  simp [results, Try.results31, go_sem]

theorem BoxPicture_pair (x y : Int) (len : Nat) (zs : List Nat) (rc : Int) (_wrc : (Lit.int .i64 rc).wf = true) (_ : -9223372036854775808 ≤ x ∧ x ≤ 9223372036854775807) (_ : -9223372036854775808 ≤ y ∧ y ≤ 9223372036854775807) : ∃ (x' y' : Int) (n : Nat) (ok : Bool) (os : Nat → Option Nat), n ≤ 1000 ∧
  (∀ W b cp, IsFRow W b len cp zs → Calls Try.prog 30 #[.agg #[.int .i64 x, .int .i64 y, .slice b len cp], .int .i64 rc] W (RetP x' y' n ok os W)) ∧
  (∀ W b cp, IsFRow W b len cp zs → Calls Try.prog 31 #[.agg #[.int .i64 x, .int .i64 y, .slice b len cp], .int .i64 rc] W (RetP x' y' n ok os W)) := by
  by_cases hb1 : 0 ≤ rc
  case neg =>
    have hrg : (decide (0 ≤ rc) && decide (rc ≤ 3)) = false := by rw [Bool.and_eq_false_iff]; simp only [decide_eq_false_iff_not]; omega
    cases hvb : validB x y len with
    | false => exact ⟨0, 0, 0, false, fun _ => none, by omega, fun W b cp _ => spec_BoxPicture_bad x y b len cp rc _ W hvb, fun W b cp _ => impl_BoxPicture_bad1 x y b len cp rc _ W hrg⟩
    | true => exact ⟨0, 0, 0, false, fun _ => none, by omega, fun W b cp _ => spec_BoxPicture_bad2 x y b len cp rc _ W hvb hrg, fun W b cp _ => impl_BoxPicture_bad1 x y b len cp rc _ W hrg⟩
  by_cases hb2 : rc ≤ 3
  case neg =>
    have hrg : (decide (0 ≤ rc) && decide (rc ≤ 3)) = false := by rw [Bool.and_eq_false_iff]; simp only [decide_eq_false_iff_not]; omega
    cases hvb : validB x y len with
    | false => exact ⟨0, 0, 0, false, fun _ => none, by omega, fun W b cp _ => spec_BoxPicture_bad x y b len cp rc _ W hvb, fun W b cp _ => impl_BoxPicture_bad1 x y b len cp rc _ W hrg⟩
    | true => exact ⟨0, 0, 0, false, fun _ => none, by omega, fun W b cp _ => spec_BoxPicture_bad2 x y b len cp rc _ W hvb hrg, fun W b cp _ => impl_BoxPicture_bad1 x y b len cp rc _ W hrg⟩
  cases hvb : validB x y len with
  | false => exact ⟨0, 0, 0, false, fun _ => none, by omega, fun W b cp _ => spec_BoxPicture_bad x y b len cp rc _ W hvb, fun W b cp _ => impl_BoxPicture_bad x y b len cp rc _ W hvb hb1 hb2⟩
  | true =>
    obtain ⟨X, Y, rfl, rfl, hl, hW, hH⟩ := valid_nat hvb
    have hn : Y * X ≤ 1000 := Nat.le_trans (Nat.mul_le_mul hH.2 hW.2) (by omega)
    refine ⟨X, Y, Y * X, true, osXY X (fun (x y : Nat) => oop .quo .f32 (bAll zs X Y x y rc (2 * rc + 1).toNat) (ab .f32 (floatOfInt .f32 ((2 * rc + 1) * (2 * rc + 1))))), hn, fun W b cp h => spec_BoxPicture_ok X Y b len cp zs rc W h hl hW hH hvb hb1 hb2, fun W b cp h => (impl_BoxPicture_ok X Y b len cp zs rc W h hl hW hH hvb hb1 hb2).mono fun e w' hr => hr.congr (fun i hi => ?_)⟩
    rfl

attribute [local irreducible] Oper.wp in
theorem FnExactBoxPicture_walk (x y : Int) (a : Option Addr) (len cap : Nat) (zs : List Nat) (rc : Int) (w : World) (h : PicOk w x y a len cap zs) (wrc : (Lit.int .i64 rc).wf = true) :
    Calls Try.prog 9 #[.agg #[.int .i64 x, .int .i64 y, .slice a len cap], .int .i64 rc] w fun e w' => e = .returned (.bool true) ∧ Below w.heap.size w w' := by
  obtain ⟨hx, hy, hrow⟩ := h
  obtain ⟨x', y', n, ok, os, hn, hs, hi⟩ := BoxPicture_pair x y len zs rc wrc hx hy
  clear hx hy
  have hcl : len ≤ 9223372036854775807 := by have h1 := hrow.2.1; have h2 := hrow.2.2.1; unfold maxLen at h2; omega
  have H := Lib.hid hrow
  have HS := Lib.hid hs
  have HI := Lib.hid hi
  clear hrow hs hi
  by_cases hl : (len : Int) ≤ 1048576
  case neg =>
    go_enter Try.func9, Try.ntmps9
    go_wp2_with fail
    refine (szPicture_no x y a len cap 1048576 _ hcl (by omega) (by omega)).mono ?_
    rintro e w1 ⟨rfl, hb⟩
    go_wp2_with fail
    go_ret
    exact ⟨rfl, (by repeat (first | exact Below.refl _ _ | refine Below.setCell ?_ (by first | (simp; done) | (simp; omega)) _ | refine Below.trans ?_ (Below.mono (by assumption) (by first | (simp; done) | (simp; omega))) | refine Below.alloc ?_ (by first | (simp; done) | (simp; omega)) _ | refine Below.alloc ?_ (Nat.le_refl _) _ | refine below_drewN ?_ _))⟩
  have hl' : len ≤ 1048576 := by omega
  go_enter Try.func9, Try.ntmps9
  go_wp2_with fail
  refine (szPicture_ok x y a len cap 1048576 _ hl (by omega)).mono ?_
  rintro e w1 ⟨rfl, b1⟩
  have t1 : w.heap.size + 1 ≤ w1.heap.size := by have := b1.size; simp at this; omega
  have EE : RowKit.Hid (Below w.heap.size w w1) := Lib.hid ((by repeat (first | exact Below.refl _ _ | refine Below.setCell ?_ (by first | (simp; done) | (simp; omega)) _ | refine Below.trans ?_ (Below.mono (by assumption) (by first | (simp; done) | (simp; omega))) | refine Below.alloc ?_ (by first | (simp; done) | (simp; omega)) _ | refine Below.alloc ?_ (Nat.le_refl _) _ | refine below_drewN ?_ _)))
  have K0 : RowKit.Hid (At3 w1 w.heap.size (.int .i64 x) (.int .i64 y) (.slice a len cap)) := Lib.hid ⟨(b1.cell (p := ⟨w.heap.size, 0, none⟩) (by simp)).trans (by go_simp), (b1.cell (p := ⟨w.heap.size, 1, none⟩) (by simp)).trans (by go_simp), (b1.cell (p := ⟨w.heap.size, 2, none⟩) (by simp)).trans (by go_simp)⟩
  clear b1
  obtain ⟨c00, c01, c02⟩ := K0.out
  go_wp2_with fail
  clear c00 c01 c02
  refine (toPicture_own x y a len cap zs _ (IsFRow.below H.out EE.out) hl').mono ?_
  rintro e w2 ⟨g2, rfl, r2, b2⟩
  have R2 := Lib.hid r2
  clear r2
  have t2 : w1.heap.size ≤ w2.heap.size := b2.size
  have BB : Below w1.heap.size w1 w2 := (by repeat (first | exact Below.refl _ _ | refine Below.setCell ?_ (by first | (simp; done) | (simp; omega)) _ | refine Below.trans ?_ (Below.mono (by assumption) (by first | (simp; done) | (simp; omega))) | refine Below.alloc ?_ (by first | (simp; done) | (simp; omega)) _ | refine Below.alloc ?_ (Nat.le_refl _) _ | refine below_drewN ?_ _))
  replace EE := Lib.hid (EE.out.trans (BB.mono (by omega)))
  replace K0 := Lib.hid (At3.below K0.out BB (by omega))
  clear BB b2
  go_wp2_with fail
  refine (HS.out _ _ _ R2.out.row).mono ?_
  rintro e w3 ⟨ao3, cp3, zs3, rfl, r3, i3, b3⟩
  have R3 := Lib.hid r3
  have I3 := Lib.hid i3
  clear r3 i3 R2
  have t3 : w2.heap.size ≤ w3.heap.size := b3.size
  have BB : Below w2.heap.size w2 w3 := (by repeat (first | exact Below.refl _ _ | refine Below.setCell ?_ (by first | (simp; done) | (simp; omega)) _ | refine Below.trans ?_ (Below.mono (by assumption) (by first | (simp; done) | (simp; omega))) | refine Below.alloc ?_ (by first | (simp; done) | (simp; omega)) _ | refine Below.alloc ?_ (Nat.le_refl _) _ | refine below_drewN ?_ _))
  replace EE := Lib.hid (EE.out.trans (BB.mono (by omega)))
  replace K0 := Lib.hid (At3.below K0.out BB (by omega))
  clear BB b3
  obtain ⟨c00, c01, c02⟩ := K0.out
  have n3 : w.heap.size ≠ w3.heap.size := by omega
  have m3 : w.heap.size < w3.heap.size := by omega
  go_wp2_with fail
  clear c00 c01 c02
  refine (toPicture_own x y a len cap zs _ (IsFRow.below H.out (EE.out.trans (Below.mono (B := w3.heap.size) (by repeat (first | exact Below.refl _ _ | refine Below.setCell ?_ (by first | (simp; done) | (simp; omega)) _ | refine Below.trans ?_ (Below.mono (by assumption) (by first | (simp; done) | (simp; omega))) | refine Below.alloc ?_ (by first | (simp; done) | (simp; omega)) _ | refine Below.alloc ?_ (Nat.le_refl _) _ | refine below_drewN ?_ _)) (by omega)))) hl').mono ?_
  rintro e w4 ⟨g4, rfl, r4, b4⟩
  have R4 := Lib.hid (r4.mono (lo' := w3.heap.size + 1) (hi' := w4.heap.size) (by simp) (Nat.le_refl _))
  clear r4
  have t4 : w3.heap.size + 1 ≤ w4.heap.size := by have := b4.size; simp at this; omega
  have BB : Below w3.heap.size w3 w4 := (by repeat (first | exact Below.refl _ _ | refine Below.setCell ?_ (by first | (simp; done) | (simp; omega)) _ | refine Below.trans ?_ (Below.mono (by assumption) (by first | (simp; done) | (simp; omega))) | refine Below.alloc ?_ (by first | (simp; done) | (simp; omega)) _ | refine Below.alloc ?_ (Nat.le_refl _) _ | refine below_drewN ?_ _))
  replace EE := Lib.hid (EE.out.trans (BB.mono (by omega)))
  replace K0 := Lib.hid (At3.below K0.out BB (by omega))
  replace R3 := Lib.hid (R3.out.below BB)
  have K8 : RowKit.Hid (At3 w4 w3.heap.size (.int .i64 x') (.int .i64 y') (.slice ao3 n cp3)) := Lib.hid ⟨(b4.cell (p := ⟨w3.heap.size, 0, none⟩) (by simp)).trans (by go_simp), (b4.cell (p := ⟨w3.heap.size, 1, none⟩) (by simp)).trans (by go_simp), (b4.cell (p := ⟨w3.heap.size, 2, none⟩) (by simp)).trans (by go_simp)⟩
  clear BB b4
  go_wp2_with fail
  refine (HI.out _ _ _ (R4.out.below (by repeat (first | exact Below.refl _ _ | refine Below.setCell ?_ (by first | (simp; done) | (simp; omega)) _ | refine Below.trans ?_ (Below.mono (by assumption) (by first | (simp; done) | (simp; omega))) | refine Below.alloc ?_ (by first | (simp; done) | (simp; omega)) _ | refine Below.alloc ?_ (Nat.le_refl _) _ | refine below_drewN ?_ _))).row).mono ?_
  rintro e w5 ⟨ao5, cp5, zs5, rfl, r5, i5, b5⟩
  have R5 := Lib.hid (r5.mono (lo' := w4.heap.size + 1) (hi' := w5.heap.size) (by simp) (Nat.le_refl _))
  have I5 := Lib.hid i5
  clear r5 i5
  have t5 : w4.heap.size + 1 ≤ w5.heap.size := by have := b5.size; simp at this; omega
  have BB : Below w4.heap.size w4 w5 := (by repeat (first | exact Below.refl _ _ | refine Below.setCell ?_ (by first | (simp; done) | (simp; omega)) _ | refine Below.trans ?_ (Below.mono (by assumption) (by first | (simp; done) | (simp; omega))) | refine Below.alloc ?_ (by first | (simp; done) | (simp; omega)) _ | refine Below.alloc ?_ (Nat.le_refl _) _ | refine below_drewN ?_ _))
  replace EE := Lib.hid (EE.out.trans (BB.mono (by omega)))
  replace K0 := Lib.hid (At3.below K0.out BB (by omega))
  replace K8 := Lib.hid (At3.below K8.out BB (by omega))
  replace R3 := Lib.hid (R3.out.below BB)
  replace R4 := Lib.hid (R4.out.below BB)
  have K10 : RowKit.Hid (At3 w5 w4.heap.size (.int .i64 x) (.int .i64 y) (.slice (some ⟨g4, 0, none⟩) len len)) := Lib.hid ⟨(b5.cell (p := ⟨w4.heap.size, 0, none⟩) (by simp)).trans (by go_simp), (b5.cell (p := ⟨w4.heap.size, 1, none⟩) (by simp)).trans (by go_simp), (b5.cell (p := ⟨w4.heap.size, 2, none⟩) (by simp)).trans (by go_simp)⟩
  clear BB b5
  obtain ⟨c80, c81, c82⟩ := K8.out
  have n8 : w3.heap.size ≠ w5.heap.size := by omega
  have m8 : w3.heap.size < w5.heap.size := by omega
  go_wp2_with fail
  clear c80 c81 c82
  refine (eqP2 x' y' _ _ n _ _ zs5 zs3 _ (R5.out.below (by repeat (first | exact Below.refl _ _ | refine Below.setCell ?_ (by first | (simp; done) | (simp; omega)) _ | refine Below.trans ?_ (Below.mono (by assumption) (by first | (simp; done) | (simp; omega))) | refine Below.alloc ?_ (by first | (simp; done) | (simp; omega)) _ | refine Below.alloc ?_ (Nat.le_refl _) _ | refine below_drewN ?_ _))).row (R3.out.below (by repeat (first | exact Below.refl _ _ | refine Below.setCell ?_ (by first | (simp; done) | (simp; omega)) _ | refine Below.trans ?_ (Below.mono (by assumption) (by first | (simp; done) | (simp; omega))) | refine Below.alloc ?_ (by first | (simp; done) | (simp; omega)) _ | refine Below.alloc ?_ (Nat.le_refl _) _ | refine below_drewN ?_ _))).row (fun i hi => (I5.out i hi).ab.trans (I3.out i hi).ab.symm)).mono ?_
  rintro e w6 ⟨rfl, b6⟩
  have t6 : w5.heap.size + 1 ≤ w6.heap.size := by have := b6.size; simp at this; omega
  have BB : Below w5.heap.size w5 w6 := (by repeat (first | exact Below.refl _ _ | refine Below.setCell ?_ (by first | (simp; done) | (simp; omega)) _ | refine Below.trans ?_ (Below.mono (by assumption) (by first | (simp; done) | (simp; omega))) | refine Below.alloc ?_ (by first | (simp; done) | (simp; omega)) _ | refine Below.alloc ?_ (Nat.le_refl _) _ | refine below_drewN ?_ _))
  replace EE := Lib.hid (EE.out.trans (BB.mono (by omega)))
  replace K0 := Lib.hid (At3.below K0.out BB (by omega))
  replace K8 := Lib.hid (At3.below K8.out BB (by omega))
  replace K10 := Lib.hid (At3.below K10.out BB (by omega))
  replace R3 := Lib.hid (R3.out.below BB)
  replace R4 := Lib.hid (R4.out.below BB)
  replace R5 := Lib.hid (R5.out.below BB)
  have K11 : RowKit.Hid (At3 w6 w5.heap.size (.int .i64 x') (.int .i64 y') (.slice ao5 n cp5)) := Lib.hid ⟨(b6.cell (p := ⟨w5.heap.size, 0, none⟩) (by simp)).trans (by go_simp), (b6.cell (p := ⟨w5.heap.size, 1, none⟩) (by simp)).trans (by go_simp), (b6.cell (p := ⟨w5.heap.size, 2, none⟩) (by simp)).trans (by go_simp)⟩
  clear BB b6
  clear n3 m3 n8 m8
  go_wp2_with fail
  refine wp_region_all (by kernel_rfl) (by kernel_rfl) 5 (by kernel_rfl) (fun _ v => ⟨#[.agg #[.int .i64 x, .int .i64 y, .slice a len cap], .int .i64 rc, .pointer (some ⟨w.heap.size, 0, none⟩), undef, .bool false, .int .i64 (1048576 - (len : Int)), .pointer (some ⟨w3.heap.size, 0, none⟩), .bool ok, .pointer (some ⟨w4.heap.size, 0, none⟩), .pointer (some ⟨w5.heap.size, 0, none⟩), .bool ok, undef, undef, undef, undef, undef, .agg #[.int .i64 x, .int .i64 y, .slice a len cap], .int .i64 1048576, .int .i64 (1048576 - (len : Int)), .int .i64 (1048576 - (len : Int)), .bool (decide ((1048576 - (len : Int)) < 0)), .tuple #[.agg #[.int .i64 x', .int .i64 y', .slice ao3 n cp3], .bool ok], .agg #[.int .i64 x, .int .i64 y, .slice a len cap], .agg #[.int .i64 x, .int .i64 y, .slice (some ⟨g2, 0, none⟩) len len], .int .i64 rc, .tuple #[.agg #[.int .i64 x', .int .i64 y', .slice ao3 n cp3], .bool ok], .agg #[.int .i64 x', .int .i64 y', .slice ao3 n cp3], .bool ok, .agg #[.int .i64 x, .int .i64 y, .slice a len cap], .agg #[.int .i64 x, .int .i64 y, .slice (some ⟨g4, 0, none⟩) len len], .tuple #[.agg #[.int .i64 x', .int .i64 y', .slice ao5 n cp5], .bool ok], .agg #[.int .i64 x, .int .i64 y, .slice (some ⟨g4, 0, none⟩) len len], .int .i64 rc, .tuple #[.agg #[.int .i64 x', .int .i64 y', .slice ao5 n cp5], .bool ok], .agg #[.int .i64 x', .int .i64 y', .slice ao5 n cp5], .bool ok, .agg #[.int .i64 x', .int .i64 y', .slice ao5 n cp5], .agg #[.int .i64 x', .int .i64 y', .slice ao3 n cp3], .bool true, .bool false, .bool false, .bool ok, .bool ok, .bool false, .bool false, v 0, v 1, v 2, v 3, v 4, undef, undef, undef, undef, undef, undef, undef, undef, undef, undef, undef, undef, undef, undef, undef, undef, undef, undef, undef, undef, undef, undef, undef, undef, undef, undef, undef, undef, undef, undef, undef, undef, undef, undef, undef, undef, undef, undef, undef, undef, undef, undef, undef, undef, undef, undef, undef, undef, undef, undef, undef], []⟩)
    (fun W => Below w6.heap.size w6 W)
    (fun j W s => match j with | 0 => s = .agg #[.int .i64 x, .int .i64 y, .slice (some ⟨g4, 0, none⟩) len len] | 1 => s = .agg #[.int .i64 x, .int .i64 y, .slice a len cap] | 2 => ∃ g, s = .agg #[.int .i64 x, .int .i64 y, .slice (some ⟨g, 0, none⟩) len len] ∧ IsFRow W (some ⟨g, 0, none⟩) len len zs | 3 => s = .bool true | 4 => s = .bool false | _ => True) ?_ ?_ (Below.refl _ _).drew ?_ ?_
  · intro j W W' v hb
    rcases j with _ | _ | _ | _ | _ | j
    · exact id
    · exact id
    · rintro ⟨g, e, f⟩
      exact ⟨g, e, IsFRow.below f hb⟩
    · exact id
    · exact id
    · exact id
  · exact ⟨fun _ => undef, rfl⟩
  · intro i o ho hlt vals W hG hd
    rcases i with _ | _ | _ | _ | _ | i
    · refine wpOp_run ho (by cases Option.some.inj ho; rfl) ?_
      cases Option.some.inj ho
      obtain ⟨c0, c1, c2⟩ := At3.below K10.out hG (by omega)
      go_simp
      exact ⟨_, rfl, Below.refl _ _, hG, rfl⟩
    · refine wpOp_run ho (by cases Option.some.inj ho; rfl) ?_
      cases Option.some.inj ho
      obtain ⟨c0, c1, c2⟩ := At3.below K0.out hG (by omega)
      go_simp
      exact ⟨_, rfl, Below.refl _ _, hG, rfl⟩
    · refine wpOp_run ho (by cases Option.some.inj ho; rfl) ?_
      cases Option.some.inj ho
      have hc := toPicture x y a len cap zs W (IsFRow.below H.out (EE.out.trans (hG.mono EE.out.size))) hl'
      rw [← (show vals 1 = .agg #[.int .i64 x, .int .i64 y, .slice a len cap] from hd ⟨1, .data⟩ (by simp) rfl)] at hc
      go_simp
      refine hc.mono ?_
      rintro e w' ⟨g, rfl, f, hb⟩
      exact ⟨_, rfl, hb, hG.trans (hb.mono hG.size), g, rfl, f⟩
    · refine wpOp_run ho (by cases Option.some.inj ho; rfl) ?_
      cases Option.some.inj ho
      obtain ⟨g, e2, f⟩ := (show ∃ g, vals 2 = .agg #[.int .i64 x, .int .i64 y, .slice (some ⟨g, 0, none⟩) len len] ∧ IsFRow W (some ⟨g, 0, none⟩) len len zs from hd ⟨2, .data⟩ (by simp) rfl)
      have hc := eqPicture x y _ _ len len len zs W (R4.out.below hG).row f
      rw [← e2, ← (show vals 0 = .agg #[.int .i64 x, .int .i64 y, .slice (some ⟨g4, 0, none⟩) len len] from hd ⟨0, .data⟩ (by simp) rfl)] at hc
      clear e2 f
      go_simp
      refine hc.mono ?_
      rintro e w' ⟨rfl, hb⟩
      exact ⟨_, rfl, hb, hG.trans (hb.mono hG.size), rfl⟩
    · refine wpOp_run ho (by cases Option.some.inj ho; rfl) ?_
      cases Option.some.inj ho
      have e3 : vals 3 = .bool true := hd ⟨3, .data⟩ (by simp) rfl
      go_simp
      exact ⟨.bool false, by simp [upd_at, e3], Below.refl _ _, hG, rfl⟩
    · omega
  · intro vals w7 b7 hR
    have e4 : vals 4 = .bool false := hR 4 (by omega)
    simp only [Exit.then, e4]
    clear hR
    have t7 : w6.heap.size ≤ w7.heap.size := b7.size
    have BB : Below w6.heap.size w6 w7 := (by repeat (first | exact Below.refl _ _ | refine Below.setCell ?_ (by first | (simp; done) | (simp; omega)) _ | refine Below.trans ?_ (Below.mono (by assumption) (by first | (simp; done) | (simp; omega))) | refine Below.alloc ?_ (by first | (simp; done) | (simp; omega)) _ | refine Below.alloc ?_ (Nat.le_refl _) _ | refine below_drewN ?_ _))
    replace EE := Lib.hid (EE.out.trans (BB.mono (by omega)))
    replace K0 := Lib.hid (At3.below K0.out BB (by omega))
    replace K8 := Lib.hid (At3.below K8.out BB (by omega))
    replace K10 := Lib.hid (At3.below K10.out BB (by omega))
    replace K11 := Lib.hid (At3.below K11.out BB (by omega))
    replace R3 := Lib.hid (R3.out.below BB)
    replace R4 := Lib.hid (R4.out.below BB)
    replace R5 := Lib.hid (R5.out.below BB)
    clear BB b7
    obtain ⟨c100, c101, c102⟩ := K10.out
    go_wp2_with fail
    clear c100 c101 c102
    refine (markPicture x y _ len len _ _ zs 1 _ R4.out hl' (by omega) (by omega)).mono ?_
    rintro e w8 ⟨rfl, r8, b8⟩
    clear r8
    clear R4
    have t8 : w7.heap.size ≤ w8.heap.size := b8.size
    replace EE := Lib.hid (EE.out.trans (b8.below (by omega) (by omega)))
    replace K0 := Lib.hid (At3.only K0.out b8 (by omega) (by omega))
    replace K8 := Lib.hid (At3.only K8.out b8 (by omega) (by omega))
    replace K10 := Lib.hid (At3.only K10.out b8 (by omega) (by omega))
    replace K11 := Lib.hid (At3.only K11.out b8 (by omega) (by omega))
    replace R3 := Lib.hid (R3.out.only b8 (by omega))
    replace R5 := Lib.hid (R5.out.only b8 (by omega))
    clear b8
    obtain ⟨c110, c111, c112⟩ := K11.out
    obtain ⟨c80, c81, c82⟩ := K8.out
    go_wp2_with fail
    clear c110 c111 c112 c80 c81 c82
    refine (eqP2 x' y' _ _ n _ _ zs5 zs3 _ R5.out.row R3.out.row (fun i hi => (I5.out i hi).ab.trans (I3.out i hi).ab.symm)).mono ?_
    rintro e w9 ⟨rfl, b9⟩
    have t9 : w8.heap.size ≤ w9.heap.size := b9.size
    have BB : Below w8.heap.size w8 w9 := (by repeat (first | exact Below.refl _ _ | refine Below.setCell ?_ (by first | (simp; done) | (simp; omega)) _ | refine Below.trans ?_ (Below.mono (by assumption) (by first | (simp; done) | (simp; omega))) | refine Below.alloc ?_ (by first | (simp; done) | (simp; omega)) _ | refine Below.alloc ?_ (Nat.le_refl _) _ | refine below_drewN ?_ _))
    replace EE := Lib.hid (EE.out.trans (BB.mono (by omega)))
    replace K0 := Lib.hid (At3.below K0.out BB (by omega))
    replace K8 := Lib.hid (At3.below K8.out BB (by omega))
    replace K10 := Lib.hid (At3.below K10.out BB (by omega))
    replace K11 := Lib.hid (At3.below K11.out BB (by omega))
    replace R3 := Lib.hid (R3.out.below BB)
    replace R5 := Lib.hid (R5.out.below BB)
    clear BB b9
    obtain ⟨c110, c111, c112⟩ := K11.out
    go_wp2_with fail
    clear c110 c111 c112
    refine (markPicture x' y' _ n _ _ _ zs5 1 _ R5.out (by omega) (by omega) (by omega)).mono ?_
    rintro e w10 ⟨rfl, r10, b10⟩
    have R10 := Lib.hid r10
    clear r10 R5
    have t10 : w9.heap.size ≤ w10.heap.size := b10.size
    replace EE := Lib.hid (EE.out.trans (b10.below (by omega) (by omega)))
    replace K0 := Lib.hid (At3.only K0.out b10 (by omega) (by omega))
    replace K8 := Lib.hid (At3.only K8.out b10 (by omega) (by omega))
    replace K10 := Lib.hid (At3.only K10.out b10 (by omega) (by omega))
    replace K11 := Lib.hid (At3.only K11.out b10 (by omega) (by omega))
    replace R3 := Lib.hid (R3.out.only b10 (by omega))
    clear b10
    obtain ⟨c110, c111, c112⟩ := K11.out
    go_wp2_with fail
    clear c110 c111 c112
    refine (heldPicture x' y' _ n _ _ _ 1 _ R10.out (by omega) (by omega) (by omega)).mono ?_
    rintro e w11 ⟨rfl, b11⟩
    have t11 : w10.heap.size ≤ w11.heap.size := b11.size
    have BB : Below w10.heap.size w10 w11 := (by repeat (first | exact Below.refl _ _ | refine Below.setCell ?_ (by first | (simp; done) | (simp; omega)) _ | refine Below.trans ?_ (Below.mono (by assumption) (by first | (simp; done) | (simp; omega))) | refine Below.alloc ?_ (by first | (simp; done) | (simp; omega)) _ | refine Below.alloc ?_ (Nat.le_refl _) _ | refine below_drewN ?_ _))
    replace EE := Lib.hid (EE.out.trans (BB.mono (by omega)))
    replace K0 := Lib.hid (At3.below K0.out BB (by omega))
    replace K8 := Lib.hid (At3.below K8.out BB (by omega))
    replace K10 := Lib.hid (At3.below K10.out BB (by omega))
    replace K11 := Lib.hid (At3.below K11.out BB (by omega))
    replace R3 := Lib.hid (R3.out.below BB)
    replace R10 := Lib.hid (R10.out.below BB)
    clear BB b11
    obtain ⟨c00, c01, c02⟩ := K0.out
    go_wp2_with fail
    clear c00 c01 c02
    refine (toPicture_own x y a len cap zs _ (IsFRow.below H.out EE.out) hl').mono ?_
    rintro e w12 ⟨g12, rfl, r12, b12⟩
    have R12 := Lib.hid r12
    clear r12
    have t12 : w11.heap.size ≤ w12.heap.size := b12.size
    have BB : Below w11.heap.size w11 w12 := (by repeat (first | exact Below.refl _ _ | refine Below.setCell ?_ (by first | (simp; done) | (simp; omega)) _ | refine Below.trans ?_ (Below.mono (by assumption) (by first | (simp; done) | (simp; omega))) | refine Below.alloc ?_ (by first | (simp; done) | (simp; omega)) _ | refine Below.alloc ?_ (Nat.le_refl _) _ | refine below_drewN ?_ _))
    replace EE := Lib.hid (EE.out.trans (BB.mono (by omega)))
    replace K0 := Lib.hid (At3.below K0.out BB (by omega))
    replace K8 := Lib.hid (At3.below K8.out BB (by omega))
    replace K10 := Lib.hid (At3.below K10.out BB (by omega))
    replace K11 := Lib.hid (At3.below K11.out BB (by omega))
    replace R3 := Lib.hid (R3.out.below BB)
    replace R10 := Lib.hid (R10.out.below BB)
    clear BB b12
    go_wp2_with fail
    refine (HI.out _ _ _ R12.out.row).mono ?_
    rintro e w13 ⟨ao13, cp13, zs13, rfl, r13, i13, b13⟩
    have R13 := Lib.hid r13
    have I13 := Lib.hid i13
    clear r13 i13 R12
    have t13 : w12.heap.size ≤ w13.heap.size := b13.size
    have BB : Below w12.heap.size w12 w13 := (by repeat (first | exact Below.refl _ _ | refine Below.setCell ?_ (by first | (simp; done) | (simp; omega)) _ | refine Below.trans ?_ (Below.mono (by assumption) (by first | (simp; done) | (simp; omega))) | refine Below.alloc ?_ (by first | (simp; done) | (simp; omega)) _ | refine Below.alloc ?_ (Nat.le_refl _) _ | refine below_drewN ?_ _))
    replace EE := Lib.hid (EE.out.trans (BB.mono (by omega)))
    replace K0 := Lib.hid (At3.below K0.out BB (by omega))
    replace K8 := Lib.hid (At3.below K8.out BB (by omega))
    replace K10 := Lib.hid (At3.below K10.out BB (by omega))
    replace K11 := Lib.hid (At3.below K11.out BB (by omega))
    replace R3 := Lib.hid (R3.out.below BB)
    replace R10 := Lib.hid (R10.out.below BB)
    clear BB b13
    obtain ⟨c80, c81, c82⟩ := K8.out
    have n8 : w3.heap.size ≠ w13.heap.size := by omega
    have m8 : w3.heap.size < w13.heap.size := by omega
    go_wp2_with fail
    clear c80 c81 c82
    refine (eqP2 x' y' _ _ n _ _ zs13 zs3 _ (R13.out.below (by repeat (first | exact Below.refl _ _ | refine Below.setCell ?_ (by first | (simp; done) | (simp; omega)) _ | refine Below.trans ?_ (Below.mono (by assumption) (by first | (simp; done) | (simp; omega))) | refine Below.alloc ?_ (by first | (simp; done) | (simp; omega)) _ | refine Below.alloc ?_ (Nat.le_refl _) _ | refine below_drewN ?_ _))).row (R3.out.below (by repeat (first | exact Below.refl _ _ | refine Below.setCell ?_ (by first | (simp; done) | (simp; omega)) _ | refine Below.trans ?_ (Below.mono (by assumption) (by first | (simp; done) | (simp; omega))) | refine Below.alloc ?_ (by first | (simp; done) | (simp; omega)) _ | refine Below.alloc ?_ (Nat.le_refl _) _ | refine below_drewN ?_ _))).row (fun i hi => (I13.out i hi).ab.trans (I3.out i hi).ab.symm)).mono ?_
    rintro e w14 ⟨rfl, b14⟩
    have t14 : w13.heap.size + 1 ≤ w14.heap.size := by have := b14.size; simp at this; omega
    have BB : Below w13.heap.size w13 w14 := (by repeat (first | exact Below.refl _ _ | refine Below.setCell ?_ (by first | (simp; done) | (simp; omega)) _ | refine Below.trans ?_ (Below.mono (by assumption) (by first | (simp; done) | (simp; omega))) | refine Below.alloc ?_ (by first | (simp; done) | (simp; omega)) _ | refine Below.alloc ?_ (Nat.le_refl _) _ | refine below_drewN ?_ _))
    replace EE := Lib.hid (EE.out.trans (BB.mono (by omega)))
    replace K0 := Lib.hid (At3.below K0.out BB (by omega))
    replace K8 := Lib.hid (At3.below K8.out BB (by omega))
    replace K10 := Lib.hid (At3.below K10.out BB (by omega))
    replace K11 := Lib.hid (At3.below K11.out BB (by omega))
    replace R3 := Lib.hid (R3.out.below BB)
    replace R10 := Lib.hid (R10.out.below BB)
    replace R13 := Lib.hid (R13.out.below BB)
    have K16 : RowKit.Hid (At3 w14 w13.heap.size (.int .i64 x') (.int .i64 y') (.slice ao13 n cp13)) := Lib.hid ⟨(b14.cell (p := ⟨w13.heap.size, 0, none⟩) (by simp)).trans (by go_simp), (b14.cell (p := ⟨w13.heap.size, 1, none⟩) (by simp)).trans (by go_simp), (b14.cell (p := ⟨w13.heap.size, 2, none⟩) (by simp)).trans (by go_simp)⟩
    clear BB b14
    obtain ⟨c110, c111, c112⟩ := K11.out
    go_wp2_with fail
    clear c110 c111 c112
    refine (heldPicture x' y' _ n _ _ _ 1 _ R10.out (by omega) (by omega) (by omega)).mono ?_
    rintro e w15 ⟨rfl, b15⟩
    have t15 : w14.heap.size ≤ w15.heap.size := b15.size
    have BB : Below w14.heap.size w14 w15 := (by repeat (first | exact Below.refl _ _ | refine Below.setCell ?_ (by first | (simp; done) | (simp; omega)) _ | refine Below.trans ?_ (Below.mono (by assumption) (by first | (simp; done) | (simp; omega))) | refine Below.alloc ?_ (by first | (simp; done) | (simp; omega)) _ | refine Below.alloc ?_ (Nat.le_refl _) _ | refine below_drewN ?_ _))
    replace EE := Lib.hid (EE.out.trans (BB.mono (by omega)))
    replace K0 := Lib.hid (At3.below K0.out BB (by omega))
    replace K8 := Lib.hid (At3.below K8.out BB (by omega))
    replace K10 := Lib.hid (At3.below K10.out BB (by omega))
    replace K11 := Lib.hid (At3.below K11.out BB (by omega))
    replace K16 := Lib.hid (At3.below K16.out BB (by omega))
    replace R3 := Lib.hid (R3.out.below BB)
    replace R10 := Lib.hid (R10.out.below BB)
    replace R13 := Lib.hid (R13.out.below BB)
    clear BB b15
    go_wp2_with fail
    go_ret
    exact ⟨rfl, EE.out⟩
end Go.Proofs.Ytacdnkpadloheaa
