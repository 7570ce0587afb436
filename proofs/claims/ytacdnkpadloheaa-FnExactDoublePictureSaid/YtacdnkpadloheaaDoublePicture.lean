/-
  DoublePicture of a picture: the specification's walk, the program's walk, that they agree, and the law's walk.
-/
import Derived.Test.YtacdnkpadloheaaImpl
namespace Go.Proofs.Ytacdnkpadloheaa
open Go.RowKit Go.FL
attribute [local irreducible] Oper.wp in
theorem spec_DoublePicture_ok (W H : Nat) (a : Option Addr) (len cap : Nat) (zs : List Nat) (K1 : Nat) (K2 : Nat) (w : World) (h : IsFRow w a len cap zs) (hl : len = W * H) (hW : 1 ≤ W ∧ W ≤ 24) (hH : 1 ≤ H ∧ H ≤ 24) (hvb : validB W H len = true) (hs : sizeB K1 K2 = true) (hK1 : 1 ≤ K1 ∧ K1 ≤ 24) (hK2 : 1 ≤ K2 ∧ K2 ≤ 24) :
    Calls Try.prog 14 #[.agg #[.int .i64 W, .int .i64 H, .slice a len cap], .int .i64 K1, .int .i64 K2] w (RetP K1 K2 (K2 * K1) true ((osXY (K1) (fun (x y : Nat) => ab .f32 (grey zs W H (x / 2) (y / 2))))) w) := by
  have hzl : ∀ z ∈ zs, z < 4294967296 := h.2.2.2.1
  have hzn : zs.length = len := h.1
  have hcap : len ≤ cap := h.2.1
  have hcm : cap ≤ 9223372036854775807 := by have := h.2.2.1; unfold maxLen at this; omega
  have hlen : len ≤ 576 := by rw [hl]; exact Nat.mul_le_mul hW.2 hH.2
  have HH := Lib.hid h
  have HZ := Lib.hid hzl
  have HL := Lib.hid hl
  have HW := Lib.hid hW
  have HHH := Lib.hid hH
  obtain ⟨hW1, hW2⟩ := hW
  obtain ⟨hH1, hH2⟩ := hH
  clear h hzl hl
  obtain ⟨OS, HOE0⟩ : ∃ f : Nat → Nat → Option Nat, f = (fun (x y : Nat) => ab .f32 (grey zs W H (x / 2) (y / 2))) := ⟨_, rfl⟩
  have HOE := Lib.hid HOE0
  clear HOE0
  rw [show (fun (x y : Nat) => ab .f32 (grey zs W H (x / 2) (y / 2))) = OS from HOE.out.symm]
  go_enter Try.func14, Try.ntmps14
  go_wp2_with fail
  have hq := spec_l02Is w.heap.size W H a len cap ((w.alloc (.cells #[.int .i64 W, .int .i64 H, .slice a len cap] 26)).alloc (.cells #[.int .i64 0, .int .i64 0, .slice none 0 0] 26)) (by go_simp) (by go_simp) (by go_simp)
  rw [hvb] at hq
  refine hq.mono ?_
  clear hq
  rintro e w1 hq
  obtain ⟨rfl, BZ⟩ := RetB.below hq
  clear hq
  have BZ := BZ.mono (show w.heap.size + 2 ≤ _ by simp)
  have k0 : w1.cell? ⟨w.heap.size, 0, none⟩ = some (.int .i64 W) := (BZ.cell (p := ⟨w.heap.size, 0, none⟩) (by simp)).trans (by go_simp)
  have k1 : w1.cell? ⟨w.heap.size, 1, none⟩ = some (.int .i64 H) := (BZ.cell (p := ⟨w.heap.size, 1, none⟩) (by simp)).trans (by go_simp)
  have k2 : w1.cell? ⟨w.heap.size, 2, none⟩ = some (.slice a len cap) := (BZ.cell (p := ⟨w.heap.size, 2, none⟩) (by simp)).trans (by go_simp)
  obtain ⟨hK11, hK12⟩ := hK1
  obtain ⟨hK21, hK22⟩ := hK2
  go_wp2_with (first | (go_at_call 46; refine (spec_l02Size _ _ _).mono ?_; rintro e w' ⟨rfl, rfl⟩) | fail)
  refine (spec_l02New K1 K2 _ (osXY (K1) OS)).mono ?_
  rintro e w2 ⟨nb, rfl, ho2, b2⟩
  have BB := Below.trans BZ (b2.mono (by have := BZ.size; simp at this; omega))
  have hs2 : w.heap.size + 2 ≤ w2.heap.size := by have := BB.size; simp at this; omega
  have hs1 : w.heap.size + 2 ≤ w1.heap.size := by have := BZ.size; simp at this; omega
  have HO2 := Lib.hid ho2
  have HBB := Lib.hid BB
  clear ho2 b2 BB BZ k0 k1 k2
  have k0 : w2.cell? ⟨w.heap.size, 0, none⟩ = some (.int .i64 W) := (HBB.out.cell (p := ⟨w.heap.size, 0, none⟩) (by simp)).trans (by go_simp)
  have k1 : w2.cell? ⟨w.heap.size, 1, none⟩ = some (.int .i64 H) := (HBB.out.cell (p := ⟨w.heap.size, 1, none⟩) (by simp)).trans (by go_simp)
  have k2 : w2.cell? ⟨w.heap.size, 2, none⟩ = some (.slice a len cap) := (HBB.out.cell (p := ⟨w.heap.size, 2, none⟩) (by simp)).trans (by go_simp)
  go_wp2_with fail
  go_loopw [9] (fun i wr => ∃ y : Nat, ∃ v, y ≤ K2 ∧ i = .int .i64 y ∧ wr.heap[w2.heap.size]? = some (.cells #[.int .i64 K1, .int .i64 K2, v] 26 (0, 0)) ∧ OwnF wr (w.heap.size + 2) v (y * (K1)) (osXY (K1) OS) ∧ Below (w.heap.size + 2) ((w.alloc (.cells #[.int .i64 W, .int .i64 H, .slice a len cap] 26)).alloc (.cells #[.int .i64 0, .int .i64 0, .slice none 0 0] 26)) wr) (fun i _ => K2 - (intOf i).toNat)
  case atStart => exact ⟨0, _, by omega, rfl, heap_alloc_new w2 _, (OwnF.mono (HO2.out.below (Below.alloc (Below.refl _ _) (Nat.le_refl _) _)) (by first | (simp; done) | (simp; omega) | omega)).congr (by simp) (fun _ _ => rfl), (Below.alloc HBB.out hs2 _)⟩
  case round =>
    clear k0 k1 k2
    obtain ⟨y, v, hy, rfl, hbx, ho, hb⟩ := hrel
    obtain ⟨ao, cp, rfl⟩ := ho.shape
    have k0 : wr.cell? ⟨w.heap.size, 0, none⟩ = some (.int .i64 W) := (hb.cell (p := ⟨w.heap.size, 0, none⟩) (by simp)).trans (by go_simp)
    have k1 : wr.cell? ⟨w.heap.size, 1, none⟩ = some (.int .i64 H) := (hb.cell (p := ⟨w.heap.size, 1, none⟩) (by simp)).trans (by go_simp)
    have k2 : wr.cell? ⟨w.heap.size, 2, none⟩ = some (.slice a len cap) := (hb.cell (p := ⟨w.heap.size, 2, none⟩) (by simp)).trans (by go_simp)
    have HO := Lib.hid ho
    have HB := Lib.hid hb
    have HX := Lib.hid hbx
    clear ho hb hbx
    by_cases hlt : y < K2
    · go_wp2_with fail
      go_loopw [10] (fun i wr => ∃ x : Nat, ∃ v, x ≤ K1 ∧ i = .int .i64 x ∧ wr.heap[w2.heap.size]? = some (.cells #[.int .i64 K1, .int .i64 K2, v] 26 (0, 0)) ∧ OwnF wr (w.heap.size + 2) v (y * (K1) + x) (osXY (K1) OS) ∧ Below (w.heap.size + 2) ((w.alloc (.cells #[.int .i64 W, .int .i64 H, .slice a len cap] 26)).alloc (.cells #[.int .i64 0, .int .i64 0, .slice none 0 0] 26)) wr) (fun i _ => K1 - (intOf i).toNat)
      case atStart => exact ⟨0, _, by omega, rfl, HX.out, HO.out, HB.out⟩
      case round =>
        clear HX HO HB ao cp k0 k1 k2
        obtain ⟨x, v, hx, rfl, hbx, ho, hb⟩ := hrel
        obtain ⟨ao, cp, rfl⟩ := ho.shape
        have k0 : wr.cell? ⟨w.heap.size, 0, none⟩ = some (.int .i64 W) := (hb.cell (p := ⟨w.heap.size, 0, none⟩) (by simp)).trans (by go_simp)
        have k1 : wr.cell? ⟨w.heap.size, 1, none⟩ = some (.int .i64 H) := (hb.cell (p := ⟨w.heap.size, 1, none⟩) (by simp)).trans (by go_simp)
        have k2 : wr.cell? ⟨w.heap.size, 2, none⟩ = some (.slice a len cap) := (hb.cell (p := ⟨w.heap.size, 2, none⟩) (by simp)).trans (by go_simp)
        have HO := Lib.hid ho
        have HB := Lib.hid hb
        have HX := Lib.hid hbx
        clear ho hb hbx
        by_cases hlx : x < K1
        · have hn : (y * (K1) + x) ≤ 1000 := by
            have h1 : y * (K1) ≤ 24 * 24 := Nat.mul_le_mul (by omega) (by omega)
            omega
          have HOS : RowKit.Hid ((osXY (K1) OS) (y * (K1) + x) = _) := Lib.hid ((osXY_at (os := OS) hlx).trans (congrFun (congrFun HOE.out x) y))
          go_wp2_with fail
          refine wp_region_own (by kernel_rfl) (by kernel_rfl) 10 (by kernel_rfl) 8 (fun _ v => ⟨#[Value.agg #[Value.int IntKind.i64 (W : Int), Value.int IntKind.i64 (H : Int), Value.slice a len cap], Value.int IntKind.i64 (K1 : Int), Value.int IntKind.i64 (K2 : Int), Value.pointer (some ⟨w.heap.size, 0, none⟩), undef, undef, Value.pointer (some ⟨w.heap.size + 1, 0, none⟩), Value.bool false, Value.pointer (some ⟨w2.heap.size, 0, none⟩), Value.int IntKind.i64 (y : Int), Value.int IntKind.i64 (x : Int), Value.bool true, Value.bool false, Value.bool false, Value.int IntKind.i64 (K1 : Int), Value.int IntKind.i64 (K2 : Int), Value.bool true, Value.bool false, Value.bool false, undef, Value.int IntKind.i64 (K1 : Int), Value.int IntKind.i64 (K2 : Int), Value.agg #[Value.int IntKind.i64 (K1 : Int), Value.int IntKind.i64 (K2 : Int), Value.slice (some ⟨nb, 0, none⟩) 0 0], Value.int IntKind.i64 (y : Int), Value.int IntKind.i64 (K2 : Int), Value.bool true, u26, u27, Value.int IntKind.i64 (x : Int), Value.int IntKind.i64 (K1 : Int), Value.bool true, u31, u32, v 0, v 1, v 2, v 3, v 4, v 5, v 6, v 7, v 8, v 9, undef], []⟩) (fun d WW => Below (w.heap.size + 2) ((w.alloc (.cells #[.int .i64 W, .int .i64 H, .slice a len cap] 26)).alloc (.cells #[.int .i64 0, .int .i64 0, .slice none 0 0] 26)) WW ∧ wr.heap.size ≤ WW.heap.size ∧ WW.heap[w2.heap.size]? = some (.cells #[.int .i64 K1, .int .i64 K2, .slice ao (y * (K1) + x) cp] 26 (0, 0)) ∧ (d = false → OwnF WW (w.heap.size + 2) (.slice ao (y * (K1) + x) cp) (y * (K1) + x) (osXY (K1) OS)))
            (fun j WW s => match j with | 0 => s = .pointer (some ⟨w2.heap.size, 2, none⟩) | 1 => s = .slice ao (y * (K1) + x) cp | 2 => s = .int .i64 x | 3 => s = .int .i64 (x / 2) | 4 => s = .int .i64 y | 5 => s = .int .i64 (y / 2) | 6 => s = .float .f32 (grey zs W H ((x / 2)) ((y / 2))) | 7 => ∃ nb, s = .slice (some ⟨nb, 0, none⟩) 1 1 ∧ ∃ r, Is .f32 r (ab .f32 ((grey zs W H ((x / 2)) ((y / 2))))) ∧ wr.heap.size ≤ nb ∧ nb < WW.heap.size ∧ WW.cell? ⟨nb, 0, none⟩ = some (.float .f32 r) | 8 => OwnF WW (w.heap.size + 2) s ((y * (K1) + x) + 1) (osXY (K1) OS) | 9 => s = .pointer (some ⟨w2.heap.size, 2, none⟩) | _ => True) ?_ ⟨fun i => [u33, u34, u35, u36, u37, u38, u39, u40, u41, u42].getD i undef, rfl⟩ ⟨HB.out.drew, Nat.le_refl _, HX.out, fun _ => HO.out.below (Below.refl _ _).drew⟩ ?_ ?_ (by omega) ?_
          · intro j WW W2 s hb
            rcases j with _ | _ | _ | _ | _ | _ | _ | _ | _ | _ | j
            · exact id
            · exact id
            · exact id
            · exact id
            · exact id
            · exact id
            · exact id
            · rintro ⟨nb, e, r, hr, h1, h2, hc⟩
              exact ⟨nb, e, r, hr, h1, Nat.lt_of_lt_of_le h2 hb.size, (hb.cell (p := ⟨nb, 0, none⟩) h2).trans hc⟩
            · exact fun h => h.below hb
            · exact id
            · exact id
          · intro i o ho hlt2 hne d vals WW hG hd
            rcases i with _ | _ | _ | _ | _ | _ | _ | _ | _ | _ | i
            · refine wpOp_run ho (by cases Option.some.inj ho; rfl) ?_
              cases Option.some.inj ho
              go_simp
              exact ⟨.pointer (some ⟨w2.heap.size, 2, none⟩), by simp [upd_at], Below.refl _ _, hG, rfl⟩
            · refine wpOp_run ho (by cases Option.some.inj ho; rfl) ?_
              cases Option.some.inj ho
              have e0 : vals 0 = .pointer (some ⟨w2.heap.size, 2, none⟩) := hd ⟨0, .data⟩ (by simp) rfl
              have hcx := (box_cell hG.2.2.1 2)
              go_simp
              exact ⟨.slice ao (y * (K1) + x) cp, by simp [upd_at, e0], Below.refl _ _, hG, rfl⟩
            · refine wpOp_run ho (by cases Option.some.inj ho; rfl) ?_
              cases Option.some.inj ho
              go_simp
              exact ⟨.int .i64 x, by simp [upd_at], Below.refl _ _, hG, rfl⟩
            · refine wpOp_run ho (by cases Option.some.inj ho; rfl) ?_
              cases Option.some.inj ho
              have e2 : vals 2 = .int .i64 x := hd ⟨2, .data⟩ (by simp) rfl
              have hw3 : Int.tdiv (x : Int) 2 = (x : Int) / 2 := Int.tdiv_eq_ediv_of_nonneg (by omega)
              have hv3 : IntKind.i64.wrap ((x : Int) / 2) = x / 2 := by rw [IntKind.wrap_i64]; omega
              go_simp
              exact ⟨.int .i64 (x / 2), by simp [upd_at, e2], Below.refl _ _, hG, rfl⟩
            · refine wpOp_run ho (by cases Option.some.inj ho; rfl) ?_
              cases Option.some.inj ho
              go_simp
              exact ⟨.int .i64 y, by simp [upd_at], Below.refl _ _, hG, rfl⟩
            · refine wpOp_run ho (by cases Option.some.inj ho; rfl) ?_
              cases Option.some.inj ho
              have e4 : vals 4 = .int .i64 y := hd ⟨4, .data⟩ (by simp) rfl
              have hw5 : Int.tdiv (y : Int) 2 = (y : Int) / 2 := Int.tdiv_eq_ediv_of_nonneg (by omega)
              have hv5 : IntKind.i64.wrap ((y : Int) / 2) = y / 2 := by rw [IntKind.wrap_i64]; omega
              go_simp
              exact ⟨.int .i64 (y / 2), by simp [upd_at, e4], Below.refl _ _, hG, rfl⟩
            · refine wpOp_run ho (by cases Option.some.inj ho; rfl) ?_
              cases Option.some.inj ho
              have e3 : vals 3 = .int .i64 (x / 2) := hd ⟨3, .data⟩ (by simp) rfl
              have e5 : vals 5 = .int .i64 (y / 2) := hd ⟨5, .data⟩ (by simp) rfl
              have d0 := (hG.1.cell (p := ⟨w.heap.size, 0, none⟩) (by simp)).trans (show _ = some (.int .i64 W) from by go_simp)
              have d1 := (hG.1.cell (p := ⟨w.heap.size, 1, none⟩) (by simp)).trans (show _ = some (.int .i64 H) from by go_simp)
              have d2 := (hG.1.cell (p := ⟨w.heap.size, 2, none⟩) (by simp)).trans (show _ = some (.slice a len cap) from by go_simp)
              have BG : Below w.heap.size w WW := (Below.alloc (Below.alloc (Below.refl _ _) (Nat.le_refl _) _) (by simp) _).trans (hG.1.mono (by omega))
              have hc := spec_l02At w.heap.size W H ((x / 2)) ((y / 2)) a len cap zs WW d0 d1 d2 (IsFRow.below HH.out BG) HL.out HW.out HHH.out
              go_simp
              refine hc.mono ?_
              rintro e w' ⟨q, rfl, rfl⟩
              have hB := below_drewN (Below.refl WW.heap.size WW) q
              go_simp
              exact ⟨.float .f32 (grey zs W H ((x / 2)) ((y / 2))), by simp [upd_at, e3, e5], hB, ⟨hG.1.trans (hB.mono (by have := hG.1.size; simp at this; omega)), Nat.le_trans hG.2.1 hB.size, (hB.block _ (lt_of_block hG.2.2.1)).trans hG.2.2.1, fun e => (hG.2.2.2 e).below hB⟩, rfl⟩
            · refine wpOp_run ho (by cases Option.some.inj ho; rfl) ?_
              cases Option.some.inj ho
              have e6 : vals 6 = .float .f32 (grey zs W H ((x / 2)) ((y / 2))) := hd ⟨6, .data⟩ (by simp) rfl
              have hB : Below WW.heap.size WW (WW.alloc (.cells #[.float .f32 ((grey zs W H ((x / 2)) ((y / 2))))] 52)) := Below.alloc (Below.refl _ _) (Nat.le_refl _) _
              go_simp
              exact ⟨.slice (some ⟨WW.heap.size, 0, none⟩) 1 1, by simp [upd_at, e6], hB, ⟨hG.1.trans (hB.mono (by have := hG.1.size; simp at this; omega)), Nat.le_trans hG.2.1 hB.size, (hB.block _ (lt_of_block hG.2.2.1)).trans hG.2.2.1, fun e => (hG.2.2.2 e).below hB⟩, WW.heap.size, rfl, ((grey zs W H ((x / 2)) ((y / 2)))), (show Is .f32 ((grey zs W H ((x / 2)) ((y / 2)))) (ab .f32 ((grey zs W H ((x / 2)) ((y / 2))))) from is32 (grey_lt HZ.out _ _ _ _)), hG.2.1, by simp, by go_simp⟩
            · exact absurd rfl hne
            · refine wpOp_run ho (by cases Option.some.inj ho; rfl) ?_
              cases Option.some.inj ho
              go_simp
              exact ⟨.pointer (some ⟨w2.heap.size, 2, none⟩), by simp [upd_at], Below.refl _ _, hG, rfl⟩
            · omega
          · intro o ho _ vals WW hG hd
            refine wpOp_run ho (by cases Option.some.inj ho; rfl) ?_
            cases Option.some.inj ho
            have e1 : vals 1 = .slice ao (y * (K1) + x) cp := hd ⟨1, .data⟩ (by simp) rfl
            obtain ⟨nb, e6, r, hr, h1, h2, hc⟩ := (show ∃ nb, vals 7 = .slice (some ⟨nb, 0, none⟩) 1 1 ∧ ∃ r, Is .f32 r (ab .f32 ((grey zs W H ((x / 2)) ((y / 2))))) ∧ wr.heap.size ≤ nb ∧ nb < WW.heap.size ∧ WW.cell? ⟨nb, 0, none⟩ = some (.float .f32 r) from hd ⟨7, .data⟩ (by simp) rfl)
            have hv := hG.2.2.2 rfl
            refine wp_append1 (.tmp 34) (.tmp 40) rfl e1 e6 hv (by have := hG.1.size; simp at this; omega) hn hc (by rw [HOS.out]; exact hr) ?_
            intro v' w' h7 hgr
            have hB := hv.grown (by have := hG.1.size; simp at this; omega) hgr
            refine ⟨v', by simp [upd_at, Act.put], ⟨hG.1.trans hB, Nat.le_trans hG.2.1 hgr.size, (hgr.block _ (lt_of_block hG.2.2.1) (own_ne_box hv hG.2.2.1).symm).trans hG.2.2.1, fun e => by cases e⟩, h7, ?_⟩
            intro j s hj hs
            rcases j with _ | _ | _ | _ | _ | _ | _ | _ | _ | _ | j
            · exact hs
            · exact hs
            · exact hs
            · exact hs
            · exact hs
            · exact hs
            · exact hs
            · obtain ⟨nb, e, r, hr, h1, h2, hc⟩ := hs
              exact ⟨nb, e, r, hr, h1, Nat.lt_of_lt_of_le h2 hgr.size, hgr.cell hc fun e => by have := (HO.out.lt nb e.symm).2; omega⟩
            · exact absurd rfl hj
            · exact hs
            · exact hs
          · intro vals WW hG hR
            refine wpOp_run rfl rfl ?_
            have h7 : OwnF WW (w.heap.size + 2) (vals 8) ((y * (K1) + x) + 1) (osXY (K1) OS) := hR 8 (by omega)
            have e8 : vals 9 = .pointer (some ⟨w2.heap.size, 2, none⟩) := hR 9 (by omega)
            have hcx := (box_cell hG.2.2.1 2)
            have hfx := (box_free hG.2.2.1 2)
            clear hR
            obtain ⟨a7, c7, e7⟩ := h7.shape
            rw [e7] at h7
            go_simp
            go_wp2_with fail
            go_roundw
            case rel => exact ⟨x + 1, .slice a7 ((y * (K1) + x) + 1) c7, by omega, rfl, box_set (i := 2) (.slice a7 ((y * (K1) + x) + 1) c7) hG.2.2.1, h7.setBox hG.2.2.1 _ _, Below.setCell hG.1 (by omega) _⟩
            case measure => simp [intOf]; omega
        · have hxe : x = K1 := by omega
          go_wp2_with fail
          go_roundw
          case rel => exact ⟨y + 1, _, by omega, rfl, HX.out, HO.out.congr (by rw [hxe, Nat.succ_mul]) (fun _ _ => rfl), HB.out⟩
          case measure => simp [intOf]; omega
    · obtain rfl : K2 = y := by omega
      have hz : wr.heap[w.heap.size + 1]? = some (.cells #[.int .i64 0, .int .i64 0, .slice none 0 0] 26 (0, 0)) := (HB.out.block (w.heap.size + 1) (by omega)).trans (by have h := heap_alloc_new (w.alloc (.cells #[.int .i64 W, .int .i64 H, .slice a len cap] 26)) (.cells #[.int .i64 0, .int .i64 0, .slice none 0 0] 26); rw [show (w.alloc (.cells #[.int .i64 W, .int .i64 H, .slice a len cap] 26)).heap.size = w.heap.size + 1 from by simp] at h; exact h)
      have z0 := box_cell hz 0
      have z1 := box_cell hz 1
      have z2 := box_cell hz 2
      have f0 := box_free hz 0
      have f1 := box_free hz 1
      have f2 := box_free hz 2
      have c0 := box_cell HX.out 0
      have c1 := box_cell HX.out 1
      have c2 := box_cell HX.out 2
      go_wp2_with fail
      have BW : Below w.heap.size w wr := (Below.alloc (Below.alloc (Below.refl _ _) (Nat.le_refl _) _) (by simp) _).trans (HB.out.mono (by omega))
      have hend := OwnF.setBox (OwnF.setBox (OwnF.setBox (HO.out.mono (base' := w.heap.size) (by omega)) hz 0 (.int .i64 K1)) (box_set _ hz) 1 (.int .i64 K2)) (box_set _ (box_set _ hz)) 2 (.slice ao (K2 * (K1)) cp)
      obtain ⟨ao', cp', zs', e, hro, his⟩ := (hend.congr (m := K2 * K1) rfl (fun _ _ => rfl)).orow (Nat.le_trans (Nat.mul_le_mul (show K2 ≤ 24 by omega) (show K1 ≤ 24 by omega)) (by omega))
      simp only [Value.slice.injEq, true_and] at e
      obtain ⟨rfl, rfl⟩ := e
      refine bodyPost_ret (v := .tuple #[.agg #[.int .i64 K1, .int .i64 K2, .slice ao (K2 * (K1)) cp], .bool true]) ?_ rfl ⟨ao, cp, zs', rfl, hro, his, ?_⟩
      · simp [results, Try.results14, go_sem, z0, z1, z2]
      · exact Below.setCell (Below.setCell (Below.setCell BW (by simp) _) (by simp) _) (by simp) _
theorem DoublePicture_clos (b W H : Nat) (a : Option Addr) (len cap : Nat) (zs : List Nat) (K1 : Nat) (K2 : Nat)  (w : World) (c0 : w.cell? ⟨b, 0, none⟩ = some (.int .i64 W)) (c1 : w.cell? ⟨b, 1, none⟩ = some (.int .i64 H)) (c2 : w.cell? ⟨b, 2, none⟩ = some (.slice a len cap))
    (hr : IsFRow w a len cap zs) (hl : len = W * H) (hW : 1 ≤ W ∧ W ≤ 24) (hH : 1 ≤ H ∧ H ≤ 24) (hs : sizeB K1 K2 = true) (hK1 : 1 ≤ K1 ∧ K1 ≤ 24) (hK2 : 1 ≤ K2 ∧ K2 ≤ 24)  (x y : Nat) (hx : x < K1) (hy : y < K2) :
    Calls Try.prog 53 #[.int .i64 x, .int .i64 y, .pointer (some ⟨b, 0, none⟩)] w (RetF .f32 ((fun (x y : Nat) => ab .f32 (grey zs W H (x / 2) (y / 2))) x y) w) := by
  have _hx := hx
  have _hy := hy
  have HR := Lib.hid hr
  have HL := Lib.hid hl
  have HW := Lib.hid hW
  have HH := Lib.hid hH
  have hzl : ∀ z ∈ zs, z < 4294967296 := hr.2.2.2.1
  obtain ⟨hW1, hW2⟩ := hW
  obtain ⟨hH1, hH2⟩ := hH
  clear hr hl
  have _hs := hs
  go_enter Try.func53, Try.ntmps53
  go_wp2_with (first | (go_at_call 54; refine (impl_about b W H _ _ a len cap zs _ (by go_simp) (by go_simp) (by go_simp) (IsFRow.below HR.out (by repeat (first | exact Below.refl _ _ | refine Below.setCell ?_ (by first | (simp; done) | (simp; omega)) _ | refine Below.trans ?_ (Below.mono (by assumption) (by first | (simp; done) | (simp; omega))) | refine Below.alloc ?_ (by first | (simp; done) | (simp; omega)) _ | refine Below.alloc ?_ (Nat.le_refl _) _ | refine below_drewN ?_ _))) HL.out HW.out HH.out).mono ?_; rintro e w' ⟨q, rfl, rfl⟩))
  go_ret
  exact ⟨_, _, is32 (grey_lt hzl _ _ _ _), rfl, rfl⟩
theorem impl_DoublePicture_ok (W H : Nat) (a : Option Addr) (len cap : Nat) (zs : List Nat) (K1 : Nat) (K2 : Nat) (w : World) (h : IsFRow w a len cap zs) (hl : len = W * H) (hW : 1 ≤ W ∧ W ≤ 24) (hH : 1 ≤ H ∧ H ≤ 24) (hvb : validB W H len = true) (hs : sizeB K1 K2 = true) (hK1 : 1 ≤ K1 ∧ K1 ≤ 24) (hK2 : 1 ≤ K2 ∧ K2 ≤ 24) :
    Calls Try.prog 16 #[.agg #[.int .i64 W, .int .i64 H, .slice a len cap], .int .i64 K1, .int .i64 K2] w (RetP K1 K2 (K2 * K1) true (osXY (K1) (fun (x y : Nat) => ab .f32 (grey zs W H (x / 2) (y / 2)))) w) := by
  have HR := Lib.hid h
  have HL := Lib.hid hl
  clear h hl
  have hn : K2 * K1 ≤ 1000 := Nat.le_trans (Nat.mul_le_mul (show K2 ≤ 24 by omega) (show K1 ≤ 24 by omega)) (by omega)
  have HN := Lib.hid hn
  clear hn
  have hmf : ∀ (fn : Fn) (first cap : Array Value) (w : World), (Instr.makeFunc fn first cap).run Try.prog w = .ok (.func fn first cap) w := fun _ _ _ _ => rfl
  go_enter Try.func16, Try.ntmps16
  go_wp2_with fail
  have hq := impl_ValidPicture W H a len cap ((w.alloc (.cells #[.int .i64 W, .int .i64 H, .slice a len cap] 26)).alloc (.cells #[.int .i64 0, .int .i64 0, .slice none 0 0] 26))
  rw [hvb] at hq
  refine hq.mono ?_
  clear hq
  rintro e w1 ⟨rfl, b1⟩
  have b1 := b1.mono (show w.heap.size + 2 ≤ _ by simp)
  have hs1 : w.heap.size + 2 ≤ w1.heap.size := by have := b1.size; simp at this; omega
  have k0 : w1.cell? ⟨w.heap.size, 0, none⟩ = some (.int .i64 W) := (b1.cell (p := ⟨w.heap.size, 0, none⟩) (by simp)).trans (by go_simp)
  have k1 : w1.cell? ⟨w.heap.size, 1, none⟩ = some (.int .i64 H) := (b1.cell (p := ⟨w.heap.size, 1, none⟩) (by simp)).trans (by go_simp)
  have k2 : w1.cell? ⟨w.heap.size, 2, none⟩ = some (.slice a len cap) := (b1.cell (p := ⟨w.heap.size, 2, none⟩) (by simp)).trans (by go_simp)
  have D := Lib.hid b1
  clear b1
  go_wp2_with (first | (go_at_call 51; refine (impl_sizeOk _ _ _).mono ?_; rintro e w' ⟨rfl, rfl⟩) | fail)
  have BW : Below w.heap.size w w1 := (Below.alloc (Below.alloc (Below.refl _ _) (Nat.le_refl _) _) (by simp) _).trans (D.out.mono (by omega))
  have hk : ∀ args W', (callFunc 53 args).run Try.prog W' = .ok (.enter 53 args) W' := fun args W' => by go_simp
  have hf : ∀ x y : Nat, x < K1 → y < K2 → ∀ w', Below w1.heap.size w1 w' → Calls Try.prog 53 (#[.int .i64 x, .int .i64 y] ++ #[.pointer (some ⟨w.heap.size, 0, none⟩)]) w' (RetF .f32 ((fun (x y : Nat) => ab .f32 (grey zs W H (x / 2) (y / 2))) x y) w') := by
    intro x y hx hy w' hb
    exact DoublePicture_clos w.heap.size W H a len cap zs K1 K2 w' ((hb.cell (p := ⟨w.heap.size, 0, none⟩) (show w.heap.size < _ by omega)).trans k0) ((hb.cell (p := ⟨w.heap.size, 1, none⟩) (show w.heap.size < _ by omega)).trans k1) ((hb.cell (p := ⟨w.heap.size, 2, none⟩) (show w.heap.size < _ by omega)).trans k2) (IsFRow.below HR.out (BW.trans (hb.mono (by omega)))) HL.out hW hH hs hK1 hK2 x y hx hy
  have hq := impl_made (K1) (K2) (by omega) (by omega) 53 #[.pointer (some ⟨w.heap.size, 0, none⟩)] (fun (x y : Nat) => ab .f32 (grey zs W H (x / 2) (y / 2))) w1 hk hf
  refine hq.mono ?_
  clear hq hf hk
  rintro e w2 ⟨v, rfl, ho, b2⟩
  obtain ⟨ao, c2, rfl⟩ := ho.shape
  have D2 := D.out.trans (b2.mono hs1)
  have hz : w2.heap[w.heap.size + 1]? = some (.cells #[.int .i64 0, .int .i64 0, .slice none 0 0] 26 (0, 0)) := (D2.block (w.heap.size + 1) (by first | (simp; done) | (simp; omega) | omega)).trans (by have h := heap_alloc_new (w.alloc (.cells #[.int .i64 W, .int .i64 H, .slice a len cap] 26)) (.cells #[.int .i64 0, .int .i64 0, .slice none 0 0] 26); rw [show (w.alloc (.cells #[.int .i64 W, .int .i64 H, .slice a len cap] 26)).heap.size = w.heap.size + 1 from by simp] at h; exact h)
  have z0 := box_cell hz 0
  have z1 := box_cell hz 1
  have z2 := box_cell hz 2
  have f0 := box_free hz 0
  have f1 := box_free hz 1
  have f2 := box_free hz 2
  have HO := Lib.hid ho
  have HB := Lib.hid (BW.trans (b2.mono (by omega)))
  clear ho b2 D2 BW hvb
  go_wp2_with fail
  refine bodyPost_ret (v := .tuple #[.agg #[.int .i64 K1, .int .i64 K2, .slice ao (K2 * K1) c2], .bool true]) ?_ rfl (OwnF.retp (OwnF.setBox (OwnF.setBox (OwnF.setBox (HO.out.mono (by omega)) hz _ _) (box_set _ hz) _ _) (box_set _ (box_set _ hz)) _ _) HN.out (Below.setCell (Below.setCell (Below.setCell HB.out (by simp) _) (by simp) _) (by simp) _))
  simp [results, Try.results16, go_sem, z0, z1, z2]

theorem impl_DoublePicture_bad (x y : Int) (a : Option Addr) (len cap : Nat) (k1 k2 : Int) (os : Nat → Option Nat) (w : World) (hvb : validB x y len = false)  :
    Calls Try.prog 16 #[.agg #[.int .i64 x, .int .i64 y, .slice a len cap], .int .i64 k1, .int .i64 k2] w (RetP 0 0 0 false os w) := by
  go_enter Try.func16, Try.ntmps16
  go_wp2_with fail
  have hq := impl_ValidPicture x y a len cap ((w.alloc (.cells #[.int .i64 x, .int .i64 y, .slice a len cap] 26)).alloc (.cells #[.int .i64 0, .int .i64 0, .slice none 0 0] 26))
  rw [hvb] at hq
  refine hq.mono ?_
  clear hq
  rintro e w1 ⟨rfl, b1⟩
  have hz : w1.heap[w.heap.size + 1]? = some (.cells #[.int .i64 0, .int .i64 0, .slice none 0 0] 26 (0, 0)) := (b1.block (w.heap.size + 1) (by first | (simp; done) | (simp; omega) | omega)).trans (by have h := heap_alloc_new (w.alloc (.cells #[.int .i64 x, .int .i64 y, .slice a len cap] 26)) (.cells #[.int .i64 0, .int .i64 0, .slice none 0 0] 26); rw [show (w.alloc (.cells #[.int .i64 x, .int .i64 y, .slice a len cap] 26)).heap.size = w.heap.size + 1 from by simp] at h; exact h)
  have z0 := box_cell hz 0
  have z1 := box_cell hz 1
  have z2 := box_cell hz 2
  have f0 := box_free hz 0
  have f1 := box_free hz 1
  have f2 := box_free hz 2
  go_wp2_with fail
  refine bodyPost_ret (v := .tuple #[.agg #[.int .i64 0, .int .i64 0, .slice none 0 0], .bool false]) ?_ rfl (RetP.none os rfl (by repeat (first | exact Below.refl _ _ | refine Below.setCell ?_ (by first | (simp; done) | (simp; omega)) _ | refine Below.trans ?_ (Below.mono (by assumption) (by first | (simp; done) | (simp; omega))) | refine Below.alloc ?_ (by first | (simp; done) | (simp; omega)) _ | refine Below.alloc ?_ (Nat.le_refl _) _ | refine below_drewN ?_ _)))
  simp [results, Try.results16, go_sem, z0, z1, z2]

theorem spec_DoublePicture_bad (x y : Int) (a : Option Addr) (len cap : Nat) (k1 : Int) (k2 : Int) (os : Nat → Option Nat) (w : World) (hvb : validB x y len = false)  :
    Calls Try.prog 14 #[.agg #[.int .i64 x, .int .i64 y, .slice a len cap], .int .i64 k1, .int .i64 k2] w (RetP 0 0 0 false os w) := by
  go_enter Try.func14, Try.ntmps14
  go_wp2_with fail
  have hq := spec_l02Is w.heap.size x y a len cap ((w.alloc (.cells #[.int .i64 x, .int .i64 y, .slice a len cap] 26)).alloc (.cells #[.int .i64 0, .int .i64 0, .slice none 0 0] 26)) (by go_simp) (by go_simp) (by go_simp)
  rw [hvb] at hq
  refine hq.mono ?_
  clear hq
  rintro e w1 hq
  obtain ⟨rfl, b1⟩ := RetB.below hq
  clear hq
  have hz : w1.heap[w.heap.size + 1]? = some (.cells #[.int .i64 0, .int .i64 0, .slice none 0 0] 26 (0, 0)) := (b1.block (w.heap.size + 1) (by simp)).trans (by have h := heap_alloc_new (w.alloc (.cells #[.int .i64 x, .int .i64 y, .slice a len cap] 26)) (.cells #[.int .i64 0, .int .i64 0, .slice none 0 0] 26); rw [show (w.alloc (.cells #[.int .i64 x, .int .i64 y, .slice a len cap] 26)).heap.size = w.heap.size + 1 from by simp] at h; exact h)
  have z0 := box_cell hz 0
  have z1 := box_cell hz 1
  have z2 := box_cell hz 2
  have f0 := box_free hz 0
  have f1 := box_free hz 1
  have f2 := box_free hz 2
  go_wp2_with fail
  refine bodyPost_ret (v := .tuple #[.agg #[.int .i64 0, .int .i64 0, .slice none 0 0], .bool false]) ?_ rfl (RetP.none os rfl (by repeat (first | exact Below.refl _ _ | refine Below.setCell ?_ (by first | (simp; done) | (simp; omega)) _ | refine Below.trans ?_ (Below.mono (by assumption) (by first | (simp; done) | (simp; omega))) | refine Below.alloc ?_ (by first | (simp; done) | (simp; omega)) _ | refine Below.alloc ?_ (Nat.le_refl _) _ | refine below_drewN ?_ _)))
  simp [results, Try.results14, go_sem, z0, z1, z2]

theorem spec_DoublePicture_bad2 (x y : Int) (a : Option Addr) (len cap : Nat) (k1 : Int) (k2 : Int) (os : Nat → Option Nat) (w : World) (hvb : validB x y len = true) (hrg : sizeB k1 k2 = false) :
    Calls Try.prog 14 #[.agg #[.int .i64 x, .int .i64 y, .slice a len cap], .int .i64 k1, .int .i64 k2] w (RetP 0 0 0 false os w) := by
  go_enter Try.func14, Try.ntmps14
  go_wp2_with fail
  have hq := spec_l02Is w.heap.size x y a len cap ((w.alloc (.cells #[.int .i64 x, .int .i64 y, .slice a len cap] 26)).alloc (.cells #[.int .i64 0, .int .i64 0, .slice none 0 0] 26)) (by go_simp) (by go_simp) (by go_simp)
  rw [hvb] at hq
  refine hq.mono ?_
  clear hq
  rintro e w1 hq
  obtain ⟨rfl, b1⟩ := RetB.below hq
  clear hq hvb
  have hz : w1.heap[w.heap.size + 1]? = some (.cells #[.int .i64 0, .int .i64 0, .slice none 0 0] 26 (0, 0)) := (b1.block (w.heap.size + 1) (by first | (simp; done) | (simp; omega) | omega)).trans (by have h := heap_alloc_new (w.alloc (.cells #[.int .i64 x, .int .i64 y, .slice a len cap] 26)) (.cells #[.int .i64 0, .int .i64 0, .slice none 0 0] 26); rw [show (w.alloc (.cells #[.int .i64 x, .int .i64 y, .slice a len cap] 26)).heap.size = w.heap.size + 1 from by simp] at h; exact h)
  have z0 := box_cell hz 0
  have z1 := box_cell hz 1
  have z2 := box_cell hz 2
  have f0 := box_free hz 0
  have f1 := box_free hz 1
  have f2 := box_free hz 2
  go_wp2_with (first | (go_at_call 46; refine (spec_l02Size _ _ _).mono ?_; rintro e w' ⟨rfl, rfl⟩) | fail)
  refine bodyPost_ret (v := .tuple #[.agg #[.int .i64 0, .int .i64 0, .slice none 0 0], .bool false]) ?_ rfl (RetP.none os rfl (by repeat (first | exact Below.refl _ _ | refine Below.setCell ?_ (by first | (simp; done) | (simp; omega)) _ | refine Below.trans ?_ (Below.mono (by assumption) (by first | (simp; done) | (simp; omega))) | refine Below.alloc ?_ (by first | (simp; done) | (simp; omega)) _ | refine Below.alloc ?_ (Nat.le_refl _) _ | refine below_drewN ?_ _)))
  simp [results, Try.results14, go_sem, z0, z1, z2]

theorem impl_DoublePicture_bad2 (x y : Int) (a : Option Addr) (len cap : Nat) (k1 : Int) (k2 : Int) (os : Nat → Option Nat) (w : World) (hvb : validB x y len = true) (hrg : sizeB k1 k2 = false) :
    Calls Try.prog 16 #[.agg #[.int .i64 x, .int .i64 y, .slice a len cap], .int .i64 k1, .int .i64 k2] w (RetP 0 0 0 false os w) := by
  go_enter Try.func16, Try.ntmps16
  go_wp2_with fail
  have hq := impl_ValidPicture x y a len cap ((w.alloc (.cells #[.int .i64 x, .int .i64 y, .slice a len cap] 26)).alloc (.cells #[.int .i64 0, .int .i64 0, .slice none 0 0] 26))
  rw [hvb] at hq
  refine hq.mono ?_
  clear hq
  rintro e w1 ⟨rfl, b1⟩
  have hz : w1.heap[w.heap.size + 1]? = some (.cells #[.int .i64 0, .int .i64 0, .slice none 0 0] 26 (0, 0)) := (b1.block (w.heap.size + 1) (by first | (simp; done) | (simp; omega) | omega)).trans (by have h := heap_alloc_new (w.alloc (.cells #[.int .i64 x, .int .i64 y, .slice a len cap] 26)) (.cells #[.int .i64 0, .int .i64 0, .slice none 0 0] 26); rw [show (w.alloc (.cells #[.int .i64 x, .int .i64 y, .slice a len cap] 26)).heap.size = w.heap.size + 1 from by simp] at h; exact h)
  have z0 := box_cell hz 0
  have z1 := box_cell hz 1
  have z2 := box_cell hz 2
  have f0 := box_free hz 0
  have f1 := box_free hz 1
  have f2 := box_free hz 2
  clear hvb
  go_wp2_with (first | (go_at_call 51; refine (impl_sizeOk _ _ _).mono ?_; rintro e w' ⟨rfl, rfl⟩) | fail)
  refine bodyPost_ret (v := .tuple #[.agg #[.int .i64 0, .int .i64 0, .slice none 0 0], .bool false]) ?_ rfl (RetP.none os rfl (by repeat (first | exact Below.refl _ _ | refine Below.setCell ?_ (by first | (simp; done) | (simp; omega)) _ | refine Below.trans ?_ (Below.mono (by assumption) (by first | (simp; done) | (simp; omega))) | refine Below.alloc ?_ (by first | (simp; done) | (simp; omega)) _ | refine Below.alloc ?_ (Nat.le_refl _) _ | refine below_drewN ?_ _)))
  simp [results, Try.results16, go_sem, z0, z1, z2]

theorem DoublePicture_pair (x y : Int) (len : Nat) (zs : List Nat) (k1 k2 : Int) (_ : (Lit.int .i64 k1).wf = true) (_ : (Lit.int .i64 k2).wf = true) (_ : -9223372036854775808 ≤ x ∧ x ≤ 9223372036854775807) (_ : -9223372036854775808 ≤ y ∧ y ≤ 9223372036854775807) : ∃ (x' y' : Int) (n : Nat) (ok : Bool) (os : Nat → Option Nat), n ≤ 1000 ∧
  (∀ W b cp, IsFRow W b len cp zs → Calls Try.prog 14 #[.agg #[.int .i64 x, .int .i64 y, .slice b len cp], .int .i64 k1, .int .i64 k2] W (RetP x' y' n ok os W)) ∧
  (∀ W b cp, IsFRow W b len cp zs → Calls Try.prog 16 #[.agg #[.int .i64 x, .int .i64 y, .slice b len cp], .int .i64 k1, .int .i64 k2] W (RetP x' y' n ok os W)) := by
  cases hvb : validB x y len with
  | false => exact ⟨0, 0, 0, false, fun _ => none, by omega, fun W b cp _ => spec_DoublePicture_bad x y b len cp k1 k2 _ W hvb, fun W b cp _ => impl_DoublePicture_bad x y b len cp k1 k2 _ W hvb⟩
  | true =>
  cases hs : sizeB k1 k2 with
  | false => exact ⟨0, 0, 0, false, fun _ => none, by omega, fun W b cp _ => spec_DoublePicture_bad2 x y b len cp k1 k2 _ W hvb hs, fun W b cp _ => impl_DoublePicture_bad2 x y b len cp k1 k2 _ W hvb hs⟩
  | true =>
    obtain ⟨X, Y, rfl, rfl, hl, hW, hH⟩ := valid_nat hvb
    obtain ⟨q1, q2, q3, q4, -, -⟩ := sizeB_bounds hs
    obtain ⟨K1, rfl⟩ := Int.eq_ofNat_of_zero_le (show 0 ≤ k1 by omega)
    obtain ⟨K2, rfl⟩ := Int.eq_ofNat_of_zero_le (show 0 ≤ k2 by omega)
    have hK1 : 1 ≤ K1 ∧ K1 ≤ 24 := by omega
    have hK2 : 1 ≤ K2 ∧ K2 ≤ 24 := by omega
    have hn : K2 * K1 ≤ 1000 := Nat.le_trans (Nat.mul_le_mul hK2.2 hK1.2) (by omega)
    exact ⟨K1, K2, K2 * K1, true, osXY K1 (fun (x y : Nat) => ab .f32 (grey zs X Y (x / 2) (y / 2))), hn, fun W b cp h => spec_DoublePicture_ok X Y b len cp zs K1 K2 W h hl hW hH hvb hs hK1 hK2, fun W b cp h => impl_DoublePicture_ok X Y b len cp zs K1 K2 W h hl hW hH hvb hs hK1 hK2⟩
attribute [local irreducible] Oper.wp in
theorem FnExactDoublePicture_walk (x y : Int) (a : Option Addr) (len cap : Nat) (zs : List Nat) (k1 : Int) (k2 : Int) (w : World) (h : PicOk w x y a len cap zs) (wk1 : (Lit.int .i64 k1).wf = true) (wk2 : (Lit.int .i64 k2).wf = true) :
    Calls Try.prog 3 #[.agg #[.int .i64 x, .int .i64 y, .slice a len cap], .int .i64 k1, .int .i64 k2] w fun e w' => e = .returned (.bool true) ∧ Below w.heap.size w w' := by
  obtain ⟨hx, hy, hrow⟩ := h
  obtain ⟨x', y', n, ok, os, hn, hs, hi⟩ := DoublePicture_pair x y len zs k1 k2 wk1 wk2 hx hy
  clear hx hy
  have hcl : len ≤ 9223372036854775807 := by have h1 := hrow.2.1; have h2 := hrow.2.2.1; unfold maxLen at h2; omega
  have H := Lib.hid hrow
  have HS := Lib.hid hs
  have HI := Lib.hid hi
  clear hrow hs hi
  by_cases hl : (len : Int) ≤ 1048576
  case neg =>
    go_enter Try.func3, Try.ntmps3
    go_wp2_with fail
    refine (szPicture_no x y a len cap 1048576 _ hcl (by omega) (by omega)).mono ?_
    rintro e w1 ⟨rfl, hb⟩
    go_wp2_with fail
    go_ret
    exact ⟨rfl, (by repeat (first | exact Below.refl _ _ | refine Below.setCell ?_ (by first | (simp; done) | (simp; omega)) _ | refine Below.trans ?_ (Below.mono (by assumption) (by first | (simp; done) | (simp; omega))) | refine Below.alloc ?_ (by first | (simp; done) | (simp; omega)) _ | refine Below.alloc ?_ (Nat.le_refl _) _ | refine below_drewN ?_ _))⟩
  have hl' : len ≤ 1048576 := by omega
  go_enter Try.func3, Try.ntmps3
  go_wp2_with fail
  refine (szPicture_ok x y a len cap 1048576 _ hl (by omega)).mono ?_
  rintro e w1 ⟨rfl, b1⟩
  have t1 : w.heap.size + 1 ≤ w1.heap.size := by have := b1.size; simp at this; omega
  have EE : RowKit.Hid (Below w.heap.size w w1) := Lib.hid ((by repeat (first | exact Below.refl _ _ | refine Below.setCell ?_ (by first | (simp; done) | (simp; omega)) _ | refine Below.trans ?_ (Below.mono (by assumption) (by first | (simp; done) | (simp; omega))) | refine Below.alloc ?_ (by first | (simp; done) | (simp; omega)) _ | refine Below.alloc ?_ (Nat.le_refl _) _ | refine below_drewN ?_ _)))
  have K0 : RowKit.Hid (At3 w1 w.heap.size (.int .i64 x) (.int .i64 y) (.slice a len cap)) := Lib.hid ⟨(b1.cell (p := ⟨w.heap.size, 0, none⟩) (by simp)).trans (by go_simp), (b1.cell (p := ⟨w.heap.size, 1, none⟩) (by simp)).trans (by go_simp), (b1.cell (p := ⟨w.heap.size, 2, none⟩) (by simp)).trans (by go_simp)⟩
  clear b1
  obtain ⟨c00, c01, c02⟩ := K0.out
  go_wp2_with fail
  clear c00 c01 c02
  refine (toPicture_own x y a len cap zs _ (IsFRow.below H.out EE.out) hl').mono ?_
  rintro e w2 ⟨g2, rfl, r2, b2⟩
  have R2 := Lib.hid r2
  clear r2
  have t2 : w1.heap.size ≤ w2.heap.size := b2.size
  have BB : Below w1.heap.size w1 w2 := (by repeat (first | exact Below.refl _ _ | refine Below.setCell ?_ (by first | (simp; done) | (simp; omega)) _ | refine Below.trans ?_ (Below.mono (by assumption) (by first | (simp; done) | (simp; omega))) | refine Below.alloc ?_ (by first | (simp; done) | (simp; omega)) _ | refine Below.alloc ?_ (Nat.le_refl _) _ | refine below_drewN ?_ _))
  replace EE := Lib.hid (EE.out.trans (BB.mono (by omega)))
  replace K0 := Lib.hid (At3.below K0.out BB (by omega))
  clear BB b2
  go_wp2_with fail
  refine (HS.out _ _ _ R2.out.row).mono ?_
  rintro e w3 ⟨ao3, cp3, zs3, rfl, r3, i3, b3⟩
  have R3 := Lib.hid r3
  have I3 := Lib.hid i3
  clear r3 i3 R2
  have t3 : w2.heap.size ≤ w3.heap.size := b3.size
  have BB : Below w2.heap.size w2 w3 := (by repeat (first | exact Below.refl _ _ | refine Below.setCell ?_ (by first | (simp; done) | (simp; omega)) _ | refine Below.trans ?_ (Below.mono (by assumption) (by first | (simp; done) | (simp; omega))) | refine Below.alloc ?_ (by first | (simp; done) | (simp; omega)) _ | refine Below.alloc ?_ (Nat.le_refl _) _ | refine below_drewN ?_ _))
  replace EE := Lib.hid (EE.out.trans (BB.mono (by omega)))
  replace K0 := Lib.hid (At3.below K0.out BB (by omega))
  clear BB b3
  obtain ⟨c00, c01, c02⟩ := K0.out
  have n3 : w.heap.size ≠ w3.heap.size := by omega
  have m3 : w.heap.size < w3.heap.size := by omega
  go_wp2_with fail
  clear c00 c01 c02
  refine (toPicture_own x y a len cap zs _ (IsFRow.below H.out (EE.out.trans (Below.mono (B := w3.heap.size) (by repeat (first | exact Below.refl _ _ | refine Below.setCell ?_ (by first | (simp; done) | (simp; omega)) _ | refine Below.trans ?_ (Below.mono (by assumption) (by first | (simp; done) | (simp; omega))) | refine Below.alloc ?_ (by first | (simp; done) | (simp; omega)) _ | refine Below.alloc ?_ (Nat.le_refl _) _ | refine below_drewN ?_ _)) (by omega)))) hl').mono ?_
  rintro e w4 ⟨g4, rfl, r4, b4⟩
  have R4 := Lib.hid (r4.mono (lo' := w3.heap.size + 1) (hi' := w4.heap.size) (by simp) (Nat.le_refl _))
  clear r4
  have t4 : w3.heap.size + 1 ≤ w4.heap.size := by have := b4.size; simp at this; omega
  have BB : Below w3.heap.size w3 w4 := (by repeat (first | exact Below.refl _ _ | refine Below.setCell ?_ (by first | (simp; done) | (simp; omega)) _ | refine Below.trans ?_ (Below.mono (by assumption) (by first | (simp; done) | (simp; omega))) | refine Below.alloc ?_ (by first | (simp; done) | (simp; omega)) _ | refine Below.alloc ?_ (Nat.le_refl _) _ | refine below_drewN ?_ _))
  replace EE := Lib.hid (EE.out.trans (BB.mono (by omega)))
  replace K0 := Lib.hid (At3.below K0.out BB (by omega))
  replace R3 := Lib.hid (R3.out.below BB)
  have K8 : RowKit.Hid (At3 w4 w3.heap.size (.int .i64 x') (.int .i64 y') (.slice ao3 n cp3)) := Lib.hid ⟨(b4.cell (p := ⟨w3.heap.size, 0, none⟩) (by simp)).trans (by go_simp), (b4.cell (p := ⟨w3.heap.size, 1, none⟩) (by simp)).trans (by go_simp), (b4.cell (p := ⟨w3.heap.size, 2, none⟩) (by simp)).trans (by go_simp)⟩
  clear BB b4
  go_wp2_with fail
  refine (HI.out _ _ _ (R4.out.below (by repeat (first | exact Below.refl _ _ | refine Below.setCell ?_ (by first | (simp; done) | (simp; omega)) _ | refine Below.trans ?_ (Below.mono (by assumption) (by first | (simp; done) | (simp; omega))) | refine Below.alloc ?_ (by first | (simp; done) | (simp; omega)) _ | refine Below.alloc ?_ (Nat.le_refl _) _ | refine below_drewN ?_ _))).row).mono ?_
  rintro e w5 ⟨ao5, cp5, zs5, rfl, r5, i5, b5⟩
  have R5 := Lib.hid (r5.mono (lo' := w4.heap.size + 1) (hi' := w5.heap.size) (by simp) (Nat.le_refl _))
  have I5 := Lib.hid i5
  clear r5 i5
  have t5 : w4.heap.size + 1 ≤ w5.heap.size := by have := b5.size; simp at this; omega
  have BB : Below w4.heap.size w4 w5 := (by repeat (first | exact Below.refl _ _ | refine Below.setCell ?_ (by first | (simp; done) | (simp; omega)) _ | refine Below.trans ?_ (Below.mono (by assumption) (by first | (simp; done) | (simp; omega))) | refine Below.alloc ?_ (by first | (simp; done) | (simp; omega)) _ | refine Below.alloc ?_ (Nat.le_refl _) _ | refine below_drewN ?_ _))
  replace EE := Lib.hid (EE.out.trans (BB.mono (by omega)))
  replace K0 := Lib.hid (At3.below K0.out BB (by omega))
  replace K8 := Lib.hid (At3.below K8.out BB (by omega))
  replace R3 := Lib.hid (R3.out.below BB)
  replace R4 := Lib.hid (R4.out.below BB)
  have K10 : RowKit.Hid (At3 w5 w4.heap.size (.int .i64 x) (.int .i64 y) (.slice (some ⟨g4, 0, none⟩) len len)) := Lib.hid ⟨(b5.cell (p := ⟨w4.heap.size, 0, none⟩) (by simp)).trans (by go_simp), (b5.cell (p := ⟨w4.heap.size, 1, none⟩) (by simp)).trans (by go_simp), (b5.cell (p := ⟨w4.heap.size, 2, none⟩) (by simp)).trans (by go_simp)⟩
  clear BB b5
  obtain ⟨c80, c81, c82⟩ := K8.out
  have n8 : w3.heap.size ≠ w5.heap.size := by omega
  have m8 : w3.heap.size < w5.heap.size := by omega
  go_wp2_with fail
  clear c80 c81 c82
  refine (eqP2 x' y' _ _ n _ _ zs5 zs3 _ (R5.out.below (by repeat (first | exact Below.refl _ _ | refine Below.setCell ?_ (by first | (simp; done) | (simp; omega)) _ | refine Below.trans ?_ (Below.mono (by assumption) (by first | (simp; done) | (simp; omega))) | refine Below.alloc ?_ (by first | (simp; done) | (simp; omega)) _ | refine Below.alloc ?_ (Nat.le_refl _) _ | refine below_drewN ?_ _))).row (R3.out.below (by repeat (first | exact Below.refl _ _ | refine Below.setCell ?_ (by first | (simp; done) | (simp; omega)) _ | refine Below.trans ?_ (Below.mono (by assumption) (by first | (simp; done) | (simp; omega))) | refine Below.alloc ?_ (by first | (simp; done) | (simp; omega)) _ | refine Below.alloc ?_ (Nat.le_refl _) _ | refine below_drewN ?_ _))).row (fun i hi => (I5.out i hi).ab.trans (I3.out i hi).ab.symm)).mono ?_
  rintro e w6 ⟨rfl, b6⟩
  have t6 : w5.heap.size + 1 ≤ w6.heap.size := by have := b6.size; simp at this; omega
  have BB : Below w5.heap.size w5 w6 := (by repeat (first | exact Below.refl _ _ | refine Below.setCell ?_ (by first | (simp; done) | (simp; omega)) _ | refine Below.trans ?_ (Below.mono (by assumption) (by first | (simp; done) | (simp; omega))) | refine Below.alloc ?_ (by first | (simp; done) | (simp; omega)) _ | refine Below.alloc ?_ (Nat.le_refl _) _ | refine below_drewN ?_ _))
  replace EE := Lib.hid (EE.out.trans (BB.mono (by omega)))
  replace K0 := Lib.hid (At3.below K0.out BB (by omega))
  replace K8 := Lib.hid (At3.below K8.out BB (by omega))
  replace K10 := Lib.hid (At3.below K10.out BB (by omega))
  replace R3 := Lib.hid (R3.out.below BB)
  replace R4 := Lib.hid (R4.out.below BB)
  replace R5 := Lib.hid (R5.out.below BB)
  have K11 : RowKit.Hid (At3 w6 w5.heap.size (.int .i64 x') (.int .i64 y') (.slice ao5 n cp5)) := Lib.hid ⟨(b6.cell (p := ⟨w5.heap.size, 0, none⟩) (by simp)).trans (by go_simp), (b6.cell (p := ⟨w5.heap.size, 1, none⟩) (by simp)).trans (by go_simp), (b6.cell (p := ⟨w5.heap.size, 2, none⟩) (by simp)).trans (by go_simp)⟩
  clear BB b6
  clear n3 m3 n8 m8
  go_wp2_with fail
  refine wp_region_all (by kernel_rfl) (by kernel_rfl) 5 (by kernel_rfl) (fun _ v => ⟨#[.agg #[.int .i64 x, .int .i64 y, .slice a len cap], .int .i64 k1, .int .i64 k2, .pointer (some ⟨w.heap.size, 0, none⟩), undef, undef, .bool false, .int .i64 (1048576 - (len : Int)), .pointer (some ⟨w3.heap.size, 0, none⟩), .bool ok, .pointer (some ⟨w4.heap.size, 0, none⟩), .pointer (some ⟨w5.heap.size, 0, none⟩), .bool ok, undef, undef, undef, undef, undef, .agg #[.int .i64 x, .int .i64 y, .slice a len cap], .int .i64 1048576, .int .i64 (1048576 - (len : Int)), .int .i64 (1048576 - (len : Int)), .bool (decide ((1048576 - (len : Int)) < 0)), .tuple #[.agg #[.int .i64 x', .int .i64 y', .slice ao3 n cp3], .bool ok], .agg #[.int .i64 x, .int .i64 y, .slice a len cap], .agg #[.int .i64 x, .int .i64 y, .slice (some ⟨g2, 0, none⟩) len len], .int .i64 k1, .int .i64 k2, .tuple #[.agg #[.int .i64 x', .int .i64 y', .slice ao3 n cp3], .bool ok], .agg #[.int .i64 x', .int .i64 y', .slice ao3 n cp3], .bool ok, .agg #[.int .i64 x, .int .i64 y, .slice a len cap], .agg #[.int .i64 x, .int .i64 y, .slice (some ⟨g4, 0, none⟩) len len], .tuple #[.agg #[.int .i64 x', .int .i64 y', .slice ao5 n cp5], .bool ok], .agg #[.int .i64 x, .int .i64 y, .slice (some ⟨g4, 0, none⟩) len len], .int .i64 k1, .int .i64 k2, .tuple #[.agg #[.int .i64 x', .int .i64 y', .slice ao5 n cp5], .bool ok], .agg #[.int .i64 x', .int .i64 y', .slice ao5 n cp5], .bool ok, .agg #[.int .i64 x', .int .i64 y', .slice ao5 n cp5], .agg #[.int .i64 x', .int .i64 y', .slice ao3 n cp3], .bool true, .bool false, .bool false, .bool ok, .bool ok, .bool false, .bool false, v 0, v 1, v 2, v 3, v 4, undef, undef, undef, undef, undef, undef, undef, undef, undef, undef, undef, undef, undef, undef, undef, undef, undef, undef, undef, undef, undef, undef, undef, undef, undef, undef, undef, undef, undef, undef, undef, undef, undef, undef, undef, undef, undef, undef, undef, undef, undef, undef, undef, undef, undef, undef, undef, undef, undef, undef, undef, undef], []⟩)
    (fun W => Below w6.heap.size w6 W)
    (fun j W s => match j with | 0 => s = .agg #[.int .i64 x, .int .i64 y, .slice (some ⟨g4, 0, none⟩) len len] | 1 => s = .agg #[.int .i64 x, .int .i64 y, .slice a len cap] | 2 => ∃ g, s = .agg #[.int .i64 x, .int .i64 y, .slice (some ⟨g, 0, none⟩) len len] ∧ IsFRow W (some ⟨g, 0, none⟩) len len zs | 3 => s = .bool true | 4 => s = .bool false | _ => True) ?_ ?_ (Below.refl _ _).drew ?_ ?_
  · intro j W W' v hb
    rcases j with _ | _ | _ | _ | _ | j
    · exact id
    · exact id
    · rintro ⟨g, e, f⟩
      exact ⟨g, e, IsFRow.below f hb⟩
    · exact id
    · exact id
    · exact id
  · exact ⟨fun _ => undef, rfl⟩
  · intro i o ho hlt vals W hG hd
    rcases i with _ | _ | _ | _ | _ | i
    · refine wpOp_run ho (by cases Option.some.inj ho; rfl) ?_
      cases Option.some.inj ho
      obtain ⟨c0, c1, c2⟩ := At3.below K10.out hG (by omega)
      go_simp
      exact ⟨_, rfl, Below.refl _ _, hG, rfl⟩
    · refine wpOp_run ho (by cases Option.some.inj ho; rfl) ?_
      cases Option.some.inj ho
      obtain ⟨c0, c1, c2⟩ := At3.below K0.out hG (by omega)
      go_simp
      exact ⟨_, rfl, Below.refl _ _, hG, rfl⟩
    · refine wpOp_run ho (by cases Option.some.inj ho; rfl) ?_
      cases Option.some.inj ho
      have hc := toPicture x y a len cap zs W (IsFRow.below H.out (EE.out.trans (hG.mono EE.out.size))) hl'
      rw [← (show vals 1 = .agg #[.int .i64 x, .int .i64 y, .slice a len cap] from hd ⟨1, .data⟩ (by simp) rfl)] at hc
      go_simp
      refine hc.mono ?_
      rintro e w' ⟨g, rfl, f, hb⟩
      exact ⟨_, rfl, hb, hG.trans (hb.mono hG.size), g, rfl, f⟩
    · refine wpOp_run ho (by cases Option.some.inj ho; rfl) ?_
      cases Option.some.inj ho
      obtain ⟨g, e2, f⟩ := (show ∃ g, vals 2 = .agg #[.int .i64 x, .int .i64 y, .slice (some ⟨g, 0, none⟩) len len] ∧ IsFRow W (some ⟨g, 0, none⟩) len len zs from hd ⟨2, .data⟩ (by simp) rfl)
      have hc := eqPicture x y _ _ len len len zs W (R4.out.below hG).row f
      rw [← e2, ← (show vals 0 = .agg #[.int .i64 x, .int .i64 y, .slice (some ⟨g4, 0, none⟩) len len] from hd ⟨0, .data⟩ (by simp) rfl)] at hc
      clear e2 f
      go_simp
      refine hc.mono ?_
      rintro e w' ⟨rfl, hb⟩
      exact ⟨_, rfl, hb, hG.trans (hb.mono hG.size), rfl⟩
    · refine wpOp_run ho (by cases Option.some.inj ho; rfl) ?_
      cases Option.some.inj ho
      have e3 : vals 3 = .bool true := hd ⟨3, .data⟩ (by simp) rfl
      go_simp
      exact ⟨.bool false, by simp [upd_at, e3], Below.refl _ _, hG, rfl⟩
    · omega
  · intro vals w7 b7 hR
    have e4 : vals 4 = .bool false := hR 4 (by omega)
    simp only [Exit.then, e4]
    clear hR
    have t7 : w6.heap.size ≤ w7.heap.size := b7.size
    have BB : Below w6.heap.size w6 w7 := (by repeat (first | exact Below.refl _ _ | refine Below.setCell ?_ (by first | (simp; done) | (simp; omega)) _ | refine Below.trans ?_ (Below.mono (by assumption) (by first | (simp; done) | (simp; omega))) | refine Below.alloc ?_ (by first | (simp; done) | (simp; omega)) _ | refine Below.alloc ?_ (Nat.le_refl _) _ | refine below_drewN ?_ _))
    replace EE := Lib.hid (EE.out.trans (BB.mono (by omega)))
    replace K0 := Lib.hid (At3.below K0.out BB (by omega))
    replace K8 := Lib.hid (At3.below K8.out BB (by omega))
    replace K10 := Lib.hid (At3.below K10.out BB (by omega))
    replace K11 := Lib.hid (At3.below K11.out BB (by omega))
    replace R3 := Lib.hid (R3.out.below BB)
    replace R4 := Lib.hid (R4.out.below BB)
    replace R5 := Lib.hid (R5.out.below BB)
    clear BB b7
    obtain ⟨c100, c101, c102⟩ := K10.out
    go_wp2_with fail
    clear c100 c101 c102
    refine (markPicture x y _ len len _ _ zs 1 _ R4.out hl' (by omega) (by omega)).mono ?_
    rintro e w8 ⟨rfl, r8, b8⟩
    clear r8
    clear R4
    have t8 : w7.heap.size ≤ w8.heap.size := b8.size
    replace EE := Lib.hid (EE.out.trans (b8.below (by omega) (by omega)))
    replace K0 := Lib.hid (At3.only K0.out b8 (by omega) (by omega))
    replace K8 := Lib.hid (At3.only K8.out b8 (by omega) (by omega))
    replace K10 := Lib.hid (At3.only K10.out b8 (by omega) (by omega))
    replace K11 := Lib.hid (At3.only K11.out b8 (by omega) (by omega))
    replace R3 := Lib.hid (R3.out.only b8 (by omega))
    replace R5 := Lib.hid (R5.out.only b8 (by omega))
    clear b8
    obtain ⟨c110, c111, c112⟩ := K11.out
    obtain ⟨c80, c81, c82⟩ := K8.out
    go_wp2_with fail
    clear c110 c111 c112 c80 c81 c82
    refine (eqP2 x' y' _ _ n _ _ zs5 zs3 _ R5.out.row R3.out.row (fun i hi => (I5.out i hi).ab.trans (I3.out i hi).ab.symm)).mono ?_
    rintro e w9 ⟨rfl, b9⟩
    have t9 : w8.heap.size ≤ w9.heap.size := b9.size
    have BB : Below w8.heap.size w8 w9 := (by repeat (first | exact Below.refl _ _ | refine Below.setCell ?_ (by first | (simp; done) | (simp; omega)) _ | refine Below.trans ?_ (Below.mono (by assumption) (by first | (simp; done) | (simp; omega))) | refine Below.alloc ?_ (by first | (simp; done) | (simp; omega)) _ | refine Below.alloc ?_ (Nat.le_refl _) _ | refine below_drewN ?_ _))
    replace EE := Lib.hid (EE.out.trans (BB.mono (by omega)))
    replace K0 := Lib.hid (At3.below K0.out BB (by omega))
    replace K8 := Lib.hid (At3.below K8.out BB (by omega))
    replace K10 := Lib.hid (At3.below K10.out BB (by omega))
    replace K11 := Lib.hid (At3.below K11.out BB (by omega))
    replace R3 := Lib.hid (R3.out.below BB)
    replace R5 := Lib.hid (R5.out.below BB)
    clear BB b9
    obtain ⟨c110, c111, c112⟩ := K11.out
    go_wp2_with fail
    clear c110 c111 c112
    refine (markPicture x' y' _ n _ _ _ zs5 1 _ R5.out (by omega) (by omega) (by omega)).mono ?_
    rintro e w10 ⟨rfl, r10, b10⟩
    have R10 := Lib.hid r10
    clear r10 R5
    have t10 : w9.heap.size ≤ w10.heap.size := b10.size
    replace EE := Lib.hid (EE.out.trans (b10.below (by omega) (by omega)))
    replace K0 := Lib.hid (At3.only K0.out b10 (by omega) (by omega))
    replace K8 := Lib.hid (At3.only K8.out b10 (by omega) (by omega))
    replace K10 := Lib.hid (At3.only K10.out b10 (by omega) (by omega))
    replace K11 := Lib.hid (At3.only K11.out b10 (by omega) (by omega))
    replace R3 := Lib.hid (R3.out.only b10 (by omega))
    clear b10
    obtain ⟨c110, c111, c112⟩ := K11.out
    go_wp2_with fail
    clear c110 c111 c112
    refine (heldPicture x' y' _ n _ _ _ 1 _ R10.out (by omega) (by omega) (by omega)).mono ?_
    rintro e w11 ⟨rfl, b11⟩
    have t11 : w10.heap.size ≤ w11.heap.size := b11.size
    have BB : Below w10.heap.size w10 w11 := (by repeat (first | exact Below.refl _ _ | refine Below.setCell ?_ (by first | (simp; done) | (simp; omega)) _ | refine Below.trans ?_ (Below.mono (by assumption) (by first | (simp; done) | (simp; omega))) | refine Below.alloc ?_ (by first | (simp; done) | (simp; omega)) _ | refine Below.alloc ?_ (Nat.le_refl _) _ | refine below_drewN ?_ _))
    replace EE := Lib.hid (EE.out.trans (BB.mono (by omega)))
    replace K0 := Lib.hid (At3.below K0.out BB (by omega))
    replace K8 := Lib.hid (At3.below K8.out BB (by omega))
    replace K10 := Lib.hid (At3.below K10.out BB (by omega))
    replace K11 := Lib.hid (At3.below K11.out BB (by omega))
    replace R3 := Lib.hid (R3.out.below BB)
    replace R10 := Lib.hid (R10.out.below BB)
    clear BB b11
    obtain ⟨c00, c01, c02⟩ := K0.out
    go_wp2_with fail
    clear c00 c01 c02
    refine (toPicture_own x y a len cap zs _ (IsFRow.below H.out EE.out) hl').mono ?_
    rintro e w12 ⟨g12, rfl, r12, b12⟩
    have R12 := Lib.hid r12
    clear r12
    have t12 : w11.heap.size ≤ w12.heap.size := b12.size
    have BB : Below w11.heap.size w11 w12 := (by repeat (first | exact Below.refl _ _ | refine Below.setCell ?_ (by first | (simp; done) | (simp; omega)) _ | refine Below.trans ?_ (Below.mono (by assumption) (by first | (simp; done) | (simp; omega))) | refine Below.alloc ?_ (by first | (simp; done) | (simp; omega)) _ | refine Below.alloc ?_ (Nat.le_refl _) _ | refine below_drewN ?_ _))
    replace EE := Lib.hid (EE.out.trans (BB.mono (by omega)))
    replace K0 := Lib.hid (At3.below K0.out BB (by omega))
    replace K8 := Lib.hid (At3.below K8.out BB (by omega))
    replace K10 := Lib.hid (At3.below K10.out BB (by omega))
    replace K11 := Lib.hid (At3.below K11.out BB (by omega))
    replace R3 := Lib.hid (R3.out.below BB)
    replace R10 := Lib.hid (R10.out.below BB)
    clear BB b12
    go_wp2_with fail
    refine (HI.out _ _ _ R12.out.row).mono ?_
    rintro e w13 ⟨ao13, cp13, zs13, rfl, r13, i13, b13⟩
    have R13 := Lib.hid r13
    have I13 := Lib.hid i13
    clear r13 i13 R12
    have t13 : w12.heap.size ≤ w13.heap.size := b13.size
    have BB : Below w12.heap.size w12 w13 := (by repeat (first | exact Below.refl _ _ | refine Below.setCell ?_ (by first | (simp; done) | (simp; omega)) _ | refine Below.trans ?_ (Below.mono (by assumption) (by first | (simp; done) | (simp; omega))) | refine Below.alloc ?_ (by first | (simp; done) | (simp; omega)) _ | refine Below.alloc ?_ (Nat.le_refl _) _ | refine below_drewN ?_ _))
    replace EE := Lib.hid (EE.out.trans (BB.mono (by omega)))
    replace K0 := Lib.hid (At3.below K0.out BB (by omega))
    replace K8 := Lib.hid (At3.below K8.out BB (by omega))
    replace K10 := Lib.hid (At3.below K10.out BB (by omega))
    replace K11 := Lib.hid (At3.below K11.out BB (by omega))
    replace R3 := Lib.hid (R3.out.below BB)
    replace R10 := Lib.hid (R10.out.below BB)
    clear BB b13
    obtain ⟨c80, c81, c82⟩ := K8.out
    have n8 : w3.heap.size ≠ w13.heap.size := by omega
    have m8 : w3.heap.size < w13.heap.size := by omega
    go_wp2_with fail
    clear c80 c81 c82
    refine (eqP2 x' y' _ _ n _ _ zs13 zs3 _ (R13.out.below (by repeat (first | exact Below.refl _ _ | refine Below.setCell ?_ (by first | (simp; done) | (simp; omega)) _ | refine Below.trans ?_ (Below.mono (by assumption) (by first | (simp; done) | (simp; omega))) | refine Below.alloc ?_ (by first | (simp; done) | (simp; omega)) _ | refine Below.alloc ?_ (Nat.le_refl _) _ | refine below_drewN ?_ _))).row (R3.out.below (by repeat (first | exact Below.refl _ _ | refine Below.setCell ?_ (by first | (simp; done) | (simp; omega)) _ | refine Below.trans ?_ (Below.mono (by assumption) (by first | (simp; done) | (simp; omega))) | refine Below.alloc ?_ (by first | (simp; done) | (simp; omega)) _ | refine Below.alloc ?_ (Nat.le_refl _) _ | refine below_drewN ?_ _))).row (fun i hi => (I13.out i hi).ab.trans (I3.out i hi).ab.symm)).mono ?_
    rintro e w14 ⟨rfl, b14⟩
    have t14 : w13.heap.size + 1 ≤ w14.heap.size := by have := b14.size; simp at this; omega
    have BB : Below w13.heap.size w13 w14 := (by repeat (first | exact Below.refl _ _ | refine Below.setCell ?_ (by first | (simp; done) | (simp; omega)) _ | refine Below.trans ?_ (Below.mono (by assumption) (by first | (simp; done) | (simp; omega))) | refine Below.alloc ?_ (by first | (simp; done) | (simp; omega)) _ | refine Below.alloc ?_ (Nat.le_refl _) _ | refine below_drewN ?_ _))
    replace EE := Lib.hid (EE.out.trans (BB.mono (by omega)))
    replace K0 := Lib.hid (At3.below K0.out BB (by omega))
    replace K8 := Lib.hid (At3.below K8.out BB (by omega))
    replace K10 := Lib.hid (At3.below K10.out BB (by omega))
    replace K11 := Lib.hid (At3.below K11.out BB (by omega))
    replace R3 := Lib.hid (R3.out.below BB)
    replace R10 := Lib.hid (R10.out.below BB)
    replace R13 := Lib.hid (R13.out.below BB)
    have K16 : RowKit.Hid (At3 w14 w13.heap.size (.int .i64 x') (.int .i64 y') (.slice ao13 n cp13)) := Lib.hid ⟨(b14.cell (p := ⟨w13.heap.size, 0, none⟩) (by simp)).trans (by go_simp), (b14.cell (p := ⟨w13.heap.size, 1, none⟩) (by simp)).trans (by go_simp), (b14.cell (p := ⟨w13.heap.size, 2, none⟩) (by simp)).trans (by go_simp)⟩
    clear BB b14
    obtain ⟨c110, c111, c112⟩ := K11.out
    go_wp2_with fail
    clear c110 c111 c112
    refine (heldPicture x' y' _ n _ _ _ 1 _ R10.out (by omega) (by omega) (by omega)).mono ?_
    rintro e w15 ⟨rfl, b15⟩
    have t15 : w14.heap.size ≤ w15.heap.size := b15.size
    have BB : Below w14.heap.size w14 w15 := (by repeat (first | exact Below.refl _ _ | refine Below.setCell ?_ (by first | (simp; done) | (simp; omega)) _ | refine Below.trans ?_ (Below.mono (by assumption) (by first | (simp; done) | (simp; omega))) | refine Below.alloc ?_ (by first | (simp; done) | (simp; omega)) _ | refine Below.alloc ?_ (Nat.le_refl _) _ | refine below_drewN ?_ _))
    replace EE := Lib.hid (EE.out.trans (BB.mono (by omega)))
    replace K0 := Lib.hid (At3.below K0.out BB (by omega))
    replace K8 := Lib.hid (At3.below K8.out BB (by omega))
    replace K10 := Lib.hid (At3.below K10.out BB (by omega))
    replace K11 := Lib.hid (At3.below K11.out BB (by omega))
    replace K16 := Lib.hid (At3.below K16.out BB (by omega))
    replace R3 := Lib.hid (R3.out.below BB)
    replace R10 := Lib.hid (R10.out.below BB)
    replace R13 := Lib.hid (R13.out.below BB)
    clear BB b15
    go_wp2_with fail
    go_ret
    exact ⟨rfl, EE.out⟩
end Go.Proofs.Ytacdnkpadloheaa
