/-
  A picture that is made cell by cell.
-/
import Derived.Test.YtohpklakhkfebaaOwn
namespace Go.Proofs.Ytohpklakhkfebaa
open Go.RowKit Go.FL
/-- a cell's place in the row -/
def osXY (W : Nat) (os : Nat → Nat → Option Nat) (i : Nat) : Option Nat := os (i % W) (i / W)

theorem osXY_at {W x y : Nat} {os : Nat → Nat → Option Nat} (h : x < W) : osXY W os (y * W + x) = os x y := by
  have h1 : (y * W + x) % W = x := by rw [Nat.mul_comm, Nat.mul_add_mod]; exact Nat.mod_eq_of_lt h
  have h2 : (y * W + x) / W = y := by rw [Nat.mul_comm, Nat.mul_add_div (by omega), Nat.div_eq_of_lt h]; rfl
  unfold osXY
  rw [h1, h2]

attribute [local irreducible] Oper.wp in
theorem impl_made (W H : Nat) (hW : W ≤ 24) (hH : H ≤ 24) (k : Nat) (cap : Array Value) (os : Nat → Nat → Option Nat) (w : World)
    (hk : ∀ args W', (callFunc k args).run Try.prog W' = .ok (.enter k args) W')
    (hf : ∀ x y : Nat, x < W → y < H → ∀ w', Below w.heap.size w w' → Calls Try.prog k (#[.int .i64 x, .int .i64 y] ++ cap) w' (RetF .f32 (os x y) w')) :
    Calls Try.prog 32 #[.int .i64 W, .int .i64 H, .func (.func k) #[] cap] w fun e w' => ∃ v, e = .returned (.agg #[.int .i64 W, .int .i64 H, v]) ∧ OwnF w' w.heap.size v (H * W) (osXY W os) ∧ Below w.heap.size w w' := by
  go_enter Try.func32, Try.ntmps32
  go_wp2_with fail
  go_loopw [14] (fun i wr => ∃ y : Nat, ∃ v, y ≤ H ∧ i = .int .i64 y ∧ wr.heap[w.heap.size + 1]? = some (.cells #[.int .i64 W, .int .i64 H, v] 29 (0, 0)) ∧ OwnF wr (w.heap.size + 1) v (y * W) (osXY W os) ∧ Below (w.heap.size + 1) (w.alloc (.cells #[.int .i64 0, .int .i64 0, .slice none 0 0] 29)) wr) (fun i _ => H - (intOf i).toNat)
  case atStart => exact ⟨0, .slice none 0 0, by omega, rfl, by have h := heap_alloc_new (w.alloc (.cells #[.int .i64 0, .int .i64 0, .slice none 0 0] 29)) (.cells #[.int .i64 W, .int .i64 H, .slice none 0 0] 29); simpa using h, (OwnF.nil _ _ _).congr (by simp) (fun _ _ => rfl), (by repeat (first | exact Below.refl _ _ | refine Below.setCell ?_ (by first | (simp; done) | (simp; omega)) _ | refine Below.trans ?_ (Below.mono (by assumption) (by first | (simp; done) | (simp; omega))) | refine Below.alloc ?_ (by first | (simp; done) | (simp; omega)) _ | refine Below.alloc ?_ (Nat.le_refl _) _ | refine below_drewN ?_ _))⟩
  case round =>
    obtain ⟨y, v, hy, rfl, hbx, ho, hb⟩ := hrel
    obtain ⟨ao, cp, rfl⟩ := ho.shape
    have HO := Lib.hid ho
    have HB := Lib.hid hb
    have HX := Lib.hid hbx
    clear ho hb hbx
    by_cases hlt : y < H
    · go_wp2_with fail
      go_loopw [18] (fun i wr => ∃ x : Nat, ∃ v, x ≤ W ∧ i = .int .i64 x ∧ wr.heap[w.heap.size + 1]? = some (.cells #[.int .i64 W, .int .i64 H, v] 29 (0, 0)) ∧ OwnF wr (w.heap.size + 1) v (y * W + x) (osXY W os) ∧ Below (w.heap.size + 1) (w.alloc (.cells #[.int .i64 0, .int .i64 0, .slice none 0 0] 29)) wr) (fun i _ => W - (intOf i).toNat)
      case atStart => exact ⟨0, _, by omega, rfl, HX.out, HO.out, HB.out⟩
      case round =>
        clear HX HO HB
        clear ao cp
        obtain ⟨x, v, hx, rfl, hbx, ho, hb⟩ := hrel
        obtain ⟨ao, cp, rfl⟩ := ho.shape
        have HO := Lib.hid ho
        have HB := Lib.hid hb
        have HX := Lib.hid hbx
        clear ho hb hbx
        by_cases hlx : x < W
        · go_wp2_with fail
          have hn : y * W + x ≤ 1000 := by
            have : y * W ≤ 24 * 24 := Nat.mul_le_mul (by omega) hW
            omega
          refine wp_region_own (by kernel_rfl) (by kernel_rfl) 9 (by kernel_rfl) 7 (fun _ v => ⟨#[.int .i64 W, .int .i64 H, .func (.func k) #[] cap, undef, undef, undef, .pointer (some ⟨w.heap.size, 0, none⟩), .pointer (some ⟨w.heap.size + 1, 0, none⟩), .int .i64 y, .int .i64 x, .int .i64 W, .int .i64 H, .agg #[.int .i64 W, .int .i64 H, .slice none 0 0], .int .i64 H, .int .i64 y, .bool true, .int .i64 y, .int .i64 W, .int .i64 x, .bool true, .int .i64 x, v 0, v 1, v 2, v 3, v 4, v 5, v 6, v 7, v 8, u30, u31, undef], []⟩) (fun d WW => Below (w.heap.size + 1) (w.alloc (.cells #[.int .i64 0, .int .i64 0, .slice none 0 0] 29)) WW ∧ wr.heap.size ≤ WW.heap.size ∧ WW.heap[w.heap.size + 1]? = some (.cells #[.int .i64 W, .int .i64 H, .slice ao (y * W + x) cp] 29 (0, 0)) ∧ (d = false → OwnF WW (w.heap.size + 1) (.slice ao (y * W + x) cp) (y * W + x) (osXY W os)))
            (fun j WW s => match j with | 0 => s = .pointer (some ⟨w.heap.size + 1, 2, none⟩) | 1 => s = .slice ao (y * W + x) cp | 2 => s = .func (.func k) #[] cap | 3 => s = .int .i64 x | 4 => s = .int .i64 y | 5 => ∃ r, s = .float .f32 r ∧ Is .f32 r (os x y) | 6 => ∃ nb, s = .slice (some ⟨nb, 0, none⟩) 1 1 ∧ ∃ r, Is .f32 r (os x y) ∧ wr.heap.size ≤ nb ∧ nb < WW.heap.size ∧ WW.cell? ⟨nb, 0, none⟩ = some (.float .f32 r) | 7 => OwnF WW (w.heap.size + 1) s (y * W + x + 1) (osXY W os) | 8 => s = .pointer (some ⟨w.heap.size + 1, 2, none⟩) | _ => True) ?_ ⟨fun i => [u21, u22, u23, u24, u25, u26, u27, u28, u29].getD i undef, rfl⟩ ⟨(HB.out).drew, Nat.le_refl _, HX.out, fun _ => HO.out.below (Below.refl _ _).drew⟩ ?_ ?_ (by omega) ?_
          · intro j WW W2 s hb
            rcases j with _ | _ | _ | _ | _ | _ | _ | _ | _ | j
            · exact id
            · exact id
            · exact id
            · exact id
            · exact id
            · exact id
            · rintro ⟨nb, e, r, hr, h1, h2, hc⟩
              exact ⟨nb, e, r, hr, h1, Nat.lt_of_lt_of_le h2 hb.size, (hb.cell (p := ⟨nb, 0, none⟩) h2).trans hc⟩
            · exact fun h => h.below hb
            · exact id
            · exact id
          · intro i o ho hlt2 hne d vals WW hG hd
            rcases i with _ | _ | _ | _ | _ | _ | _ | _ | _ | i
            · refine wpOp_run ho (by cases Option.some.inj ho; rfl) ?_
              cases Option.some.inj ho
              go_simp
              exact ⟨.pointer (some ⟨w.heap.size + 1, 2, none⟩), by simp [upd_at], Below.refl _ _, hG, rfl⟩
            · refine wpOp_run ho (by cases Option.some.inj ho; rfl) ?_
              cases Option.some.inj ho
              have e0 : vals 0 = .pointer (some ⟨w.heap.size + 1, 2, none⟩) := hd ⟨0, .data⟩ (by simp) rfl
              have hcx := (box_cell hG.2.2.1 2)
              go_simp
              exact ⟨.slice ao (y * W + x) cp, by simp [upd_at, e0], Below.refl _ _, hG, rfl⟩
            · refine wpOp_run ho (by cases Option.some.inj ho; rfl) ?_
              cases Option.some.inj ho
              go_simp
              exact ⟨.func (.func k) #[] cap, by simp [upd_at], Below.refl _ _, hG, rfl⟩
            · refine wpOp_run ho (by cases Option.some.inj ho; rfl) ?_
              cases Option.some.inj ho
              go_simp
              exact ⟨.int .i64 x, by simp [upd_at], Below.refl _ _, hG, rfl⟩
            · refine wpOp_run ho (by cases Option.some.inj ho; rfl) ?_
              cases Option.some.inj ho
              go_simp
              exact ⟨.int .i64 y, by simp [upd_at], Below.refl _ _, hG, rfl⟩
            · refine wpOp_run ho (by cases Option.some.inj ho; rfl) ?_
              cases Option.some.inj ho
              have e2 : vals 2 = .func (.func k) #[] cap := hd ⟨2, .data⟩ (by simp) rfl
              have e3 : vals 3 = .int .i64 x := hd ⟨3, .data⟩ (by simp) rfl
              have e4 : vals 4 = .int .i64 y := hd ⟨4, .data⟩ (by simp) rfl
              have hc := hf x y hlx hlt WW ((Below.alloc (Below.refl _ _) (Nat.le_refl _) _).trans (hG.1.mono (by simp)))
              go_simp
              refine hc.mono ?_
              rintro e w' ⟨r, q, hr, rfl, rfl⟩
              have hB := below_drewN (Below.refl WW.heap.size WW) q
              go_simp
              exact ⟨.float .f32 r, by simp [upd_at, e2, e3, e4], hB, ⟨hG.1.trans (hB.mono (by have := hG.1.size; simp at this; omega)), Nat.le_trans hG.2.1 hB.size, (hB.block _ (lt_of_block hG.2.2.1)).trans hG.2.2.1, fun e => (hG.2.2.2 e).below hB⟩, r, rfl, hr⟩
            · refine wpOp_run ho (by cases Option.some.inj ho; rfl) ?_
              cases Option.some.inj ho
              obtain ⟨r, e5, hr⟩ := (show ∃ r, vals 5 = .float .f32 r ∧ Is .f32 r (os x y) from hd ⟨5, .data⟩ (by simp) rfl)
              go_simp
              have hB : Below WW.heap.size WW (WW.alloc (.cells #[.float .f32 r] 45)) := Below.alloc (Below.refl _ _) (Nat.le_refl _) _
              exact ⟨.slice (some ⟨WW.heap.size, 0, none⟩) 1 1, by simp [upd_at, e5], hB, ⟨hG.1.trans (hB.mono (by have := hG.1.size; simp at this; omega)), Nat.le_trans hG.2.1 hB.size, (hB.block _ (lt_of_block hG.2.2.1)).trans hG.2.2.1, fun e => (hG.2.2.2 e).below hB⟩, WW.heap.size, rfl, r, hr, hG.2.1, by simp, by go_simp⟩
            · exact absurd rfl hne
            · refine wpOp_run ho (by cases Option.some.inj ho; rfl) ?_
              cases Option.some.inj ho
              go_simp
              exact ⟨.pointer (some ⟨w.heap.size + 1, 2, none⟩), by simp [upd_at], Below.refl _ _, hG, rfl⟩
            · omega
          · intro o ho _ vals WW hG hd
            refine wpOp_run ho (by cases Option.some.inj ho; rfl) ?_
            cases Option.some.inj ho
            have e1 : vals 1 = .slice ao (y * W + x) cp := hd ⟨1, .data⟩ (by simp) rfl
            obtain ⟨nb, e6, r, hr, h1, h2, hc⟩ := (show ∃ nb, vals 6 = .slice (some ⟨nb, 0, none⟩) 1 1 ∧ ∃ r, Is .f32 r (os x y) ∧ wr.heap.size ≤ nb ∧ nb < WW.heap.size ∧ WW.cell? ⟨nb, 0, none⟩ = some (.float .f32 r) from hd ⟨6, .data⟩ (by simp) rfl)
            have hv := hG.2.2.2 rfl
            refine wp_append1 (.tmp 22) (.tmp 27) rfl e1 e6 hv (by have := hG.1.size; simp at this; omega) hn hc (by rw [osXY_at hlx]; exact hr) ?_
            intro v' w' h7 hgr
            have hB := hv.grown (by have := hG.1.size; simp at this; omega) hgr
            refine ⟨v', by simp [upd_at, Act.put], ⟨hG.1.trans hB, Nat.le_trans hG.2.1 hgr.size, (hgr.block _ (lt_of_block hG.2.2.1) (own_ne_box hv hG.2.2.1).symm).trans hG.2.2.1, fun e => by cases e⟩, h7, ?_⟩
            intro j s hj hs
            rcases j with _ | _ | _ | _ | _ | _ | _ | _ | _ | j
            · exact hs
            · exact hs
            · exact hs
            · exact hs
            · exact hs
            · exact hs
            · obtain ⟨nb, e, r, hr, h1, h2, hc⟩ := hs
              exact ⟨nb, e, r, hr, h1, Nat.lt_of_lt_of_le h2 hgr.size, hgr.cell hc fun e => by have := (HO.out.lt nb e.symm).2; omega⟩
            · exact absurd rfl hj
            · exact hs
            · exact hs
          · intro vals WW hG hR
            refine wpOp_run rfl rfl ?_
            have h7 : OwnF WW (w.heap.size + 1) (vals 7) (y * W + x + 1) (osXY W os) := hR 7 (by omega)
            have e8 : vals 8 = .pointer (some ⟨w.heap.size + 1, 2, none⟩) := hR 8 (by omega)
            have hcx := (box_cell hG.2.2.1 2)
            have hfx := (box_free hG.2.2.1 2)
            clear hR
            obtain ⟨a7, c7, e7⟩ := h7.shape
            rw [e7] at h7
            go_simp
            go_wp2_with fail
            go_roundw
            case rel => exact ⟨x + 1, .slice a7 (y * W + x + 1) c7, by omega, rfl, box_set (i := 2) (.slice a7 (y * W + x + 1) c7) hG.2.2.1, h7.setBox hG.2.2.1 _ _, Below.setCell hG.1 (by simp) _⟩
            case measure => simp [intOf]; omega
        · have hxe : x = W := by omega
          subst hxe
          go_wp2_with fail
          go_roundw
          case rel => exact ⟨y + 1, _, by omega, rfl, HX.out, HO.out.congr (by rw [Nat.succ_mul]) (fun _ _ => rfl), HB.out⟩
          case measure => simp [intOf]; omega
    · have hye : y = H := by omega
      subst hye
      have c0 := box_cell HX.out 0
      have c1 := box_cell HX.out 1
      have c2 := box_cell HX.out 2
      have hz := (HB.out.block w.heap.size (by omega)).trans (heap_alloc_new w _)
      have z0 := box_cell hz 0
      have z1 := box_cell hz 1
      have z2 := box_cell hz 2
      have f0 := box_free hz 0
      have f1 := box_free hz 1
      have f2 := box_free hz 2
      go_wp2_with fail
      have BW : Below w.heap.size w wr := (Below.alloc (Below.refl _ _) (Nat.le_refl _) _).trans (HB.out.mono (by omega))
      refine bodyPost_ret (v := .agg #[.int .i64 W, .int .i64 y, .slice ao (y * W) cp]) ?_ rfl ⟨_, rfl, ?_, ?_⟩
      · simp [results, Try.results32, go_sem, z0, z1, z2]
      · exact OwnF.setBox (OwnF.setBox (OwnF.setBox (HO.out.mono (by omega)) hz _ _) (box_set _ hz) _ _) (box_set _ (box_set _ hz)) _ _
      · exact Below.setCell (Below.setCell (Below.setCell BW (Nat.le_refl _) _) (Nat.le_refl _) _) (Nat.le_refl _) _
end Go.Proofs.Ytohpklakhkfebaa
