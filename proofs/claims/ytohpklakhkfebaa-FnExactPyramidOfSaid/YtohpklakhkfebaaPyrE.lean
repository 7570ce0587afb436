/-
  Rows of pictures: their comparison.
-/
import Derived.Test.YtohpklakhkfebaaPyr
namespace Go.Proofs.Ytohpklakhkfebaa
open Go.RowKit Go.FL
/-- two rows of like pictures -/
def SameP (ds es : List PD) : Prop := ∀ (i : Nat) (d e : PD), ds[i]? = some d → es[i]? = some e → d.W = e.W ∧ d.H = e.H ∧ d.len = e.len ∧ ∀ j, j < d.len → ab .f32 (d.zs.getD j 0) = ab .f32 (e.zs.getD j 0)

set_option maxHeartbeats 1000000 in
set_option maxRecDepth 20000 in
theorem eqPictureS (ao ao2 : Option Addr) (n cap cap2 lo hi lo2 hi2 : Nat) (ds es : List PD) (w : World) (h : PV w lo hi ao n cap ds) (h2 : PV w lo2 hi2 ao2 n cap2 es) (hs : SameP ds es) (hn : n ≤ 5) : Calls Try.prog 8 #[.slice ao n cap, .slice ao2 n cap2] w fun e w' =>
    e = .returned (.bool true) ∧ Below w.heap.size w w' := by
  rcases h with ⟨rfl, rfl, rfl, rfl⟩ | ⟨b, rfl, h⟩
  · go_enter Try.func8, Try.ntmps8
    go_wp2
    go_loopw [5] (fun i wr => i = .int .i64 0 ∧ wr = w) (fun i _ => 0)
    case atStart => exact ⟨rfl, rfl⟩
    case round =>
      obtain ⟨rfl, rfl⟩ := hrel
      go_wp2
      go_ret
      exact ⟨rfl, Below.refl _ _⟩
  · by_cases hn0 : n = 0
    · subst hn0
      go_enter Try.func8, Try.ntmps8
      go_wp2
      go_loopw [5] (fun i wr => i = .int .i64 0 ∧ wr = w) (fun i _ => 0)
      case atStart => exact ⟨rfl, rfl⟩
      case round =>
        obtain ⟨rfl, rfl⟩ := hrel
        go_wp2
        go_ret
        exact ⟨rfl, Below.refl _ _⟩
    · obtain ⟨b2, rfl, hq⟩ := h2.resolve_left (fun e => hn0 e.2.1)
      have hcap : n ≤ cap := h.len.2.1
      have hcm : cap ≤ 9223372036854775807 := by have := h.len.2.2; unfold maxLen at this; omega
      have hcap2 : n ≤ cap2 := hq.len.2.1
      have hcm2 : cap2 ≤ 9223372036854775807 := by have := hq.len.2.2; unfold maxLen at this; omega
      have hl1 := h.len.1
      have hl2 := hq.len.1
      have H1 := Lib.hid h
      have H2 := Lib.hid hq
      have HS := Lib.hid hs
      clear h h2 hs hq
      go_enter Try.func8, Try.ntmps8
      go_wp2
      go_loopw [5] (fun i wr => ∃ j : Nat, j ≤ n ∧ i = .int .i64 j ∧ Below w.heap.size w wr) (fun i _ => n - (intOf i).toNat)
      case atStart => exact ⟨0, by omega, rfl, Below.refl _ _⟩
      case round =>
        obtain ⟨j, hj, rfl, hb⟩ := hrel
        have HB := Lib.hid hb
        clear hb
        by_cases hlt : j < n
        · obtain ⟨d, hd⟩ : ∃ d, ds[j]? = some d := ⟨_, List.getElem?_eq_getElem (by omega)⟩
          obtain ⟨e, he⟩ : ∃ e, es[j]? = some e := ⟨_, List.getElem?_eq_getElem (by omega)⟩
          obtain ⟨s1, s2, s3, s4⟩ := HS.out j d e hd he
          have P1 := Lib.hid (H1.out.below HB.out)
          have P2 := Lib.hid (H2.out.below HB.out)
          have HD := Lib.hid hd
          have HE := Lib.hid he
          have S4 := Lib.hid s4
          have S3 := Lib.hid (show e.W = d.W ∧ e.H = d.H ∧ e.len = d.len from ⟨s1.symm, s2.symm, s3.symm⟩)
          clear hd he s4 s1 s2 s3
          go_wp2_with fail
          refine wp_region_all (by kernel_rfl) (by kernel_rfl) 10 (by kernel_rfl) (fun _ v => ⟨#[.slice (some ⟨b, 0, none⟩) n cap, .slice (some ⟨b2, 0, none⟩) n cap2, undef, undef, u4, .int .i64 j, .slice (some ⟨b, 0, none⟩) n cap, .int .i64 n, .slice (some ⟨b2, 0, none⟩) n cap2, .int .i64 n, .bool false, .int .i64 j, .slice (some ⟨b, 0, none⟩) n cap, .int .i64 n, .bool true, u15, u16, v 0, v 1, v 2, v 3, v 4, v 5, v 6, v 7, v 8, v 9], []⟩)
            (fun W => Below wr.heap.size wr W)
            (fun i W s => match i with | 0 => s = .slice (some ⟨b, 0, none⟩) n cap | 1 => s = .int .i64 j | 2 => s = .pointer (some ⟨b, j * 3, none⟩) | 3 => s = .agg #[.int .i64 d.W, .int .i64 d.H, .slice (some ⟨d.g, 0, none⟩) d.len d.cap] | 4 => s = .slice (some ⟨b2, 0, none⟩) n cap2 | 5 => s = .int .i64 j | 6 => s = .pointer (some ⟨b2, j * 3, none⟩) | 7 => s = .agg #[.int .i64 e.W, .int .i64 e.H, .slice (some ⟨e.g, 0, none⟩) e.len e.cap] | 8 => s = .bool true | 9 => s = .bool false | _ => True) ?_ ?_ (Below.refl _ _).drew ?_ ?_
          · intro i W W' v _
            rcases i with _ | _ | _ | _ | _ | _ | _ | _ | _ | _ | i <;> exact id
          · exact ⟨fun i => [u17, u18, u19, u20, u21, u22, u23, u24, u25, u26].getD i undef, rfl⟩
          · intro i o ho hlt2 vals W hG hd
            rcases i with _ | _ | _ | _ | _ | _ | _ | _ | _ | _ | i
            · refine wpOp_run ho (by cases Option.some.inj ho; rfl) ?_
              cases Option.some.inj ho
              go_simp
              exact ⟨_, rfl, Below.refl _ _, hG, rfl⟩
            · refine wpOp_run ho (by cases Option.some.inj ho; rfl) ?_
              cases Option.some.inj ho
              go_simp
              exact ⟨_, rfl, Below.refl _ _, hG, rfl⟩
            · refine wpOp_run ho (by cases Option.some.inj ho; rfl) ?_
              cases Option.some.inj ho
              have e0 : vals 0 = .slice (some ⟨b, 0, none⟩) n cap := hd ⟨0, .data⟩ (by simp) rfl
              have e1 : vals 1 = .int .i64 j := hd ⟨1, .data⟩ (by simp) rfl
              go_simp
              exact ⟨.pointer (some ⟨b, j * 3, none⟩), by simp [upd_at, e0, e1], Below.refl _ _, hG, rfl⟩
            · refine wpOp_run ho (by cases Option.some.inj ho; rfl) ?_
              cases Option.some.inj ho
              have e2 : vals 2 = .pointer (some ⟨b, j * 3, none⟩) := hd ⟨2, .data⟩ (by simp) rfl
              obtain ⟨c0, c1, c2⟩ := (P1.out.below hG).cell j _ HD.out
              go_simp
              exact ⟨.agg #[.int .i64 d.W, .int .i64 d.H, .slice (some ⟨d.g, 0, none⟩) d.len d.cap], by simp [upd_at, e2], Below.refl _ _, hG, rfl⟩
            · refine wpOp_run ho (by cases Option.some.inj ho; rfl) ?_
              cases Option.some.inj ho
              go_simp
              exact ⟨_, rfl, Below.refl _ _, hG, rfl⟩
            · refine wpOp_run ho (by cases Option.some.inj ho; rfl) ?_
              cases Option.some.inj ho
              go_simp
              exact ⟨_, rfl, Below.refl _ _, hG, rfl⟩
            · refine wpOp_run ho (by cases Option.some.inj ho; rfl) ?_
              cases Option.some.inj ho
              have e0 : vals 4 = .slice (some ⟨b2, 0, none⟩) n cap2 := hd ⟨4, .data⟩ (by simp) rfl
              have e1 : vals 5 = .int .i64 j := hd ⟨5, .data⟩ (by simp) rfl
              go_simp
              exact ⟨.pointer (some ⟨b2, j * 3, none⟩), by simp [upd_at, e0, e1], Below.refl _ _, hG, rfl⟩
            · refine wpOp_run ho (by cases Option.some.inj ho; rfl) ?_
              cases Option.some.inj ho
              have e2 : vals 6 = .pointer (some ⟨b2, j * 3, none⟩) := hd ⟨6, .data⟩ (by simp) rfl
              obtain ⟨c0, c1, c2⟩ := (P2.out.below hG).cell j _ HE.out
              go_simp
              exact ⟨.agg #[.int .i64 e.W, .int .i64 e.H, .slice (some ⟨e.g, 0, none⟩) e.len e.cap], by simp [upd_at, e2], Below.refl _ _, hG, rfl⟩
            · refine wpOp_run ho (by cases Option.some.inj ho; rfl) ?_
              cases Option.some.inj ho
              have e3 : vals 3 = .agg #[.int .i64 d.W, .int .i64 d.H, .slice (some ⟨d.g, 0, none⟩) d.len d.cap] := hd ⟨3, .data⟩ (by simp) rfl
              have e7 : vals 7 = .agg #[.int .i64 e.W, .int .i64 e.H, .slice (some ⟨e.g, 0, none⟩) e.len e.cap] := hd ⟨7, .data⟩ (by simp) rfl
              have r1 := ((P1.out.below hG).inn j _ HD.out).2.2.2.2.row
              have r2 := ((P2.out.below hG).inn j _ HE.out).2.2.2.2.row
              have hc := eqP2 d.W d.H (some ⟨d.g, 0, none⟩) (some ⟨e.g, 0, none⟩) d.len d.cap e.cap d.zs e.zs W r1 (by rw [← S3.out.2.2]; exact r2) S4.out
              rw [show (.agg #[.int .i64 e.W, .int .i64 e.H, .slice (some ⟨e.g, 0, none⟩) e.len e.cap] : Value) = .agg #[.int .i64 d.W, .int .i64 d.H, .slice (some ⟨e.g, 0, none⟩) d.len e.cap] by rw [S3.out.1, S3.out.2.1, S3.out.2.2]] at e7
              rw [← e3, ← e7] at hc
              clear r1 r2 e3 e7
              go_simp
              refine hc.mono ?_
              rintro e' w' ⟨rfl, hb⟩
              exact ⟨_, rfl, hb, hG.trans (hb.mono hG.size), rfl⟩
            · refine wpOp_run ho (by cases Option.some.inj ho; rfl) ?_
              cases Option.some.inj ho
              have e8 : vals 8 = .bool true := hd ⟨8, .data⟩ (by simp) rfl
              go_simp
              exact ⟨.bool false, by simp [upd_at, e8], Below.refl _ _, hG, rfl⟩
            · omega
          · intro vals w7 b7 hR
            have e9 : vals 9 = .bool false := hR 9 (by omega)
            simp only [Exit.then, e9]
            clear hR
            have HB7 : RowKit.Hid (Below w.heap.size w w7) := Lib.hid (HB.out.trans (b7.mono HB.out.size))
            clear b7
            go_wp2_with fail
            go_roundw
            case rel => exact ⟨j + 1, by omega, by go_num, HB7.out⟩
            case measure => simp [intOf]; omega
        · go_wp2_with fail
          go_ret
          exact ⟨rfl, HB.out⟩
end Go.Proofs.Ytohpklakhkfebaa
