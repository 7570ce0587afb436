/-
  NormPicture of a picture: the specification's walk, the program's walk, that they agree, and the law's walk.
-/
import Derived.Test.YtbjahmfijlkajaaImpl
import Derived.Test.YtbjahmfijlkajaaSeq
import Derived.Test.YtbjahmfijlkajaaRangeOf
namespace Go.Proofs.Ytbjahmfijlkajaa
open Go.RowKit Go.FL
def eqB (l h : Nat) : Bool := FloatKind.f32.format.order l h == some .eq
def normO (l u g : Nat) : Option Nat := if eqB l u then ab .f32 0 else oop .quo .f32 (oop .sub .f32 (ab .f32 g) (ab .f32 l)) (oop .sub .f32 (ab .f32 u) (ab .f32 l))
attribute [local irreducible] Oper.wp in
theorem spec_NormPicture_ok (W H : Nat) (a : Option Addr) (len cap : Nat) (zs : List Nat)  (w : World) (h : IsFRow w a len cap zs) (hl : len = W * H) (hW : 1 ≤ W ∧ W ≤ 24) (hH : 1 ≤ H ∧ H ≤ 24) (hvb : validB W H len = true) (l u : Nat) (hrg : rng zs len = (l, u, true)) :
    Calls Try.prog 32 #[.agg #[.int .i64 W, .int .i64 H, .slice a len cap]] w (RetP W H (len) true ((fun (x : Nat) => normO l u (zs.getD x 0))) w) := by
  have hzl : ∀ z ∈ zs, z < 4294967296 := h.2.2.2.1
  have hzn : zs.length = len := h.1
  have hcap : len ≤ cap := h.2.1
  have hcm : cap ≤ 9223372036854775807 := by have := h.2.2.1; unfold maxLen at this; omega
  have hlen : len ≤ 576 := by rw [hl]; exact Nat.mul_le_mul hW.2 hH.2
  have HH := Lib.hid h
  have HZ := Lib.hid hzl
  have HL := Lib.hid hl
  have HW := Lib.hid hW
  have HHH := Lib.hid hH
  obtain ⟨hW1, hW2⟩ := hW
  obtain ⟨hH1, hH2⟩ := hH
  clear h hzl hl
  have hl1 : 1 ≤ len := by rw [HL.out]; exact Nat.mul_pos hW1 hH1
  obtain ⟨rb, off, rfl, hbl, hrc⟩ := HH.out.2.2.2.2.resolve_left (by omega)
  have HRC := Lib.hid hrc
  clear hrc
  obtain ⟨OS, HOE0⟩ : ∃ f : Nat → Option Nat, f = (fun (x : Nat) => normO l u (zs.getD x 0)) := ⟨_, rfl⟩
  have HOE := Lib.hid HOE0
  clear HOE0
  rw [show (fun (x : Nat) => normO l u (zs.getD x 0)) = OS from HOE.out.symm]
  go_enter Try.func32, Try.ntmps32
  go_wp2_with fail
  have hq := spec_l02Is w.heap.size W H (some ⟨rb, off, none⟩) len cap ((w.alloc (.cells #[.int .i64 W, .int .i64 H, .slice (some ⟨rb, off, none⟩) len cap] 27)).alloc (.cells #[.int .i64 0, .int .i64 0, .slice none 0 0] 27)) (by go_simp) (by go_simp) (by go_simp)
  rw [hvb] at hq
  refine hq.mono ?_
  clear hq
  rintro e w1 hq
  obtain ⟨rfl, BZ⟩ := RetB.below hq
  clear hq
  have BZ := BZ.mono (show w.heap.size + 2 ≤ _ by simp)
  have k0 : w1.cell? ⟨w.heap.size, 0, none⟩ = some (.int .i64 W) := (BZ.cell (p := ⟨w.heap.size, 0, none⟩) (by simp)).trans (by go_simp)
  have k1 : w1.cell? ⟨w.heap.size, 1, none⟩ = some (.int .i64 H) := (BZ.cell (p := ⟨w.heap.size, 1, none⟩) (by simp)).trans (by go_simp)
  have k2 : w1.cell? ⟨w.heap.size, 2, none⟩ = some (.slice (some ⟨rb, off, none⟩) len cap) := (BZ.cell (p := ⟨w.heap.size, 2, none⟩) (by simp)).trans (by go_simp)
  have BW1 : Below w.heap.size w w1 := (Below.alloc (Below.alloc (Below.refl _ _) (Nat.le_refl _) _) (by simp) _).trans (BZ.mono (by omega))
  have hs1' : w.heap.size + 2 ≤ w1.heap.size := by have := BZ.size; simp at this; omega
  go_wp2_with fail
  have hq := spec_l02Range w.heap.size (some ⟨rb, off, none⟩) len cap zs w1 k2 (IsFRow.below HH.out BW1)
  rw [hrg] at hq
  refine hq.mono ?_
  clear hq hrg BW1
  rintro e w' ⟨n1, rfl, rfl⟩
  replace BZ := below_drewN BZ n1
  go_wp2_with fail
  refine (spec_l02New W H _ OS).mono ?_
  rintro e w2 ⟨nb, rfl, ho2, b2⟩
  have BB := Below.trans BZ (b2.mono (by have := BZ.size; simp at this; first | omega | (simp; done) | (simp; omega)))
  have hs2 : w.heap.size + 2 ≤ w2.heap.size := by have := BB.size; simp at this; omega
  have hs1 : w.heap.size + 2 ≤ w1.heap.size := by have := BZ.size; simp at this; omega
  have HO2 := Lib.hid ho2
  have HBB := Lib.hid BB
  clear ho2 b2 BB BZ k0 k1 k2
  have k0 : w2.cell? ⟨w.heap.size, 0, none⟩ = some (.int .i64 W) := (HBB.out.cell (p := ⟨w.heap.size, 0, none⟩) (by simp)).trans (by go_simp)
  have k1 : w2.cell? ⟨w.heap.size, 1, none⟩ = some (.int .i64 H) := (HBB.out.cell (p := ⟨w.heap.size, 1, none⟩) (by simp)).trans (by go_simp)
  have k2 : w2.cell? ⟨w.heap.size, 2, none⟩ = some (.slice (some ⟨rb, off, none⟩) len cap) := (HBB.out.cell (p := ⟨w.heap.size, 2, none⟩) (by simp)).trans (by go_simp)
  go_wp2_with fail
  go_loopw [8] (fun i wr => ∃ x : Nat, ∃ v, x ≤ len ∧ i = .int .i64 x ∧ wr.heap[w2.heap.size]? = some (.cells #[.int .i64 W, .int .i64 H, v] 27 (0, 0)) ∧ OwnF wr (w.heap.size + 2) v x OS ∧ Below (w.heap.size + 2) ((w.alloc (.cells #[.int .i64 W, .int .i64 H, .slice (some ⟨rb, off, none⟩) len cap] 27)).alloc (.cells #[.int .i64 0, .int .i64 0, .slice none 0 0] 27)) wr) (fun i _ => len - (intOf i).toNat)
  case atStart => exact ⟨0, _, by omega, rfl, heap_alloc_new w2 _, (OwnF.mono (HO2.out.below (Below.alloc (Below.refl _ _) (Nat.le_refl _) _)) (by first | (simp; done) | (simp; omega) | omega)), (Below.alloc HBB.out hs2 _)⟩
  case round =>
    clear k0 k1 k2
    obtain ⟨x, v, hx, rfl, hbx, ho, hb⟩ := hrel
    obtain ⟨ao, cp, rfl⟩ := ho.shape
    have k0 : wr.cell? ⟨w.heap.size, 0, none⟩ = some (.int .i64 W) := (hb.cell (p := ⟨w.heap.size, 0, none⟩) (by simp)).trans (by go_simp)
    have k1 : wr.cell? ⟨w.heap.size, 1, none⟩ = some (.int .i64 H) := (hb.cell (p := ⟨w.heap.size, 1, none⟩) (by simp)).trans (by go_simp)
    have k2 : wr.cell? ⟨w.heap.size, 2, none⟩ = some (.slice (some ⟨rb, off, none⟩) len cap) := (hb.cell (p := ⟨w.heap.size, 2, none⟩) (by simp)).trans (by go_simp)
    have HO := Lib.hid ho
    have HB := Lib.hid hb
    have HX := Lib.hid hbx
    clear ho hb hbx
    by_cases hlx : x < len
    · have hn : x ≤ 1000 := by omega
      obtain ⟨z, hzx⟩ : ∃ z, zs.getD x 0 = z := ⟨_, rfl⟩
      have HOS0 : RowKit.Hid (OS x = normO l u z) := Lib.hid (by rw [HOE.out, ← hzx])
      have hrx := HRC.out x hlx
      rw [hzx] at hrx
      have HRX := Lib.hid hrx
      clear hrx hzx
      cases heq : eqB l u with
      | true =>
        have HOS : RowKit.Hid (OS x = ab .f32 0) := Lib.hid (by rw [HOS0.out]; exact if_pos heq)
        unfold eqB at heq
        have BRW : Below w.heap.size w wr := (Below.alloc (Below.alloc (Below.refl _ _) (Nat.le_refl _) _) (by simp) _).trans (HB.out.mono (by omega))
        have hsr : (w.heap.size + 2) ≤ wr.heap.size := by have := HB.out.size; simp at this; omega
        have ob2 := box_cell HX.out 2
        go_wp2_with (first | (at_builtin; refine wpList_append1 rfl (.tmp 36) (.tmp 37) rfl rfl rfl (HO.out.below (by repeat (first | exact Below.refl _ _ | refine Below.setCell ?_ (by first | (simp; done) | (simp; omega)) _ | refine Below.trans ?_ (Below.mono (by assumption) (by first | (simp; done) | (simp; omega))) | refine Below.alloc ?_ (by first | (simp; done) | (simp; omega)) _ | refine Below.alloc ?_ (Nat.le_refl _) _ | refine below_drewN ?_ _))) (by first | omega | (simp; done) | (simp; omega)) hn (by go_simp; rfl) (by rw [HOS.out]; exact is32 (by omega)) ?_; intro v' w' h7 hgr; obtain ⟨hxn, hbn⟩ := own_step HO.out (by repeat (first | exact Below.refl _ _ | refine Below.setCell ?_ (by first | (simp; done) | (simp; omega)) _ | refine Below.trans ?_ (Below.mono (by assumption) (by first | (simp; done) | (simp; omega))) | refine Below.alloc ?_ (by first | (simp; done) | (simp; omega)) _ | refine Below.alloc ?_ (Nat.le_refl _) _ | refine below_drewN ?_ _)) hgr HX.out HB.out (by first | (simp; done) | (simp; omega)); obtain ⟨a7, c7, rfl⟩ := h7.shape; have hcx := box_cell hxn 2; have hfx := box_free hxn 2) | (go_at_call 60; refine (spec_l02At w.heap.size W H _ _ a len cap zs _ (by go_simp) (by go_simp) (by go_simp) (IsFRow.below HH.out (BRW.trans (by repeat (first | exact Below.refl _ _ | refine Below.setCell ?_ (by first | (simp; done) | (simp; omega)) _ | refine Below.trans ?_ (Below.mono (by assumption) (by first | (simp; done) | (simp; omega))) | refine Below.alloc ?_ (by first | (simp; done) | (simp; omega)) _ | refine Below.alloc ?_ (Nat.le_refl _) _ | refine below_drewN ?_ _)))) HL.out HW.out HHH.out).mono ?_; rintro e w' ⟨q, rfl, rfl⟩) | ((fail_if_success (have := g1)); refine wpList_arith _ _ _ _ _ rfl rfl _ _ _ rfl rfl rfl ?_; intro r1 n1 g1))
        go_roundw
        case rel => exact ⟨x + 1, .slice a7 (x + 1) c7, by omega, rfl, box_set (i := 2) (.slice a7 (x + 1) c7) hxn, h7.setBox hxn _ _, Below.setCell hbn (by omega) _⟩
        case measure => simp [intOf]; omega
      | false =>
        have HOS : RowKit.Hid (OS x = oop .quo .f32 (oop .sub .f32 (ab .f32 z) (ab .f32 l)) (oop .sub .f32 (ab .f32 u) (ab .f32 l))) := Lib.hid (by rw [HOS0.out]; exact if_neg (by rw [heq]; decide))
        unfold eqB at heq
        go_wp2_with fail
        refine wp_region_own (by kernel_rfl) (by kernel_rfl) 16 (by kernel_rfl) 14 (fun _ v => ⟨#[Value.agg #[Value.int IntKind.i64 (W : Int), Value.int IntKind.i64 (H : Int), Value.slice (some ⟨rb, off, none⟩) len cap], Value.pointer (some ⟨w.heap.size, 0, none⟩), Value.pointer (some ⟨w.heap.size + 1, 0, none⟩), Value.bool false, Value.float FloatKind.f32 l, Value.float FloatKind.f32 u, Value.bool true, Value.pointer (some ⟨w2.heap.size, 0, none⟩), Value.int IntKind.i64 (x : Int), Value.bool true, Value.bool false, undef, Value.tuple #[Value.float FloatKind.f32 l, Value.float FloatKind.f32 u, Value.bool true], Value.tuple #[Value.float FloatKind.f32 l, Value.float FloatKind.f32 u, Value.bool true], Value.float FloatKind.f32 l, Value.float FloatKind.f32 u, Value.bool true, Value.bool true, Value.bool false, undef, Value.pointer (some ⟨w.heap.size, 0, none⟩), Value.int IntKind.i64 (W : Int), Value.pointer (some ⟨w.heap.size, 1, none⟩), Value.int IntKind.i64 (H : Int), Value.agg #[Value.int IntKind.i64 (W : Int), Value.int IntKind.i64 (H : Int), Value.slice (some ⟨nb, 0, none⟩) 0 0], Value.int IntKind.i64 (x : Int), Value.pointer (some ⟨w.heap.size, 2, none⟩), Value.slice (some ⟨rb, off, none⟩) len cap, Value.int IntKind.i64 (len : Int), Value.bool true, u30, u31, Value.float FloatKind.f32 l, Value.float FloatKind.f32 u, Value.bool false, u35, u36, u37, u38, u39, v 0, v 1, v 2, v 3, v 4, v 5, v 6, v 7, v 8, v 9, v 10, v 11, v 12, v 13, v 14, v 15, undef], []⟩) (fun d WW => Below (w.heap.size + 2) ((w.alloc (.cells #[.int .i64 W, .int .i64 H, .slice (some ⟨rb, off, none⟩) len cap] 27)).alloc (.cells #[.int .i64 0, .int .i64 0, .slice none 0 0] 27)) WW ∧ wr.heap.size ≤ WW.heap.size ∧ WW.heap[w2.heap.size]? = some (.cells #[.int .i64 W, .int .i64 H, .slice ao x cp] 27 (0, 0)) ∧ (d = false → OwnF WW (w.heap.size + 2) (.slice ao x cp) x OS))
          (fun j WW s => match j with | 0 => s = .pointer (some ⟨w2.heap.size, 2, none⟩) | 1 => s = .slice ao x cp | 2 => s = .pointer (some ⟨w.heap.size, 2, none⟩) | 3 => s = .slice (some ⟨rb, off, none⟩) len cap | 4 => s = .int .i64 x | 5 => s = .pointer (some ⟨rb, off + x, none⟩) | 6 => s = .float .f32 z | 7 => s = .float .f32 l | 8 => ∃ r, s = .float .f32 r ∧ Is .f32 r (oop .sub .f32 (ab .f32 (z)) (ab .f32 (l))) | 9 => s = .float .f32 u | 10 => s = .float .f32 l | 11 => ∃ r, s = .float .f32 r ∧ Is .f32 r (oop .sub .f32 (ab .f32 (u)) (ab .f32 (l))) | 12 => ∃ r, s = .float .f32 r ∧ Is .f32 r (oop .quo .f32 (oop .sub .f32 (ab .f32 (z)) (ab .f32 (l))) (oop .sub .f32 (ab .f32 (u)) (ab .f32 (l)))) | 13 => ∃ nb, s = .slice (some ⟨nb, 0, none⟩) 1 1 ∧ ∃ r, Is .f32 r (oop .quo .f32 (oop .sub .f32 (ab .f32 (z)) (ab .f32 (l))) (oop .sub .f32 (ab .f32 (u)) (ab .f32 (l)))) ∧ wr.heap.size ≤ nb ∧ nb < WW.heap.size ∧ WW.cell? ⟨nb, 0, none⟩ = some (.float .f32 r) | 14 => OwnF WW (w.heap.size + 2) s (x + 1) OS | 15 => s = .pointer (some ⟨w2.heap.size, 2, none⟩) | _ => True) ?_ ⟨fun i => [u40, u41, u42, u43, u44, u45, u46, u47, u48, u49, u50, u51, u52, u53, u54, u55].getD i undef, rfl⟩ ⟨HB.out.drew, Nat.le_refl _, HX.out, fun _ => HO.out.below (Below.refl _ _).drew⟩ ?_ ?_ (by omega) ?_
        · intro j WW W2 s hb
          rcases j with _ | _ | _ | _ | _ | _ | _ | _ | _ | _ | _ | _ | _ | _ | _ | _ | j
          · exact id
          · exact id
          · exact id
          · exact id
          · exact id
          · exact id
          · exact id
          · exact id
          · exact id
          · exact id
          · exact id
          · exact id
          · exact id
          · rintro ⟨nb, e, r, hr, h1, h2, hc⟩
            exact ⟨nb, e, r, hr, h1, Nat.lt_of_lt_of_le h2 hb.size, (hb.cell (p := ⟨nb, 0, none⟩) h2).trans hc⟩
          · exact fun h => h.below hb
          · exact id
          · exact id
        · intro i o ho hlt2 hne d vals WW hG hd
          rcases i with _ | _ | _ | _ | _ | _ | _ | _ | _ | _ | _ | _ | _ | _ | _ | _ | i
          · refine wpOp_run ho (by cases Option.some.inj ho; rfl) ?_
            cases Option.some.inj ho
            go_simp
            exact ⟨.pointer (some ⟨w2.heap.size, 2, none⟩), by simp [upd_at], Below.refl _ _, hG, rfl⟩
          · refine wpOp_run ho (by cases Option.some.inj ho; rfl) ?_
            cases Option.some.inj ho
            have e0 : vals 0 = .pointer (some ⟨w2.heap.size, 2, none⟩) := hd ⟨0, .data⟩ (by simp) rfl
            have hcx := (box_cell hG.2.2.1 2)
            go_simp
            exact ⟨.slice ao x cp, by simp [upd_at, e0], Below.refl _ _, hG, rfl⟩
          · refine wpOp_run ho (by cases Option.some.inj ho; rfl) ?_
            cases Option.some.inj ho
            go_simp
            exact ⟨.pointer (some ⟨w.heap.size, 2, none⟩), by simp [upd_at], Below.refl _ _, hG, rfl⟩
          · refine wpOp_run ho (by cases Option.some.inj ho; rfl) ?_
            cases Option.some.inj ho
            have e2 : vals 2 = .pointer (some ⟨w.heap.size, 2, none⟩) := hd ⟨2, .data⟩ (by simp) rfl
            have hcx := (hG.1.cell (p := ⟨w.heap.size, 2, none⟩) (by simp)).trans (show _ = some (.slice (some ⟨rb, off, none⟩) len cap) from by go_simp)
            go_simp
            exact ⟨.slice (some ⟨rb, off, none⟩) len cap, by simp [upd_at, e2], Below.refl _ _, hG, rfl⟩
          · refine wpOp_run ho (by cases Option.some.inj ho; rfl) ?_
            cases Option.some.inj ho
            go_simp
            exact ⟨.int .i64 x, by simp [upd_at], Below.refl _ _, hG, rfl⟩
          · refine wpOp_run ho (by cases Option.some.inj ho; rfl) ?_
            cases Option.some.inj ho
            have e3 : vals 3 = .slice (some ⟨rb, off, none⟩) len cap := hd ⟨3, .data⟩ (by simp) rfl
            have e4 : vals 4 = .int .i64 x := hd ⟨4, .data⟩ (by simp) rfl
            go_simp
            exact ⟨.pointer (some ⟨rb, off + x, none⟩), by simp [upd_at, e3, e4], Below.refl _ _, hG, rfl⟩
          · refine wpOp_run ho (by cases Option.some.inj ho; rfl) ?_
            cases Option.some.inj ho
            have e5 : vals 5 = .pointer (some ⟨rb, off + x, none⟩) := hd ⟨5, .data⟩ (by simp) rfl
            have BG : Below w.heap.size w WW := (Below.alloc (Below.alloc (Below.refl _ _) (Nat.le_refl _) _) (by simp) _).trans (hG.1.mono (by omega))
            have hcx := (BG.cell (p := ⟨rb, off + x, none⟩) hbl).trans HRX.out
            go_simp
            exact ⟨.float .f32 z, by simp [upd_at, e5], Below.refl _ _, hG, rfl⟩
          · refine wpOp_run ho (by cases Option.some.inj ho; rfl) ?_
            cases Option.some.inj ho
            go_simp
            exact ⟨.float .f32 l, by simp [upd_at], Below.refl _ _, hG, rfl⟩
          · refine wpOp_run ho (by cases Option.some.inj ho; rfl) ?_
            cases Option.some.inj ho
            have e6 : vals 6 = .float .f32 z := hd ⟨6, .data⟩ (by simp) rfl
            have e7 : vals 7 = .float .f32 l := hd ⟨7, .data⟩ (by simp) rfl
            obtain ⟨r, q, hrun, hr⟩ := run_arith (P := Try.prog) .sub rfl 31 .f32 (z) (l) WW
            have hB := below_drewN (Below.refl WW.heap.size WW) q
            go_simp
            exact ⟨.float .f32 r, by simp [upd_at, e6, e7], by simpa using hB, ⟨hG.1.trans (hB.mono (by have := hG.1.size; simp at this; omega)), Nat.le_trans hG.2.1 hB.size, (hB.block _ (lt_of_block hG.2.2.1)).trans hG.2.2.1, fun e => (hG.2.2.2 e).below hB⟩, r, rfl, by exact hr⟩
          · refine wpOp_run ho (by cases Option.some.inj ho; rfl) ?_
            cases Option.some.inj ho
            go_simp
            exact ⟨.float .f32 u, by simp [upd_at], Below.refl _ _, hG, rfl⟩
          · refine wpOp_run ho (by cases Option.some.inj ho; rfl) ?_
            cases Option.some.inj ho
            go_simp
            exact ⟨.float .f32 l, by simp [upd_at], Below.refl _ _, hG, rfl⟩
          · refine wpOp_run ho (by cases Option.some.inj ho; rfl) ?_
            cases Option.some.inj ho
            have e9 : vals 9 = .float .f32 u := hd ⟨9, .data⟩ (by simp) rfl
            have e10 : vals 10 = .float .f32 l := hd ⟨10, .data⟩ (by simp) rfl
            obtain ⟨r, q, hrun, hr⟩ := run_arith (P := Try.prog) .sub rfl 31 .f32 (u) (l) WW
            have hB := below_drewN (Below.refl WW.heap.size WW) q
            go_simp
            exact ⟨.float .f32 r, by simp [upd_at, e9, e10], by simpa using hB, ⟨hG.1.trans (hB.mono (by have := hG.1.size; simp at this; omega)), Nat.le_trans hG.2.1 hB.size, (hB.block _ (lt_of_block hG.2.2.1)).trans hG.2.2.1, fun e => (hG.2.2.2 e).below hB⟩, r, rfl, by exact hr⟩
          · refine wpOp_run ho (by cases Option.some.inj ho; rfl) ?_
            cases Option.some.inj ho
            obtain ⟨r8, e8, k8⟩ := (show ∃ r, vals 8 = .float .f32 r ∧ Is .f32 r (oop .sub .f32 (ab .f32 (z)) (ab .f32 (l))) from hd ⟨8, .data⟩ (by simp) rfl)
            obtain ⟨r11, e11, k11⟩ := (show ∃ r, vals 11 = .float .f32 r ∧ Is .f32 r (oop .sub .f32 (ab .f32 (u)) (ab .f32 (l))) from hd ⟨11, .data⟩ (by simp) rfl)
            obtain ⟨r, q, hrun, hr⟩ := run_arith (P := Try.prog) .quo rfl 31 .f32 r8 r11 WW
            have hB := below_drewN (Below.refl WW.heap.size WW) q
            go_simp
            exact ⟨.float .f32 r, by simp [upd_at, e8, e11], by simpa using hB, ⟨hG.1.trans (hB.mono (by have := hG.1.size; simp at this; omega)), Nat.le_trans hG.2.1 hB.size, (hB.block _ (lt_of_block hG.2.2.1)).trans hG.2.2.1, fun e => (hG.2.2.2 e).below hB⟩, r, rfl, by rw [← k8.ab, ← k11.ab]; exact hr⟩
          · refine wpOp_run ho (by cases Option.some.inj ho; rfl) ?_
            cases Option.some.inj ho
            obtain ⟨r12, e12, k12⟩ := (show ∃ r, vals 12 = .float .f32 r ∧ Is .f32 r (oop .quo .f32 (oop .sub .f32 (ab .f32 (z)) (ab .f32 (l))) (oop .sub .f32 (ab .f32 (u)) (ab .f32 (l)))) from hd ⟨12, .data⟩ (by simp) rfl)
            have hB : Below WW.heap.size WW (WW.alloc (.cells #[.float .f32 r12] 31)) := Below.alloc (Below.refl _ _) (Nat.le_refl _) _
            go_simp
            exact ⟨.slice (some ⟨WW.heap.size, 0, none⟩) 1 1, by simp [upd_at, e12], hB, ⟨hG.1.trans (hB.mono (by have := hG.1.size; simp at this; omega)), Nat.le_trans hG.2.1 hB.size, (hB.block _ (lt_of_block hG.2.2.1)).trans hG.2.2.1, fun e => (hG.2.2.2 e).below hB⟩, WW.heap.size, rfl, r12, (show Is .f32 r12 (oop .quo .f32 (oop .sub .f32 (ab .f32 (z)) (ab .f32 (l))) (oop .sub .f32 (ab .f32 (u)) (ab .f32 (l)))) from k12), hG.2.1, by simp, by go_simp⟩
          · exact absurd rfl hne
          · refine wpOp_run ho (by cases Option.some.inj ho; rfl) ?_
            cases Option.some.inj ho
            go_simp
            exact ⟨.pointer (some ⟨w2.heap.size, 2, none⟩), by simp [upd_at], Below.refl _ _, hG, rfl⟩
          · omega
        · intro o ho _ vals WW hG hd
          refine wpOp_run ho (by cases Option.some.inj ho; rfl) ?_
          cases Option.some.inj ho
          have e1 : vals 1 = .slice ao x cp := hd ⟨1, .data⟩ (by simp) rfl
          obtain ⟨nb, e6, r, hr, h1, h2, hc⟩ := (show ∃ nb, vals 13 = .slice (some ⟨nb, 0, none⟩) 1 1 ∧ ∃ r, Is .f32 r (oop .quo .f32 (oop .sub .f32 (ab .f32 (z)) (ab .f32 (l))) (oop .sub .f32 (ab .f32 (u)) (ab .f32 (l)))) ∧ wr.heap.size ≤ nb ∧ nb < WW.heap.size ∧ WW.cell? ⟨nb, 0, none⟩ = some (.float .f32 r) from hd ⟨13, .data⟩ (by simp) rfl)
          have hv := hG.2.2.2 rfl
          refine wp_append1 (.tmp 41) (.tmp 53) rfl e1 e6 hv (by have := hG.1.size; simp at this; omega) hn hc (by rw [HOS.out]; exact hr) ?_
          intro v' w' h7 hgr
          have hB := hv.grown (by have := hG.1.size; simp at this; omega) hgr
          refine ⟨v', by simp [upd_at, Act.put], ⟨hG.1.trans hB, Nat.le_trans hG.2.1 hgr.size, (hgr.block _ (lt_of_block hG.2.2.1) (own_ne_box hv hG.2.2.1).symm).trans hG.2.2.1, fun e => by cases e⟩, h7, ?_⟩
          intro j s hj hs
          rcases j with _ | _ | _ | _ | _ | _ | _ | _ | _ | _ | _ | _ | _ | _ | _ | _ | j
          · exact hs
          · exact hs
          · exact hs
          · exact hs
          · exact hs
          · exact hs
          · exact hs
          · exact hs
          · exact hs
          · exact hs
          · exact hs
          · exact hs
          · exact hs
          · obtain ⟨nb, e, r, hr, h1, h2, hc⟩ := hs
            exact ⟨nb, e, r, hr, h1, Nat.lt_of_lt_of_le h2 hgr.size, hgr.cell hc fun e => by have := (HO.out.lt nb e.symm).2; omega⟩
          · exact absurd rfl hj
          · exact hs
          · exact hs
        · intro vals WW hG hR
          refine wpOp_run rfl rfl ?_
          have h7 : OwnF WW (w.heap.size + 2) (vals 14) (x + 1) OS := hR 14 (by omega)
          have e8 : vals 15 = .pointer (some ⟨w2.heap.size, 2, none⟩) := hR 15 (by omega)
          have hcx := (box_cell hG.2.2.1 2)
          have hfx := (box_free hG.2.2.1 2)
          clear hR
          obtain ⟨a7, c7, e7⟩ := h7.shape
          rw [e7] at h7
          go_simp
          go_wp2_with fail
          go_roundw
          case rel => exact ⟨x + 1, .slice a7 (x + 1) c7, by omega, rfl, box_set (i := 2) (.slice a7 (x + 1) c7) hG.2.2.1, h7.setBox hG.2.2.1 _ _, Below.setCell hG.1 (by omega) _⟩
          case measure => simp [intOf]; omega
    · obtain rfl : len = x := by omega
      have hz : wr.heap[w.heap.size + 1]? = some (.cells #[.int .i64 0, .int .i64 0, .slice none 0 0] 27 (0, 0)) := (HB.out.block (w.heap.size + 1) (by omega)).trans (by have h := heap_alloc_new (w.alloc (.cells #[.int .i64 W, .int .i64 H, .slice (some ⟨rb, off, none⟩) len cap] 27)) (.cells #[.int .i64 0, .int .i64 0, .slice none 0 0] 27); rw [show (w.alloc (.cells #[.int .i64 W, .int .i64 H, .slice (some ⟨rb, off, none⟩) len cap] 27)).heap.size = w.heap.size + 1 from by simp] at h; exact h)
      have z0 := box_cell hz 0
      have z1 := box_cell hz 1
      have z2 := box_cell hz 2
      have f0 := box_free hz 0
      have f1 := box_free hz 1
      have f2 := box_free hz 2
      have c0 := box_cell HX.out 0
      have c1 := box_cell HX.out 1
      have c2 := box_cell HX.out 2
      go_wp2_with fail
      have BW : Below w.heap.size w wr := (Below.alloc (Below.alloc (Below.refl _ _) (Nat.le_refl _) _) (by simp) _).trans (HB.out.mono (by omega))
      have hend := OwnF.setBox (OwnF.setBox (OwnF.setBox (HO.out.mono (base' := w.heap.size) (by omega)) hz 0 (.int .i64 W)) (box_set _ hz) 1 (.int .i64 H)) (box_set _ (box_set _ hz)) 2 (.slice ao len cp)
      obtain ⟨ao', cp', zs', e, hro, his⟩ := (hend.congr (m := len) rfl (fun _ _ => rfl)).orow (by omega)
      simp only [Value.slice.injEq, true_and] at e
      obtain ⟨rfl, rfl⟩ := e
      refine bodyPost_ret (v := .tuple #[.agg #[.int .i64 W, .int .i64 H, .slice ao len cp], .bool true]) ?_ rfl ⟨ao, cp, zs', rfl, hro, his, ?_⟩
      · simp [results, Try.results32, go_sem, z0, z1, z2]
      · exact Below.setCell (Below.setCell (Below.setCell BW (by simp) _) (by simp) _) (by simp) _

theorem spec_NormPicture_bad (x y : Int) (a : Option Addr) (len cap : Nat)  (os : Nat → Option Nat) (w : World) (hvb : validB x y len = false)  :
    Calls Try.prog 32 #[.agg #[.int .i64 x, .int .i64 y, .slice a len cap]] w (RetP 0 0 0 false os w) := by
  go_enter Try.func32, Try.ntmps32
  go_wp2_with fail
  have hq := spec_l02Is w.heap.size x y a len cap ((w.alloc (.cells #[.int .i64 x, .int .i64 y, .slice a len cap] 27)).alloc (.cells #[.int .i64 0, .int .i64 0, .slice none 0 0] 27)) (by go_simp) (by go_simp) (by go_simp)
  rw [hvb] at hq
  refine hq.mono ?_
  clear hq
  rintro e w1 hq
  obtain ⟨rfl, b1⟩ := RetB.below hq
  clear hq
  have hz : w1.heap[w.heap.size + 1]? = some (.cells #[.int .i64 0, .int .i64 0, .slice none 0 0] 27 (0, 0)) := (b1.block (w.heap.size + 1) (by simp)).trans (by have h := heap_alloc_new (w.alloc (.cells #[.int .i64 x, .int .i64 y, .slice a len cap] 27)) (.cells #[.int .i64 0, .int .i64 0, .slice none 0 0] 27); rw [show (w.alloc (.cells #[.int .i64 x, .int .i64 y, .slice a len cap] 27)).heap.size = w.heap.size + 1 from by simp] at h; exact h)
  have z0 := box_cell hz 0
  have z1 := box_cell hz 1
  have z2 := box_cell hz 2
  have f0 := box_free hz 0
  have f1 := box_free hz 1
  have f2 := box_free hz 2
  go_wp2_with fail
  refine bodyPost_ret (v := .tuple #[.agg #[.int .i64 0, .int .i64 0, .slice none 0 0], .bool false]) ?_ rfl (RetP.none os rfl (by repeat (first | exact Below.refl _ _ | refine Below.setCell ?_ (by first | (simp; done) | (simp; omega)) _ | refine Below.trans ?_ (Below.mono (by assumption) (by first | (simp; done) | (simp; omega))) | refine Below.alloc ?_ (by first | (simp; done) | (simp; omega)) _ | refine Below.alloc ?_ (Nat.le_refl _) _ | refine below_drewN ?_ _)))
  simp [results, Try.results32, go_sem, z0, z1, z2]

theorem spec_NormPicture_bad2 (x y : Int) (a : Option Addr) (len cap : Nat) (zs : List Nat) (os : Nat → Option Nat) (w : World) (h : IsFRow w a len cap zs) (hvb : validB x y len = true) (hrg : rng zs len = (0, 0, false)) :
    Calls Try.prog 32 #[.agg #[.int .i64 x, .int .i64 y, .slice a len cap]] w (RetP 0 0 0 false os w) := by
  have HR := Lib.hid h
  clear h
  go_enter Try.func32, Try.ntmps32
  go_wp2_with fail
  have hq := spec_l02Is w.heap.size x y a len cap ((w.alloc (.cells #[.int .i64 x, .int .i64 y, .slice a len cap] 27)).alloc (.cells #[.int .i64 0, .int .i64 0, .slice none 0 0] 27)) (by go_simp) (by go_simp) (by go_simp)
  rw [hvb] at hq
  refine hq.mono ?_
  clear hq
  rintro e w1 hq
  obtain ⟨rfl, b1⟩ := RetB.below hq
  clear hq hvb
  have k2 : w1.cell? ⟨w.heap.size, 2, none⟩ = some (.slice a len cap) := (b1.cell (p := ⟨w.heap.size, 2, none⟩) (by first | (simp; done) | (simp; omega))).trans (by go_simp)
  have hz : w1.heap[w.heap.size + 1]? = some (.cells #[.int .i64 0, .int .i64 0, .slice none 0 0] 27 (0, 0)) := (b1.block (w.heap.size + 1) (by first | (simp; done) | (simp; omega) | omega)).trans (by have h := heap_alloc_new (w.alloc (.cells #[.int .i64 x, .int .i64 y, .slice a len cap] 27)) (.cells #[.int .i64 0, .int .i64 0, .slice none 0 0] 27); rw [show (w.alloc (.cells #[.int .i64 x, .int .i64 y, .slice a len cap] 27)).heap.size = w.heap.size + 1 from by simp] at h; exact h)
  have z0 := box_cell hz 0
  have z1 := box_cell hz 1
  have z2 := box_cell hz 2
  have f0 := box_free hz 0
  have f1 := box_free hz 1
  have f2 := box_free hz 2
  have BW : Below w.heap.size w w1 := (by repeat (first | exact Below.refl _ _ | refine Below.setCell ?_ (by first | (simp; done) | (simp; omega)) _ | refine Below.trans ?_ (Below.mono (by assumption) (by first | (simp; done) | (simp; omega))) | refine Below.alloc ?_ (by first | (simp; done) | (simp; omega)) _ | refine Below.alloc ?_ (Nat.le_refl _) _ | refine below_drewN ?_ _))
  have HB := Lib.hid BW
  clear b1 BW
  go_wp2_with fail
  have hq := spec_l02Range w.heap.size a len cap zs w1 k2 (IsFRow.below HR.out HB.out)
  rw [hrg] at hq
  refine hq.mono ?_
  clear hq hrg
  rintro e w' ⟨n1, rfl, rfl⟩
  go_wp2_with fail
  refine bodyPost_ret (v := .tuple #[.agg #[.int .i64 0, .int .i64 0, .slice none 0 0], .bool false]) ?_ rfl (RetP.none os rfl (Below.setCell (Below.setCell (Below.setCell (HB.out.trans ((below_drewN (Below.refl _ _) n1).mono HB.out.size)) (by simp) _) (by simp) _) (by simp) _))
  simp [results, Try.results32, go_sem, z0, z1, z2]
theorem NormPicture_clos (b W H : Nat) (a : Option Addr) (len cap : Nat) (zs : List Nat)   (w : World) (c0 : w.cell? ⟨b, 0, none⟩ = some (.int .i64 W)) (c1 : w.cell? ⟨b, 1, none⟩ = some (.int .i64 H)) (c2 : w.cell? ⟨b, 2, none⟩ = some (.slice a len cap))
    (q0 q1 l u : Nat) (d0 : w.cell? ⟨q0, 0, none⟩ = some (.float .f32 l)) (d1 : w.cell? ⟨q1, 0, none⟩ = some (.float .f32 u)) (hr : IsFRow w a len cap zs) (hl : len = W * H) (hW : 1 ≤ W ∧ W ≤ 24) (hH : 1 ≤ H ∧ H ≤ 24)   (x y : Nat) (hx : x < W) (hy : y < H) :
    Calls Try.prog 59 #[.int .i64 x, .int .i64 y, .pointer (some ⟨q0, 0, none⟩), .pointer (some ⟨q1, 0, none⟩), .pointer (some ⟨b, 0, none⟩)] w (RetF .f32 ((fun (x y : Nat) => normO l u (grey zs W H x y)) x y) w) := by
  have _hx := hx
  have _hy := hy
  have HR := Lib.hid hr
  have HL := Lib.hid hl
  have HW := Lib.hid hW
  have HH := Lib.hid hH
  have hzl : ∀ z ∈ zs, z < 4294967296 := hr.2.2.2.1
  obtain ⟨hW1, hW2⟩ := hW
  obtain ⟨hH1, hH2⟩ := hH
  clear hr hl
  show Calls _ _ _ _ (RetF .f32 (normO l u (grey zs W H x y)) w)
  cases heq : eqB l u with
  | true =>
    have e0 : normO l u (grey zs W H x y) = ab .f32 0 := if_pos heq
    rw [e0]
    clear e0
    unfold eqB at heq
    go_enter Try.func59, Try.ntmps59
    go_wp2_with fail
    go_ret
    exact ⟨0, 0, is32 (by omega), rfl, rfl⟩
  | false =>
    have e0 : normO l u (grey zs W H x y) = oop .quo .f32 (oop .sub .f32 (ab .f32 (grey zs W H x y)) (ab .f32 l)) (oop .sub .f32 (ab .f32 u) (ab .f32 l)) := if_neg (by rw [heq]; decide)
    rw [e0]
    clear e0
    unfold eqB at heq
    go_enter Try.func59, Try.ntmps59
    go_wp2_with fail
    refine wp_region_steps (by kernel_rfl) (by kernel_rfl) 9 (by kernel_rfl) (fun _ v => ⟨#[.int .i64 x, .int .i64 y, .pointer (some ⟨q0, 0, none⟩), .pointer (some ⟨q1, 0, none⟩), .pointer (some ⟨b, 0, none⟩), undef, undef, .float .f32 0, .float .f32 l, .float .f32 u, .bool false, v 0, v 1, v 2, v 3, v 4, v 5, v 6, v 7, v 8], []⟩)
      (fun WW => Below w.heap.size w WW ∧ ∃ n, WW = w.drewN n)
      (fun j WW s => match j with | 0 => s = .int .i64 x | 1 => s = .int .i64 y | 2 => s = .float .f32 (grey zs W H (x) (y)) | 3 => s = .float .f32 l | 4 => ∃ r, s = .float .f32 r ∧ Is .f32 r (oop .sub .f32 (ab .f32 ((grey zs W H (x) (y)))) (ab .f32 (l))) | 5 => s = .float .f32 u | 6 => s = .float .f32 l | 7 => ∃ r, s = .float .f32 r ∧ Is .f32 r (oop .sub .f32 (ab .f32 (u)) (ab .f32 (l))) | 8 => ∃ r, s = .float .f32 r ∧ Is .f32 r (oop .quo .f32 (oop .sub .f32 (ab .f32 ((grey zs W H (x) (y)))) (ab .f32 (l))) (oop .sub .f32 (ab .f32 (u)) (ab .f32 (l)))) | _ => True) ?_ ⟨fun i => [undef, undef, undef, undef, undef, undef, undef, undef, undef].getD i undef, rfl⟩ ⟨(Below.refl _ _).drew, 1, rfl⟩ ?_ ?_
    · intro j WW W2 s hb
      rcases j with _ | _ | _ | _ | _ | _ | _ | _ | _ | j <;> exact id
    · intro i o ho hlt2 vals WW hG hd
      rcases i with _ | _ | _ | _ | _ | _ | _ | _ | _ | i
      · refine wpOp_run ho (by cases Option.some.inj ho; rfl) ?_
        cases Option.some.inj ho
        go_simp
        exact ⟨.int .i64 x, by simp [upd_at], Below.refl _ _, hG, rfl⟩
      · refine wpOp_run ho (by cases Option.some.inj ho; rfl) ?_
        cases Option.some.inj ho
        go_simp
        exact ⟨.int .i64 y, by simp [upd_at], Below.refl _ _, hG, rfl⟩
      · refine wpOp_run ho (by cases Option.some.inj ho; rfl) ?_
        cases Option.some.inj ho
        have e0 : vals 0 = .int .i64 x := hd ⟨0, .data⟩ (by simp) rfl
        have e1 : vals 1 = .int .i64 y := hd ⟨1, .data⟩ (by simp) rfl
        have e0' := (hG.1.cell (p := ⟨b, 0, none⟩) (World.block_lt_of_cell? w _ c0)).trans c0
        have e1' := (hG.1.cell (p := ⟨b, 1, none⟩) (World.block_lt_of_cell? w _ c1)).trans c1
        have e2' := (hG.1.cell (p := ⟨b, 2, none⟩) (World.block_lt_of_cell? w _ c2)).trans c2
        have hc := impl_about b W H (x) (y) a len cap zs WW e0' e1' e2' (IsFRow.below HR.out hG.1) HL.out HW.out HH.out
        go_simp
        refine hc.mono ?_
        rintro e w' ⟨q, rfl, rfl⟩
        have hB := below_drewN (Below.refl WW.heap.size WW) q
        go_simp
        exact ⟨.float .f32 (grey zs W H (x) (y)), by simp [upd_at, e0, e1], hB, ⟨hG.1.trans (hB.mono hG.1.size), by obtain ⟨m', e⟩ := hG.2; exact ⟨m' + q, by rw [e, World.drewN_drewN]⟩⟩, rfl⟩
      · refine wpOp_run ho (by cases Option.some.inj ho; rfl) ?_
        cases Option.some.inj ho
        have hcx := (hG.1.cell (p := ⟨q0, 0, none⟩) (World.block_lt_of_cell? w _ d0)).trans d0
        go_simp
        exact ⟨.float .f32 l, by simp [upd_at], Below.refl _ _, hG, rfl⟩
      · refine wpOp_run ho (by cases Option.some.inj ho; rfl) ?_
        cases Option.some.inj ho
        have e2 : vals 2 = .float .f32 (grey zs W H (x) (y)) := hd ⟨2, .data⟩ (by simp) rfl
        have e3 : vals 3 = .float .f32 l := hd ⟨3, .data⟩ (by simp) rfl
        obtain ⟨r, q, hrun, hr⟩ := run_arith (P := Try.prog) .sub rfl 31 .f32 ((grey zs W H (x) (y))) (l) WW
        have hB := below_drewN (Below.refl WW.heap.size WW) q
        go_simp
        exact ⟨.float .f32 r, by simp [upd_at, e2, e3], by simpa using hB, ⟨hG.1.trans (hB.mono hG.1.size), by obtain ⟨m', e⟩ := hG.2; exact ⟨m' + q, by rw [e, World.drewN_drewN]⟩⟩, r, rfl, by exact hr⟩
      · refine wpOp_run ho (by cases Option.some.inj ho; rfl) ?_
        cases Option.some.inj ho
        have hcx := (hG.1.cell (p := ⟨q1, 0, none⟩) (World.block_lt_of_cell? w _ d1)).trans d1
        go_simp
        exact ⟨.float .f32 u, by simp [upd_at], Below.refl _ _, hG, rfl⟩
      · refine wpOp_run ho (by cases Option.some.inj ho; rfl) ?_
        cases Option.some.inj ho
        have hcx := (hG.1.cell (p := ⟨q0, 0, none⟩) (World.block_lt_of_cell? w _ d0)).trans d0
        go_simp
        exact ⟨.float .f32 l, by simp [upd_at], Below.refl _ _, hG, rfl⟩
      · refine wpOp_run ho (by cases Option.some.inj ho; rfl) ?_
        cases Option.some.inj ho
        have e5 : vals 5 = .float .f32 u := hd ⟨5, .data⟩ (by simp) rfl
        have e6 : vals 6 = .float .f32 l := hd ⟨6, .data⟩ (by simp) rfl
        obtain ⟨r, q, hrun, hr⟩ := run_arith (P := Try.prog) .sub rfl 31 .f32 (u) (l) WW
        have hB := below_drewN (Below.refl WW.heap.size WW) q
        go_simp
        exact ⟨.float .f32 r, by simp [upd_at, e5, e6], by simpa using hB, ⟨hG.1.trans (hB.mono hG.1.size), by obtain ⟨m', e⟩ := hG.2; exact ⟨m' + q, by rw [e, World.drewN_drewN]⟩⟩, r, rfl, by exact hr⟩
      · refine wpOp_run ho (by cases Option.some.inj ho; rfl) ?_
        cases Option.some.inj ho
        obtain ⟨r4, e4, k4⟩ := (show ∃ r, vals 4 = .float .f32 r ∧ Is .f32 r (oop .sub .f32 (ab .f32 ((grey zs W H (x) (y)))) (ab .f32 (l))) from hd ⟨4, .data⟩ (by simp) rfl)
        obtain ⟨r7, e7, k7⟩ := (show ∃ r, vals 7 = .float .f32 r ∧ Is .f32 r (oop .sub .f32 (ab .f32 (u)) (ab .f32 (l))) from hd ⟨7, .data⟩ (by simp) rfl)
        obtain ⟨r, q, hrun, hr⟩ := run_arith (P := Try.prog) .quo rfl 31 .f32 r4 r7 WW
        have hB := below_drewN (Below.refl WW.heap.size WW) q
        go_simp
        exact ⟨.float .f32 r, by simp [upd_at, e4, e7], by simpa using hB, ⟨hG.1.trans (hB.mono hG.1.size), by obtain ⟨m', e⟩ := hG.2; exact ⟨m' + q, by rw [e, World.drewN_drewN]⟩⟩, r, rfl, by rw [← k4.ab, ← k7.ab]; exact hr⟩
      · omega
    · intro vals WW hG hR
      obtain ⟨r, e6, hr⟩ := (show ∃ r, vals 8 = .float .f32 r ∧ Is .f32 r (oop .quo .f32 (oop .sub .f32 (ab .f32 (grey zs W H x y)) (ab .f32 l)) (oop .sub .f32 (ab .f32 u) (ab .f32 l))) from hR 8 (by omega))
      obtain ⟨-, nn, rfl⟩ := hG
      refine wpOp_run rfl rfl ?_
      clear hR
      go_simp
      go_wp2_with fail
      go_ret
      exact ⟨_, _, hr, rfl, rfl⟩

theorem impl_NormPicture_ok (W H : Nat) (a : Option Addr) (len cap : Nat) (zs : List Nat) (w : World) (hrw : IsFRow w a len cap zs) (hl : len = W * H) (hW : 1 ≤ W ∧ W ≤ 24) (hH : 1 ≤ H ∧ H ≤ 24) (hvb : validB W H len = true) (l u : Nat) (hrg : rng zs len = (l, u, true)) :
    Calls Try.prog 33 #[.agg #[.int .i64 W, .int .i64 H, .slice a len cap]] w (RetP W H (H * W) true (osXY W (fun (x y : Nat) => normO l u (grey zs W H x y))) w) := by
  have HR := Lib.hid hrw
  have HL := Lib.hid hl
  clear hrw hl
  have hmf : ∀ (fn : Fn) (first cap : Array Value) (w : World), (Instr.makeFunc fn first cap).run Try.prog w = .ok (.func fn first cap) w := fun _ _ _ _ => rfl
  have BA : Below w.heap.size w ((w.alloc (.cells #[.int .i64 W, .int .i64 H, .slice a len cap] 27)).alloc (.cells #[.int .i64 0, .int .i64 0, .slice none 0 0] 27)) := (by repeat (first | exact Below.refl _ _ | refine Below.setCell ?_ (by first | (simp; done) | (simp; omega)) _ | refine Below.trans ?_ (Below.mono (by assumption) (by first | (simp; done) | (simp; omega))) | refine Below.alloc ?_ (by first | (simp; done) | (simp; omega)) _ | refine Below.alloc ?_ (Nat.le_refl _) _ | refine below_drewN ?_ _))
  go_enter Try.func33, Try.ntmps33
  go_wp2_with fail
  have hq := impl_RangeOf_true W H a len cap zs ((w.alloc (.cells #[.int .i64 W, .int .i64 H, .slice a len cap] 27)).alloc (.cells #[.int .i64 0, .int .i64 0, .slice none 0 0] 27)) (IsFRow.below HR.out BA) hvb
  rw [hrg] at hq
  refine hq.mono ?_
  clear hq hrg
  rintro e w1 ⟨rfl, b1⟩
  have b1 := b1.mono (show w.heap.size + 2 ≤ _ by simp)
  have hs1 : w.heap.size + 2 ≤ w1.heap.size := by have := b1.size; simp at this; omega
  have k0 : w1.cell? ⟨w.heap.size, 0, none⟩ = some (.int .i64 W) := (b1.cell (p := ⟨w.heap.size, 0, none⟩) (by first | (simp; done) | (simp; omega))).trans (by go_simp)
  have k1 : w1.cell? ⟨w.heap.size, 1, none⟩ = some (.int .i64 H) := (b1.cell (p := ⟨w.heap.size, 1, none⟩) (by first | (simp; done) | (simp; omega))).trans (by go_simp)
  have k2 : w1.cell? ⟨w.heap.size, 2, none⟩ = some (.slice a len cap) := (b1.cell (p := ⟨w.heap.size, 2, none⟩) (by first | (simp; done) | (simp; omega))).trans (by go_simp)
  have D := Lib.hid b1
  have BW := BA.trans (b1.mono (by omega))
  clear b1 BA
  have m0 : w.heap.size < w1.heap.size := by omega
  have n0 : w.heap.size ≠ w1.heap.size := by omega
  have n1 : w.heap.size ≠ w1.heap.size + 1 := by omega
  go_wp2_with fail
  have hk : ∀ args W', (callFunc 59 args).run Try.prog W' = .ok (.enter 59 args) W' := fun args W' => by go_simp
  have BX : Below w1.heap.size w1 ((w1.alloc (.cells #[.float .f32 l] 31)).alloc (.cells #[.float .f32 u] 31)) := (by repeat (first | exact Below.refl _ _ | refine Below.setCell ?_ (by first | (simp; done) | (simp; omega)) _ | refine Below.trans ?_ (Below.mono (by assumption) (by first | (simp; done) | (simp; omega))) | refine Below.alloc ?_ (by first | (simp; done) | (simp; omega)) _ | refine Below.alloc ?_ (Nat.le_refl _) _ | refine below_drewN ?_ _))
  have hf : ∀ x y : Nat, x < W → y < H → ∀ w', Below ((w1.alloc (.cells #[.float .f32 l] 31)).alloc (.cells #[.float .f32 u] 31)).heap.size ((w1.alloc (.cells #[.float .f32 l] 31)).alloc (.cells #[.float .f32 u] 31)) w' → Calls Try.prog 59 (#[.int .i64 x, .int .i64 y] ++ #[.pointer (some ⟨w1.heap.size, 0, none⟩), .pointer (some ⟨w1.heap.size + 1, 0, none⟩), .pointer (some ⟨w.heap.size, 0, none⟩)]) w' (RetF .f32 ((fun (x y : Nat) => normO l u (grey zs W H x y)) x y) w') := by
    intro x y hx hy w' hb
    have h2 := BX.trans (hb.mono BX.size)
    exact NormPicture_clos w.heap.size W H a len cap zs w' ((h2.cell (p := ⟨w.heap.size, 0, none⟩) m0).trans k0) ((h2.cell (p := ⟨w.heap.size, 1, none⟩) m0).trans k1) ((h2.cell (p := ⟨w.heap.size, 2, none⟩) m0).trans k2) w1.heap.size (w1.heap.size + 1) l u ((hb.cell (p := ⟨w1.heap.size, 0, none⟩) (by first | (simp; done) | (simp; omega))).trans (by go_simp)) ((hb.cell (p := ⟨w1.heap.size + 1, 0, none⟩) (by first | (simp; done) | (simp; omega))).trans (by go_simp)) (IsFRow.below HR.out (BW.trans (h2.mono (by omega)))) HL.out hW hH x y hx hy
  have hq := impl_remade_ok W H a len cap 59 #[.pointer (some ⟨w1.heap.size, 0, none⟩), .pointer (some ⟨w1.heap.size + 1, 0, none⟩), .pointer (some ⟨w.heap.size, 0, none⟩)] (fun (x y : Nat) => normO l u (grey zs W H x y)) ((w1.alloc (.cells #[.float .f32 l] 31)).alloc (.cells #[.float .f32 u] 31)) hvb hW.2 hH.2 hk hf
  refine hq.mono ?_
  clear hq hf hk hvb hW hH
  rintro e w2 ⟨ao, cp, ys, rfl, ho, his, b2⟩
  have b2 := BX.trans (b2.mono BX.size)
  have D2 := D.out.trans (b2.mono hs1)
  have hz : w2.heap[w.heap.size + 1]? = some (.cells #[.int .i64 0, .int .i64 0, .slice none 0 0] 27 (0, 0)) := (D2.block (w.heap.size + 1) (by first | (simp; done) | (simp; omega) | omega)).trans (by have h := heap_alloc_new (w.alloc (.cells #[.int .i64 W, .int .i64 H, .slice a len cap] 27)) (.cells #[.int .i64 0, .int .i64 0, .slice none 0 0] 27); rw [show (w.alloc (.cells #[.int .i64 W, .int .i64 H, .slice a len cap] 27)).heap.size = w.heap.size + 1 from by simp] at h; exact h)
  have z0 := box_cell hz 0
  have z1 := box_cell hz 1
  have z2 := box_cell hz 2
  have f0 := box_free hz 0
  have f1 := box_free hz 1
  have f2 := box_free hz 2
  have HO := Lib.hid (ho.mono (lo' := w.heap.size + 2) (hi' := w2.heap.size) (by simp; omega) (Nat.le_refl _))
  have HI := Lib.hid his
  have HB := Lib.hid (BW.trans (b2.mono (by omega)))
  clear ho his b2 D2 BW BX
  go_wp2_with fail
  refine bodyPost_ret (v := .tuple #[.agg #[.int .i64 W, .int .i64 H, .slice ao (H * W) cp], .bool true]) ?_ rfl ⟨ao, cp, ys, rfl, ORow.mono (ORow.setBox (ORow.setBox (ORow.setBox HO.out (by omega) _ _) (by omega) _ _) (by omega) _ _) (by omega) (by simp), HI.out, Below.setCell (Below.setCell (Below.setCell HB.out (by simp) _) (by simp) _) (by simp) _⟩
  simp [results, Try.results33, go_sem, z0, z1, z2]

theorem impl_NormPicture_bad (x y : Int) (a : Option Addr) (len cap : Nat) (zs : List Nat) (os : Nat → Option Nat) (w : World) (h : IsFRow w a len cap zs) (hq0 : ∀ W, IsFRow W a len cap zs → ∃ l h, Calls Try.prog 26 #[.agg #[.int .i64 x, .int .i64 y, .slice a len cap]] W (RetR l h false W)) :
    Calls Try.prog 33 #[.agg #[.int .i64 x, .int .i64 y, .slice a len cap]] w (RetP 0 0 0 false os w) := by
  obtain ⟨l, hh, hq⟩ := hq0 ((w.alloc (.cells #[.int .i64 x, .int .i64 y, .slice a len cap] 27)).alloc (.cells #[.int .i64 0, .int .i64 0, .slice none 0 0] 27)) (IsFRow.below h (by repeat (first | exact Below.refl _ _ | refine Below.setCell ?_ (by first | (simp; done) | (simp; omega)) _ | refine Below.trans ?_ (Below.mono (by assumption) (by first | (simp; done) | (simp; omega))) | refine Below.alloc ?_ (by first | (simp; done) | (simp; omega)) _ | refine Below.alloc ?_ (Nat.le_refl _) _ | refine below_drewN ?_ _)))
  clear hq0 h
  have HQ := Lib.hid hq
  clear hq
  go_enter Try.func33, Try.ntmps33
  go_wp2_with fail
  refine HQ.out.mono ?_
  rintro e w1 ⟨rfl, b1⟩
  have hs1 : w.heap.size + 2 ≤ w1.heap.size := by have := b1.size; simp at this; omega
  have hz : w1.heap[w.heap.size + 1]? = some (.cells #[.int .i64 0, .int .i64 0, .slice none 0 0] 27 (0, 0)) := (b1.block (w.heap.size + 1) (by first | (simp; done) | (simp; omega) | omega)).trans (by have h := heap_alloc_new (w.alloc (.cells #[.int .i64 x, .int .i64 y, .slice a len cap] 27)) (.cells #[.int .i64 0, .int .i64 0, .slice none 0 0] 27); rw [show (w.alloc (.cells #[.int .i64 x, .int .i64 y, .slice a len cap] 27)).heap.size = w.heap.size + 1 from by simp] at h; exact h)
  have z0 := box_cell hz 0
  have z1 := box_cell hz 1
  have z2 := box_cell hz 2
  have f0 := box_free hz 0
  have f1 := box_free hz 1
  have f2 := box_free hz 2
  have m0 : w.heap.size + 1 < w1.heap.size := by omega
  have n0 : w.heap.size + 1 ≠ w1.heap.size := by omega
  have n1 : w.heap.size ≠ w1.heap.size := by omega
  have m1 : w.heap.size < w1.heap.size := by omega
  go_wp2_with fail
  refine bodyPost_ret (v := .tuple #[.agg #[.int .i64 0, .int .i64 0, .slice none 0 0], .bool false]) ?_ rfl (RetP.none os rfl (by repeat (first | exact Below.refl _ _ | refine Below.setCell ?_ (by first | (simp; done) | (simp; omega)) _ | refine Below.trans ?_ (Below.mono (by assumption) (by first | (simp; done) | (simp; omega))) | refine Below.alloc ?_ (by first | (simp; done) | (simp; omega)) _ | refine Below.alloc ?_ (Nat.le_refl _) _ | refine below_drewN ?_ _)))
  simp [results, Try.results33, go_sem, m0, m1, z0, z1, z2]

theorem NormPicture_pair (x y : Int) (len : Nat) (zs : List Nat)  (_ : -9223372036854775808 ≤ x ∧ x ≤ 9223372036854775807) (_ : -9223372036854775808 ≤ y ∧ y ≤ 9223372036854775807) : ∃ (x' y' : Int) (n : Nat) (ok : Bool) (os : Nat → Option Nat), n ≤ 1000 ∧
  (∀ W b cp, IsFRow W b len cp zs → Calls Try.prog 32 #[.agg #[.int .i64 x, .int .i64 y, .slice b len cp]] W (RetP x' y' n ok os W)) ∧
  (∀ W b cp, IsFRow W b len cp zs → Calls Try.prog 33 #[.agg #[.int .i64 x, .int .i64 y, .slice b len cp]] W (RetP x' y' n ok os W)) := by
  cases hvb : validB x y len with
  | false => exact ⟨0, 0, 0, false, fun _ => none, by omega, fun W b cp _ => spec_NormPicture_bad x y b len cp _ W hvb, fun W b cp h => impl_NormPicture_bad x y b len cp zs _ W h fun W h => ⟨_, _, impl_RangeOf_false x y b len cp zs W h hvb⟩⟩
  | true =>
  cases hf : (rng zs len).2.2 with
  | false =>
    have he := rng_none zs len hf
    exact ⟨0, 0, 0, false, fun _ => none, by omega, fun W b cp h => spec_NormPicture_bad2 x y b len cp zs _ W h hvb he, fun W b cp h => impl_NormPicture_bad x y b len cp zs _ W h fun W h => ⟨_, _, by have := impl_RangeOf_true x y b len cp zs W h hvb; rw [hf] at this; exact this⟩⟩
  | true =>
    obtain ⟨X, Y, rfl, rfl, hl, hW, hH⟩ := valid_nat hvb
    have hn : Y * X ≤ 1000 := Nat.le_trans (Nat.mul_le_mul hH.2 hW.2) (by omega)
    obtain ⟨l, u, hrg⟩ : ∃ l u, rng zs len = (l, u, true) := ⟨_, _, by rw [← hf]⟩
    refine ⟨X, Y, len, true, fun (x : Nat) => normO l u (zs.getD x 0), (by rw [hl, Nat.mul_comm]; exact hn), fun W b cp h => spec_NormPicture_ok X Y b len cp zs W h hl hW hH hvb _ _ hrg, fun W b cp h => (impl_NormPicture_ok X Y b len cp zs W h hl hW hH hvb _ _ hrg).mono fun e w' hr => (show RetP X Y len true _ W e w' from by rw [hl, Nat.mul_comm X Y]; exact hr).congr (fun i hi => ?_)⟩
    rw [hl] at hi
    have hx : i % X < X := Nat.mod_lt _ (by omega)
    have hy : i / X < Y := Nat.div_lt_of_lt_mul (by omega)
    show normO l u (grey zs X Y ((i % X : Nat) : Int) ((i / X : Nat) : Int)) = _
    rw [grey_at hx hy, Nat.mod_add_div]
attribute [local irreducible] Oper.wp in
theorem FnExactNormPicture_walk (x y : Int) (a : Option Addr) (len cap : Nat) (zs : List Nat)  (w : World) (h : PicOk w x y a len cap zs)  :
    Calls Try.prog 10 #[.agg #[.int .i64 x, .int .i64 y, .slice a len cap]] w fun e w' => e = .returned (.bool true) ∧ Below w.heap.size w w' := by
  obtain ⟨hx, hy, hrow⟩ := h
  obtain ⟨x', y', n, ok, os, hn, hs, hi⟩ := NormPicture_pair x y len zs hx hy
  clear hx hy
  have hcl : len ≤ 9223372036854775807 := by have h1 := hrow.2.1; have h2 := hrow.2.2.1; unfold maxLen at h2; omega
  have H := Lib.hid hrow
  have HS := Lib.hid hs
  have HI := Lib.hid hi
  clear hrow hs hi
  by_cases hl : (len : Int) ≤ 1048576
  case neg =>
    go_enter Try.func10, Try.ntmps10
    go_wp2_with fail
    refine (szPicture_no x y a len cap 1048576 _ hcl (by omega) (by omega)).mono ?_
    rintro e w1 ⟨rfl, hb⟩
    go_wp2_with fail
    go_ret
    exact ⟨rfl, (by repeat (first | exact Below.refl _ _ | refine Below.setCell ?_ (by first | (simp; done) | (simp; omega)) _ | refine Below.trans ?_ (Below.mono (by assumption) (by first | (simp; done) | (simp; omega))) | refine Below.alloc ?_ (by first | (simp; done) | (simp; omega)) _ | refine Below.alloc ?_ (Nat.le_refl _) _ | refine below_drewN ?_ _))⟩
  have hl' : len ≤ 1048576 := by omega
  go_enter Try.func10, Try.ntmps10
  go_wp2_with fail
  refine (szPicture_ok x y a len cap 1048576 _ hl (by omega)).mono ?_
  rintro e w1 ⟨rfl, b1⟩
  have t1 : w.heap.size + 1 ≤ w1.heap.size := by have := b1.size; simp at this; omega
  have EE : RowKit.Hid (Below w.heap.size w w1) := Lib.hid ((by repeat (first | exact Below.refl _ _ | refine Below.setCell ?_ (by first | (simp; done) | (simp; omega)) _ | refine Below.trans ?_ (Below.mono (by assumption) (by first | (simp; done) | (simp; omega))) | refine Below.alloc ?_ (by first | (simp; done) | (simp; omega)) _ | refine Below.alloc ?_ (Nat.le_refl _) _ | refine below_drewN ?_ _)))
  have K0 : RowKit.Hid (At3 w1 w.heap.size (.int .i64 x) (.int .i64 y) (.slice a len cap)) := Lib.hid ⟨(b1.cell (p := ⟨w.heap.size, 0, none⟩) (by simp)).trans (by go_simp), (b1.cell (p := ⟨w.heap.size, 1, none⟩) (by simp)).trans (by go_simp), (b1.cell (p := ⟨w.heap.size, 2, none⟩) (by simp)).trans (by go_simp)⟩
  clear b1
  obtain ⟨c00, c01, c02⟩ := K0.out
  go_wp2_with fail
  clear c00 c01 c02
  refine (toPicture_own x y a len cap zs _ (IsFRow.below H.out EE.out) hl').mono ?_
  rintro e w2 ⟨g2, rfl, r2, b2⟩
  have R2 := Lib.hid r2
  clear r2
  have t2 : w1.heap.size ≤ w2.heap.size := b2.size
  have BB : Below w1.heap.size w1 w2 := (by repeat (first | exact Below.refl _ _ | refine Below.setCell ?_ (by first | (simp; done) | (simp; omega)) _ | refine Below.trans ?_ (Below.mono (by assumption) (by first | (simp; done) | (simp; omega))) | refine Below.alloc ?_ (by first | (simp; done) | (simp; omega)) _ | refine Below.alloc ?_ (Nat.le_refl _) _ | refine below_drewN ?_ _))
  replace EE := Lib.hid (EE.out.trans (BB.mono (by omega)))
  replace K0 := Lib.hid (At3.below K0.out BB (by omega))
  clear BB b2
  go_wp2_with fail
  refine (HS.out _ _ _ R2.out.row).mono ?_
  rintro e w3 ⟨ao3, cp3, zs3, rfl, r3, i3, b3⟩
  have R3 := Lib.hid r3
  have I3 := Lib.hid i3
  clear r3 i3 R2
  have t3 : w2.heap.size ≤ w3.heap.size := b3.size
  have BB : Below w2.heap.size w2 w3 := (by repeat (first | exact Below.refl _ _ | refine Below.setCell ?_ (by first | (simp; done) | (simp; omega)) _ | refine Below.trans ?_ (Below.mono (by assumption) (by first | (simp; done) | (simp; omega))) | refine Below.alloc ?_ (by first | (simp; done) | (simp; omega)) _ | refine Below.alloc ?_ (Nat.le_refl _) _ | refine below_drewN ?_ _))
  replace EE := Lib.hid (EE.out.trans (BB.mono (by omega)))
  replace K0 := Lib.hid (At3.below K0.out BB (by omega))
  clear BB b3
  obtain ⟨c00, c01, c02⟩ := K0.out
  have n3 : w.heap.size ≠ w3.heap.size := by omega
  have m3 : w.heap.size < w3.heap.size := by omega
  go_wp2_with fail
  clear c00 c01 c02
  refine (toPicture_own x y a len cap zs _ (IsFRow.below H.out (EE.out.trans (Below.mono (B := w3.heap.size) (by repeat (first | exact Below.refl _ _ | refine Below.setCell ?_ (by first | (simp; done) | (simp; omega)) _ | refine Below.trans ?_ (Below.mono (by assumption) (by first | (simp; done) | (simp; omega))) | refine Below.alloc ?_ (by first | (simp; done) | (simp; omega)) _ | refine Below.alloc ?_ (Nat.le_refl _) _ | refine below_drewN ?_ _)) (by omega)))) hl').mono ?_
  rintro e w4 ⟨g4, rfl, r4, b4⟩
  have R4 := Lib.hid (r4.mono (lo' := w3.heap.size + 1) (hi' := w4.heap.size) (by simp) (Nat.le_refl _))
  clear r4
  have t4 : w3.heap.size + 1 ≤ w4.heap.size := by have := b4.size; simp at this; omega
  have BB : Below w3.heap.size w3 w4 := (by repeat (first | exact Below.refl _ _ | refine Below.setCell ?_ (by first | (simp; done) | (simp; omega)) _ | refine Below.trans ?_ (Below.mono (by assumption) (by first | (simp; done) | (simp; omega))) | refine Below.alloc ?_ (by first | (simp; done) | (simp; omega)) _ | refine Below.alloc ?_ (Nat.le_refl _) _ | refine below_drewN ?_ _))
  replace EE := Lib.hid (EE.out.trans (BB.mono (by omega)))
  replace K0 := Lib.hid (At3.below K0.out BB (by omega))
  replace R3 := Lib.hid (R3.out.below BB)
  have K8 : RowKit.Hid (At3 w4 w3.heap.size (.int .i64 x') (.int .i64 y') (.slice ao3 n cp3)) := Lib.hid ⟨(b4.cell (p := ⟨w3.heap.size, 0, none⟩) (by simp)).trans (by go_simp), (b4.cell (p := ⟨w3.heap.size, 1, none⟩) (by simp)).trans (by go_simp), (b4.cell (p := ⟨w3.heap.size, 2, none⟩) (by simp)).trans (by go_simp)⟩
  clear BB b4
  go_wp2_with fail
  refine (HI.out _ _ _ (R4.out.below (by repeat (first | exact Below.refl _ _ | refine Below.setCell ?_ (by first | (simp; done) | (simp; omega)) _ | refine Below.trans ?_ (Below.mono (by assumption) (by first | (simp; done) | (simp; omega))) | refine Below.alloc ?_ (by first | (simp; done) | (simp; omega)) _ | refine Below.alloc ?_ (Nat.le_refl _) _ | refine below_drewN ?_ _))).row).mono ?_
  rintro e w5 ⟨ao5, cp5, zs5, rfl, r5, i5, b5⟩
  have R5 := Lib.hid (r5.mono (lo' := w4.heap.size + 1) (hi' := w5.heap.size) (by simp) (Nat.le_refl _))
  have I5 := Lib.hid i5
  clear r5 i5
  have t5 : w4.heap.size + 1 ≤ w5.heap.size := by have := b5.size; simp at this; omega
  have BB : Below w4.heap.size w4 w5 := (by repeat (first | exact Below.refl _ _ | refine Below.setCell ?_ (by first | (simp; done) | (simp; omega)) _ | refine Below.trans ?_ (Below.mono (by assumption) (by first | (simp; done) | (simp; omega))) | refine Below.alloc ?_ (by first | (simp; done) | (simp; omega)) _ | refine Below.alloc ?_ (Nat.le_refl _) _ | refine below_drewN ?_ _))
  replace EE := Lib.hid (EE.out.trans (BB.mono (by omega)))
  replace K0 := Lib.hid (At3.below K0.out BB (by omega))
  replace K8 := Lib.hid (At3.below K8.out BB (by omega))
  replace R3 := Lib.hid (R3.out.below BB)
  replace R4 := Lib.hid (R4.out.below BB)
  have K10 : RowKit.Hid (At3 w5 w4.heap.size (.int .i64 x) (.int .i64 y) (.slice (some ⟨g4, 0, none⟩) len len)) := Lib.hid ⟨(b5.cell (p := ⟨w4.heap.size, 0, none⟩) (by simp)).trans (by go_simp), (b5.cell (p := ⟨w4.heap.size, 1, none⟩) (by simp)).trans (by go_simp), (b5.cell (p := ⟨w4.heap.size, 2, none⟩) (by simp)).trans (by go_simp)⟩
  clear BB b5
  obtain ⟨c80, c81, c82⟩ := K8.out
  have n8 : w3.heap.size ≠ w5.heap.size := by omega
  have m8 : w3.heap.size < w5.heap.size := by omega
  go_wp2_with fail
  clear c80 c81 c82
  refine (eqP2 x' y' _ _ n _ _ zs5 zs3 _ (R5.out.below (by repeat (first | exact Below.refl _ _ | refine Below.setCell ?_ (by first | (simp; done) | (simp; omega)) _ | refine Below.trans ?_ (Below.mono (by assumption) (by first | (simp; done) | (simp; omega))) | refine Below.alloc ?_ (by first | (simp; done) | (simp; omega)) _ | refine Below.alloc ?_ (Nat.le_refl _) _ | refine below_drewN ?_ _))).row (R3.out.below (by repeat (first | exact Below.refl _ _ | refine Below.setCell ?_ (by first | (simp; done) | (simp; omega)) _ | refine Below.trans ?_ (Below.mono (by assumption) (by first | (simp; done) | (simp; omega))) | refine Below.alloc ?_ (by first | (simp; done) | (simp; omega)) _ | refine Below.alloc ?_ (Nat.le_refl _) _ | refine below_drewN ?_ _))).row (fun i hi => (I5.out i hi).ab.trans (I3.out i hi).ab.symm)).mono ?_
  rintro e w6 ⟨rfl, b6⟩
  have t6 : w5.heap.size + 1 ≤ w6.heap.size := by have := b6.size; simp at this; omega
  have BB : Below w5.heap.size w5 w6 := (by repeat (first | exact Below.refl _ _ | refine Below.setCell ?_ (by first | (simp; done) | (simp; omega)) _ | refine Below.trans ?_ (Below.mono (by assumption) (by first | (simp; done) | (simp; omega))) | refine Below.alloc ?_ (by first | (simp; done) | (simp; omega)) _ | refine Below.alloc ?_ (Nat.le_refl _) _ | refine below_drewN ?_ _))
  replace EE := Lib.hid (EE.out.trans (BB.mono (by omega)))
  replace K0 := Lib.hid (At3.below K0.out BB (by omega))
  replace K8 := Lib.hid (At3.below K8.out BB (by omega))
  replace K10 := Lib.hid (At3.below K10.out BB (by omega))
  replace R3 := Lib.hid (R3.out.below BB)
  replace R4 := Lib.hid (R4.out.below BB)
  replace R5 := Lib.hid (R5.out.below BB)
  have K11 : RowKit.Hid (At3 w6 w5.heap.size (.int .i64 x') (.int .i64 y') (.slice ao5 n cp5)) := Lib.hid ⟨(b6.cell (p := ⟨w5.heap.size, 0, none⟩) (by simp)).trans (by go_simp), (b6.cell (p := ⟨w5.heap.size, 1, none⟩) (by simp)).trans (by go_simp), (b6.cell (p := ⟨w5.heap.size, 2, none⟩) (by simp)).trans (by go_simp)⟩
  clear BB b6
  clear n3 m3 n8 m8
  go_wp2_with fail
  refine wp_region_all (by kernel_rfl) (by kernel_rfl) 5 (by kernel_rfl) (fun _ v => ⟨#[.agg #[.int .i64 x, .int .i64 y, .slice a len cap], .pointer (some ⟨w.heap.size, 0, none⟩), .bool false, .int .i64 (1048576 - (len : Int)), .pointer (some ⟨w3.heap.size, 0, none⟩), .bool ok, .pointer (some ⟨w4.heap.size, 0, none⟩), .pointer (some ⟨w5.heap.size, 0, none⟩), .bool ok, undef, undef, undef, undef, undef, .agg #[.int .i64 x, .int .i64 y, .slice a len cap], .int .i64 1048576, .int .i64 (1048576 - (len : Int)), .int .i64 (1048576 - (len : Int)), .bool (decide ((1048576 - (len : Int)) < 0)), .tuple #[.agg #[.int .i64 x', .int .i64 y', .slice ao3 n cp3], .bool ok], .agg #[.int .i64 x, .int .i64 y, .slice a len cap], .agg #[.int .i64 x, .int .i64 y, .slice (some ⟨g2, 0, none⟩) len len], .tuple #[.agg #[.int .i64 x', .int .i64 y', .slice ao3 n cp3], .bool ok], .agg #[.int .i64 x', .int .i64 y', .slice ao3 n cp3], .bool ok, .agg #[.int .i64 x, .int .i64 y, .slice a len cap], .agg #[.int .i64 x, .int .i64 y, .slice (some ⟨g4, 0, none⟩) len len], .tuple #[.agg #[.int .i64 x', .int .i64 y', .slice ao5 n cp5], .bool ok], .agg #[.int .i64 x, .int .i64 y, .slice (some ⟨g4, 0, none⟩) len len], .tuple #[.agg #[.int .i64 x', .int .i64 y', .slice ao5 n cp5], .bool ok], .agg #[.int .i64 x', .int .i64 y', .slice ao5 n cp5], .bool ok, .agg #[.int .i64 x', .int .i64 y', .slice ao5 n cp5], .agg #[.int .i64 x', .int .i64 y', .slice ao3 n cp3], .bool true, .bool false, .bool false, .bool ok, .bool ok, .bool false, .bool false, v 0, v 1, v 2, v 3, v 4, undef, undef, undef, undef, undef, undef, undef, undef, undef, undef, undef, undef, undef, undef, undef, undef, undef, undef, undef, undef, undef, undef, undef, undef, undef, undef, undef, undef, undef, undef, undef, undef, undef, undef, undef, undef, undef, undef, undef, undef, undef, undef, undef, undef, undef, undef, undef, undef, undef, undef], []⟩)
    (fun W => Below w6.heap.size w6 W)
    (fun j W s => match j with | 0 => s = .agg #[.int .i64 x, .int .i64 y, .slice (some ⟨g4, 0, none⟩) len len] | 1 => s = .agg #[.int .i64 x, .int .i64 y, .slice a len cap] | 2 => ∃ g, s = .agg #[.int .i64 x, .int .i64 y, .slice (some ⟨g, 0, none⟩) len len] ∧ IsFRow W (some ⟨g, 0, none⟩) len len zs | 3 => s = .bool true | 4 => s = .bool false | _ => True) ?_ ?_ (Below.refl _ _).drew ?_ ?_
  · intro j W W' v hb
    rcases j with _ | _ | _ | _ | _ | j
    · exact id
    · exact id
    · rintro ⟨g, e, f⟩
      exact ⟨g, e, IsFRow.below f hb⟩
    · exact id
    · exact id
    · exact id
  · exact ⟨fun _ => undef, rfl⟩
  · intro i o ho hlt vals W hG hd
    rcases i with _ | _ | _ | _ | _ | i
    · refine wpOp_run ho (by cases Option.some.inj ho; rfl) ?_
      cases Option.some.inj ho
      obtain ⟨c0, c1, c2⟩ := At3.below K10.out hG (by omega)
      go_simp
      exact ⟨_, rfl, Below.refl _ _, hG, rfl⟩
    · refine wpOp_run ho (by cases Option.some.inj ho; rfl) ?_
      cases Option.some.inj ho
      obtain ⟨c0, c1, c2⟩ := At3.below K0.out hG (by omega)
      go_simp
      exact ⟨_, rfl, Below.refl _ _, hG, rfl⟩
    · refine wpOp_run ho (by cases Option.some.inj ho; rfl) ?_
      cases Option.some.inj ho
      have hc := toPicture x y a len cap zs W (IsFRow.below H.out (EE.out.trans (hG.mono EE.out.size))) hl'
      rw [← (show vals 1 = .agg #[.int .i64 x, .int .i64 y, .slice a len cap] from hd ⟨1, .data⟩ (by simp) rfl)] at hc
      go_simp
      refine hc.mono ?_
      rintro e w' ⟨g, rfl, f, hb⟩
      exact ⟨_, rfl, hb, hG.trans (hb.mono hG.size), g, rfl, f⟩
    · refine wpOp_run ho (by cases Option.some.inj ho; rfl) ?_
      cases Option.some.inj ho
      obtain ⟨g, e2, f⟩ := (show ∃ g, vals 2 = .agg #[.int .i64 x, .int .i64 y, .slice (some ⟨g, 0, none⟩) len len] ∧ IsFRow W (some ⟨g, 0, none⟩) len len zs from hd ⟨2, .data⟩ (by simp) rfl)
      have hc := eqPicture x y _ _ len len len zs W (R4.out.below hG).row f
      rw [← e2, ← (show vals 0 = .agg #[.int .i64 x, .int .i64 y, .slice (some ⟨g4, 0, none⟩) len len] from hd ⟨0, .data⟩ (by simp) rfl)] at hc
      clear e2 f
      go_simp
      refine hc.mono ?_
      rintro e w' ⟨rfl, hb⟩
      exact ⟨_, rfl, hb, hG.trans (hb.mono hG.size), rfl⟩
    · refine wpOp_run ho (by cases Option.some.inj ho; rfl) ?_
      cases Option.some.inj ho
      have e3 : vals 3 = .bool true := hd ⟨3, .data⟩ (by simp) rfl
      go_simp
      exact ⟨.bool false, by simp [upd_at, e3], Below.refl _ _, hG, rfl⟩
    · omega
  · intro vals w7 b7 hR
    have e4 : vals 4 = .bool false := hR 4 (by omega)
    simp only [Exit.then, e4]
    clear hR
    have t7 : w6.heap.size ≤ w7.heap.size := b7.size
    have BB : Below w6.heap.size w6 w7 := (by repeat (first | exact Below.refl _ _ | refine Below.setCell ?_ (by first | (simp; done) | (simp; omega)) _ | refine Below.trans ?_ (Below.mono (by assumption) (by first | (simp; done) | (simp; omega))) | refine Below.alloc ?_ (by first | (simp; done) | (simp; omega)) _ | refine Below.alloc ?_ (Nat.le_refl _) _ | refine below_drewN ?_ _))
    replace EE := Lib.hid (EE.out.trans (BB.mono (by omega)))
    replace K0 := Lib.hid (At3.below K0.out BB (by omega))
    replace K8 := Lib.hid (At3.below K8.out BB (by omega))
    replace K10 := Lib.hid (At3.below K10.out BB (by omega))
    replace K11 := Lib.hid (At3.below K11.out BB (by omega))
    replace R3 := Lib.hid (R3.out.below BB)
    replace R4 := Lib.hid (R4.out.below BB)
    replace R5 := Lib.hid (R5.out.below BB)
    clear BB b7
    obtain ⟨c100, c101, c102⟩ := K10.out
    go_wp2_with fail
    clear c100 c101 c102
    refine (markPicture x y _ len len _ _ zs 1 _ R4.out hl' (by omega) (by omega)).mono ?_
    rintro e w8 ⟨rfl, r8, b8⟩
    clear r8
    clear R4
    have t8 : w7.heap.size ≤ w8.heap.size := b8.size
    replace EE := Lib.hid (EE.out.trans (b8.below (by omega) (by omega)))
    replace K0 := Lib.hid (At3.only K0.out b8 (by omega) (by omega))
    replace K8 := Lib.hid (At3.only K8.out b8 (by omega) (by omega))
    replace K10 := Lib.hid (At3.only K10.out b8 (by omega) (by omega))
    replace K11 := Lib.hid (At3.only K11.out b8 (by omega) (by omega))
    replace R3 := Lib.hid (R3.out.only b8 (by omega))
    replace R5 := Lib.hid (R5.out.only b8 (by omega))
    clear b8
    obtain ⟨c110, c111, c112⟩ := K11.out
    obtain ⟨c80, c81, c82⟩ := K8.out
    go_wp2_with fail
    clear c110 c111 c112 c80 c81 c82
    refine (eqP2 x' y' _ _ n _ _ zs5 zs3 _ R5.out.row R3.out.row (fun i hi => (I5.out i hi).ab.trans (I3.out i hi).ab.symm)).mono ?_
    rintro e w9 ⟨rfl, b9⟩
    have t9 : w8.heap.size ≤ w9.heap.size := b9.size
    have BB : Below w8.heap.size w8 w9 := (by repeat (first | exact Below.refl _ _ | refine Below.setCell ?_ (by first | (simp; done) | (simp; omega)) _ | refine Below.trans ?_ (Below.mono (by assumption) (by first | (simp; done) | (simp; omega))) | refine Below.alloc ?_ (by first | (simp; done) | (simp; omega)) _ | refine Below.alloc ?_ (Nat.le_refl _) _ | refine below_drewN ?_ _))
    replace EE := Lib.hid (EE.out.trans (BB.mono (by omega)))
    replace K0 := Lib.hid (At3.below K0.out BB (by omega))
    replace K8 := Lib.hid (At3.below K8.out BB (by omega))
    replace K10 := Lib.hid (At3.below K10.out BB (by omega))
    replace K11 := Lib.hid (At3.below K11.out BB (by omega))
    replace R3 := Lib.hid (R3.out.below BB)
    replace R5 := Lib.hid (R5.out.below BB)
    clear BB b9
    obtain ⟨c110, c111, c112⟩ := K11.out
    go_wp2_with fail
    clear c110 c111 c112
    refine (markPicture x' y' _ n _ _ _ zs5 1 _ R5.out (by omega) (by omega) (by omega)).mono ?_
    rintro e w10 ⟨rfl, r10, b10⟩
    have R10 := Lib.hid r10
    clear r10 R5
    have t10 : w9.heap.size ≤ w10.heap.size := b10.size
    replace EE := Lib.hid (EE.out.trans (b10.below (by omega) (by omega)))
    replace K0 := Lib.hid (At3.only K0.out b10 (by omega) (by omega))
    replace K8 := Lib.hid (At3.only K8.out b10 (by omega) (by omega))
    replace K10 := Lib.hid (At3.only K10.out b10 (by omega) (by omega))
    replace K11 := Lib.hid (At3.only K11.out b10 (by omega) (by omega))
    replace R3 := Lib.hid (R3.out.only b10 (by omega))
    clear b10
    obtain ⟨c110, c111, c112⟩ := K11.out
    go_wp2_with fail
    clear c110 c111 c112
    refine (heldPicture x' y' _ n _ _ _ 1 _ R10.out (by omega) (by omega) (by omega)).mono ?_
    rintro e w11 ⟨rfl, b11⟩
    have t11 : w10.heap.size ≤ w11.heap.size := b11.size
    have BB : Below w10.heap.size w10 w11 := (by repeat (first | exact Below.refl _ _ | refine Below.setCell ?_ (by first | (simp; done) | (simp; omega)) _ | refine Below.trans ?_ (Below.mono (by assumption) (by first | (simp; done) | (simp; omega))) | refine Below.alloc ?_ (by first | (simp; done) | (simp; omega)) _ | refine Below.alloc ?_ (Nat.le_refl _) _ | refine below_drewN ?_ _))
    replace EE := Lib.hid (EE.out.trans (BB.mono (by omega)))
    replace K0 := Lib.hid (At3.below K0.out BB (by omega))
    replace K8 := Lib.hid (At3.below K8.out BB (by omega))
    replace K10 := Lib.hid (At3.below K10.out BB (by omega))
    replace K11 := Lib.hid (At3.below K11.out BB (by omega))
    replace R3 := Lib.hid (R3.out.below BB)
    replace R10 := Lib.hid (R10.out.below BB)
    clear BB b11
    obtain ⟨c00, c01, c02⟩ := K0.out
    go_wp2_with fail
    clear c00 c01 c02
    refine (toPicture_own x y a len cap zs _ (IsFRow.below H.out EE.out) hl').mono ?_
    rintro e w12 ⟨g12, rfl, r12, b12⟩
    have R12 := Lib.hid r12
    clear r12
    have t12 : w11.heap.size ≤ w12.heap.size := b12.size
    have BB : Below w11.heap.size w11 w12 := (by repeat (first | exact Below.refl _ _ | refine Below.setCell ?_ (by first | (simp; done) | (simp; omega)) _ | refine Below.trans ?_ (Below.mono (by assumption) (by first | (simp; done) | (simp; omega))) | refine Below.alloc ?_ (by first | (simp; done) | (simp; omega)) _ | refine Below.alloc ?_ (Nat.le_refl _) _ | refine below_drewN ?_ _))
    replace EE := Lib.hid (EE.out.trans (BB.mono (by omega)))
    replace K0 := Lib.hid (At3.below K0.out BB (by omega))
    replace K8 := Lib.hid (At3.below K8.out BB (by omega))
    replace K10 := Lib.hid (At3.below K10.out BB (by omega))
    replace K11 := Lib.hid (At3.below K11.out BB (by omega))
    replace R3 := Lib.hid (R3.out.below BB)
    replace R10 := Lib.hid (R10.out.below BB)
    clear BB b12
    go_wp2_with fail
    refine (HI.out _ _ _ R12.out.row).mono ?_
    rintro e w13 ⟨ao13, cp13, zs13, rfl, r13, i13, b13⟩
    have R13 := Lib.hid r13
    have I13 := Lib.hid i13
    clear r13 i13 R12
    have t13 : w12.heap.size ≤ w13.heap.size := b13.size
    have BB : Below w12.heap.size w12 w13 := (by repeat (first | exact Below.refl _ _ | refine Below.setCell ?_ (by first | (simp; done) | (simp; omega)) _ | refine Below.trans ?_ (Below.mono (by assumption) (by first | (simp; done) | (simp; omega))) | refine Below.alloc ?_ (by first | (simp; done) | (simp; omega)) _ | refine Below.alloc ?_ (Nat.le_refl _) _ | refine below_drewN ?_ _))
    replace EE := Lib.hid (EE.out.trans (BB.mono (by omega)))
    replace K0 := Lib.hid (At3.below K0.out BB (by omega))
    replace K8 := Lib.hid (At3.below K8.out BB (by omega))
    replace K10 := Lib.hid (At3.below K10.out BB (by omega))
    replace K11 := Lib.hid (At3.below K11.out BB (by omega))
    replace R3 := Lib.hid (R3.out.below BB)
    replace R10 := Lib.hid (R10.out.below BB)
    clear BB b13
    obtain ⟨c80, c81, c82⟩ := K8.out
    have n8 : w3.heap.size ≠ w13.heap.size := by omega
    have m8 : w3.heap.size < w13.heap.size := by omega
    go_wp2_with fail
    clear c80 c81 c82
    refine (eqP2 x' y' _ _ n _ _ zs13 zs3 _ (R13.out.below (by repeat (first | exact Below.refl _ _ | refine Below.setCell ?_ (by first | (simp; done) | (simp; omega)) _ | refine Below.trans ?_ (Below.mono (by assumption) (by first | (simp; done) | (simp; omega))) | refine Below.alloc ?_ (by first | (simp; done) | (simp; omega)) _ | refine Below.alloc ?_ (Nat.le_refl _) _ | refine below_drewN ?_ _))).row (R3.out.below (by repeat (first | exact Below.refl _ _ | refine Below.setCell ?_ (by first | (simp; done) | (simp; omega)) _ | refine Below.trans ?_ (Below.mono (by assumption) (by first | (simp; done) | (simp; omega))) | refine Below.alloc ?_ (by first | (simp; done) | (simp; omega)) _ | refine Below.alloc ?_ (Nat.le_refl _) _ | refine below_drewN ?_ _))).row (fun i hi => (I13.out i hi).ab.trans (I3.out i hi).ab.symm)).mono ?_
    rintro e w14 ⟨rfl, b14⟩
    have t14 : w13.heap.size + 1 ≤ w14.heap.size := by have := b14.size; simp at this; omega
    have BB : Below w13.heap.size w13 w14 := (by repeat (first | exact Below.refl _ _ | refine Below.setCell ?_ (by first | (simp; done) | (simp; omega)) _ | refine Below.trans ?_ (Below.mono (by assumption) (by first | (simp; done) | (simp; omega))) | refine Below.alloc ?_ (by first | (simp; done) | (simp; omega)) _ | refine Below.alloc ?_ (Nat.le_refl _) _ | refine below_drewN ?_ _))
    replace EE := Lib.hid (EE.out.trans (BB.mono (by omega)))
    replace K0 := Lib.hid (At3.below K0.out BB (by omega))
    replace K8 := Lib.hid (At3.below K8.out BB (by omega))
    replace K10 := Lib.hid (At3.below K10.out BB (by omega))
    replace K11 := Lib.hid (At3.below K11.out BB (by omega))
    replace R3 := Lib.hid (R3.out.below BB)
    replace R10 := Lib.hid (R10.out.below BB)
    replace R13 := Lib.hid (R13.out.below BB)
    have K16 : RowKit.Hid (At3 w14 w13.heap.size (.int .i64 x') (.int .i64 y') (.slice ao13 n cp13)) := Lib.hid ⟨(b14.cell (p := ⟨w13.heap.size, 0, none⟩) (by simp)).trans (by go_simp), (b14.cell (p := ⟨w13.heap.size, 1, none⟩) (by simp)).trans (by go_simp), (b14.cell (p := ⟨w13.heap.size, 2, none⟩) (by simp)).trans (by go_simp)⟩
    clear BB b14
    obtain ⟨c110, c111, c112⟩ := K11.out
    go_wp2_with fail
    clear c110 c111 c112
    refine (heldPicture x' y' _ n _ _ _ 1 _ R10.out (by omega) (by omega) (by omega)).mono ?_
    rintro e w15 ⟨rfl, b15⟩
    have t15 : w14.heap.size ≤ w15.heap.size := b15.size
    have BB : Below w14.heap.size w14 w15 := (by repeat (first | exact Below.refl _ _ | refine Below.setCell ?_ (by first | (simp; done) | (simp; omega)) _ | refine Below.trans ?_ (Below.mono (by assumption) (by first | (simp; done) | (simp; omega))) | refine Below.alloc ?_ (by first | (simp; done) | (simp; omega)) _ | refine Below.alloc ?_ (Nat.le_refl _) _ | refine below_drewN ?_ _))
    replace EE := Lib.hid (EE.out.trans (BB.mono (by omega)))
    replace K0 := Lib.hid (At3.below K0.out BB (by omega))
    replace K8 := Lib.hid (At3.below K8.out BB (by omega))
    replace K10 := Lib.hid (At3.below K10.out BB (by omega))
    replace K11 := Lib.hid (At3.below K11.out BB (by omega))
    replace K16 := Lib.hid (At3.below K16.out BB (by omega))
    replace R3 := Lib.hid (R3.out.below BB)
    replace R10 := Lib.hid (R10.out.below BB)
    replace R13 := Lib.hid (R13.out.below BB)
    clear BB b15
    go_wp2_with fail
    go_ret
    exact ⟨rfl, EE.out⟩
end Go.Proofs.Ytbjahmfijlkajaa
