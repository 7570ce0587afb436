/-
  Blurred pictures: the specification's walk, the program's walk, that they agree, and the law's walk.
-/
import Derived.Test.YtacdnkpadloheaaBlurA
namespace Go.Proofs.Ytacdnkpadloheaa
open Go.RowKit Go.FL
def gr (W H : Nat) (os : Nat → Option Nat) (n m : Int) : Option Nat := os (cl n W + W * cl m H)
/-- one blur along a direction -/
def bl (W H : Nat) (dx dy : Int) (os : Nat → Option Nat) : Nat → Option Nat :=
  osXY W (fun (x y : Nat) => oop .mul .f32 (ab .f32 1056964608) (oop .add .f32 (oop .mul .f32 (ab .f32 1056964608) (oop .add .f32 (gr W H os (x - dx) (y - dy)) (gr W H os (x + dx) (y + dy)))) (gr W H os x y)))
def blN (W H : Nat) (os : Nat → Option Nat) : Nat → Nat → Option Nat
  | 0 => os
  | k + 1 => bl W H 0 1 (bl W H 1 0 (blN W H os k))

theorem gr_eq {W H : Nat} {zs : List Nat} {os : Nat → Option Nat} (hW : 1 ≤ W) (hH : 1 ≤ H) (h : ∀ i, i < H * W → Is .f32 (zs.getD i 0) (os i)) (n m : Int) : ab .f32 (grey zs W H n m) = gr W H os n m := by
  have h1 := cl_lt (n := n) hW
  have h2 := cl_lt (n := m) hH
  have h3 : W * cl m H + W ≤ W * H := by rw [← Nat.mul_succ]; exact Nat.mul_le_mul_left _ h2
  exact (h _ (by rw [Nat.mul_comm H W]; omega)).ab

theorem bl_eq {W H : Nat} {zs : List Nat} {os : Nat → Option Nat} (hW : 1 ≤ W) (hH : 1 ≤ H) (h : ∀ i, i < H * W → Is .f32 (zs.getD i 0) (os i)) (dx dy : Int) : osXY W (fun (x y : Nat) => oop .mul .f32 (ab .f32 1056964608) (oop .add .f32 (oop .mul .f32 (ab .f32 1056964608) (oop .add .f32 (ab .f32 (grey zs W H (x - dx) (y - dy))) (ab .f32 (grey zs W H (x + dx) (y + dy))))) (ab .f32 (grey zs W H (x) (y))))) = bl W H dx dy os := by
  unfold bl
  congr 1
  funext x y
  rw [gr_eq hW hH h, gr_eq hW hH h, gr_eq hW hH h]

theorem RetQ.congr {x y : Int} {n : Nat} {os os' : Nat → Option Nat} {w w' : World} {e : Ending} (h : RetQ x y n os w e w') (ho : ∀ i, i < n → os i = os' i) : RetQ x y n os' w e w' := by
  obtain ⟨ao, cap, zs, h1, h2, h3, h4⟩ := h
  exact ⟨ao, cap, zs, h1, h2, fun i hi => by rw [← ho i hi]; exact h3 i hi, h4⟩

theorem ORow.top {w : World} {lo hi len cap : Nat} {ao : Option Addr} {zs : List Nat} (h : ORow w lo hi ao len cap zs) : ORow w lo w.heap.size ao len cap zs := by
  refine ⟨h.row, ?_⟩
  rcases h.own with e | ⟨b, e, k1, k2, k3, k4⟩
  · exact .inl e
  · exact .inr ⟨b, e, k1, k3, k3, k4⟩

attribute [local irreducible] Oper.wp in
theorem spec_BlurPicture_ok (W H : Nat) (a : Option Addr) (len cap : Nat) (zs : List Nat) (rn : Int) (w : World) (h : IsFRow w a len cap zs) (hl : len = W * H) (hW : 1 ≤ W ∧ W ≤ 24) (hH : 1 ≤ H ∧ H ≤ 24) (hvb : validB W H len = true) (hb1 : 0 ≤ rn) (hb2 : rn ≤ 8) :
    Calls Try.prog 32 #[.agg #[.int .i64 W, .int .i64 H, .slice a len cap], .int .i64 rn] w (RetP W H (H * W) true (blN W H (fun i => ab .f32 (zs.getD i 0)) rn.toNat) w) := by
  obtain rfl : len = H * W := by rw [hl, Nat.mul_comm]
  have hn1 : 1 ≤ H * W := Nat.mul_pos hH.1 hW.1
  have hn2 : H * W ≤ 576 := Nat.mul_le_mul hH.2 hW.2
  have HR := Lib.hid h
  have HN1 := Lib.hid hn1
  have HN2 := Lib.hid hn2
  have HW := Lib.hid hW
  have HH := Lib.hid hH
  have HV := Lib.hid hvb
  obtain ⟨OS, HOE0⟩ : ∃ f : Nat → Option Nat, f = (fun i => ab .f32 (zs.getD i 0)) := ⟨_, rfl⟩
  have HOE := Lib.hid HOE0
  clear HOE0
  rw [show (fun i : Nat => ab .f32 (zs.getD i 0)) = OS from HOE.out.symm]
  clear h hl hn1 hn2 hvb
  clear hW hH
  go_enter Try.func32, Try.ntmps32
  go_wp2_with fail
  have hq := spec_l02Is w.heap.size W H a (H * W) cap ((w.alloc (.cells #[.int .i64 W, .int .i64 H, .slice a (H * W) cap] 26)).alloc (.cells #[.int .i64 0, .int .i64 0, .slice none 0 0] 26)) (by go_simp) (by go_simp) (by go_simp)
  rw [HV.out] at hq
  refine hq.mono ?_
  clear hq
  rintro e w1 hq
  obtain ⟨rfl, BZ⟩ := RetB.below hq
  clear hq
  have BZ := BZ.mono (show w.heap.size + 2 ≤ _ by simp)
  have k0 : w1.cell? ⟨w.heap.size, 0, none⟩ = some (.int .i64 W) := (BZ.cell (p := ⟨w.heap.size, 0, none⟩) (by simp)).trans (by go_simp)
  have k1 : w1.cell? ⟨w.heap.size, 1, none⟩ = some (.int .i64 H) := (BZ.cell (p := ⟨w.heap.size, 1, none⟩) (by simp)).trans (by go_simp)
  have k2 : w1.cell? ⟨w.heap.size, 2, none⟩ = some (.slice a (H * W) cap) := (BZ.cell (p := ⟨w.heap.size, 2, none⟩) (by simp)).trans (by go_simp)
  have BW1 : Below w.heap.size w w1 := (Below.alloc (Below.alloc (Below.refl _ _) (Nat.le_refl _) _) (by simp) _).trans (BZ.mono (by omega))
  have hs1 : w.heap.size + 2 ≤ w1.heap.size := by have := BZ.size; simp at this; omega
  go_wp2_with (first | (go_at_call 63; refine (spec_l00In _ _ _ _).mono ?_; rintro e w' ⟨rfl, rfl⟩) | fail)
  refine (spec_l02Own w.heap.size W H a (H * W) cap zs w1 k0 k1 k2 (IsFRow.below HR.out BW1) HN1.out HN2.out).mono ?_
  rintro e w2 ⟨ao2, cp2, ys2, rfl, ho2, hi2, b2⟩
  have B2 := BZ.trans (b2.mono hs1)
  have hs2 : w.heap.size + 2 ≤ w2.heap.size := by have := b2.size; omega
  have HO2 := Lib.hid (ho2.mono (lo' := w.heap.size + 2) (hi' := w2.heap.size) hs1 (Nat.le_refl _))
  have HI2 := Lib.hid hi2
  have HB2 := Lib.hid B2
  clear ho2 hi2 b2 B2 BZ BW1 k0 k1 k2
  go_wp2_with fail
  go_loopw [7] (fun i wr => ∃ k : Nat, ∃ ao cp ys, (k : Int) ≤ rn ∧ i = .int .i64 k ∧ wr.heap[w2.heap.size]? = some (.cells #[.int .i64 W, .int .i64 H, .slice ao (H * W) cp] 26 (0, 0)) ∧ ORow wr (w.heap.size + 2) wr.heap.size ao (H * W) cp ys ∧ (∀ i, i < H * W → Is .f32 (ys.getD i 0) (blN W H OS k i)) ∧ Below (w.heap.size + 2) ((w.alloc (.cells #[.int .i64 W, .int .i64 H, .slice a (H * W) cap] 26)).alloc (.cells #[.int .i64 0, .int .i64 0, .slice none 0 0] 26)) wr) (fun i _ => (rn - intOf i).toNat)
  case atStart => exact ⟨0, ao2, cp2, ys2, by omega, rfl, heap_alloc_new w2 _, ORow.top (HO2.out.below (Below.alloc (Below.refl _ _) (Nat.le_refl _) _)), fun i hi => by show Is .f32 _ (OS i); rw [HOE.out]; exact HI2.out i hi, Below.alloc HB2.out hs2 _⟩
  case round =>
    obtain ⟨k, ao, cp, ys, hk, rfl, hbx, ho, hi, hb⟩ := hrel
    have x0 := box_cell hbx 0
    have x1 := box_cell hbx 1
    have x2 := box_cell hbx 2
    have hws : w2.heap.size < wr.heap.size := lt_of_block hbx
    have hbs : w.heap.size + 2 ≤ wr.heap.size := by omega
    have HO := Lib.hid ho
    have HI := Lib.hid hi
    have HB := Lib.hid hb
    have HX := Lib.hid hbx
    clear ho hi hb hbx
    by_cases hlt : (k : Int) < rn
    · go_wp2_with fail
      refine (spec_l02Blur w2.heap.size W H ao (H * W) cp ys 1 0 wr x0 x1 x2 HO.out.row (Nat.mul_comm _ _) HW.out HH.out (by omega) (by omega) (by omega) (by omega)).mono ?_
      rintro e w4 ⟨ao4, cp4, ys4, rfl, ho4, hi4, b4⟩
      have HI4 := Lib.hid (fun i (hi : i < H * W) => (show Is .f32 (ys4.getD i 0) (bl W H 1 0 (blN W H OS k) i) from by rw [← bl_eq HW.out.1 HH.out.1 HI.out 1 0]; exact hi4 i hi))
      have HX4 := Lib.hid ((b4.block _ hws).trans HX.out)
      have HB4 := Lib.hid (HB.out.trans (b4.mono hbs))
      have hw4 : wr.heap.size ≤ w4.heap.size := b4.size
      have HO4 := Lib.hid ho4
      clear ho4 hi4 b4 HO HI HB HX x0 x1 x2
      have m4 : w2.heap.size < w4.heap.size := by omega
      have n4 : w2.heap.size ≠ w4.heap.size := by omega
      go_wp2_with fail
      have hq := spec_l02Blur w4.heap.size W H ao4 (H * W) cp4 ys4 0 1 (w4.alloc (.cells #[.int .i64 W, .int .i64 H, .slice ao4 (H * W) cp4] 26)) (by go_simp) (by go_simp) (by go_simp) (HO4.out.below (Below.alloc (Below.refl _ _) (Nat.le_refl _) _)).row (Nat.mul_comm _ _) HW.out HH.out (by omega) (by omega) (by omega) (by omega)
      refine hq.mono ?_
      clear hq
      rintro e w5 ⟨ao5, cp5, ys5, rfl, ho5, hi5, b5⟩
      have HI5 := Lib.hid (fun i (hi : i < H * W) => (show Is .f32 (ys5.getD i 0) (blN W H OS (k + 1) i) from by show Is .f32 _ (bl W H 0 1 (bl W H 1 0 (blN W H OS k)) i); rw [← bl_eq HW.out.1 HH.out.1 HI4.out 0 1]; exact hi5 i hi))
      have b5' : Below w4.heap.size w4 w5 := (Below.alloc (Below.refl _ _) (Nat.le_refl _) _).trans (b5.mono (by simp))
      have hx5 := (b5'.block _ m4).trans HX4.out
      have HX5 := Lib.hid hx5
      have HB5 := Lib.hid (HB4.out.trans (b5'.mono (by omega)))
      have HO5 := Lib.hid (ho5.mono (lo' := w2.heap.size + 1) (hi' := w5.heap.size) (by simp; omega) (Nat.le_refl _))
      have x0 := box_cell hx5 0
      have x1 := box_cell hx5 1
      have x2 := box_cell hx5 2
      have y0 := box_free hx5 0
      have y1 := box_free hx5 1
      have y2 := box_free hx5 2
      clear ho5 hi5 b5 b5' hx5
      go_wp2_with fail
      go_roundw
      case rel => exact ⟨k + 1, ao5, cp5, ys5, by omega, rfl, box_set (i := 2) (.slice ao5 (H * W) cp5) (box_set (i := 1) (.int .i64 H) (box_set (i := 0) (.int .i64 W) HX5.out)), ORow.top (ORow.mono (ORow.setBox (ORow.setBox (ORow.setBox HO5.out (by omega) _ _) (by omega) _ _) (by omega) _ _) (by omega) (Nat.le_refl _)), HI5.out, Below.setCell (Below.setCell (Below.setCell HB5.out (by simp; omega) _) (by simp; omega) _) (by simp; omega) _⟩
      case measure => simp [intOf]; omega
    · have hke : rn.toNat = k := by omega
      have hz : wr.heap[w.heap.size + 1]? = some (.cells #[.int .i64 0, .int .i64 0, .slice none 0 0] 26 (0, 0)) := (HB.out.block (w.heap.size + 1) (by omega)).trans (by have h := heap_alloc_new (w.alloc (.cells #[.int .i64 W, .int .i64 H, .slice a (H * W) cap] 26)) (.cells #[.int .i64 0, .int .i64 0, .slice none 0 0] 26); rw [show (w.alloc (.cells #[.int .i64 W, .int .i64 H, .slice a (H * W) cap] 26)).heap.size = w.heap.size + 1 from by simp] at h; exact h)
      have z0 := box_cell hz 0
      have z1 := box_cell hz 1
      have z2 := box_cell hz 2
      have f0 := box_free hz 0
      have f1 := box_free hz 1
      have f2 := box_free hz 2
      have c0 := box_cell HX.out 0
      have c1 := box_cell HX.out 1
      have c2 := box_cell HX.out 2
      go_wp2_with fail
      have BW : Below w.heap.size w wr := (Below.alloc (Below.alloc (Below.refl _ _) (Nat.le_refl _) _) (by simp) _).trans (HB.out.mono (by omega))
      refine bodyPost_ret (v := .tuple #[.agg #[.int .i64 W, .int .i64 H, .slice ao (H * W) cp], .bool true]) ?_ rfl ⟨ao, cp, ys, rfl, ORow.mono (ORow.setBox (ORow.setBox (ORow.setBox HO.out (by omega) _ _) (by omega) _ _) (by omega) _ _) (by omega) (by simp), fun i hi => by first | exact HI.out i hi | (rw [hke]; exact HI.out i hi), Below.setCell (Below.setCell (Below.setCell BW (by simp) _) (by simp) _) (by simp) _⟩
      simp [results, Try.results32, go_sem, z0, z1, z2]
theorem Blur_clos1 (b W H : Nat) (a : Option Addr) (len cap : Nat) (zs : List Nat)   (w : World) (c0 : w.cell? ⟨b, 0, none⟩ = some (.int .i64 W)) (c1 : w.cell? ⟨b, 1, none⟩ = some (.int .i64 H)) (c2 : w.cell? ⟨b, 2, none⟩ = some (.slice a len cap))
    (hr : IsFRow w a len cap zs) (hl : len = W * H) (hW : 1 ≤ W ∧ W ≤ 24) (hH : 1 ≤ H ∧ H ≤ 24)   (x y : Nat) (hx : x < W) (hy : y < H) :
    Calls Try.prog 74 #[.int .i64 x, .int .i64 y, .pointer (some ⟨b, 0, none⟩)] w (RetF .f32 ((fun (x y : Nat) => ab .f32 (grey zs W H x y)) x y) w) := by
  have _hx := hx
  have _hy := hy
  have HR := Lib.hid hr
  have HL := Lib.hid hl
  have HW := Lib.hid hW
  have HH := Lib.hid hH
  have hzl : ∀ z ∈ zs, z < 4294967296 := hr.2.2.2.1
  obtain ⟨hW1, hW2⟩ := hW
  obtain ⟨hH1, hH2⟩ := hH
  clear hr hl
  go_enter Try.func74, Try.ntmps74
  go_wp2_with (first | (go_at_call 54; refine (impl_about b W H _ _ a len cap zs _ (by go_simp) (by go_simp) (by go_simp) (IsFRow.below HR.out (by repeat (first | exact Below.refl _ _ | refine Below.setCell ?_ (by first | (simp; done) | (simp; omega)) _ | refine Below.trans ?_ (Below.mono (by assumption) (by first | (simp; done) | (simp; omega))) | refine Below.alloc ?_ (by first | (simp; done) | (simp; omega)) _ | refine Below.alloc ?_ (Nat.le_refl _) _ | refine below_drewN ?_ _))) HL.out HW.out HH.out).mono ?_; rintro e w' ⟨q, rfl, rfl⟩))
  go_ret
  exact ⟨_, _, is32 (grey_lt hzl _ _ _ _), rfl, rfl⟩

theorem impl_softer (x y z : Nat) (w : World) : Calls Try.prog 76 #[.float .f32 x, .float .f32 y, .float .f32 z] w (RetF .f32 (oop .mul .f32 (ab .f32 1056964608) (oop .add .f32 (oop .mul .f32 (ab .f32 1056964608) (oop .add .f32 (ab .f32 x) (ab .f32 y))) (ab .f32 z))) w) := by
  go_enter Try.func76, Try.ntmps76
  go_wp2_with (first | ((fail_if_success (have := g1)); refine wpList_arith _ _ _ _ _ rfl rfl _ _ _ rfl rfl rfl ?_; intro r1 n1 g1) | ((fail_if_success (have := g2)); refine wpList_arith _ _ _ _ _ rfl rfl _ _ _ rfl rfl rfl ?_; intro r2 n2 g2) | ((fail_if_success (have := g3)); refine wpList_arith _ _ _ _ _ rfl rfl _ _ _ rfl rfl rfl ?_; intro r3 n3 g3) | ((fail_if_success (have := g4)); refine wpList_arith _ _ _ _ _ rfl rfl _ _ _ rfl rfl rfl ?_; intro r4 n4 g4))
  go_ret
  have q2 := g2
  rw [g1.ab] at q2
  have e2 : ab .f32 r2 = oop .mul .f32 (ab .f32 1056964608) (oop .add .f32 (ab .f32 x) (ab .f32 y)) := q2.ab.trans (quo_two _)
  rw [e2] at g3
  rw [g3.ab] at g4
  have e4 : oop .quo .f32 (oop .add .f32 (oop .mul .f32 (ab .f32 1056964608) (oop .add .f32 (ab .f32 x) (ab .f32 y))) (ab .f32 z)) (ab .f32 1073741824) = oop .mul .f32 (ab .f32 1056964608) (oop .add .f32 (oop .mul .f32 (ab .f32 1056964608) (oop .add .f32 (ab .f32 x) (ab .f32 y))) (ab .f32 z)) := quo_two _
  rw [e4] at g4
  exact RetF.mk _ g4
theorem Blur_clos2 (b W H : Nat) (a : Option Addr) (len cap : Nat) (zs : List Nat)   (w : World) (c0 : w.cell? ⟨b, 0, none⟩ = some (.int .i64 W)) (c1 : w.cell? ⟨b, 1, none⟩ = some (.int .i64 H)) (c2 : w.cell? ⟨b, 2, none⟩ = some (.slice a len cap))
    (hr : IsFRow w a len cap zs) (hl : len = W * H) (hW : 1 ≤ W ∧ W ≤ 24) (hH : 1 ≤ H ∧ H ≤ 24)   (x y : Nat) (hx : x < W) (hy : y < H) :
    Calls Try.prog 75 #[.int .i64 x, .int .i64 y, .pointer (some ⟨b, 0, none⟩)] w (RetF .f32 ((fun (x y : Nat) => oop .mul .f32 (ab .f32 1056964608) (oop .add .f32 (oop .mul .f32 (ab .f32 1056964608) (oop .add .f32 (ab .f32 (grey zs W H (x - 1) (y))) (ab .f32 (grey zs W H (x + 1) (y))))) (ab .f32 (grey zs W H (x) (y))))) x y) w) := by
  have _hx := hx
  have _hy := hy
  have HR := Lib.hid hr
  have HL := Lib.hid hl
  have HW := Lib.hid hW
  have HH := Lib.hid hH
  have hzl : ∀ z ∈ zs, z < 4294967296 := hr.2.2.2.1
  obtain ⟨hW1, hW2⟩ := hW
  obtain ⟨hH1, hH2⟩ := hH
  clear hr hl
  go_enter Try.func75, Try.ntmps75
  go_wp2_with (first | (go_at_call 54; refine (impl_about b W H _ _ a len cap zs _ (by go_simp) (by go_simp) (by go_simp) (IsFRow.below HR.out (by repeat (first | exact Below.refl _ _ | refine Below.setCell ?_ (by first | (simp; done) | (simp; omega)) _ | refine Below.trans ?_ (Below.mono (by assumption) (by first | (simp; done) | (simp; omega))) | refine Below.alloc ?_ (by first | (simp; done) | (simp; omega)) _ | refine Below.alloc ?_ (Nat.le_refl _) _ | refine below_drewN ?_ _))) HL.out HW.out HH.out).mono ?_; rintro e w' ⟨q, rfl, rfl⟩) | (go_at_call 76; refine (impl_softer _ _ _ _).mono ?_; rintro e w' ⟨r, q2, hq, rfl, rfl⟩))
  go_ret
  exact ⟨_, _, hq, rfl, rfl⟩
theorem Blur_clos3 (b W H : Nat) (a : Option Addr) (len cap : Nat) (zs : List Nat)   (w : World) (c0 : w.cell? ⟨b, 0, none⟩ = some (.int .i64 W)) (c1 : w.cell? ⟨b, 1, none⟩ = some (.int .i64 H)) (c2 : w.cell? ⟨b, 2, none⟩ = some (.slice a len cap))
    (hr : IsFRow w a len cap zs) (hl : len = W * H) (hW : 1 ≤ W ∧ W ≤ 24) (hH : 1 ≤ H ∧ H ≤ 24)   (x y : Nat) (hx : x < W) (hy : y < H) :
    Calls Try.prog 77 #[.int .i64 x, .int .i64 y, .pointer (some ⟨b, 0, none⟩)] w (RetF .f32 ((fun (x y : Nat) => oop .mul .f32 (ab .f32 1056964608) (oop .add .f32 (oop .mul .f32 (ab .f32 1056964608) (oop .add .f32 (ab .f32 (grey zs W H (x) (y - 1))) (ab .f32 (grey zs W H (x) (y + 1))))) (ab .f32 (grey zs W H (x) (y))))) x y) w) := by
  have _hx := hx
  have _hy := hy
  have HR := Lib.hid hr
  have HL := Lib.hid hl
  have HW := Lib.hid hW
  have HH := Lib.hid hH
  have hzl : ∀ z ∈ zs, z < 4294967296 := hr.2.2.2.1
  obtain ⟨hW1, hW2⟩ := hW
  obtain ⟨hH1, hH2⟩ := hH
  clear hr hl
  go_enter Try.func77, Try.ntmps77
  go_wp2_with (first | (go_at_call 54; refine (impl_about b W H _ _ a len cap zs _ (by go_simp) (by go_simp) (by go_simp) (IsFRow.below HR.out (by repeat (first | exact Below.refl _ _ | refine Below.setCell ?_ (by first | (simp; done) | (simp; omega)) _ | refine Below.trans ?_ (Below.mono (by assumption) (by first | (simp; done) | (simp; omega))) | refine Below.alloc ?_ (by first | (simp; done) | (simp; omega)) _ | refine Below.alloc ?_ (Nat.le_refl _) _ | refine below_drewN ?_ _))) HL.out HW.out HH.out).mono ?_; rintro e w' ⟨q, rfl, rfl⟩) | (go_at_call 76; refine (impl_softer _ _ _ _).mono ?_; rintro e w' ⟨r, q2, hq, rfl, rfl⟩))
  go_ret
  exact ⟨_, _, hq, rfl, rfl⟩

attribute [local irreducible] Oper.wp in
theorem impl_BlurPicture_ok (W H : Nat) (a : Option Addr) (len cap : Nat) (zs : List Nat) (rn : Int) (w : World) (h : IsFRow w a len cap zs) (hl : len = W * H) (hW : 1 ≤ W ∧ W ≤ 24) (hH : 1 ≤ H ∧ H ≤ 24) (hvb : validB W H len = true) (hb1 : 0 ≤ rn) (hb2 : rn ≤ 8) :
    Calls Try.prog 33 #[.agg #[.int .i64 W, .int .i64 H, .slice a len cap], .int .i64 rn] w (RetP W H (H * W) true (blN W H (fun i => ab .f32 (zs.getD i 0)) rn.toNat) w) := by
  obtain rfl : len = H * W := by rw [hl, Nat.mul_comm]
  have hn1 : 1 ≤ H * W := Nat.mul_pos hH.1 hW.1
  have hn2 : H * W ≤ 576 := Nat.mul_le_mul hH.2 hW.2
  have HR := Lib.hid h
  have HN1 := Lib.hid hn1
  have HN2 := Lib.hid hn2
  have HW := Lib.hid hW
  have HH := Lib.hid hH
  have HV := Lib.hid hvb
  obtain ⟨OS, HOE0⟩ : ∃ f : Nat → Option Nat, f = (fun i => ab .f32 (zs.getD i 0)) := ⟨_, rfl⟩
  have HOE := Lib.hid HOE0
  clear HOE0
  rw [show (fun i : Nat => ab .f32 (zs.getD i 0)) = OS from HOE.out.symm]
  clear h hl hn1 hn2 hvb
  clear hW hH
  have hmf : ∀ (fn : Fn) (first cap : Array Value) (w : World), (Instr.makeFunc fn first cap).run Try.prog w = .ok (.func fn first cap) w := fun _ _ _ _ => rfl
  have BA : Below w.heap.size w ((w.alloc (.cells #[.int .i64 W, .int .i64 H, .slice a (H * W) cap] 26)).alloc (.cells #[.int .i64 0, .int .i64 0, .slice none 0 0] 26)) := (by repeat (first | exact Below.refl _ _ | refine Below.setCell ?_ (by first | (simp; done) | (simp; omega)) _ | refine Below.trans ?_ (Below.mono (by assumption) (by first | (simp; done) | (simp; omega))) | refine Below.alloc ?_ (by first | (simp; done) | (simp; omega)) _ | refine Below.alloc ?_ (Nat.le_refl _) _ | refine below_drewN ?_ _))
  go_enter Try.func33, Try.ntmps33
  go_wp2_with (first | (go_at_call 65; refine (impl_in _ _ _ _).mono ?_; rintro e w' ⟨rfl, rfl⟩) | fail)
  have hk1 : ∀ args W', (callFunc 74 args).run Try.prog W' = .ok (.enter 74 args) W' := fun args W' => by go_simp
  have hf1 : ∀ x y : Nat, x < W → y < H → ∀ w', Below ((w.alloc (.cells #[.int .i64 W, .int .i64 H, .slice a (H * W) cap] 26)).alloc (.cells #[.int .i64 0, .int .i64 0, .slice none 0 0] 26)).heap.size ((w.alloc (.cells #[.int .i64 W, .int .i64 H, .slice a (H * W) cap] 26)).alloc (.cells #[.int .i64 0, .int .i64 0, .slice none 0 0] 26)) w' → Calls Try.prog 74 (#[.int .i64 x, .int .i64 y] ++ #[.pointer (some ⟨w.heap.size, 0, none⟩)]) w' (RetF .f32 ((fun (x y : Nat) => ab .f32 (grey zs W H x y)) x y) w') := by
    intro x y hx hy w' hb
    exact Blur_clos1 w.heap.size W H a (H * W) cap zs w' ((hb.cell (p := ⟨w.heap.size, 0, none⟩) (by first | (simp; done) | (simp; omega))).trans (by go_simp)) ((hb.cell (p := ⟨w.heap.size, 1, none⟩) (by first | (simp; done) | (simp; omega))).trans (by go_simp)) ((hb.cell (p := ⟨w.heap.size, 2, none⟩) (by first | (simp; done) | (simp; omega))).trans (by go_simp)) (IsFRow.below HR.out (BA.trans (hb.mono BA.size))) (Nat.mul_comm _ _) HW.out HH.out x y hx hy
  have hq := impl_remade_ok W H a (H * W) cap 74 #[.pointer (some ⟨w.heap.size, 0, none⟩)] (fun (x y : Nat) => ab .f32 (grey zs W H x y)) ((w.alloc (.cells #[.int .i64 W, .int .i64 H, .slice a (H * W) cap] 26)).alloc (.cells #[.int .i64 0, .int .i64 0, .slice none 0 0] 26)) HV.out HW.out.2 HH.out.2 hk1 hf1
  refine hq.mono ?_
  clear hq hk1 hf1
  rintro e w2 ⟨ao2, cp2, ys2, rfl, ho2, hi2, b2⟩
  have b2 := b2.mono (show w.heap.size + 2 ≤ _ by simp)
  have hs2 : w.heap.size + 2 ≤ w2.heap.size := by have := b2.size; simp at this; omega
  have HO2 := Lib.hid (ho2.mono (lo' := w.heap.size + 2) (hi' := w2.heap.size) (by simp) (Nat.le_refl _))
  have HI2 := Lib.hid (fun i (hi : i < H * W) => (show Is .f32 (ys2.getD i 0) (ab .f32 (zs.getD i 0)) from by
    have h1 := hi2 i hi
    have hx : i % W < W := Nat.mod_lt _ HW.out.1
    have hy : i / W < H := Nat.div_lt_of_lt_mul (by rw [Nat.mul_comm]; exact hi)
    have e : osXY W (fun (x y : Nat) => ab .f32 (grey zs W H x y)) i = ab .f32 (zs.getD i 0) := by
      show ab .f32 (grey zs W H ((i % W : Nat) : Int) ((i / W : Nat) : Int)) = _
      rw [grey_at hx hy, Nat.mod_add_div]
    rw [← e]; exact h1))
  have HB2 := Lib.hid b2
  clear ho2 hi2 b2 BA
  go_wp2_with fail
  go_loopw [8] (fun i wr => ∃ k : Nat, ∃ ao cp ys, (k : Int) ≤ rn ∧ i = .int .i64 k ∧ wr.heap[w2.heap.size]? = some (.cells #[.int .i64 W, .int .i64 H, .slice ao (H * W) cp] 26 (0, 0)) ∧ ORow wr (w.heap.size + 2) wr.heap.size ao (H * W) cp ys ∧ (∀ i, i < H * W → Is .f32 (ys.getD i 0) (blN W H OS k i)) ∧ Below (w.heap.size + 2) ((w.alloc (.cells #[.int .i64 W, .int .i64 H, .slice a (H * W) cap] 26)).alloc (.cells #[.int .i64 0, .int .i64 0, .slice none 0 0] 26)) wr) (fun i _ => (rn - intOf i).toNat)
  case atStart => exact ⟨0, ao2, cp2, ys2, by omega, rfl, heap_alloc_new w2 _, ORow.top (HO2.out.below (Below.alloc (Below.refl _ _) (Nat.le_refl _) _)), fun i hi => by show Is .f32 _ (OS i); rw [HOE.out]; exact HI2.out i hi, Below.alloc HB2.out hs2 _⟩
  case round =>
    obtain ⟨k, ao, cp, ys, hk, rfl, hbx, ho, hi, hb⟩ := hrel
    have x0 := box_cell hbx 0
    have x1 := box_cell hbx 1
    have x2 := box_cell hbx 2
    have hws : w2.heap.size < wr.heap.size := lt_of_block hbx
    have hbs : w.heap.size + 2 ≤ wr.heap.size := by omega
    have HO := Lib.hid ho
    have HI := Lib.hid hi
    have HB := Lib.hid hb
    have HX := Lib.hid hbx
    clear ho hi hb hbx
    by_cases hlt : (k : Int) < rn
    · go_wp2_with fail
      have hk2 : ∀ args W', (callFunc 75 args).run Try.prog W' = .ok (.enter 75 args) W' := fun args W' => by go_simp
      have hf2 : ∀ x y : Nat, x < W → y < H → ∀ w', Below (wr.alloc (.cells #[.int .i64 W, .int .i64 H, .slice ao (H * W) cp] 26)).heap.size (wr.alloc (.cells #[.int .i64 W, .int .i64 H, .slice ao (H * W) cp] 26)) w' → Calls Try.prog 75 (#[.int .i64 x, .int .i64 y] ++ #[.pointer (some ⟨wr.heap.size, 0, none⟩)]) w' (RetF .f32 ((fun (x y : Nat) => oop .mul .f32 (ab .f32 1056964608) (oop .add .f32 (oop .mul .f32 (ab .f32 1056964608) (oop .add .f32 (ab .f32 (grey ys W H (x - 1) (y))) (ab .f32 (grey ys W H (x + 1) (y))))) (ab .f32 (grey ys W H (x) (y))))) x y) w') := by
        intro x y hx hy w' hb
        exact Blur_clos2 wr.heap.size W H ao (H * W) cp ys w' ((hb.cell (p := ⟨wr.heap.size, 0, none⟩) (by first | (simp; done) | (simp; omega))).trans (by go_simp)) ((hb.cell (p := ⟨wr.heap.size, 1, none⟩) (by first | (simp; done) | (simp; omega))).trans (by go_simp)) ((hb.cell (p := ⟨wr.heap.size, 2, none⟩) (by first | (simp; done) | (simp; omega))).trans (by go_simp)) (((HO.out.below (Below.alloc (Below.refl _ _) (Nat.le_refl _) _)).below hb).row) (Nat.mul_comm _ _) HW.out HH.out x y hx hy
      have hq := impl_remade_ok W H ao (H * W) cp 75 #[.pointer (some ⟨wr.heap.size, 0, none⟩)] (fun (x y : Nat) => oop .mul .f32 (ab .f32 1056964608) (oop .add .f32 (oop .mul .f32 (ab .f32 1056964608) (oop .add .f32 (ab .f32 (grey ys W H (x - 1) (y))) (ab .f32 (grey ys W H (x + 1) (y))))) (ab .f32 (grey ys W H (x) (y))))) (wr.alloc (.cells #[.int .i64 W, .int .i64 H, .slice ao (H * W) cp] 26)) HV.out HW.out.2 HH.out.2 hk2 hf2
      refine hq.mono ?_
      clear hq hk2 hf2
      rintro e w4 ⟨ao4, cp4, ys4, rfl, ho4, hi4, b4⟩
      have b4' : Below wr.heap.size wr w4 := (Below.alloc (Below.refl _ _) (Nat.le_refl _) _).trans (b4.mono (by simp))
      have HI4 := Lib.hid (fun i (hi : i < H * W) => (show Is .f32 (ys4.getD i 0) (bl W H 1 0 (blN W H OS k) i) from by rw [← bl_eq HW.out.1 HH.out.1 HI.out 1 0, ← (show osXY W (fun (x y : Nat) => oop .mul .f32 (ab .f32 1056964608) (oop .add .f32 (oop .mul .f32 (ab .f32 1056964608) (oop .add .f32 (ab .f32 (grey ys W H (x - 1) (y))) (ab .f32 (grey ys W H (x + 1) (y))))) (ab .f32 (grey ys W H (x) (y))))) = osXY W (fun (x y : Nat) => oop .mul .f32 (ab .f32 1056964608) (oop .add .f32 (oop .mul .f32 (ab .f32 1056964608) (oop .add .f32 (ab .f32 (grey ys W H (x - 1) (y - 0))) (ab .f32 (grey ys W H (x + 1) (y + 0))))) (ab .f32 (grey ys W H (x) (y))))) from by first | rfl | (congr 1; funext x y; simp))]; exact hi4 i hi))
      have HX4 := Lib.hid ((b4'.block _ hws).trans HX.out)
      have HB4 := Lib.hid (HB.out.trans (b4'.mono hbs))
      have hw4 : wr.heap.size ≤ w4.heap.size := b4'.size
      have HO4 := Lib.hid ho4
      clear ho4 hi4 b4 b4' HO HI HB HX x0 x1 x2
      have m4 : w2.heap.size < w4.heap.size := by omega
      have n4 : w2.heap.size ≠ w4.heap.size := by omega
      go_wp2_with fail
      have hk3 : ∀ args W', (callFunc 77 args).run Try.prog W' = .ok (.enter 77 args) W' := fun args W' => by go_simp
      have hf3 : ∀ x y : Nat, x < W → y < H → ∀ w', Below (w4.alloc (.cells #[.int .i64 W, .int .i64 H, .slice ao4 (H * W) cp4] 26)).heap.size (w4.alloc (.cells #[.int .i64 W, .int .i64 H, .slice ao4 (H * W) cp4] 26)) w' → Calls Try.prog 77 (#[.int .i64 x, .int .i64 y] ++ #[.pointer (some ⟨w4.heap.size, 0, none⟩)]) w' (RetF .f32 ((fun (x y : Nat) => oop .mul .f32 (ab .f32 1056964608) (oop .add .f32 (oop .mul .f32 (ab .f32 1056964608) (oop .add .f32 (ab .f32 (grey ys4 W H (x) (y - 1))) (ab .f32 (grey ys4 W H (x) (y + 1))))) (ab .f32 (grey ys4 W H (x) (y))))) x y) w') := by
        intro x y hx hy w' hb
        exact Blur_clos3 w4.heap.size W H ao4 (H * W) cp4 ys4 w' ((hb.cell (p := ⟨w4.heap.size, 0, none⟩) (by first | (simp; done) | (simp; omega))).trans (by go_simp)) ((hb.cell (p := ⟨w4.heap.size, 1, none⟩) (by first | (simp; done) | (simp; omega))).trans (by go_simp)) ((hb.cell (p := ⟨w4.heap.size, 2, none⟩) (by first | (simp; done) | (simp; omega))).trans (by go_simp)) (((HO4.out.below (Below.alloc (Below.refl _ _) (Nat.le_refl _) _)).below hb).row) (Nat.mul_comm _ _) HW.out HH.out x y hx hy
      have hq := impl_remade_ok W H ao4 (H * W) cp4 77 #[.pointer (some ⟨w4.heap.size, 0, none⟩)] (fun (x y : Nat) => oop .mul .f32 (ab .f32 1056964608) (oop .add .f32 (oop .mul .f32 (ab .f32 1056964608) (oop .add .f32 (ab .f32 (grey ys4 W H (x) (y - 1))) (ab .f32 (grey ys4 W H (x) (y + 1))))) (ab .f32 (grey ys4 W H (x) (y))))) (w4.alloc (.cells #[.int .i64 W, .int .i64 H, .slice ao4 (H * W) cp4] 26)) HV.out HW.out.2 HH.out.2 hk3 hf3
      refine hq.mono ?_
      clear hq hk3 hf3
      rintro e w5 ⟨ao5, cp5, ys5, rfl, ho5, hi5, b5⟩
      have HI5 := Lib.hid (fun i (hi : i < H * W) => (show Is .f32 (ys5.getD i 0) (blN W H OS (k + 1) i) from by show Is .f32 _ (bl W H 0 1 (bl W H 1 0 (blN W H OS k)) i); rw [← bl_eq HW.out.1 HH.out.1 HI4.out 0 1, ← (show osXY W (fun (x y : Nat) => oop .mul .f32 (ab .f32 1056964608) (oop .add .f32 (oop .mul .f32 (ab .f32 1056964608) (oop .add .f32 (ab .f32 (grey ys4 W H (x) (y - 1))) (ab .f32 (grey ys4 W H (x) (y + 1))))) (ab .f32 (grey ys4 W H (x) (y))))) = osXY W (fun (x y : Nat) => oop .mul .f32 (ab .f32 1056964608) (oop .add .f32 (oop .mul .f32 (ab .f32 1056964608) (oop .add .f32 (ab .f32 (grey ys4 W H (x - 0) (y - 1))) (ab .f32 (grey ys4 W H (x + 0) (y + 1))))) (ab .f32 (grey ys4 W H (x) (y))))) from by first | rfl | (congr 1; funext x y; simp))]; exact hi5 i hi))
      have b5' : Below w4.heap.size w4 w5 := (Below.alloc (Below.refl _ _) (Nat.le_refl _) _).trans (b5.mono (by simp))
      have hx5 := (b5'.block _ m4).trans HX4.out
      have HX5 := Lib.hid hx5
      have HB5 := Lib.hid (HB4.out.trans (b5'.mono (by omega)))
      have HO5 := Lib.hid (ho5.mono (lo' := w2.heap.size + 1) (hi' := w5.heap.size) (by simp; omega) (Nat.le_refl _))
      have x0 := box_cell hx5 0
      have x1 := box_cell hx5 1
      have x2 := box_cell hx5 2
      have y0 := box_free hx5 0
      have y1 := box_free hx5 1
      have y2 := box_free hx5 2
      clear ho5 hi5 b5 b5' hx5
      go_wp2_with fail
      go_roundw
      case rel => exact ⟨k + 1, ao5, cp5, ys5, by omega, rfl, box_set (i := 2) (.slice ao5 (H * W) cp5) (box_set (i := 1) (.int .i64 H) (box_set (i := 0) (.int .i64 W) HX5.out)), ORow.top (ORow.mono (ORow.setBox (ORow.setBox (ORow.setBox HO5.out (by omega) _ _) (by omega) _ _) (by omega) _ _) (by omega) (Nat.le_refl _)), HI5.out, Below.setCell (Below.setCell (Below.setCell HB5.out (by simp; omega) _) (by simp; omega) _) (by simp; omega) _⟩
      case measure => simp [intOf]; omega
    · have hke : rn.toNat = k := by omega
      have hz : wr.heap[w.heap.size + 1]? = some (.cells #[.int .i64 0, .int .i64 0, .slice none 0 0] 26 (0, 0)) := (HB.out.block (w.heap.size + 1) (by omega)).trans (by have h := heap_alloc_new (w.alloc (.cells #[.int .i64 W, .int .i64 H, .slice a (H * W) cap] 26)) (.cells #[.int .i64 0, .int .i64 0, .slice none 0 0] 26); rw [show (w.alloc (.cells #[.int .i64 W, .int .i64 H, .slice a (H * W) cap] 26)).heap.size = w.heap.size + 1 from by simp] at h; exact h)
      have z0 := box_cell hz 0
      have z1 := box_cell hz 1
      have z2 := box_cell hz 2
      have f0 := box_free hz 0
      have f1 := box_free hz 1
      have f2 := box_free hz 2
      have c0 := box_cell HX.out 0
      have c1 := box_cell HX.out 1
      have c2 := box_cell HX.out 2
      go_wp2_with fail
      have BW : Below w.heap.size w wr := (Below.alloc (Below.alloc (Below.refl _ _) (Nat.le_refl _) _) (by simp) _).trans (HB.out.mono (by omega))
      refine bodyPost_ret (v := .tuple #[.agg #[.int .i64 W, .int .i64 H, .slice ao (H * W) cp], .bool true]) ?_ rfl ⟨ao, cp, ys, rfl, ORow.mono (ORow.setBox (ORow.setBox (ORow.setBox HO.out (by omega) _ _) (by omega) _ _) (by omega) _ _) (by omega) (by simp), fun i hi => by first | exact HI.out i hi | (rw [hke]; exact HI.out i hi), Below.setCell (Below.setCell (Below.setCell BW (by simp) _) (by simp) _) (by simp) _⟩
      simp [results, Try.results33, go_sem, z0, z1, z2]

theorem impl_BlurPicture_bad (x y : Int) (a : Option Addr) (len cap : Nat) (rn : Int) (os : Nat → Option Nat) (w : World) (hvb : validB x y len = false) (hb1 : 0 ≤ rn) (hb2 : rn ≤ 8) :
    Calls Try.prog 33 #[.agg #[.int .i64 x, .int .i64 y, .slice a len cap], .int .i64 rn] w (RetP 0 0 0 false os w) := by
  have hmf : ∀ (fn : Fn) (first cap : Array Value) (w : World), (Instr.makeFunc fn first cap).run Try.prog w = .ok (.func fn first cap) w := fun _ _ _ _ => rfl
  go_enter Try.func33, Try.ntmps33
  go_wp2_with (first | (go_at_call 65; refine (impl_in _ _ _ _).mono ?_; rintro e w' ⟨rfl, rfl⟩) | fail)
  refine (impl_remade_bad x y a len cap _ os ((w.alloc (.cells #[.int .i64 x, .int .i64 y, .slice a len cap] 26)).alloc (.cells #[.int .i64 0, .int .i64 0, .slice none 0 0] 26)) hvb).mono ?_
  clear hvb
  rintro e w2 ⟨ao, cp, ys, rfl, ho, his, b2⟩
  have b2 := b2.mono (show w.heap.size + 2 ≤ _ by simp)
  have hs2 : w.heap.size + 2 ≤ w2.heap.size := by have := b2.size; simp at this; omega
  have HO2 := Lib.hid (ho.mono (lo' := w.heap.size + 2) (hi' := w2.heap.size) (by simp) (Nat.le_refl _))
  have HB2 := Lib.hid b2
  clear ho his b2
  go_wp2_with fail
  go_loopw [8] (fun i wr => i = .int .i64 0 ∧ wr.heap[w2.heap.size]? = some (.cells #[.int .i64 0, .int .i64 0, .slice ao 0 cp] 26 (0, 0)) ∧ ORow wr (w.heap.size + 2) wr.heap.size ao 0 cp ys ∧ Below (w.heap.size + 2) ((w.alloc (.cells #[.int .i64 x, .int .i64 y, .slice a len cap] 26)).alloc (.cells #[.int .i64 0, .int .i64 0, .slice none 0 0] 26)) wr) (fun _ _ => 0)
  case atStart => exact ⟨rfl, heap_alloc_new w2 _, ORow.top (HO2.out.below (Below.alloc (Below.refl _ _) (Nat.le_refl _) _)), Below.alloc HB2.out hs2 _⟩
  case round =>
    obtain ⟨rfl, hbx, ho, hb⟩ := hrel
    have HO := Lib.hid ho
    have HB := Lib.hid hb
    have HX := Lib.hid hbx
    clear ho hb hbx
    have hz : wr.heap[w.heap.size + 1]? = some (.cells #[.int .i64 0, .int .i64 0, .slice none 0 0] 26 (0, 0)) := (HB.out.block (w.heap.size + 1) (by omega)).trans (by have h := heap_alloc_new (w.alloc (.cells #[.int .i64 x, .int .i64 y, .slice a len cap] 26)) (.cells #[.int .i64 0, .int .i64 0, .slice none 0 0] 26); rw [show (w.alloc (.cells #[.int .i64 x, .int .i64 y, .slice a len cap] 26)).heap.size = w.heap.size + 1 from by simp] at h; exact h)
    have z0 := box_cell hz 0
    have z1 := box_cell hz 1
    have z2 := box_cell hz 2
    have f0 := box_free hz 0
    have f1 := box_free hz 1
    have f2 := box_free hz 2
    have c0 := box_cell HX.out 0
    have c1 := box_cell HX.out 1
    have c2 := box_cell HX.out 2
    go_wp2_with fail
    have BW : Below w.heap.size w wr := (Below.alloc (Below.alloc (Below.refl _ _) (Nat.le_refl _) _) (by simp) _).trans (HB.out.mono (by omega))
    refine bodyPost_ret (v := .tuple #[.agg #[.int .i64 0, .int .i64 0, .slice ao 0 cp], .bool false]) ?_ rfl ⟨ao, cp, ys, rfl, ORow.mono (ORow.setBox (ORow.setBox (ORow.setBox HO.out (by omega) _ _) (by omega) _ _) (by omega) _ _) (by omega) (by simp), fun _ hi => absurd hi (Nat.not_lt_zero _), Below.setCell (Below.setCell (Below.setCell BW (by simp) _) (by simp) _) (by simp) _⟩
    simp [results, Try.results33, go_sem, z0, z1, z2]

theorem spec_BlurPicture_bad (x y : Int) (a : Option Addr) (len cap : Nat) (rn : Int) (os : Nat → Option Nat) (w : World) (hvb : validB x y len = false)  :
    Calls Try.prog 32 #[.agg #[.int .i64 x, .int .i64 y, .slice a len cap], .int .i64 rn] w (RetP 0 0 0 false os w) := by
  go_enter Try.func32, Try.ntmps32
  go_wp2_with fail
  have hq := spec_l02Is w.heap.size x y a len cap ((w.alloc (.cells #[.int .i64 x, .int .i64 y, .slice a len cap] 26)).alloc (.cells #[.int .i64 0, .int .i64 0, .slice none 0 0] 26)) (by go_simp) (by go_simp) (by go_simp)
  rw [hvb] at hq
  refine hq.mono ?_
  clear hq
  rintro e w1 hq
  obtain ⟨rfl, b1⟩ := RetB.below hq
  clear hq
  have hz : w1.heap[w.heap.size + 1]? = some (.cells #[.int .i64 0, .int .i64 0, .slice none 0 0] 26 (0, 0)) := (b1.block (w.heap.size + 1) (by simp)).trans (by have h := heap_alloc_new (w.alloc (.cells #[.int .i64 x, .int .i64 y, .slice a len cap] 26)) (.cells #[.int .i64 0, .int .i64 0, .slice none 0 0] 26); rw [show (w.alloc (.cells #[.int .i64 x, .int .i64 y, .slice a len cap] 26)).heap.size = w.heap.size + 1 from by simp] at h; exact h)
  have z0 := box_cell hz 0
  have z1 := box_cell hz 1
  have z2 := box_cell hz 2
  have f0 := box_free hz 0
  have f1 := box_free hz 1
  have f2 := box_free hz 2
  go_wp2_with fail
  refine bodyPost_ret (v := .tuple #[.agg #[.int .i64 0, .int .i64 0, .slice none 0 0], .bool false]) ?_ rfl (RetP.none os rfl (by repeat (first | exact Below.refl _ _ | refine Below.setCell ?_ (by first | (simp; done) | (simp; omega)) _ | refine Below.trans ?_ (Below.mono (by assumption) (by first | (simp; done) | (simp; omega))) | refine Below.alloc ?_ (by first | (simp; done) | (simp; omega)) _ | refine Below.alloc ?_ (Nat.le_refl _) _ | refine below_drewN ?_ _)))
  simp [results, Try.results32, go_sem, z0, z1, z2]

theorem spec_BlurPicture_bad2 (x y : Int) (a : Option Addr) (len cap : Nat) (rn : Int) (os : Nat → Option Nat) (w : World) (hvb : validB x y len = true) (hrg : (decide (0 ≤ rn) && decide (rn ≤ 8)) = false) :
    Calls Try.prog 32 #[.agg #[.int .i64 x, .int .i64 y, .slice a len cap], .int .i64 rn] w (RetP 0 0 0 false os w) := by
  go_enter Try.func32, Try.ntmps32
  go_wp2_with fail
  have hq := spec_l02Is w.heap.size x y a len cap ((w.alloc (.cells #[.int .i64 x, .int .i64 y, .slice a len cap] 26)).alloc (.cells #[.int .i64 0, .int .i64 0, .slice none 0 0] 26)) (by go_simp) (by go_simp) (by go_simp)
  rw [hvb] at hq
  refine hq.mono ?_
  clear hq
  rintro e w1 hq
  obtain ⟨rfl, b1⟩ := RetB.below hq
  clear hq hvb
  have hz : w1.heap[w.heap.size + 1]? = some (.cells #[.int .i64 0, .int .i64 0, .slice none 0 0] 26 (0, 0)) := (b1.block (w.heap.size + 1) (by first | (simp; done) | (simp; omega) | omega)).trans (by have h := heap_alloc_new (w.alloc (.cells #[.int .i64 x, .int .i64 y, .slice a len cap] 26)) (.cells #[.int .i64 0, .int .i64 0, .slice none 0 0] 26); rw [show (w.alloc (.cells #[.int .i64 x, .int .i64 y, .slice a len cap] 26)).heap.size = w.heap.size + 1 from by simp] at h; exact h)
  have z0 := box_cell hz 0
  have z1 := box_cell hz 1
  have z2 := box_cell hz 2
  have f0 := box_free hz 0
  have f1 := box_free hz 1
  have f2 := box_free hz 2
  go_wp2_with (first | (go_at_call 63; refine (spec_l00In _ _ _ _).mono ?_; rintro e w' ⟨rfl, rfl⟩) | fail)
  refine bodyPost_ret (v := .tuple #[.agg #[.int .i64 0, .int .i64 0, .slice none 0 0], .bool false]) ?_ rfl (RetP.none os rfl (by repeat (first | exact Below.refl _ _ | refine Below.setCell ?_ (by first | (simp; done) | (simp; omega)) _ | refine Below.trans ?_ (Below.mono (by assumption) (by first | (simp; done) | (simp; omega))) | refine Below.alloc ?_ (by first | (simp; done) | (simp; omega)) _ | refine Below.alloc ?_ (Nat.le_refl _) _ | refine below_drewN ?_ _)))
  simp [results, Try.results32, go_sem, z0, z1, z2]

theorem impl_BlurPicture_bad1 (x y : Int) (a : Option Addr) (len cap : Nat) (rn : Int) (os : Nat → Option Nat) (w : World) (hrg : (decide (0 ≤ rn) && decide (rn ≤ 8)) = false) :
    Calls Try.prog 33 #[.agg #[.int .i64 x, .int .i64 y, .slice a len cap], .int .i64 rn] w (RetP 0 0 0 false os w) := by
  go_enter Try.func33, Try.ntmps33
  go_wp2_with (first | (go_at_call 65; refine (impl_in _ _ _ _).mono ?_; rintro e w' ⟨rfl, rfl⟩) | fail)
  refine bodyPost_ret (v := .tuple #[.agg #[.int .i64 0, .int .i64 0, .slice none 0 0], .bool false]) ?_ rfl (RetP.none os rfl (by repeat (first | exact Below.refl _ _ | refine Below.setCell ?_ (by first | (simp; done) | (simp; omega)) _ | refine Below.trans ?_ (Below.mono (by assumption) (by first | (simp; done) | (simp; omega))) | refine Below.alloc ?_ (by first | (simp; done) | (simp; omega)) _ | refine Below.alloc ?_ (Nat.le_refl _) _ | refine below_drewN ?_ _)))
  simp [results, Try.results33, go_sem]

theorem BlurPicture_pair (x y : Int) (len : Nat) (zs : List Nat) (rn : Int) (_wrn : (Lit.int .i64 rn).wf = true) (_ : -9223372036854775808 ≤ x ∧ x ≤ 9223372036854775807) (_ : -9223372036854775808 ≤ y ∧ y ≤ 9223372036854775807) : ∃ (x' y' : Int) (n : Nat) (ok : Bool) (os : Nat → Option Nat), n ≤ 1000 ∧
  (∀ W b cp, IsFRow W b len cp zs → Calls Try.prog 32 #[.agg #[.int .i64 x, .int .i64 y, .slice b len cp], .int .i64 rn] W (RetP x' y' n ok os W)) ∧
  (∀ W b cp, IsFRow W b len cp zs → Calls Try.prog 33 #[.agg #[.int .i64 x, .int .i64 y, .slice b len cp], .int .i64 rn] W (RetP x' y' n ok os W)) := by
  by_cases hb1 : 0 ≤ rn
  case neg =>
    have hrg : (decide (0 ≤ rn) && decide (rn ≤ 8)) = false := by rw [Bool.and_eq_false_iff]; simp only [decide_eq_false_iff_not]; omega
    cases hvb : validB x y len with
    | false => exact ⟨0, 0, 0, false, fun _ => none, by omega, fun W b cp _ => spec_BlurPicture_bad x y b len cp rn _ W hvb, fun W b cp _ => impl_BlurPicture_bad1 x y b len cp rn _ W hrg⟩
    | true => exact ⟨0, 0, 0, false, fun _ => none, by omega, fun W b cp _ => spec_BlurPicture_bad2 x y b len cp rn _ W hvb hrg, fun W b cp _ => impl_BlurPicture_bad1 x y b len cp rn _ W hrg⟩
  by_cases hb2 : rn ≤ 8
  case neg =>
    have hrg : (decide (0 ≤ rn) && decide (rn ≤ 8)) = false := by rw [Bool.and_eq_false_iff]; simp only [decide_eq_false_iff_not]; omega
    cases hvb : validB x y len with
    | false => exact ⟨0, 0, 0, false, fun _ => none, by omega, fun W b cp _ => spec_BlurPicture_bad x y b len cp rn _ W hvb, fun W b cp _ => impl_BlurPicture_bad1 x y b len cp rn _ W hrg⟩
    | true => exact ⟨0, 0, 0, false, fun _ => none, by omega, fun W b cp _ => spec_BlurPicture_bad2 x y b len cp rn _ W hvb hrg, fun W b cp _ => impl_BlurPicture_bad1 x y b len cp rn _ W hrg⟩
  cases hvb : validB x y len with
  | false => exact ⟨0, 0, 0, false, fun _ => none, by omega, fun W b cp _ => spec_BlurPicture_bad x y b len cp rn _ W hvb, fun W b cp _ => impl_BlurPicture_bad x y b len cp rn _ W hvb hb1 hb2⟩
  | true =>
    obtain ⟨X, Y, rfl, rfl, hl, hW, hH⟩ := valid_nat hvb
    have hn : Y * X ≤ 1000 := Nat.le_trans (Nat.mul_le_mul hH.2 hW.2) (by omega)
    refine ⟨X, Y, Y * X, true, blN X Y (fun i => ab .f32 (zs.getD i 0)) rn.toNat, hn, fun W b cp h => spec_BlurPicture_ok X Y b len cp zs rn W h hl hW hH hvb hb1 hb2, fun W b cp h => (impl_BlurPicture_ok X Y b len cp zs rn W h hl hW hH hvb hb1 hb2).mono fun e w' hr => hr.congr (fun i hi => ?_)⟩
    rfl

attribute [local irreducible] Oper.wp in
theorem FnExactBlurPicture_walk (x y : Int) (a : Option Addr) (len cap : Nat) (zs : List Nat) (rn : Int) (w : World) (h : PicOk w x y a len cap zs) (wrn : (Lit.int .i64 rn).wf = true) :
    Calls Try.prog 10 #[.agg #[.int .i64 x, .int .i64 y, .slice a len cap], .int .i64 rn] w fun e w' => e = .returned (.bool true) ∧ Below w.heap.size w w' := by
  obtain ⟨hx, hy, hrow⟩ := h
  obtain ⟨x', y', n, ok, os, hn, hs, hi⟩ := BlurPicture_pair x y len zs rn wrn hx hy
  clear hx hy
  have hcl : len ≤ 9223372036854775807 := by have h1 := hrow.2.1; have h2 := hrow.2.2.1; unfold maxLen at h2; omega
  have H := Lib.hid hrow
  have HS := Lib.hid hs
  have HI := Lib.hid hi
  clear hrow hs hi
  by_cases hl : (len : Int) ≤ 1048576
  case neg =>
    go_enter Try.func10, Try.ntmps10
    go_wp2_with fail
    refine (szPicture_no x y a len cap 1048576 _ hcl (by omega) (by omega)).mono ?_
    rintro e w1 ⟨rfl, hb⟩
    go_wp2_with fail
    go_ret
    exact ⟨rfl, (by repeat (first | exact Below.refl _ _ | refine Below.setCell ?_ (by first | (simp; done) | (simp; omega)) _ | refine Below.trans ?_ (Below.mono (by assumption) (by first | (simp; done) | (simp; omega))) | refine Below.alloc ?_ (by first | (simp; done) | (simp; omega)) _ | refine Below.alloc ?_ (Nat.le_refl _) _ | refine below_drewN ?_ _))⟩
  have hl' : len ≤ 1048576 := by omega
  go_enter Try.func10, Try.ntmps10
  go_wp2_with fail
  refine (szPicture_ok x y a len cap 1048576 _ hl (by omega)).mono ?_
  rintro e w1 ⟨rfl, b1⟩
  have t1 : w.heap.size + 1 ≤ w1.heap.size := by have := b1.size; simp at this; omega
  have EE : RowKit.Hid (Below w.heap.size w w1) := Lib.hid ((by repeat (first | exact Below.refl _ _ | refine Below.setCell ?_ (by first | (simp; done) | (simp; omega)) _ | refine Below.trans ?_ (Below.mono (by assumption) (by first | (simp; done) | (simp; omega))) | refine Below.alloc ?_ (by first | (simp; done) | (simp; omega)) _ | refine Below.alloc ?_ (Nat.le_refl _) _ | refine below_drewN ?_ _)))
  have K0 : RowKit.Hid (At3 w1 w.heap.size (.int .i64 x) (.int .i64 y) (.slice a len cap)) := Lib.hid ⟨(b1.cell (p := ⟨w.heap.size, 0, none⟩) (by simp)).trans (by go_simp), (b1.cell (p := ⟨w.heap.size, 1, none⟩) (by simp)).trans (by go_simp), (b1.cell (p := ⟨w.heap.size, 2, none⟩) (by simp)).trans (by go_simp)⟩
  clear b1
  obtain ⟨c00, c01, c02⟩ := K0.out
  go_wp2_with fail
  clear c00 c01 c02
  refine (toPicture_own x y a len cap zs _ (IsFRow.below H.out EE.out) hl').mono ?_
  rintro e w2 ⟨g2, rfl, r2, b2⟩
  have R2 := Lib.hid r2
  clear r2
  have t2 : w1.heap.size ≤ w2.heap.size := b2.size
  have BB : Below w1.heap.size w1 w2 := (by repeat (first | exact Below.refl _ _ | refine Below.setCell ?_ (by first | (simp; done) | (simp; omega)) _ | refine Below.trans ?_ (Below.mono (by assumption) (by first | (simp; done) | (simp; omega))) | refine Below.alloc ?_ (by first | (simp; done) | (simp; omega)) _ | refine Below.alloc ?_ (Nat.le_refl _) _ | refine below_drewN ?_ _))
  replace EE := Lib.hid (EE.out.trans (BB.mono (by omega)))
  replace K0 := Lib.hid (At3.below K0.out BB (by omega))
  clear BB b2
  go_wp2_with fail
  refine (HS.out _ _ _ R2.out.row).mono ?_
  rintro e w3 ⟨ao3, cp3, zs3, rfl, r3, i3, b3⟩
  have R3 := Lib.hid r3
  have I3 := Lib.hid i3
  clear r3 i3 R2
  have t3 : w2.heap.size ≤ w3.heap.size := b3.size
  have BB : Below w2.heap.size w2 w3 := (by repeat (first | exact Below.refl _ _ | refine Below.setCell ?_ (by first | (simp; done) | (simp; omega)) _ | refine Below.trans ?_ (Below.mono (by assumption) (by first | (simp; done) | (simp; omega))) | refine Below.alloc ?_ (by first | (simp; done) | (simp; omega)) _ | refine Below.alloc ?_ (Nat.le_refl _) _ | refine below_drewN ?_ _))
  replace EE := Lib.hid (EE.out.trans (BB.mono (by omega)))
  replace K0 := Lib.hid (At3.below K0.out BB (by omega))
  clear BB b3
  obtain ⟨c00, c01, c02⟩ := K0.out
  have n3 : w.heap.size ≠ w3.heap.size := by omega
  have m3 : w.heap.size < w3.heap.size := by omega
  go_wp2_with fail
  clear c00 c01 c02
  refine (toPicture_own x y a len cap zs _ (IsFRow.below H.out (EE.out.trans (Below.mono (B := w3.heap.size) (by repeat (first | exact Below.refl _ _ | refine Below.setCell ?_ (by first | (simp; done) | (simp; omega)) _ | refine Below.trans ?_ (Below.mono (by assumption) (by first | (simp; done) | (simp; omega))) | refine Below.alloc ?_ (by first | (simp; done) | (simp; omega)) _ | refine Below.alloc ?_ (Nat.le_refl _) _ | refine below_drewN ?_ _)) (by omega)))) hl').mono ?_
  rintro e w4 ⟨g4, rfl, r4, b4⟩
  have R4 := Lib.hid (r4.mono (lo' := w3.heap.size + 1) (hi' := w4.heap.size) (by simp) (Nat.le_refl _))
  clear r4
  have t4 : w3.heap.size + 1 ≤ w4.heap.size := by have := b4.size; simp at this; omega
  have BB : Below w3.heap.size w3 w4 := (by repeat (first | exact Below.refl _ _ | refine Below.setCell ?_ (by first | (simp; done) | (simp; omega)) _ | refine Below.trans ?_ (Below.mono (by assumption) (by first | (simp; done) | (simp; omega))) | refine Below.alloc ?_ (by first | (simp; done) | (simp; omega)) _ | refine Below.alloc ?_ (Nat.le_refl _) _ | refine below_drewN ?_ _))
  replace EE := Lib.hid (EE.out.trans (BB.mono (by omega)))
  replace K0 := Lib.hid (At3.below K0.out BB (by omega))
  replace R3 := Lib.hid (R3.out.below BB)
  have K8 : RowKit.Hid (At3 w4 w3.heap.size (.int .i64 x') (.int .i64 y') (.slice ao3 n cp3)) := Lib.hid ⟨(b4.cell (p := ⟨w3.heap.size, 0, none⟩) (by simp)).trans (by go_simp), (b4.cell (p := ⟨w3.heap.size, 1, none⟩) (by simp)).trans (by go_simp), (b4.cell (p := ⟨w3.heap.size, 2, none⟩) (by simp)).trans (by go_simp)⟩
  clear BB b4
  go_wp2_with fail
  refine (HI.out _ _ _ (R4.out.below (by repeat (first | exact Below.refl _ _ | refine Below.setCell ?_ (by first | (simp; done) | (simp; omega)) _ | refine Below.trans ?_ (Below.mono (by assumption) (by first | (simp; done) | (simp; omega))) | refine Below.alloc ?_ (by first | (simp; done) | (simp; omega)) _ | refine Below.alloc ?_ (Nat.le_refl _) _ | refine below_drewN ?_ _))).row).mono ?_
  rintro e w5 ⟨ao5, cp5, zs5, rfl, r5, i5, b5⟩
  have R5 := Lib.hid (r5.mono (lo' := w4.heap.size + 1) (hi' := w5.heap.size) (by simp) (Nat.le_refl _))
  have I5 := Lib.hid i5
  clear r5 i5
  have t5 : w4.heap.size + 1 ≤ w5.heap.size := by have := b5.size; simp at this; omega
  have BB : Below w4.heap.size w4 w5 := (by repeat (first | exact Below.refl _ _ | refine Below.setCell ?_ (by first | (simp; done) | (simp; omega)) _ | refine Below.trans ?_ (Below.mono (by assumption) (by first | (simp; done) | (simp; omega))) | refine Below.alloc ?_ (by first | (simp; done) | (simp; omega)) _ | refine Below.alloc ?_ (Nat.le_refl _) _ | refine below_drewN ?_ _))
  replace EE := Lib.hid (EE.out.trans (BB.mono (by omega)))
  replace K0 := Lib.hid (At3.below K0.out BB (by omega))
  replace K8 := Lib.hid (At3.below K8.out BB (by omega))
  replace R3 := Lib.hid (R3.out.below BB)
  replace R4 := Lib.hid (R4.out.below BB)
  have K10 : RowKit.Hid (At3 w5 w4.heap.size (.int .i64 x) (.int .i64 y) (.slice (some ⟨g4, 0, none⟩) len len)) := Lib.hid ⟨(b5.cell (p := ⟨w4.heap.size, 0, none⟩) (by simp)).trans (by go_simp), (b5.cell (p := ⟨w4.heap.size, 1, none⟩) (by simp)).trans (by go_simp), (b5.cell (p := ⟨w4.heap.size, 2, none⟩) (by simp)).trans (by go_simp)⟩
  clear BB b5
  obtain ⟨c80, c81, c82⟩ := K8.out
  have n8 : w3.heap.size ≠ w5.heap.size := by omega
  have m8 : w3.heap.size < w5.heap.size := by omega
  go_wp2_with fail
  clear c80 c81 c82
  refine (eqP2 x' y' _ _ n _ _ zs5 zs3 _ (R5.out.below (by repeat (first | exact Below.refl _ _ | refine Below.setCell ?_ (by first | (simp; done) | (simp; omega)) _ | refine Below.trans ?_ (Below.mono (by assumption) (by first | (simp; done) | (simp; omega))) | refine Below.alloc ?_ (by first | (simp; done) | (simp; omega)) _ | refine Below.alloc ?_ (Nat.le_refl _) _ | refine below_drewN ?_ _))).row (R3.out.below (by repeat (first | exact Below.refl _ _ | refine Below.setCell ?_ (by first | (simp; done) | (simp; omega)) _ | refine Below.trans ?_ (Below.mono (by assumption) (by first | (simp; done) | (simp; omega))) | refine Below.alloc ?_ (by first | (simp; done) | (simp; omega)) _ | refine Below.alloc ?_ (Nat.le_refl _) _ | refine below_drewN ?_ _))).row (fun i hi => (I5.out i hi).ab.trans (I3.out i hi).ab.symm)).mono ?_
  rintro e w6 ⟨rfl, b6⟩
  have t6 : w5.heap.size + 1 ≤ w6.heap.size := by have := b6.size; simp at this; omega
  have BB : Below w5.heap.size w5 w6 := (by repeat (first | exact Below.refl _ _ | refine Below.setCell ?_ (by first | (simp; done) | (simp; omega)) _ | refine Below.trans ?_ (Below.mono (by assumption) (by first | (simp; done) | (simp; omega))) | refine Below.alloc ?_ (by first | (simp; done) | (simp; omega)) _ | refine Below.alloc ?_ (Nat.le_refl _) _ | refine below_drewN ?_ _))
  replace EE := Lib.hid (EE.out.trans (BB.mono (by omega)))
  replace K0 := Lib.hid (At3.below K0.out BB (by omega))
  replace K8 := Lib.hid (At3.below K8.out BB (by omega))
  replace K10 := Lib.hid (At3.below K10.out BB (by omega))
  replace R3 := Lib.hid (R3.out.below BB)
  replace R4 := Lib.hid (R4.out.below BB)
  replace R5 := Lib.hid (R5.out.below BB)
  have K11 : RowKit.Hid (At3 w6 w5.heap.size (.int .i64 x') (.int .i64 y') (.slice ao5 n cp5)) := Lib.hid ⟨(b6.cell (p := ⟨w5.heap.size, 0, none⟩) (by simp)).trans (by go_simp), (b6.cell (p := ⟨w5.heap.size, 1, none⟩) (by simp)).trans (by go_simp), (b6.cell (p := ⟨w5.heap.size, 2, none⟩) (by simp)).trans (by go_simp)⟩
  clear BB b6
  clear n3 m3 n8 m8
  go_wp2_with fail
  refine wp_region_all (by kernel_rfl) (by kernel_rfl) 5 (by kernel_rfl) (fun _ v => ⟨#[.agg #[.int .i64 x, .int .i64 y, .slice a len cap], .int .i64 rn, .pointer (some ⟨w.heap.size, 0, none⟩), undef, .bool false, .int .i64 (1048576 - (len : Int)), .pointer (some ⟨w3.heap.size, 0, none⟩), .bool ok, .pointer (some ⟨w4.heap.size, 0, none⟩), .pointer (some ⟨w5.heap.size, 0, none⟩), .bool ok, undef, undef, undef, undef, undef, .agg #[.int .i64 x, .int .i64 y, .slice a len cap], .int .i64 1048576, .int .i64 (1048576 - (len : Int)), .int .i64 (1048576 - (len : Int)), .bool (decide ((1048576 - (len : Int)) < 0)), .tuple #[.agg #[.int .i64 x', .int .i64 y', .slice ao3 n cp3], .bool ok], .agg #[.int .i64 x, .int .i64 y, .slice a len cap], .agg #[.int .i64 x, .int .i64 y, .slice (some ⟨g2, 0, none⟩) len len], .int .i64 rn, .tuple #[.agg #[.int .i64 x', .int .i64 y', .slice ao3 n cp3], .bool ok], .agg #[.int .i64 x', .int .i64 y', .slice ao3 n cp3], .bool ok, .agg #[.int .i64 x, .int .i64 y, .slice a len cap], .agg #[.int .i64 x, .int .i64 y, .slice (some ⟨g4, 0, none⟩) len len], .tuple #[.agg #[.int .i64 x', .int .i64 y', .slice ao5 n cp5], .bool ok], .agg #[.int .i64 x, .int .i64 y, .slice (some ⟨g4, 0, none⟩) len len], .int .i64 rn, .tuple #[.agg #[.int .i64 x', .int .i64 y', .slice ao5 n cp5], .bool ok], .agg #[.int .i64 x', .int .i64 y', .slice ao5 n cp5], .bool ok, .agg #[.int .i64 x', .int .i64 y', .slice ao5 n cp5], .agg #[.int .i64 x', .int .i64 y', .slice ao3 n cp3], .bool true, .bool false, .bool false, .bool ok, .bool ok, .bool false, .bool false, v 0, v 1, v 2, v 3, v 4, undef, undef, undef, undef, undef, undef, undef, undef, undef, undef, undef, undef, undef, undef, undef, undef, undef, undef, undef, undef, undef, undef, undef, undef, undef, undef, undef, undef, undef, undef, undef, undef, undef, undef, undef, undef, undef, undef, undef, undef, undef, undef, undef, undef, undef, undef, undef, undef, undef, undef, undef], []⟩)
    (fun W => Below w6.heap.size w6 W)
    (fun j W s => match j with | 0 => s = .agg #[.int .i64 x, .int .i64 y, .slice (some ⟨g4, 0, none⟩) len len] | 1 => s = .agg #[.int .i64 x, .int .i64 y, .slice a len cap] | 2 => ∃ g, s = .agg #[.int .i64 x, .int .i64 y, .slice (some ⟨g, 0, none⟩) len len] ∧ IsFRow W (some ⟨g, 0, none⟩) len len zs | 3 => s = .bool true | 4 => s = .bool false | _ => True) ?_ ?_ (Below.refl _ _).drew ?_ ?_
  · intro j W W' v hb
    rcases j with _ | _ | _ | _ | _ | j
    · exact id
    · exact id
    · rintro ⟨g, e, f⟩
      exact ⟨g, e, IsFRow.below f hb⟩
    · exact id
    · exact id
    · exact id
  · exact ⟨fun _ => undef, rfl⟩
  · intro i o ho hlt vals W hG hd
    rcases i with _ | _ | _ | _ | _ | i
    · refine wpOp_run ho (by cases Option.some.inj ho; rfl) ?_
      cases Option.some.inj ho
      obtain ⟨c0, c1, c2⟩ := At3.below K10.out hG (by omega)
      go_simp
      exact ⟨_, rfl, Below.refl _ _, hG, rfl⟩
    · refine wpOp_run ho (by cases Option.some.inj ho; rfl) ?_
      cases Option.some.inj ho
      obtain ⟨c0, c1, c2⟩ := At3.below K0.out hG (by omega)
      go_simp
      exact ⟨_, rfl, Below.refl _ _, hG, rfl⟩
    · refine wpOp_run ho (by cases Option.some.inj ho; rfl) ?_
      cases Option.some.inj ho
      have hc := toPicture x y a len cap zs W (IsFRow.below H.out (EE.out.trans (hG.mono EE.out.size))) hl'
      rw [← (show vals 1 = .agg #[.int .i64 x, .int .i64 y, .slice a len cap] from hd ⟨1, .data⟩ (by simp) rfl)] at hc
      go_simp
      refine hc.mono ?_
      rintro e w' ⟨g, rfl, f, hb⟩
      exact ⟨_, rfl, hb, hG.trans (hb.mono hG.size), g, rfl, f⟩
    · refine wpOp_run ho (by cases Option.some.inj ho; rfl) ?_
      cases Option.some.inj ho
      obtain ⟨g, e2, f⟩ := (show ∃ g, vals 2 = .agg #[.int .i64 x, .int .i64 y, .slice (some ⟨g, 0, none⟩) len len] ∧ IsFRow W (some ⟨g, 0, none⟩) len len zs from hd ⟨2, .data⟩ (by simp) rfl)
      have hc := eqPicture x y _ _ len len len zs W (R4.out.below hG).row f
      rw [← e2, ← (show vals 0 = .agg #[.int .i64 x, .int .i64 y, .slice (some ⟨g4, 0, none⟩) len len] from hd ⟨0, .data⟩ (by simp) rfl)] at hc
      clear e2 f
      go_simp
      refine hc.mono ?_
      rintro e w' ⟨rfl, hb⟩
      exact ⟨_, rfl, hb, hG.trans (hb.mono hG.size), rfl⟩
    · refine wpOp_run ho (by cases Option.some.inj ho; rfl) ?_
      cases Option.some.inj ho
      have e3 : vals 3 = .bool true := hd ⟨3, .data⟩ (by simp) rfl
      go_simp
      exact ⟨.bool false, by simp [upd_at, e3], Below.refl _ _, hG, rfl⟩
    · omega
  · intro vals w7 b7 hR
    have e4 : vals 4 = .bool false := hR 4 (by omega)
    simp only [Exit.then, e4]
    clear hR
    have t7 : w6.heap.size ≤ w7.heap.size := b7.size
    have BB : Below w6.heap.size w6 w7 := (by repeat (first | exact Below.refl _ _ | refine Below.setCell ?_ (by first | (simp; done) | (simp; omega)) _ | refine Below.trans ?_ (Below.mono (by assumption) (by first | (simp; done) | (simp; omega))) | refine Below.alloc ?_ (by first | (simp; done) | (simp; omega)) _ | refine Below.alloc ?_ (Nat.le_refl _) _ | refine below_drewN ?_ _))
    replace EE := Lib.hid (EE.out.trans (BB.mono (by omega)))
    replace K0 := Lib.hid (At3.below K0.out BB (by omega))
    replace K8 := Lib.hid (At3.below K8.out BB (by omega))
    replace K10 := Lib.hid (At3.below K10.out BB (by omega))
    replace K11 := Lib.hid (At3.below K11.out BB (by omega))
    replace R3 := Lib.hid (R3.out.below BB)
    replace R4 := Lib.hid (R4.out.below BB)
    replace R5 := Lib.hid (R5.out.below BB)
    clear BB b7
    obtain ⟨c100, c101, c102⟩ := K10.out
    go_wp2_with fail
    clear c100 c101 c102
    refine (markPicture x y _ len len _ _ zs 1 _ R4.out hl' (by omega) (by omega)).mono ?_
    rintro e w8 ⟨rfl, r8, b8⟩
    clear r8
    clear R4
    have t8 : w7.heap.size ≤ w8.heap.size := b8.size
    replace EE := Lib.hid (EE.out.trans (b8.below (by omega) (by omega)))
    replace K0 := Lib.hid (At3.only K0.out b8 (by omega) (by omega))
    replace K8 := Lib.hid (At3.only K8.out b8 (by omega) (by omega))
    replace K10 := Lib.hid (At3.only K10.out b8 (by omega) (by omega))
    replace K11 := Lib.hid (At3.only K11.out b8 (by omega) (by omega))
    replace R3 := Lib.hid (R3.out.only b8 (by omega))
    replace R5 := Lib.hid (R5.out.only b8 (by omega))
    clear b8
    obtain ⟨c110, c111, c112⟩ := K11.out
    obtain ⟨c80, c81, c82⟩ := K8.out
    go_wp2_with fail
    clear c110 c111 c112 c80 c81 c82
    refine (eqP2 x' y' _ _ n _ _ zs5 zs3 _ R5.out.row R3.out.row (fun i hi => (I5.out i hi).ab.trans (I3.out i hi).ab.symm)).mono ?_
    rintro e w9 ⟨rfl, b9⟩
    have t9 : w8.heap.size ≤ w9.heap.size := b9.size
    have BB : Below w8.heap.size w8 w9 := (by repeat (first | exact Below.refl _ _ | refine Below.setCell ?_ (by first | (simp; done) | (simp; omega)) _ | refine Below.trans ?_ (Below.mono (by assumption) (by first | (simp; done) | (simp; omega))) | refine Below.alloc ?_ (by first | (simp; done) | (simp; omega)) _ | refine Below.alloc ?_ (Nat.le_refl _) _ | refine below_drewN ?_ _))
    replace EE := Lib.hid (EE.out.trans (BB.mono (by omega)))
    replace K0 := Lib.hid (At3.below K0.out BB (by omega))
    replace K8 := Lib.hid (At3.below K8.out BB (by omega))
    replace K10 := Lib.hid (At3.below K10.out BB (by omega))
    replace K11 := Lib.hid (At3.below K11.out BB (by omega))
    replace R3 := Lib.hid (R3.out.below BB)
    replace R5 := Lib.hid (R5.out.below BB)
    clear BB b9
    obtain ⟨c110, c111, c112⟩ := K11.out
    go_wp2_with fail
    clear c110 c111 c112
    refine (markPicture x' y' _ n _ _ _ zs5 1 _ R5.out (by omega) (by omega) (by omega)).mono ?_
    rintro e w10 ⟨rfl, r10, b10⟩
    have R10 := Lib.hid r10
    clear r10 R5
    have t10 : w9.heap.size ≤ w10.heap.size := b10.size
    replace EE := Lib.hid (EE.out.trans (b10.below (by omega) (by omega)))
    replace K0 := Lib.hid (At3.only K0.out b10 (by omega) (by omega))
    replace K8 := Lib.hid (At3.only K8.out b10 (by omega) (by omega))
    replace K10 := Lib.hid (At3.only K10.out b10 (by omega) (by omega))
    replace K11 := Lib.hid (At3.only K11.out b10 (by omega) (by omega))
    replace R3 := Lib.hid (R3.out.only b10 (by omega))
    clear b10
    obtain ⟨c110, c111, c112⟩ := K11.out
    go_wp2_with fail
    clear c110 c111 c112
    refine (heldPicture x' y' _ n _ _ _ 1 _ R10.out (by omega) (by omega) (by omega)).mono ?_
    rintro e w11 ⟨rfl, b11⟩
    have t11 : w10.heap.size ≤ w11.heap.size := b11.size
    have BB : Below w10.heap.size w10 w11 := (by repeat (first | exact Below.refl _ _ | refine Below.setCell ?_ (by first | (simp; done) | (simp; omega)) _ | refine Below.trans ?_ (Below.mono (by assumption) (by first | (simp; done) | (simp; omega))) | refine Below.alloc ?_ (by first | (simp; done) | (simp; omega)) _ | refine Below.alloc ?_ (Nat.le_refl _) _ | refine below_drewN ?_ _))
    replace EE := Lib.hid (EE.out.trans (BB.mono (by omega)))
    replace K0 := Lib.hid (At3.below K0.out BB (by omega))
    replace K8 := Lib.hid (At3.below K8.out BB (by omega))
    replace K10 := Lib.hid (At3.below K10.out BB (by omega))
    replace K11 := Lib.hid (At3.below K11.out BB (by omega))
    replace R3 := Lib.hid (R3.out.below BB)
    replace R10 := Lib.hid (R10.out.below BB)
    clear BB b11
    obtain ⟨c00, c01, c02⟩ := K0.out
    go_wp2_with fail
    clear c00 c01 c02
    refine (toPicture_own x y a len cap zs _ (IsFRow.below H.out EE.out) hl').mono ?_
    rintro e w12 ⟨g12, rfl, r12, b12⟩
    have R12 := Lib.hid r12
    clear r12
    have t12 : w11.heap.size ≤ w12.heap.size := b12.size
    have BB : Below w11.heap.size w11 w12 := (by repeat (first | exact Below.refl _ _ | refine Below.setCell ?_ (by first | (simp; done) | (simp; omega)) _ | refine Below.trans ?_ (Below.mono (by assumption) (by first | (simp; done) | (simp; omega))) | refine Below.alloc ?_ (by first | (simp; done) | (simp; omega)) _ | refine Below.alloc ?_ (Nat.le_refl _) _ | refine below_drewN ?_ _))
    replace EE := Lib.hid (EE.out.trans (BB.mono (by omega)))
    replace K0 := Lib.hid (At3.below K0.out BB (by omega))
    replace K8 := Lib.hid (At3.below K8.out BB (by omega))
    replace K10 := Lib.hid (At3.below K10.out BB (by omega))
    replace K11 := Lib.hid (At3.below K11.out BB (by omega))
    replace R3 := Lib.hid (R3.out.below BB)
    replace R10 := Lib.hid (R10.out.below BB)
    clear BB b12
    go_wp2_with fail
    refine (HI.out _ _ _ R12.out.row).mono ?_
    rintro e w13 ⟨ao13, cp13, zs13, rfl, r13, i13, b13⟩
    have R13 := Lib.hid r13
    have I13 := Lib.hid i13
    clear r13 i13 R12
    have t13 : w12.heap.size ≤ w13.heap.size := b13.size
    have BB : Below w12.heap.size w12 w13 := (by repeat (first | exact Below.refl _ _ | refine Below.setCell ?_ (by first | (simp; done) | (simp; omega)) _ | refine Below.trans ?_ (Below.mono (by assumption) (by first | (simp; done) | (simp; omega))) | refine Below.alloc ?_ (by first | (simp; done) | (simp; omega)) _ | refine Below.alloc ?_ (Nat.le_refl _) _ | refine below_drewN ?_ _))
    replace EE := Lib.hid (EE.out.trans (BB.mono (by omega)))
    replace K0 := Lib.hid (At3.below K0.out BB (by omega))
    replace K8 := Lib.hid (At3.below K8.out BB (by omega))
    replace K10 := Lib.hid (At3.below K10.out BB (by omega))
    replace K11 := Lib.hid (At3.below K11.out BB (by omega))
    replace R3 := Lib.hid (R3.out.below BB)
    replace R10 := Lib.hid (R10.out.below BB)
    clear BB b13
    obtain ⟨c80, c81, c82⟩ := K8.out
    have n8 : w3.heap.size ≠ w13.heap.size := by omega
    have m8 : w3.heap.size < w13.heap.size := by omega
    go_wp2_with fail
    clear c80 c81 c82
    refine (eqP2 x' y' _ _ n _ _ zs13 zs3 _ (R13.out.below (by repeat (first | exact Below.refl _ _ | refine Below.setCell ?_ (by first | (simp; done) | (simp; omega)) _ | refine Below.trans ?_ (Below.mono (by assumption) (by first | (simp; done) | (simp; omega))) | refine Below.alloc ?_ (by first | (simp; done) | (simp; omega)) _ | refine Below.alloc ?_ (Nat.le_refl _) _ | refine below_drewN ?_ _))).row (R3.out.below (by repeat (first | exact Below.refl _ _ | refine Below.setCell ?_ (by first | (simp; done) | (simp; omega)) _ | refine Below.trans ?_ (Below.mono (by assumption) (by first | (simp; done) | (simp; omega))) | refine Below.alloc ?_ (by first | (simp; done) | (simp; omega)) _ | refine Below.alloc ?_ (Nat.le_refl _) _ | refine below_drewN ?_ _))).row (fun i hi => (I13.out i hi).ab.trans (I3.out i hi).ab.symm)).mono ?_
    rintro e w14 ⟨rfl, b14⟩
    have t14 : w13.heap.size + 1 ≤ w14.heap.size := by have := b14.size; simp at this; omega
    have BB : Below w13.heap.size w13 w14 := (by repeat (first | exact Below.refl _ _ | refine Below.setCell ?_ (by first | (simp; done) | (simp; omega)) _ | refine Below.trans ?_ (Below.mono (by assumption) (by first | (simp; done) | (simp; omega))) | refine Below.alloc ?_ (by first | (simp; done) | (simp; omega)) _ | refine Below.alloc ?_ (Nat.le_refl _) _ | refine below_drewN ?_ _))
    replace EE := Lib.hid (EE.out.trans (BB.mono (by omega)))
    replace K0 := Lib.hid (At3.below K0.out BB (by omega))
    replace K8 := Lib.hid (At3.below K8.out BB (by omega))
    replace K10 := Lib.hid (At3.below K10.out BB (by omega))
    replace K11 := Lib.hid (At3.below K11.out BB (by omega))
    replace R3 := Lib.hid (R3.out.below BB)
    replace R10 := Lib.hid (R10.out.below BB)
    replace R13 := Lib.hid (R13.out.below BB)
    have K16 : RowKit.Hid (At3 w14 w13.heap.size (.int .i64 x') (.int .i64 y') (.slice ao13 n cp13)) := Lib.hid ⟨(b14.cell (p := ⟨w13.heap.size, 0, none⟩) (by simp)).trans (by go_simp), (b14.cell (p := ⟨w13.heap.size, 1, none⟩) (by simp)).trans (by go_simp), (b14.cell (p := ⟨w13.heap.size, 2, none⟩) (by simp)).trans (by go_simp)⟩
    clear BB b14
    obtain ⟨c110, c111, c112⟩ := K11.out
    go_wp2_with fail
    clear c110 c111 c112
    refine (heldPicture x' y' _ n _ _ _ 1 _ R10.out (by omega) (by omega) (by omega)).mono ?_
    rintro e w15 ⟨rfl, b15⟩
    have t15 : w14.heap.size ≤ w15.heap.size := b15.size
    have BB : Below w14.heap.size w14 w15 := (by repeat (first | exact Below.refl _ _ | refine Below.setCell ?_ (by first | (simp; done) | (simp; omega)) _ | refine Below.trans ?_ (Below.mono (by assumption) (by first | (simp; done) | (simp; omega))) | refine Below.alloc ?_ (by first | (simp; done) | (simp; omega)) _ | refine Below.alloc ?_ (Nat.le_refl _) _ | refine below_drewN ?_ _))
    replace EE := Lib.hid (EE.out.trans (BB.mono (by omega)))
    replace K0 := Lib.hid (At3.below K0.out BB (by omega))
    replace K8 := Lib.hid (At3.below K8.out BB (by omega))
    replace K10 := Lib.hid (At3.below K10.out BB (by omega))
    replace K11 := Lib.hid (At3.below K11.out BB (by omega))
    replace K16 := Lib.hid (At3.below K16.out BB (by omega))
    replace R3 := Lib.hid (R3.out.below BB)
    replace R10 := Lib.hid (R10.out.below BB)
    replace R13 := Lib.hid (R13.out.below BB)
    clear BB b15
    go_wp2_with fail
    go_ret
    exact ⟨rfl, EE.out⟩
end Go.Proofs.Ytacdnkpadloheaa
