/-
  FlatPicture of a picture: the specification's walk, the program's walk, that they agree, and the law's walk.
-/
import Derived.Test.YtbjahmfijlkajaaImpl
import Derived.Test.YtbjahmfijlkajaaSeq
namespace Go.Proofs.Ytbjahmfijlkajaa
open Go.RowKit Go.FL
attribute [local irreducible] Oper.wp in
theorem spec_FlatPicture_ok (K1 K2 M g : Nat) (w : World) (hg : g < 4294967296) (hs : sizeB K1 K2 = true) (hK1 : 1 ≤ K1 ∧ K1 ≤ 24) (hK2 : 1 ≤ K2 ∧ K2 ≤ 24) (hM : M = K2 * K1) :
    Calls Try.prog 17 #[.int .i64 K1, .int .i64 K2, .float .f32 g] w (RetP K1 K2 M true (fun _ => ab .f32 g) w) := by
  have hM6 : M ≤ 576 := by rw [hM]; exact Nat.mul_le_mul hK2.2 hK1.2
  have hw : IntKind.i64.wrap ((K1 : Int) * K2) = (M : Int) := by
    have e : (K1 : Int) * K2 = ((K2 * K1 : Nat) : Int) := by rw [Nat.mul_comm]; simp
    rw [IntKind.wrap_i64, e, ← hM]; omega
  obtain ⟨hK11, hK12⟩ := hK1
  obtain ⟨hK21, hK22⟩ := hK2
  have hG := Lib.hid (is32 hg)
  clear hM hg
  obtain ⟨OS, HOE0⟩ : ∃ f : Nat → Option Nat, f = (fun _ => ab .f32 g) := ⟨_, rfl⟩
  have HOE := Lib.hid HOE0
  clear HOE0
  rw [show (fun _ : Nat => ab .f32 g) = OS from HOE.out.symm]
  go_enter Try.func17, Try.ntmps17
  go_wp2_with (first | (go_at_call 41; refine (spec_l02Size _ _ _).mono ?_; rintro e w' ⟨rfl, rfl⟩) | fail)
  refine (spec_l02New K1 K2 _ OS).mono ?_
  rintro e w1 ⟨nb, rfl, ho1, b1⟩
  have BB : Below (w.heap.size + 1) (w.alloc (.cells #[.int .i64 0, .int .i64 0, .slice none 0 0] 27)) w1 := b1.mono (by simp)
  have hs1 : w.heap.size + 1 ≤ w1.heap.size := by have := BB.size; simp at this; omega
  have HO1 := Lib.hid ho1
  have HBB := Lib.hid BB
  clear ho1 b1 BB
  go_wp2_with fail
  go_loopw [9] (fun i wr => ∃ x : Nat, ∃ v, x ≤ M ∧ i = .int .i64 x ∧ wr.heap[w1.heap.size]? = some (.cells #[.int .i64 K1, .int .i64 K2, v] 27 (0, 0)) ∧ OwnF wr (w.heap.size + 1) v x OS ∧ Below (w.heap.size + 1) (w.alloc (.cells #[.int .i64 0, .int .i64 0, .slice none 0 0] 27)) wr) (fun i _ => M - (intOf i).toNat)
  case atStart => exact ⟨0, _, by omega, rfl, heap_alloc_new w1 _, (OwnF.mono (HO1.out.below (Below.alloc (Below.refl _ _) (Nat.le_refl _) _)) (by first | (simp; done) | (simp; omega) | omega)), Below.alloc HBB.out hs1 _⟩
  case round =>
    obtain ⟨x, v, hx, rfl, hbx, ho, hb⟩ := hrel
    obtain ⟨ao, cp, rfl⟩ := ho.shape
    have HO := Lib.hid ho
    have HB := Lib.hid hb
    have HX := Lib.hid hbx
    clear ho hb hbx
    by_cases hlx : x < M
    · have hn : x ≤ 1000 := by omega
      have hsr : w.heap.size + 1 ≤ wr.heap.size := by have := HB.out.size; simp at this; omega
      have ob2 := box_cell HX.out 2
      go_wp2_with (first | (at_builtin; refine wpList_append1 rfl (.tmp 26) (.tmp 28) rfl rfl rfl (HO.out.below (by repeat (first | exact Below.refl _ _ | refine Below.setCell ?_ (by first | (simp; done) | (simp; omega)) _ | refine Below.trans ?_ (Below.mono (by assumption) (by first | (simp; done) | (simp; omega))) | refine Below.alloc ?_ (by first | (simp; done) | (simp; omega)) _ | refine Below.alloc ?_ (Nat.le_refl _) _ | refine below_drewN ?_ _))) (by first | omega | (simp; done) | (simp; omega)) hn (by go_simp; rfl) (by rw [HOE.out]; exact hG.out) ?_; intro v' w' h7 hgr; obtain ⟨hxn, hbn⟩ := own_step HO.out (by repeat (first | exact Below.refl _ _ | refine Below.setCell ?_ (by first | (simp; done) | (simp; omega)) _ | refine Below.trans ?_ (Below.mono (by assumption) (by first | (simp; done) | (simp; omega))) | refine Below.alloc ?_ (by first | (simp; done) | (simp; omega)) _ | refine Below.alloc ?_ (Nat.le_refl _) _ | refine below_drewN ?_ _)) hgr HX.out HB.out (by first | (simp; done) | (simp; omega)); obtain ⟨a7, c7, rfl⟩ := h7.shape; have hcx := box_cell hxn 2; have hfx := box_free hxn 2))
      go_roundw
      case rel => exact ⟨x + 1, .slice a7 (x + 1) c7, by omega, rfl, box_set (i := 2) (.slice a7 (x + 1) c7) hxn, h7.setBox hxn _ _, Below.setCell hbn (by omega) _⟩
      case measure => simp [intOf]; omega
    · obtain rfl : M = x := by omega
      have hz : wr.heap[w.heap.size]? = some (.cells #[.int .i64 0, .int .i64 0, .slice none 0 0] 27 (0, 0)) := (HB.out.block (w.heap.size) (by omega)).trans (heap_alloc_new w _)
      have z0 := box_cell hz 0
      have z1 := box_cell hz 1
      have z2 := box_cell hz 2
      have f0 := box_free hz 0
      have f1 := box_free hz 1
      have f2 := box_free hz 2
      have c0 := box_cell HX.out 0
      have c1 := box_cell HX.out 1
      have c2 := box_cell HX.out 2
      go_wp2_with fail
      have BW : Below w.heap.size w wr := (Below.alloc (Below.refl _ _) (Nat.le_refl _) _).trans (HB.out.mono (by omega))
      have hend := OwnF.setBox (OwnF.setBox (OwnF.setBox (HO.out.mono (base' := w.heap.size) (by omega)) hz 0 (.int .i64 K1)) (box_set _ hz) 1 (.int .i64 K2)) (box_set _ (box_set _ hz)) 2 (.slice ao M cp)
      obtain ⟨ao', cp', zs', e, hro, his⟩ := hend.orow (by omega)
      simp only [Value.slice.injEq, true_and] at e
      obtain ⟨rfl, rfl⟩ := e
      refine bodyPost_ret (v := .tuple #[.agg #[.int .i64 K1, .int .i64 K2, .slice ao M cp], .bool true]) ?_ rfl ⟨ao, cp, zs', rfl, hro, his, ?_⟩
      · simp [results, Try.results17, go_sem, z0, z1, z2]
      · exact Below.setCell (Below.setCell (Below.setCell BW (by simp) _) (by simp) _) (by simp) _

theorem spec_FlatPicture_bad (k1 k2 : Int) (g : Nat) (w : World) (os : Nat → Option Nat) (hs : sizeB k1 k2 = false) : Calls Try.prog 17 #[.int .i64 k1, .int .i64 k2, .float .f32 g] w (RetP 0 0 0 false os w) := by
  go_enter Try.func17, Try.ntmps17
  go_wp2_with (first | (go_at_call 41; refine (spec_l02Size _ _ _).mono ?_; rintro e w' ⟨rfl, rfl⟩) | fail)
  refine bodyPost_ret (v := .tuple #[.agg #[.int .i64 0, .int .i64 0, .slice none 0 0], .bool false]) ?_ rfl (RetP.none os rfl (by repeat (first | exact Below.refl _ _ | refine Below.setCell ?_ (by first | (simp; done) | (simp; omega)) _ | refine Below.trans ?_ (Below.mono (by assumption) (by first | (simp; done) | (simp; omega))) | refine Below.alloc ?_ (by first | (simp; done) | (simp; omega)) _ | refine Below.alloc ?_ (Nat.le_refl _) _ | refine below_drewN ?_ _)))
  simp [results, Try.results17, go_sem]
theorem impl_FlatPicture_bad (k1 k2 : Int) (g : Nat) (w : World) (os : Nat → Option Nat) (hs : sizeB k1 k2 = false) : Calls Try.prog 18 #[.int .i64 k1, .int .i64 k2, .float .f32 g] w (RetP 0 0 0 false os w) := by
  go_enter Try.func18, Try.ntmps18
  go_wp2_with (first | (go_at_call 39; refine (impl_sizeOk _ _ _).mono ?_; rintro e w' ⟨rfl, rfl⟩) | fail)
  refine bodyPost_ret (v := .tuple #[.agg #[.int .i64 0, .int .i64 0, .slice none 0 0], .bool false]) ?_ rfl (RetP.none os rfl (by repeat (first | exact Below.refl _ _ | refine Below.setCell ?_ (by first | (simp; done) | (simp; omega)) _ | refine Below.trans ?_ (Below.mono (by assumption) (by first | (simp; done) | (simp; omega))) | refine Below.alloc ?_ (by first | (simp; done) | (simp; omega)) _ | refine Below.alloc ?_ (Nat.le_refl _) _ | refine below_drewN ?_ _)))
  simp [results, Try.results18, go_sem]

theorem Flat_clos (q g : Nat) (w : World) (hg : g < 4294967296) (d0 : w.cell? ⟨q, 0, none⟩ = some (.float .f32 g)) (x y : Nat) : Calls Try.prog 44 #[.int .i64 x, .int .i64 y, .pointer (some ⟨q, 0, none⟩)] w (RetF .f32 ((fun (_ _ : Nat) => ab .f32 g) x y) w) := by
  go_enter Try.func44, Try.ntmps44
  go_wp2
  go_ret
  exact ⟨g, 0, is32 hg, rfl, rfl⟩

theorem impl_FlatPicture_ok (K1 K2 M g : Nat) (w : World) (hg : g < 4294967296) (hs : sizeB K1 K2 = true) (hK1 : 1 ≤ K1 ∧ K1 ≤ 24) (hK2 : 1 ≤ K2 ∧ K2 ≤ 24) (hM : M = K2 * K1) :
    Calls Try.prog 18 #[.int .i64 K1, .int .i64 K2, .float .f32 g] w (RetP K1 K2 M true (fun _ => ab .f32 g) w) := by
  have hn : K2 * K1 ≤ 1000 := Nat.le_trans (Nat.mul_le_mul hK2.2 hK1.2) (by omega)
  rw [hM]
  have HN := Lib.hid hn
  clear hn hM
  have hmf : ∀ (fn : Fn) (first cap : Array Value) (w : World), (Instr.makeFunc fn first cap).run Try.prog w = .ok (.func fn first cap) w := fun _ _ _ _ => rfl
  go_enter Try.func18, Try.ntmps18
  go_wp2_with (first | (go_at_call 39; refine (impl_sizeOk _ _ _).mono ?_; rintro e w' ⟨rfl, rfl⟩) | fail)
  have hk : ∀ args W', (callFunc 44 args).run Try.prog W' = .ok (.enter 44 args) W' := fun args W' => by go_simp
  have hf : ∀ x y : Nat, x < K1 → y < K2 → ∀ w', Below ((w.alloc (.cells #[.float .f32 g] 31)).alloc (.cells #[.int .i64 0, .int .i64 0, .slice none 0 0] 27)).heap.size ((w.alloc (.cells #[.float .f32 g] 31)).alloc (.cells #[.int .i64 0, .int .i64 0, .slice none 0 0] 27)) w' → Calls Try.prog 44 (#[.int .i64 x, .int .i64 y] ++ #[.pointer (some ⟨w.heap.size, 0, none⟩)]) w' (RetF .f32 ((fun (_ _ : Nat) => ab .f32 g) x y) w') := by
    intro x y hx hy w' hb
    exact Flat_clos w.heap.size g w' hg ((hb.cell (p := ⟨w.heap.size, 0, none⟩) (by simp; try omega)).trans (by go_simp)) x y
  have hq := impl_made K1 K2 hK1.2 hK2.2 44 #[.pointer (some ⟨w.heap.size, 0, none⟩)] (fun (_ _ : Nat) => ab .f32 g) ((w.alloc (.cells #[.float .f32 g] 31)).alloc (.cells #[.int .i64 0, .int .i64 0, .slice none 0 0] 27)) hk hf
  refine hq.mono ?_
  clear hq hf hk
  rintro e w2 ⟨v, rfl, ho, b2⟩
  obtain ⟨ao, c2, rfl⟩ := ho.shape
  have hz : w2.heap[w.heap.size + 1]? = some (.cells #[.int .i64 0, .int .i64 0, .slice none 0 0] 27 (0, 0)) := (b2.block (w.heap.size + 1) (by simp)).trans (by have h := heap_alloc_new (w.alloc (.cells #[.float .f32 g] 31)) (.cells #[.int .i64 0, .int .i64 0, .slice none 0 0] 27); rw [show (w.alloc (.cells #[.float .f32 g] 31)).heap.size = w.heap.size + 1 from by simp] at h; exact h)
  have z0 := box_cell hz 0
  have z1 := box_cell hz 1
  have z2 := box_cell hz 2
  have f0 := box_free hz 0
  have f1 := box_free hz 1
  have f2 := box_free hz 2
  have HO := Lib.hid (ho.mono (base' := w.heap.size) (by simp; try omega))
  have BW : Below w.heap.size w w2 := (by repeat (first | exact Below.refl _ _ | refine Below.setCell ?_ (by first | (simp; done) | (simp; omega)) _ | refine Below.trans ?_ (Below.mono (by assumption) (by first | (simp; done) | (simp; omega))) | refine Below.alloc ?_ (by first | (simp; done) | (simp; omega)) _ | refine Below.alloc ?_ (Nat.le_refl _) _ | refine below_drewN ?_ _))
  have HB := Lib.hid BW
  clear ho b2 BW
  go_wp2_with fail
  refine bodyPost_ret (v := .tuple #[.agg #[.int .i64 K1, .int .i64 K2, .slice ao (K2 * K1) c2], .bool true]) ?_ rfl (RetP.congr (OwnF.retp (OwnF.setBox (OwnF.setBox (OwnF.setBox HO.out hz _ _) (box_set _ hz) _ _) (box_set _ (box_set _ hz)) _ _) HN.out (Below.setCell (Below.setCell (Below.setCell HB.out (by simp) _) (by simp) _) (by simp) _)) (fun _ _ => rfl))
  simp [results, Try.results18, go_sem, z0, z1, z2]

theorem FlatPicture_pair (k1 k2 : Int) (g : Nat) (hg : g < 4294967296) : ∃ (x' y' : Int) (n : Nat) (ok : Bool) (os : Nat → Option Nat), n ≤ 1000 ∧
  (∀ W, Calls Try.prog 17 #[.int .i64 k1, .int .i64 k2, .float .f32 g] W (RetP x' y' n ok os W)) ∧
  (∀ W, Calls Try.prog 18 #[.int .i64 k1, .int .i64 k2, .float .f32 g] W (RetP x' y' n ok os W)) := by
  cases hs : sizeB k1 k2 with
  | false => exact ⟨0, 0, 0, false, fun _ => none, by omega, fun W => spec_FlatPicture_bad k1 k2 g W _ hs, fun W => impl_FlatPicture_bad k1 k2 g W _ hs⟩
  | true =>
    obtain ⟨q1, q2, q3, q4, -, -⟩ := sizeB_bounds hs
    obtain ⟨K1, rfl⟩ := Int.eq_ofNat_of_zero_le (show 0 ≤ k1 by omega)
    obtain ⟨K2, rfl⟩ := Int.eq_ofNat_of_zero_le (show 0 ≤ k2 by omega)
    have hK1 : 1 ≤ K1 ∧ K1 ≤ 24 := by omega
    have hK2 : 1 ≤ K2 ∧ K2 ≤ 24 := by omega
    have hn : K2 * K1 ≤ 1000 := Nat.le_trans (Nat.mul_le_mul hK2.2 hK1.2) (by omega)
    exact ⟨K1, K2, K2 * K1, true, _, hn, fun W => spec_FlatPicture_ok K1 K2 _ g W hg hs hK1 hK2 rfl, fun W => impl_FlatPicture_ok K1 K2 _ g W hg hs hK1 hK2 rfl⟩
attribute [local irreducible] Oper.wp in
theorem FnExactFlatPicture_walk (k1 k2 : Int) (g : Nat) (w : World) (_ : (Lit.int .i64 k1).wf = true) (_ : (Lit.int .i64 k2).wf = true) (hg : (Lit.float .f32 g).wf = true) :
    Calls Try.prog 4 #[.int .i64 k1, .int .i64 k2, .float .f32 g] w fun e w' => e = .returned (.bool true) ∧ Below w.heap.size w w' := by
  have hg' : g < 4294967296 := by have := wf_lt hg; rw [width32] at this; exact this
  obtain ⟨x', y', n, ok, os, hn, hs, hi⟩ := FlatPicture_pair k1 k2 g hg'
  have HS := Lib.hid hs
  have HI := Lib.hid hi
  clear hs hi hg hg'
  go_enter Try.func4, Try.ntmps4
  go_wp2_with fail
  refine (HS.out _).mono ?_
  rintro e w3 ⟨ao3, cp3, zs3, rfl, r3, i3, b3⟩
  have R3 := Lib.hid (r3.mono (lo' := w.heap.size) (hi' := w3.heap.size) (by first | omega | simp) (Nat.le_refl _))
  have I3 := Lib.hid i3
  clear r3 i3
  have t3 : w.heap.size ≤ w3.heap.size := by have := b3.size; first | omega | (simp at this; omega)
  have BB : Below w.heap.size w w3 := (by repeat (first | exact Below.refl _ _ | refine Below.setCell ?_ (by first | (simp; done) | (simp; omega)) _ | refine Below.trans ?_ (Below.mono (by assumption) (by first | (simp; done) | (simp; omega))) | refine Below.alloc ?_ (by first | (simp; done) | (simp; omega)) _ | refine Below.alloc ?_ (Nat.le_refl _) _ | refine below_drewN ?_ _))
  have EE := Lib.hid BB
  clear BB b3
  go_wp2_with fail
  refine (HI.out _).mono ?_
  rintro e w5 ⟨ao5, cp5, zs5, rfl, r5, i5, b5⟩
  have R5 := Lib.hid (r5.mono (lo' := w3.heap.size + 1) (hi' := w5.heap.size) (by simp) (Nat.le_refl _))
  have I5 := Lib.hid i5
  clear r5 i5
  have t5 : w3.heap.size + 1 ≤ w5.heap.size := by have := b5.size; first | omega | (simp at this; omega)
  have BB : Below w3.heap.size w3 w5 := (by repeat (first | exact Below.refl _ _ | refine Below.setCell ?_ (by first | (simp; done) | (simp; omega)) _ | refine Below.trans ?_ (Below.mono (by assumption) (by first | (simp; done) | (simp; omega))) | refine Below.alloc ?_ (by first | (simp; done) | (simp; omega)) _ | refine Below.alloc ?_ (Nat.le_refl _) _ | refine below_drewN ?_ _))
  replace EE := Lib.hid (EE.out.trans (BB.mono (by omega)))
  replace R3 := Lib.hid (R3.out.below BB)
  have K8 : RowKit.Hid (At3 w5 w3.heap.size (.int .i64 x') (.int .i64 y') (.slice ao3 n cp3)) := Lib.hid ⟨(b5.cell (p := ⟨w3.heap.size, 0, none⟩) (by simp)).trans (by go_simp), (b5.cell (p := ⟨w3.heap.size, 1, none⟩) (by simp)).trans (by go_simp), (b5.cell (p := ⟨w3.heap.size, 2, none⟩) (by simp)).trans (by go_simp)⟩
  clear BB b5
  obtain ⟨c80, c81, c82⟩ := K8.out
  have n8 : w3.heap.size ≠ w5.heap.size := by omega
  have m8 : w3.heap.size < w5.heap.size := by omega
  go_wp2_with fail
  clear c80 c81 c82
  refine (eqP2 x' y' _ _ n _ _ zs5 zs3 _ (R5.out.below (by repeat (first | exact Below.refl _ _ | refine Below.setCell ?_ (by first | (simp; done) | (simp; omega)) _ | refine Below.trans ?_ (Below.mono (by assumption) (by first | (simp; done) | (simp; omega))) | refine Below.alloc ?_ (by first | (simp; done) | (simp; omega)) _ | refine Below.alloc ?_ (Nat.le_refl _) _ | refine below_drewN ?_ _))).row (R3.out.below (by repeat (first | exact Below.refl _ _ | refine Below.setCell ?_ (by first | (simp; done) | (simp; omega)) _ | refine Below.trans ?_ (Below.mono (by assumption) (by first | (simp; done) | (simp; omega))) | refine Below.alloc ?_ (by first | (simp; done) | (simp; omega)) _ | refine Below.alloc ?_ (Nat.le_refl _) _ | refine below_drewN ?_ _))).row (fun i hi => (I5.out i hi).ab.trans (I3.out i hi).ab.symm)).mono ?_
  rintro e w9 ⟨rfl, b9⟩
  have t9 : w5.heap.size + 1 ≤ w9.heap.size := by have := b9.size; first | omega | (simp at this; omega)
  have BB : Below w5.heap.size w5 w9 := (by repeat (first | exact Below.refl _ _ | refine Below.setCell ?_ (by first | (simp; done) | (simp; omega)) _ | refine Below.trans ?_ (Below.mono (by assumption) (by first | (simp; done) | (simp; omega))) | refine Below.alloc ?_ (by first | (simp; done) | (simp; omega)) _ | refine Below.alloc ?_ (Nat.le_refl _) _ | refine below_drewN ?_ _))
  replace EE := Lib.hid (EE.out.trans (BB.mono (by omega)))
  replace K8 := Lib.hid (At3.below K8.out BB (by omega))
  replace R3 := Lib.hid (R3.out.below BB)
  replace R5 := Lib.hid (R5.out.below BB)
  have K11 : RowKit.Hid (At3 w9 w5.heap.size (.int .i64 x') (.int .i64 y') (.slice ao5 n cp5)) := Lib.hid ⟨(b9.cell (p := ⟨w5.heap.size, 0, none⟩) (by simp)).trans (by go_simp), (b9.cell (p := ⟨w5.heap.size, 1, none⟩) (by simp)).trans (by go_simp), (b9.cell (p := ⟨w5.heap.size, 2, none⟩) (by simp)).trans (by go_simp)⟩
  clear BB b9
  obtain ⟨c110, c111, c112⟩ := K11.out
  go_wp2_with fail
  clear c110 c111 c112
  refine (markPicture x' y' _ n _ _ _ zs5 1 _ R5.out (by omega) (by omega) (by omega)).mono ?_
  rintro e w10 ⟨rfl, r10, b10⟩
  have R10 := Lib.hid r10
  clear r10 R5
  have t10 : w9.heap.size ≤ w10.heap.size := by have := b10.size; first | omega | (simp at this; omega)
  replace EE := Lib.hid (EE.out.trans (b10.below (by omega) (by omega)))
  replace K8 := Lib.hid (At3.only K8.out b10 (by omega) (by omega))
  replace K11 := Lib.hid (At3.only K11.out b10 (by omega) (by omega))
  replace R3 := Lib.hid (R3.out.only b10 (by omega))
  clear b10
  obtain ⟨c110, c111, c112⟩ := K11.out
  go_wp2_with fail
  clear c110 c111 c112
  refine (heldPicture x' y' _ n _ _ _ 1 _ R10.out (by omega) (by omega) (by omega)).mono ?_
  rintro e w11 ⟨rfl, b11⟩
  have t11 : w10.heap.size ≤ w11.heap.size := by have := b11.size; first | omega | (simp at this; omega)
  have BB : Below w10.heap.size w10 w11 := (by repeat (first | exact Below.refl _ _ | refine Below.setCell ?_ (by first | (simp; done) | (simp; omega)) _ | refine Below.trans ?_ (Below.mono (by assumption) (by first | (simp; done) | (simp; omega))) | refine Below.alloc ?_ (by first | (simp; done) | (simp; omega)) _ | refine Below.alloc ?_ (Nat.le_refl _) _ | refine below_drewN ?_ _))
  replace EE := Lib.hid (EE.out.trans (BB.mono (by omega)))
  replace K8 := Lib.hid (At3.below K8.out BB (by omega))
  replace K11 := Lib.hid (At3.below K11.out BB (by omega))
  replace R3 := Lib.hid (R3.out.below BB)
  replace R10 := Lib.hid (R10.out.below BB)
  clear BB b11
  go_wp2_with fail
  refine (HI.out _).mono ?_
  rintro e w13 ⟨ao13, cp13, zs13, rfl, r13, i13, b13⟩
  have R13 := Lib.hid r13
  have I13 := Lib.hid i13
  clear r13 i13
  have t13 : w11.heap.size ≤ w13.heap.size := by have := b13.size; first | omega | (simp at this; omega)
  have BB : Below w11.heap.size w11 w13 := (by repeat (first | exact Below.refl _ _ | refine Below.setCell ?_ (by first | (simp; done) | (simp; omega)) _ | refine Below.trans ?_ (Below.mono (by assumption) (by first | (simp; done) | (simp; omega))) | refine Below.alloc ?_ (by first | (simp; done) | (simp; omega)) _ | refine Below.alloc ?_ (Nat.le_refl _) _ | refine below_drewN ?_ _))
  replace EE := Lib.hid (EE.out.trans (BB.mono (by omega)))
  replace K8 := Lib.hid (At3.below K8.out BB (by omega))
  replace K11 := Lib.hid (At3.below K11.out BB (by omega))
  replace R3 := Lib.hid (R3.out.below BB)
  replace R10 := Lib.hid (R10.out.below BB)
  clear BB b13
  obtain ⟨c80, c81, c82⟩ := K8.out
  clear n8 m8
  have n8 : w3.heap.size ≠ w13.heap.size := by omega
  have m8 : w3.heap.size < w13.heap.size := by omega
  go_wp2_with fail
  clear c80 c81 c82
  refine (eqP2 x' y' _ _ n _ _ zs13 zs3 _ (R13.out.below (by repeat (first | exact Below.refl _ _ | refine Below.setCell ?_ (by first | (simp; done) | (simp; omega)) _ | refine Below.trans ?_ (Below.mono (by assumption) (by first | (simp; done) | (simp; omega))) | refine Below.alloc ?_ (by first | (simp; done) | (simp; omega)) _ | refine Below.alloc ?_ (Nat.le_refl _) _ | refine below_drewN ?_ _))).row (R3.out.below (by repeat (first | exact Below.refl _ _ | refine Below.setCell ?_ (by first | (simp; done) | (simp; omega)) _ | refine Below.trans ?_ (Below.mono (by assumption) (by first | (simp; done) | (simp; omega))) | refine Below.alloc ?_ (by first | (simp; done) | (simp; omega)) _ | refine Below.alloc ?_ (Nat.le_refl _) _ | refine below_drewN ?_ _))).row (fun i hi => (I13.out i hi).ab.trans (I3.out i hi).ab.symm)).mono ?_
  rintro e w14 ⟨rfl, b14⟩
  have t14 : w13.heap.size + 1 ≤ w14.heap.size := by have := b14.size; first | omega | (simp at this; omega)
  have BB : Below w13.heap.size w13 w14 := (by repeat (first | exact Below.refl _ _ | refine Below.setCell ?_ (by first | (simp; done) | (simp; omega)) _ | refine Below.trans ?_ (Below.mono (by assumption) (by first | (simp; done) | (simp; omega))) | refine Below.alloc ?_ (by first | (simp; done) | (simp; omega)) _ | refine Below.alloc ?_ (Nat.le_refl _) _ | refine below_drewN ?_ _))
  replace EE := Lib.hid (EE.out.trans (BB.mono (by omega)))
  replace K8 := Lib.hid (At3.below K8.out BB (by omega))
  replace K11 := Lib.hid (At3.below K11.out BB (by omega))
  replace R3 := Lib.hid (R3.out.below BB)
  replace R10 := Lib.hid (R10.out.below BB)
  replace R13 := Lib.hid (R13.out.below BB)
  have K16 : RowKit.Hid (At3 w14 w13.heap.size (.int .i64 x') (.int .i64 y') (.slice ao13 n cp13)) := Lib.hid ⟨(b14.cell (p := ⟨w13.heap.size, 0, none⟩) (by simp)).trans (by go_simp), (b14.cell (p := ⟨w13.heap.size, 1, none⟩) (by simp)).trans (by go_simp), (b14.cell (p := ⟨w13.heap.size, 2, none⟩) (by simp)).trans (by go_simp)⟩
  clear BB b14
  obtain ⟨c110, c111, c112⟩ := K11.out
  go_wp2_with fail
  clear c110 c111 c112
  refine (heldPicture x' y' _ n _ _ _ 1 _ R10.out (by omega) (by omega) (by omega)).mono ?_
  rintro e w15 ⟨rfl, b15⟩
  have t15 : w14.heap.size ≤ w15.heap.size := by have := b15.size; first | omega | (simp at this; omega)
  have BB : Below w14.heap.size w14 w15 := (by repeat (first | exact Below.refl _ _ | refine Below.setCell ?_ (by first | (simp; done) | (simp; omega)) _ | refine Below.trans ?_ (Below.mono (by assumption) (by first | (simp; done) | (simp; omega))) | refine Below.alloc ?_ (by first | (simp; done) | (simp; omega)) _ | refine Below.alloc ?_ (Nat.le_refl _) _ | refine below_drewN ?_ _))
  replace EE := Lib.hid (EE.out.trans (BB.mono (by omega)))
  replace K8 := Lib.hid (At3.below K8.out BB (by omega))
  replace K11 := Lib.hid (At3.below K11.out BB (by omega))
  replace K16 := Lib.hid (At3.below K16.out BB (by omega))
  replace R3 := Lib.hid (R3.out.below BB)
  replace R10 := Lib.hid (R10.out.below BB)
  replace R13 := Lib.hid (R13.out.below BB)
  clear BB b15
  go_wp2_with fail
  go_ret
  exact ⟨rfl, EE.out⟩
end Go.Proofs.Ytbjahmfijlkajaa
