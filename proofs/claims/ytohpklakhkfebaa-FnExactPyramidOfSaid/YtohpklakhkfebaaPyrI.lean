/-
  PyramidOf of a picture: the program's walk, and that both sides agree.
-/
import Derived.Test.YtohpklakhkfebaaPyrW
namespace Go.Proofs.Ytohpklakhkfebaa
open Go.RowKit Go.FL

theorem impl_PyramidOf_bad2 (x y L : Int) (a : Option Addr) (len cap : Nat) (P : List PD → Prop) (hP : P []) (w : World) (hrg : (decide (1 ≤ L) && decide (L ≤ 5)) = false) :
    Calls Try.prog 7 #[.agg #[.int .i64 x, .int .i64 y, .slice a len cap], .int .i64 L] w (RetV P 0 false w) := by
  have HV : RowKit.Hid (∀ w', Below w.heap.size w w' → RetV P 0 false w (.returned (.tuple #[.slice none 0 0, .bool false])) w') := Lib.hid fun w' => RetV.none hP
  clear hP
  go_enter Try.func7, Try.ntmps7
  go_wp2_with fail
  have hq := impl_in L 1 5 (w.alloc (.cells #[.int .i64 x, .int .i64 y, .slice a len cap] 29))
  rw [hrg] at hq
  refine hq.mono ?_
  clear hq
  rintro e w2 ⟨rfl, rfl⟩
  go_wp2_with fail
  go_ret2
  exact HV.out _ (by repeat (first | exact Below.refl _ _ | refine Below.setCell ?_ (by first | (simp; done) | (simp; omega)) _ | refine Below.trans ?_ (Below.mono (by assumption) (by first | (simp; done) | (simp; omega))) | refine Below.alloc ?_ (by first | (simp; done) | (simp; omega)) _ | refine Below.alloc ?_ (Nat.le_refl _) _ | refine below_drewN ?_ _))

theorem impl_PyramidOf_bad (x y L : Int) (a : Option Addr) (len cap : Nat) (P : List PD → Prop) (hP : P []) (w : World) (hvb : validB x y len = false) (hrg : (decide (1 ≤ L) && decide (L ≤ 5)) = true) :
    Calls Try.prog 7 #[.agg #[.int .i64 x, .int .i64 y, .slice a len cap], .int .i64 L] w (RetV P 0 false w) := by
  have HV : RowKit.Hid (∀ w', Below w.heap.size w w' → RetV P 0 false w (.returned (.tuple #[.slice none 0 0, .bool false])) w') := Lib.hid fun w' => RetV.none hP
  clear hP
  go_enter Try.func7, Try.ntmps7
  go_wp2_with fail
  have hq := impl_in L 1 5 (w.alloc (.cells #[.int .i64 x, .int .i64 y, .slice a len cap] 29))
  rw [hrg] at hq
  refine hq.mono ?_
  clear hq
  rintro e w2 ⟨rfl, rfl⟩
  go_wp2_with fail
  have hq := impl_ValidPicture x y a len cap (w.alloc (.cells #[.int .i64 x, .int .i64 y, .slice a len cap] 29))
  rw [hvb] at hq
  refine hq.mono ?_
  clear hq
  rintro e w1 ⟨rfl, b1⟩
  have HB : RowKit.Hid (Below w.heap.size w w1) := Lib.hid (by repeat (first | exact Below.refl _ _ | refine Below.setCell ?_ (by first | (simp; done) | (simp; omega)) _ | refine Below.trans ?_ (Below.mono (by assumption) (by first | (simp; done) | (simp; omega))) | refine Below.alloc ?_ (by first | (simp; done) | (simp; omega)) _ | refine Below.alloc ?_ (Nat.le_refl _) _ | refine below_drewN ?_ _))
  clear b1
  go_wp2_with fail
  go_ret2
  exact HV.out _ HB.out

theorem PyramidOf_clos (b W H : Nat) (a : Option Addr) (len cap : Nat) (zs : List Nat) (w : World) (c0 : w.cell? ⟨b, 0, none⟩ = some (.int .i64 W)) (c1 : w.cell? ⟨b, 1, none⟩ = some (.int .i64 H)) (c2 : w.cell? ⟨b, 2, none⟩ = some (.slice a len cap))
    (hr : IsFRow w a len cap zs) (hl : len = W * H) (hW : 1 ≤ W ∧ W ≤ 24) (hH : 1 ≤ H ∧ H ≤ 24) (x y : Nat) :
    Calls Try.prog 22 #[.int .i64 x, .int .i64 y, .pointer (some ⟨b, 0, none⟩)] w (RetF .f32 ((fun (x y : Nat) => ab .f32 (grey zs W H x y)) x y) w) := by
  have HR := Lib.hid hr
  have HL := Lib.hid hl
  have HW := Lib.hid hW
  have HH := Lib.hid hH
  have hzl : ∀ z ∈ zs, z < 4294967296 := hr.2.2.2.1
  clear hr hl
  go_enter Try.func22, Try.ntmps22
  go_wp2_with (first | (go_at_call 23; refine (impl_about b W H _ _ a len cap zs _ (by go_simp) (by go_simp) (by go_simp) (IsFRow.below HR.out (by repeat (first | exact Below.refl _ _ | refine Below.setCell ?_ (by first | (simp; done) | (simp; omega)) _ | refine Below.trans ?_ (Below.mono (by assumption) (by first | (simp; done) | (simp; omega))) | refine Below.alloc ?_ (by first | (simp; done) | (simp; omega)) _ | refine Below.alloc ?_ (Nat.le_refl _) _ | refine below_drewN ?_ _))) HL.out HW.out HH.out).mono ?_; rintro e w' ⟨q, rfl, rfl⟩))
  go_ret
  exact ⟨_, _, is32 (grey_lt hzl _ _ _ _), rfl, rfl⟩

theorem osXY_grey {zs : List Nat} {W H j : Nat} (hW : 1 ≤ W) (hj : j < H * W) : osXY W (fun (x y : Nat) => ab .f32 (grey zs W H x y)) j = ab .f32 (zs.getD j 0) := by
  have h1 : j % W < W := Nat.mod_lt _ hW
  have h2 : j / W < H := Nat.div_lt_of_lt_mul (by rw [Nat.mul_comm]; exact hj)
  show ab .f32 (grey zs W H ((j % W : Nat) : Int) ((j / W : Nat) : Int)) = _
  rw [grey_at h1 h2, Nat.mod_add_div]

set_option maxHeartbeats 1000000 in
theorem impl_PyramidOf_ok (W H L : Nat) (a : Option Addr) (len cap : Nat) (zs : List Nat) (w : World) (h : IsFRow w a len cap zs) (hl : len = W * H) (hW : 1 ≤ W ∧ W ≤ 24) (hH : 1 ≤ H ∧ H ≤ 24) (hvb : validB W H len = true) (hL : 1 ≤ L ∧ L ≤ 5) :
    Calls Try.prog 7 #[.agg #[.int .i64 W, .int .i64 H, .slice a len cap], .int .i64 L] w (RetV (LvOk (fun i => ab .f32 (zs.getD i 0)) W H) L true w) := by
  have hHW : 1 ≤ H * W := Nat.mul_pos hH.1 hW.1
  have hHW2 : H * W ≤ 576 := Nat.mul_le_mul hH.2 hW.2
  obtain ⟨OS, hOS⟩ : ∃ f : Nat → Option Nat, f = (fun i => ab .f32 (zs.getD i 0)) := ⟨_, rfl⟩
  rw [← hOS]
  have HOS := Lib.hid hOS
  have HR := Lib.hid h
  have HL := Lib.hid hl
  have HW := Lib.hid hW
  have HH := Lib.hid hH
  have HVB := Lib.hid hvb
  obtain ⟨hL1, hL2⟩ := hL
  clear hOS h hl
  have hmf : ∀ (fn : Fn) (first cap : Array Value) (w : World), (Instr.makeFunc fn first cap).run Try.prog w = .ok (.func fn first cap) w := fun _ _ _ _ => rfl
  go_enter Try.func7, Try.ntmps7
  go_wp2_with fail
  have hq := impl_in L 1 5 (w.alloc (.cells #[.int .i64 W, .int .i64 H, .slice a len cap] 29))
  rw [show (decide ((1 : Int) ≤ (L : Int)) && decide ((L : Int) ≤ 5)) = true by simp; omega] at hq
  refine hq.mono ?_
  clear hq
  rintro e w2 ⟨rfl, rfl⟩
  go_wp2_with fail
  have hq := impl_ValidPicture W H a len cap (w.alloc (.cells #[.int .i64 W, .int .i64 H, .slice a len cap] 29))
  rw [hvb] at hq
  refine hq.mono ?_
  clear hq
  rintro e w1 ⟨rfl, b1⟩
  have hs1 : w.heap.size + 1 ≤ w1.heap.size := by have := b1.size; simp at this; omega
  have HB1 : RowKit.Hid (Below w.heap.size w w1) := Lib.hid (by repeat (first | exact Below.refl _ _ | refine Below.setCell ?_ (by first | (simp; done) | (simp; omega)) _ | refine Below.trans ?_ (Below.mono (by assumption) (by first | (simp; done) | (simp; omega))) | refine Below.alloc ?_ (by first | (simp; done) | (simp; omega)) _ | refine Below.alloc ?_ (Nat.le_refl _) _ | refine below_drewN ?_ _))
  have k0 : w1.cell? ⟨w.heap.size, 0, none⟩ = some (.int .i64 W) := (b1.cell (p := ⟨w.heap.size, 0, none⟩) (by simp)).trans (by go_simp)
  have k1 : w1.cell? ⟨w.heap.size, 1, none⟩ = some (.int .i64 H) := (b1.cell (p := ⟨w.heap.size, 1, none⟩) (by simp)).trans (by go_simp)
  have k2 : w1.cell? ⟨w.heap.size, 2, none⟩ = some (.slice a len cap) := (b1.cell (p := ⟨w.heap.size, 2, none⟩) (by simp)).trans (by go_simp)
  have HK := Lib.hid (show _ ∧ _ ∧ _ from ⟨k0, k1, k2⟩)
  clear b1 hvb
  go_wp2_with fail
  clear k0 k1 k2
  have hk : ∀ args W', (callFunc 22 args).run Try.prog W' = .ok (.enter 22 args) W' := fun args W' => by go_simp
  have hf : ∀ x y : Nat, x < W → y < H → ∀ w', Below w1.heap.size w1 w' → Calls Try.prog 22 (#[.int .i64 x, .int .i64 y] ++ #[.pointer (some ⟨w.heap.size, 0, none⟩)]) w' (RetF .f32 ((fun (x y : Nat) => ab .f32 (grey zs W H x y)) x y) w') := by
    intro x y _ _ w' hb
    exact PyramidOf_clos w.heap.size W H a len cap zs w' ((hb.cell (p := ⟨w.heap.size, 0, none⟩) (by show w.heap.size < w1.heap.size; omega)).trans HK.out.1) ((hb.cell (p := ⟨w.heap.size, 1, none⟩) (by show w.heap.size < w1.heap.size; omega)).trans HK.out.2.1) ((hb.cell (p := ⟨w.heap.size, 2, none⟩) (by show w.heap.size < w1.heap.size; omega)).trans HK.out.2.2) (IsFRow.below HR.out (HB1.out.trans (hb.mono (by omega)))) HL.out HW.out HH.out x y
  have hq := impl_remade_ok W H a len cap 22 #[.pointer (some ⟨w.heap.size, 0, none⟩)] (fun (x y : Nat) => ab .f32 (grey zs W H x y)) w1 HVB.out HW.out.2 HH.out.2 hk hf
  refine hq.mono ?_
  clear hq hf hk
  rintro e w3 ⟨ao, cp, ys, rfl, ho, his, b3⟩
  obtain ⟨g, rfl, hg1, hg2, hor⟩ := ho.narrow hHW
  have hs3 := b3.size
  have HB3 : RowKit.Hid (Below w.heap.size w w3) := Lib.hid (HB1.out.trans (b3.mono (by omega)))
  have HOR := Lib.hid hor
  have HIS := Lib.hid his
  clear ho his b3 hor
  go_wp2_with fail
  go_loopw [8, 27] (fun out k wr => ∃ i : Nat, ∃ ds : List PD, i + 1 ≤ L ∧ k = .int .i64 (i : Nat) ∧ ds.length = i + 1 ∧ RowKit.Hid (BRow wr w.heap.size out ds) ∧ RowKit.Hid (LvOk OS W H ds) ∧ RowKit.Hid (Below w.heap.size w wr)) (fun _ k _ => L - (intOf k).toNat)
  case atStart =>
    refine ⟨0, [⟨W, H, g, H * W, cp, ys⟩], by omega, rfl, rfl, Lib.hid ?_, Lib.hid ?_, Lib.hid (Below.alloc (Below.alloc HB3.out (by omega) _) (by simp; omega) _)⟩
    · refine BRow.one ?_ ?_ ⟨by show w.heap.size ≤ g; omega, hHW2, ?_, HOR.out.below (Below.alloc (Below.alloc (Below.refl _ _) (Nat.le_refl _) _) (by simp) _)⟩
      · have h := heap_alloc_new (w3.alloc (.cells #[.int .i64 W, .int .i64 H, .slice (some ⟨g, 0, none⟩) (H * W) cp] 29)) (.cells #[.int .i64 W, .int .i64 H, .slice (some ⟨g, 0, none⟩) (H * W) cp] 29)
        simpa using h
      · omega
      · show w3.heap.size + 1 ≠ g; omega
    · intro i d hd
      rcases i with _ | i
      · simp at hd; subst hd
        refine ⟨rfl, rfl, Nat.mul_comm _ _, HW.out, HH.out, fun j hj => ?_⟩
        show ab .f32 (ys.getD j 0) = OS j
        rw [HOS.out]
        exact ((HIS.out j hj).ab).trans (osXY_grey HW.out.1 hj)
      · simp at hd
  case round =>
    obtain ⟨i, ds, hi, rfl, hdl, hbr, hlv, hb⟩ := hrel
    by_cases hlt : i + 1 < L
    · have hdne : ds ≠ [] := by intro e; rw [e] at hdl; simp at hdl
      obtain ⟨b, bc, e, hp⟩ := hbr.out.shape hdne
      rw [hdl] at e hp
      subst e
      obtain ⟨d, hd⟩ : ∃ d, ds[i]? = some d := ⟨_, List.getElem?_eq_getElem (by omega)⟩
      obtain ⟨v1, v2, v3, v4, v5, v6⟩ := hlv.out i d hd
      obtain ⟨c0, c1, c2⟩ := hp.cell i d hd
      obtain ⟨-, -, -, -, q5⟩ := hp.inn i d hd
      have hcap : i + 1 ≤ bc := hp.len.2.1
      have hcm : bc ≤ 9223372036854775807 := by have := hp.len.2.2; unfold maxLen at this; omega
      have hbw := hb.out.size
      obtain ⟨U, hU⟩ : ∃ U, U = (d.W + 1) / 2 := ⟨_, rfl⟩
      obtain ⟨V, hV⟩ : ∃ V, V = (d.H + 1) / 2 := ⟨_, rfl⟩
      have hU1 : 1 ≤ U ∧ U ≤ 24 := by omega
      have hV1 : 1 ≤ V ∧ V ≤ 24 := by omega
      have hVU1 : 1 ≤ V * U := Nat.mul_pos hV1.1 hU1.1
      have hVU2 : V * U ≤ 576 := Nat.mul_le_mul hV1.2 hU1.2
      have hc := fun w q => impl_halved d.W d.H (some ⟨d.g, 0, none⟩) d.len d.cap d.zs w q v3 v4 v5 U V hU hV
      have HC := Lib.hid hc
      have HQ5 := Lib.hid q5
      have HDD := Lib.hid hd
      have HUV := Lib.hid (show _ ∧ _ from ⟨hU, hV⟩)
      clear hc hd v1 v2 v3 v4 v5 v6 hU hV q5 hp hdne
      go_wp2_with fail
      refine (HC.out _ HQ5.out.row).mono ?_
      rintro e w4 ⟨ao4, cp4, ys4, rfl, ho4, his4, b4⟩
      obtain ⟨g4, rfl, hg3, hg4, hr4⟩ := ho4.narrow hVU1
      have hs4 := b4.size
      have HR4 := Lib.hid hr4
      have HBR4 := Lib.hid (hbr.out.below b4)
      have HI4 := Lib.hid his4
      have HN4 : RowKit.Hid ((Value.slice (some ⟨b, 0, none⟩) (i + 1) bc).ownBlock ≠ some g4) := Lib.hid (by
        intro e
        have := (hbr.out.own.lt _ e).2
        omega)
      have HNW : RowKit.Hid (∀ (j : Nat) (e : PD), ds[j]? = some e → e.g ≠ g4) := Lib.hid fun j e he => by
        have := hbr.out.lt he
        omega
      have HB4 : RowKit.Hid (Below w.heap.size w w4) := Lib.hid (hb.out.trans (b4.mono hbw))
      clear hr4 his4 b4 ho4
      go_wp2_with (at_builtin; refine wpList_appendP (d := ⟨U, V, g4, V * U, cp4, ys4⟩) rfl (.tmp 29) (.tmp 37) rfl rfl rfl (HBR4.out.below (Below.alloc (Below.refl _ _) (Nat.le_refl _) _)) (by simp; omega) (by omega) (by refine ⟨?_, ?_, ?_⟩ <;> go_simp <;> rfl) ⟨by show w.heap.size ≤ g4; omega, hVU2, HN4.out, HR4.out.below (Below.alloc (Below.refl _ _) (Nat.le_refl _) _)⟩ HNW.out ?_; intro v' w' h7 h8)
      go_roundw
      case rel =>
        refine ⟨i + 1, ds ++ [⟨U, V, g4, V * U, cp4, ys4⟩], by omega, by go_num, by simp [hdl], Lib.hid h7, Lib.hid (hlv.out.snoc HDD.out hdl HUV.out.1 HUV.out.2 (Nat.mul_comm _ _) fun j hj => ?_), Lib.hid ((Below.alloc HB4.out (by omega) _).trans h8)⟩
        have e1 := (HI4.out j hj).ab
        rw [HUV.out.1] at e1
        exact e1.trans (quo_four _)
      case measure => simp [intOf]; omega
    · have hdn : ds.length = L := by omega
      have hdne : ds ≠ [] := by intro e; rw [e] at hdl; simp at hdl
      have hV := hbr.out.retv hdne hlv.out hb.out
      rw [hdn] at hV
      have HV := Lib.hid hV
      clear hV hdne
      go_wp2_with fail
      go_ret2
      exact HV.out

def IsNil (ds : List PD) : Prop := ds = []
theorem PyramidOf_pair (x y : Int) (len : Nat) (zs : List Nat) (L : Int) : ∃ (n : Nat) (ok : Bool) (P : List PD → Prop), n ≤ 5 ∧ (∀ ds es, P ds → P es → SameP ds es) ∧
    (∀ w a cap, IsFRow w a len cap zs → Calls Try.prog 5 #[.agg #[.int .i64 x, .int .i64 y, .slice a len cap], .int .i64 L] w (RetV P n ok w)) ∧
    (∀ w a cap, IsFRow w a len cap zs → Calls Try.prog 7 #[.agg #[.int .i64 x, .int .i64 y, .slice a len cap], .int .i64 L] w (RetV P n ok w)) := by
  cases hrg : (decide (1 ≤ L) && decide (L ≤ 5)) with
  | false =>
    refine ⟨0, false, IsNil, by omega, fun ds es h1 h2 i d e hd _ => by rw [show ds = [] from h1] at hd; simp at hd, fun w a cap h => ?_, fun w a cap h => impl_PyramidOf_bad2 x y L a len cap IsNil rfl w hrg⟩
    cases hvb : validB x y len with
    | false => exact spec_PyramidOf_bad x y L a len cap IsNil rfl w hvb
    | true => exact spec_PyramidOf_bad2 x y L a len cap IsNil rfl w hvb hrg
  | true =>
    cases hvb : validB x y len with
    | false => exact ⟨0, false, IsNil, by omega, fun ds es h1 h2 i d e hd _ => by rw [show ds = [] from h1] at hd; simp at hd, fun w a cap h => spec_PyramidOf_bad x y L a len cap IsNil rfl w hvb, fun w a cap h => impl_PyramidOf_bad x y L a len cap IsNil rfl w hvb hrg⟩
    | true =>
      obtain ⟨X, Y, rfl, rfl, hl, hW, hH⟩ := valid_nat hvb
      have hLL : 1 ≤ L ∧ L ≤ 5 := by simpa using hrg
      obtain ⟨M, rfl⟩ := Int.eq_ofNat_of_zero_le (show 0 ≤ L by omega)
      exact ⟨M, true, LvOk (fun i => ab .f32 (zs.getD i 0)) X Y, by omega, fun ds es h1 h2 => h1.same h2, fun w a cap h => spec_PyramidOf_ok X Y M a len cap zs w h hl hW hH hvb (by omega), fun w a cap h => impl_PyramidOf_ok X Y M a len cap zs w h hl hW hH hvb (by omega)⟩
end Go.Proofs.Ytohpklakhkfebaa
