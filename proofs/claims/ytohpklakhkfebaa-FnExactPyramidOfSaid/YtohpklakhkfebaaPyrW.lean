/-
  PyramidOf of a picture: the specification's walk and the program's walk.
-/
import Derived.Test.YtohpklakhkfebaaPyrB
namespace Go.Proofs.Ytohpklakhkfebaa
open Go.RowKit Go.FL
/-- pictures that are handed back, and whether there are any -/
def RetV (P : List PD → Prop) (n : Nat) (ok : Bool) (w : World) (e : Ending) (w' : World) : Prop :=
  ∃ ao cap ds, e = .returned (.tuple #[.slice ao n cap, .bool ok]) ∧ PV w' w.heap.size w'.heap.size ao n cap ds ∧ P ds ∧ Below w.heap.size w w'
theorem RetV.none {P : List PD → Prop} (hP : P []) {w w' : World} (hb : Below w.heap.size w w') : RetV P 0 false w (.returned (.tuple #[.slice none 0 0, .bool false])) w' := ⟨Option.none, 0, [], rfl, .inl ⟨rfl, rfl, rfl, rfl⟩, hP, hb⟩
theorem LvOk.nil (os : Nat → Option Nat) (W H : Nat) : LvOk os W H [] := fun i d hd => by simp at hd
theorem BRow.retv {w w' : World} {v : Value} {ds : List PD} {P : List PD → Prop} (h : BRow w' w.heap.size v ds) (h0 : ds ≠ []) (hP : P ds) (hb : Below w.heap.size w w') : RetV P ds.length true w (.returned (.tuple #[v, .bool true])) w' := by
  obtain ⟨b, cap, rfl, hr⟩ := h.shape h0
  exact ⟨_, cap, ds, rfl, .inr ⟨b, rfl, hr⟩, hP, hb⟩

theorem spec_PyramidOf_bad (x y L : Int) (a : Option Addr) (len cap : Nat) (P : List PD → Prop) (hP : P []) (w : World) (hvb : validB x y len = false) :
    Calls Try.prog 5 #[.agg #[.int .i64 x, .int .i64 y, .slice a len cap], .int .i64 L] w (RetV P 0 false w) := by
  have HV : RowKit.Hid (∀ w', Below w.heap.size w w' → RetV P 0 false w (.returned (.tuple #[.slice none 0 0, .bool false])) w') := Lib.hid fun w' => RetV.none hP
  clear hP
  go_enter Try.func5, Try.ntmps5
  go_wp2_with fail
  have hq := spec_l02Is w.heap.size x y a len cap (w.alloc (.cells #[.int .i64 x, .int .i64 y, .slice a len cap] 29)) (by go_simp) (by go_simp) (by go_simp)
  rw [hvb] at hq
  refine hq.mono ?_
  clear hq
  rintro e w1 hq
  obtain ⟨rfl, b1⟩ := RetB.below hq
  have HB : RowKit.Hid (Below w.heap.size w w1) := Lib.hid (by repeat (first | exact Below.refl _ _ | refine Below.setCell ?_ (by first | (simp; done) | (simp; omega)) _ | refine Below.trans ?_ (Below.mono (by assumption) (by first | (simp; done) | (simp; omega))) | refine Below.alloc ?_ (by first | (simp; done) | (simp; omega)) _ | refine Below.alloc ?_ (Nat.le_refl _) _ | refine below_drewN ?_ _))
  clear hq b1
  go_wp2_with fail
  go_ret2
  exact HV.out _ HB.out

theorem spec_PyramidOf_bad2 (x y L : Int) (a : Option Addr) (len cap : Nat) (P : List PD → Prop) (hP : P []) (w : World) (hvb : validB x y len = true) (hrg : (decide (1 ≤ L) && decide (L ≤ 5)) = false) :
    Calls Try.prog 5 #[.agg #[.int .i64 x, .int .i64 y, .slice a len cap], .int .i64 L] w (RetV P 0 false w) := by
  have HV : RowKit.Hid (∀ w', Below w.heap.size w w' → RetV P 0 false w (.returned (.tuple #[.slice none 0 0, .bool false])) w') := Lib.hid fun w' => RetV.none hP
  clear hP
  go_enter Try.func5, Try.ntmps5
  go_wp2_with fail
  have hq := spec_l02Is w.heap.size x y a len cap (w.alloc (.cells #[.int .i64 x, .int .i64 y, .slice a len cap] 29)) (by go_simp) (by go_simp) (by go_simp)
  rw [hvb] at hq
  refine hq.mono ?_
  clear hq
  rintro e w1 hq
  obtain ⟨rfl, b1⟩ := RetB.below hq
  have HB : RowKit.Hid (Below w.heap.size w w1) := Lib.hid (by repeat (first | exact Below.refl _ _ | refine Below.setCell ?_ (by first | (simp; done) | (simp; omega)) _ | refine Below.trans ?_ (Below.mono (by assumption) (by first | (simp; done) | (simp; omega))) | refine Below.alloc ?_ (by first | (simp; done) | (simp; omega)) _ | refine Below.alloc ?_ (Nat.le_refl _) _ | refine below_drewN ?_ _))
  clear hq b1
  go_wp2_with fail
  have hq := spec_l00In L 1 5 w1
  rw [hrg] at hq
  refine hq.mono ?_
  clear hq
  rintro e w2 ⟨rfl, rfl⟩
  go_wp2_with fail
  go_ret2
  exact HV.out _ HB.out

set_option maxHeartbeats 1000000 in
theorem spec_PyramidOf_ok (W H L : Nat) (a : Option Addr) (len cap : Nat) (zs : List Nat) (w : World) (h : IsFRow w a len cap zs) (hl : len = W * H) (hW : 1 ≤ W ∧ W ≤ 24) (hH : 1 ≤ H ∧ H ≤ 24) (hvb : validB W H len = true) (hL : 1 ≤ L ∧ L ≤ 5) :
    Calls Try.prog 5 #[.agg #[.int .i64 W, .int .i64 H, .slice a len cap], .int .i64 L] w (RetV (LvOk (fun i => ab .f32 (zs.getD i 0)) W H) L true w) := by
  have hlen : len ≤ 576 := by rw [hl]; exact Nat.mul_le_mul hW.2 hH.2
  have hlen1 : 1 ≤ len := by rw [hl]; exact Nat.mul_pos hW.1 hH.1
  obtain ⟨OS, hOS⟩ : ∃ f : Nat → Option Nat, f = (fun i => ab .f32 (zs.getD i 0)) := ⟨_, rfl⟩
  rw [← hOS]
  have HOS := Lib.hid hOS
  have HR := Lib.hid h
  have HL := Lib.hid hl
  have HW := Lib.hid hW
  have HH := Lib.hid hH
  obtain ⟨hL1, hL2⟩ := hL
  clear hOS h hl
  go_enter Try.func5, Try.ntmps5
  go_wp2_with fail
  have hq := spec_l02Is w.heap.size W H a len cap (w.alloc (.cells #[.int .i64 W, .int .i64 H, .slice a len cap] 29)) (by go_simp) (by go_simp) (by go_simp)
  rw [hvb] at hq
  refine hq.mono ?_
  clear hq
  rintro e w1 hq
  obtain ⟨rfl, b1⟩ := RetB.below hq
  have hs1 : w.heap.size + 1 ≤ w1.heap.size := by have := b1.size; simp at this; omega
  have HB1 : RowKit.Hid (Below w.heap.size w w1) := Lib.hid (by repeat (first | exact Below.refl _ _ | refine Below.setCell ?_ (by first | (simp; done) | (simp; omega)) _ | refine Below.trans ?_ (Below.mono (by assumption) (by first | (simp; done) | (simp; omega))) | refine Below.alloc ?_ (by first | (simp; done) | (simp; omega)) _ | refine Below.alloc ?_ (Nat.le_refl _) _ | refine below_drewN ?_ _))
  have k0 : w1.cell? ⟨w.heap.size, 0, none⟩ = some (.int .i64 W) := (b1.cell (p := ⟨w.heap.size, 0, none⟩) (by simp)).trans (by go_simp)
  have k1 : w1.cell? ⟨w.heap.size, 1, none⟩ = some (.int .i64 H) := (b1.cell (p := ⟨w.heap.size, 1, none⟩) (by simp)).trans (by go_simp)
  have k2 : w1.cell? ⟨w.heap.size, 2, none⟩ = some (.slice a len cap) := (b1.cell (p := ⟨w.heap.size, 2, none⟩) (by simp)).trans (by go_simp)
  have HK := Lib.hid (show _ ∧ _ ∧ _ from ⟨k0, k1, k2⟩)
  clear hq b1 hvb k0 k1 k2
  go_wp2_with fail
  have hq := spec_l00In L 1 5 w1
  rw [show (decide ((1 : Int) ≤ (L : Int)) && decide ((L : Int) ≤ 5)) = true by simp; omega] at hq
  refine hq.mono ?_
  clear hq
  rintro e w2 ⟨rfl, rfl⟩
  go_wp2_with fail
  refine (spec_l02Own w.heap.size W H a len cap zs _ HK.out.1 HK.out.2.1 HK.out.2.2 (IsFRow.below HR.out HB1.out) hlen1 hlen).mono ?_
  rintro e w3 ⟨ao, cp, ys, rfl, ho, his, b3⟩
  obtain ⟨g, rfl, hg1, hg2, hor⟩ := ho.narrow hlen1
  have hs3 := b3.size
  have HB3 : RowKit.Hid (Below w.heap.size w w3) := Lib.hid (HB1.out.trans (b3.mono (by omega)))
  have HOR := Lib.hid hor
  have HIS := Lib.hid his
  clear ho his b3 hor
  go_wp2_with fail
  go_loopw [6, 7] (fun out k wr => ∃ i : Nat, ∃ ds : List PD, i + 1 ≤ L ∧ k = .int .i64 (i + 1 : Nat) ∧ ds.length = i + 1 ∧ RowKit.Hid (BRow wr w.heap.size out ds) ∧ RowKit.Hid (LvOk OS W H ds) ∧ RowKit.Hid (Below w.heap.size w wr)) (fun _ k _ => L - (intOf k).toNat)
  case atStart =>
    have D0 : PD := ⟨W, H, g, len, cp, ys⟩
    refine ⟨0, [⟨W, H, g, len, cp, ys⟩], by omega, rfl, rfl, Lib.hid ?_, Lib.hid ?_, Lib.hid (Below.alloc HB3.out (by omega) _)⟩
    · exact BRow.one (heap_alloc_new w3 _) (by omega) ⟨by show w.heap.size ≤ g; omega, hlen, by show w3.heap.size ≠ g; omega, HOR.out.below (Below.alloc (Below.refl _ _) (Nat.le_refl _) _)⟩
    · intro i d hd
      rcases i with _ | i
      · simp at hd; subst hd
        refine ⟨rfl, rfl, HL.out, HW.out, HH.out, fun j hj => ?_⟩
        show ab .f32 (ys.getD j 0) = OS j
        rw [HOS.out]
        exact (HIS.out j hj).ab
      · simp at hd
  case round =>
    obtain ⟨i, ds, hi, rfl, hdl, hbr, hlv, hb⟩ := hrel
    by_cases hlt : i + 1 < L
    · have hdne : ds ≠ [] := by intro e; rw [e] at hdl; simp at hdl
      obtain ⟨b, bc, e, hp⟩ := hbr.out.shape hdne
      rw [hdl] at e hp
      subst e
      obtain ⟨d, hd⟩ : ∃ d, ds[i]? = some d := ⟨_, List.getElem?_eq_getElem (by omega)⟩
      obtain ⟨v1, v2, v3, v4, v5, v6⟩ := hlv.out i d hd
      obtain ⟨c0, c1, c2⟩ := hp.cell i d hd
      obtain ⟨-, -, -, -, q5⟩ := hp.inn i d hd
      have hcap : i + 1 ≤ bc := hp.len.2.1
      have hcm : bc ≤ 9223372036854775807 := by have := hp.len.2.2; unfold maxLen at this; omega
      have hbw := hb.out.size
      obtain ⟨U, hU⟩ : ∃ U, U = (d.W + 1) / 2 := ⟨_, rfl⟩
      obtain ⟨V, hV⟩ : ∃ V, V = (d.H + 1) / 2 := ⟨_, rfl⟩
      have hU1 : 1 ≤ U ∧ U ≤ 24 := by omega
      have hV1 : 1 ≤ V ∧ V ≤ 24 := by omega
      have hVU1 : 1 ≤ V * U := Nat.mul_pos hV1.1 hU1.1
      have hVU2 : V * U ≤ 576 := Nat.mul_le_mul hV1.2 hU1.2
      have hc := spec_l02Halve b (i * 3) d.W d.H (some ⟨d.g, 0, none⟩) d.len d.cap d.zs _ c0 c1 c2 q5.row v3 v4 v5 U V hU hV
      have HC := Lib.hid hc
      have HDD := Lib.hid hd
      have HUV := Lib.hid (show _ ∧ _ from ⟨hU, hV⟩)
      clear hc hd v1 v2 v3 v4 v5 v6 hU hV q5 hp hdne
      go_wp2_with fail
      refine HC.out.mono ?_
      rintro e w4 ⟨ao4, cp4, ys4, rfl, ho4, his4, b4⟩
      obtain ⟨g4, rfl, hg3, hg4, hr4⟩ := ho4.narrow hVU1
      have hs4 := b4.size
      have HR4 := Lib.hid hr4
      have HBR4 := Lib.hid (hbr.out.below b4)
      have HI4 := Lib.hid his4
      have HN4 : RowKit.Hid ((Value.slice (some ⟨b, 0, none⟩) (i + 1) bc).ownBlock ≠ some g4) := Lib.hid (by
        intro e
        have := (hbr.out.own.lt _ e).2
        omega)
      have HNW : RowKit.Hid (∀ (j : Nat) (e : PD), ds[j]? = some e → e.g ≠ g4) := Lib.hid fun j e he => by
        have := hbr.out.lt he
        omega
      have HB4 : RowKit.Hid (Below w.heap.size w w4) := Lib.hid (hb.out.trans (b4.mono hbw))
      clear hr4 his4 b4 ho4
      go_wp2_with (at_builtin; refine wpList_appendP (d := ⟨U, V, g4, V * U, cp4, ys4⟩) rfl (.tmp 22) (.tmp 28) rfl rfl rfl (HBR4.out.below (Below.alloc (Below.refl _ _) (Nat.le_refl _) _)) (by simp; omega) (by omega) (by refine ⟨?_, ?_, ?_⟩ <;> go_simp <;> rfl) ⟨by show w.heap.size ≤ g4; omega, hVU2, HN4.out, HR4.out.below (Below.alloc (Below.refl _ _) (Nat.le_refl _) _)⟩ HNW.out ?_; intro v' w' h7 h8)
      go_roundw
      case rel =>
        refine ⟨i + 1, ds ++ [⟨U, V, g4, V * U, cp4, ys4⟩], by omega, by go_num, by simp [hdl], Lib.hid h7, Lib.hid (hlv.out.snoc HDD.out hdl HUV.out.1 HUV.out.2 (Nat.mul_comm _ _) fun j hj => ?_), Lib.hid ((Below.alloc HB4.out (by omega) _).trans h8)⟩
        have e1 := (HI4.out j hj).ab
        rw [HUV.out.1] at e1
        exact e1
      case measure => simp [intOf]; omega
    · have hdn : ds.length = L := by omega
      have hdne : ds ≠ [] := by intro e; rw [e] at hdl; simp at hdl
      have hV := hbr.out.retv hdne hlv.out hb.out
      rw [hdn] at hV
      have HV := Lib.hid hV
      clear hV hdne
      go_wp2_with fail
      go_ret2
      exact HV.out
end Go.Proofs.Ytohpklakhkfebaa
