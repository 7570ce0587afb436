/-
  The walks of the functions that read a vector out of a text, and of the law ReadVector.
-/
import Derived.Test.YtopacaenlemfcaaDoorTRLawN
import Derived.Test.YtopacaenlemfcaaDoorVecA
import Derived.BigRegion
namespace Go.Proofs.YtopacaenlemfcaaDoor
open Go.RowKit Go.TX Go.FL
def is3 (o : Option (List Nat)) : Bool := o.isSome && decide ((o.getD []).length = 3)
def v3 (o : Option (List Nat)) (i : Nat) : Nat := if is3 o then (o.getD []).getD i 0 else 0
/-- the vector that is handed back -/
def VecIs (o : Option (List Nat)) (w : World) (e : Ending) (w' : World) : Prop := e = .returned (.tuple #[.agg #[.float .f32 (v3 o 0), .float .f32 (v3 o 1), .float .f32 (v3 o 2)], .bool (is3 o)]) ∧ Below w.heap.size w w'
theorem VecIs.no {o : Option (List Nat)} (h : is3 o = false) {w w' : World} (hb : Below w.heap.size w w') : VecIs o w (.returned (.tuple #[.agg #[.float .f32 0, .float .f32 0, .float .f32 0], .bool false])) w' := by
  refine ⟨?_, hb⟩
  simp [v3, h]
theorem VecIs.yes {x y z : Nat} {w w' : World} (hb : Below w.heap.size w w') : VecIs (some [x, y, z]) w (.returned (.tuple #[.agg #[.float .f32 x, .float .f32 y, .float .f32 z], .bool true])) w' := ⟨rfl, hb⟩

set_option maxRecDepth 20000 in
theorem spec_l01VRead (s : ByteArray) (w : World) (hs : s.size ≤ 1048576) : Calls Tryd.prog 42 #[.string s] w (VecIs (rdText rdN 256 s.data.toList) w) := by
  have hn := rdText_len rdN 256 s.data.toList
  have hz := rdText_lt s.data.toList
  have hc := fun w => (spec_l01NRead s w hs).mono (R' := fun e w' => ∃ ao cp, e = .returned (.tuple #[.slice ao ((rdText rdN 256 s.data.toList).getD []).length cp, .bool (rdText rdN 256 s.data.toList).isSome]) ∧ ORow w' w.heap.size w'.heap.size ao ((rdText rdN 256 s.data.toList).getD []).length cp ((rdText rdN 256 s.data.toList).getD []) ∧ Below w.heap.size w w') fun e w' h => RdFloat32S_row h hz
  clear hz
  generalize rdText rdN 256 s.data.toList = O at hc hn ⊢
  have HC := Lib.hid hc
  clear hc
  by_cases h3 : is3 O = true
  case neg =>
    have h3' : is3 O = false := by simpa using h3
    have HV : RowKit.Hid (∀ w', Below w.heap.size w w' → VecIs O w (.returned (.tuple #[.agg #[.float .f32 0, .float .f32 0, .float .f32 0], .bool false])) w') := Lib.hid fun w' => VecIs.no h3'
    cases hO : O with
    | none =>
      subst hO
      clear h3 h3' hn
      go_enter Tryd.func42, Tryd.ntmps42
      go_wp2_with fail
      refine (HC.out _).mono ?_
      rintro e w1 ⟨ao, cp, rfl, -, b1⟩
      have hs1 : w.heap.size + 1 ≤ w1.heap.size := by have := b1.size; simp at this; omega
      have hbx : w1.heap[w.heap.size]? = some (.cells #[.float .f32 0, .float .f32 0, .float .f32 0] 43 (0, 0)) := (b1.block w.heap.size (by simp)).trans (heap_alloc_new w _)
      have c0 : w1.cell? ⟨w.heap.size, 0, none⟩ = some (.float .f32 0) := box_cell hbx 0
      have c1 : w1.cell? ⟨w.heap.size, 1, none⟩ = some (.float .f32 0) := box_cell hbx 1
      have c2 : w1.cell? ⟨w.heap.size, 2, none⟩ = some (.float .f32 0) := box_cell hbx 2
      have f0 := box_free hbx 0
      have f1 := box_free hbx 1
      have f2 := box_free hbx 2
      have HB : RowKit.Hid (Below w.heap.size w w1) := Lib.hid (by repeat (first | exact Below.refl _ _ | refine Below.setCell ?_ (by first | (simp; done) | (simp; omega)) _ | refine Below.trans ?_ (Below.mono (by assumption) (by first | omega | (simp; done) | (simp; omega))) | refine Below.alloc ?_ (by first | omega | (simp; done) | (simp; omega)) _ | refine Below.alloc ?_ (Nat.le_refl _) _ | refine below_drewN ?_ _))
      clear b1
      go_wp2_with fail
      refine bodyPost_ret (v := .tuple #[.agg #[.float .f32 0, .float .f32 0, .float .f32 0], .bool false]) ?_ rfl (HV.out _ (Below.setCell (Below.setCell (Below.setCell HB.out (by simp) _) (by simp) _) (by simp) _))
      simp [results, Tryd.results42, go_sem, c0, c1, c2]
    | some zs =>
      subst hO
      have hne : ¬ zs.length = 3 := by simpa [is3] using h3'
      have hnl : zs.length ≤ 256 := by simpa using hn
      have HC : RowKit.Hid (_) := HC
      simp only [Option.getD_some, Option.isSome_some] at HC
      have hni : ((zs.length : Int) != 3) = true := by simp; omega
      clear h3 h3' hn
      go_enter Tryd.func42, Tryd.ntmps42
      go_wp2_with fail
      refine (HC.out _).mono ?_
      rintro e w1 ⟨ao, cp, rfl, -, b1⟩
      have hs1 : w.heap.size + 1 ≤ w1.heap.size := by have := b1.size; simp at this; omega
      have hbx : w1.heap[w.heap.size]? = some (.cells #[.float .f32 0, .float .f32 0, .float .f32 0] 43 (0, 0)) := (b1.block w.heap.size (by simp)).trans (heap_alloc_new w _)
      have c0 : w1.cell? ⟨w.heap.size, 0, none⟩ = some (.float .f32 0) := box_cell hbx 0
      have c1 : w1.cell? ⟨w.heap.size, 1, none⟩ = some (.float .f32 0) := box_cell hbx 1
      have c2 : w1.cell? ⟨w.heap.size, 2, none⟩ = some (.float .f32 0) := box_cell hbx 2
      have f0 := box_free hbx 0
      have f1 := box_free hbx 1
      have f2 := box_free hbx 2
      have HB : RowKit.Hid (Below w.heap.size w w1) := Lib.hid (by repeat (first | exact Below.refl _ _ | refine Below.setCell ?_ (by first | (simp; done) | (simp; omega)) _ | refine Below.trans ?_ (Below.mono (by assumption) (by first | omega | (simp; done) | (simp; omega))) | refine Below.alloc ?_ (by first | omega | (simp; done) | (simp; omega)) _ | refine Below.alloc ?_ (Nat.le_refl _) _ | refine below_drewN ?_ _))
      clear b1
      go_wp2_with fail
      refine bodyPost_ret (v := .tuple #[.agg #[.float .f32 0, .float .f32 0, .float .f32 0], .bool false]) ?_ rfl (HV.out _ (Below.setCell (Below.setCell (Below.setCell HB.out (by simp) _) (by simp) _) (by simp) _))
      simp [results, Tryd.results42, go_sem, c0, c1, c2]
  obtain ⟨x, y, z, rfl⟩ : ∃ x y z, O = some [x, y, z] := by
    cases O with
    | none => simp [is3] at h3
    | some zs =>
      match zs, h3 with
      | [x, y, z], _ => exact ⟨x, y, z, rfl⟩
      | [], h => simp [is3] at h
      | [_], h => simp [is3] at h
      | [_, _], h => simp [is3] at h
      | _ :: _ :: _ :: _ :: _, h => simp [is3] at h
  have HV : RowKit.Hid (∀ w', Below w.heap.size w w' → VecIs (some [x, y, z]) w (.returned (.tuple #[.agg #[.float .f32 x, .float .f32 y, .float .f32 z], .bool true])) w') := Lib.hid fun w' => VecIs.yes
  simp only [Option.getD_some, Option.isSome_some, List.length_cons, List.length_nil, Nat.zero_add, Nat.reduceAdd] at HC
  clear h3 hn
  go_enter Tryd.func42, Tryd.ntmps42
  go_wp2_with fail
  refine (HC.out _).mono ?_
  rintro e w1 ⟨ao, cp, rfl, hr, b1⟩
  have hs1 : w.heap.size + 1 ≤ w1.heap.size := by have := b1.size; simp at this; omega
  have hbx : w1.heap[w.heap.size]? = some (.cells #[.float .f32 0, .float .f32 0, .float .f32 0] 43 (0, 0)) := (b1.block w.heap.size (by simp)).trans (heap_alloc_new w _)
  have c0 : w1.cell? ⟨w.heap.size, 0, none⟩ = some (.float .f32 0) := box_cell hbx 0
  have c1 : w1.cell? ⟨w.heap.size, 1, none⟩ = some (.float .f32 0) := box_cell hbx 1
  have c2 : w1.cell? ⟨w.heap.size, 2, none⟩ = some (.float .f32 0) := box_cell hbx 2
  have f0 := box_free hbx 0
  have f1 := box_free hbx 1
  have f2 := box_free hbx 2
  obtain ⟨g, rfl, hg0, hg1, hg2, hfr⟩ := hr.own.resolve_left (by simp)
  obtain ⟨g', off, e, hbl, hcl⟩ := hr.row.2.2.2.2.resolve_left (by omega)
  simp only [Option.some.injEq, Addr.mk.injEq, and_true] at e
  obtain ⟨rfl, rfl⟩ := e
  have d0 : w1.cell? ⟨g, 0, none⟩ = some (.float .f32 x) := hcl 0 (by omega)
  have d1 : w1.cell? ⟨g, 1, none⟩ = some (.float .f32 y) := hcl 1 (by omega)
  have d2 : w1.cell? ⟨g, 2, none⟩ = some (.float .f32 z) := hcl 2 (by omega)
  have hcap : 3 ≤ cp := hr.row.2.1
  have hcm : cp ≤ 9223372036854775807 := by have := hr.row.2.2.1; unfold maxLen at this; omega
  have hgw : g ≠ w.heap.size := by simp at hg0; omega
  have HB : RowKit.Hid (Below w.heap.size w w1) := Lib.hid (by repeat (first | exact Below.refl _ _ | refine Below.setCell ?_ (by first | (simp; done) | (simp; omega)) _ | refine Below.trans ?_ (Below.mono (by assumption) (by first | omega | (simp; done) | (simp; omega))) | refine Below.alloc ?_ (by first | omega | (simp; done) | (simp; omega)) _ | refine Below.alloc ?_ (Nat.le_refl _) _ | refine below_drewN ?_ _))
  clear b1 hr hfr hcl hg0 hg1 hg2
  go_wp2_with fail
  go_region
  go_wp2_with fail
  refine bodyPost_ret (v := .tuple #[.agg #[.float .f32 x, .float .f32 y, .float .f32 z], .bool true]) ?_ rfl (HV.out _ (Below.setCell (Below.setCell (Below.setCell HB.out (by simp) _) (by simp) _) (by simp) _).drew)
  simp [results, Tryd.results42, go_sem, c0, c1, c2]

set_option maxRecDepth 20000 in
theorem impl_ReadVector (s : ByteArray) (w : World) (hs : s.size ≤ 1048576) (hm : MaxOk w) : Calls Tryd.prog 27 #[.string s] w (VecIs (rdText rdN 256 s.data.toList) w) := by
  have hn := rdText_len rdN 256 s.data.toList
  have hz := rdText_lt s.data.toList
  have hc := fun w hm => (impl_ReadNumbers s w hs hm).mono (R' := fun e w' => ∃ ao cp, e = .returned (.tuple #[.slice ao ((rdText rdN 256 s.data.toList).getD []).length cp, .bool (rdText rdN 256 s.data.toList).isSome]) ∧ ORow w' w.heap.size w'.heap.size ao ((rdText rdN 256 s.data.toList).getD []).length cp ((rdText rdN 256 s.data.toList).getD []) ∧ Below w.heap.size w w') fun e w' h => RdFloat32S_row h hz
  clear hz
  generalize rdText rdN 256 s.data.toList = O at hc hn ⊢
  have HC := Lib.hid hc
  clear hc
  by_cases h3 : is3 O = true
  case neg =>
    have h3' : is3 O = false := by simpa using h3
    have HV : RowKit.Hid (∀ w', Below w.heap.size w w' → VecIs O w (.returned (.tuple #[.agg #[.float .f32 0, .float .f32 0, .float .f32 0], .bool false])) w') := Lib.hid fun w' => VecIs.no h3'
    cases hO : O with
    | none =>
      subst hO
      clear h3 h3' hn
      go_enter Tryd.func27, Tryd.ntmps27
      go_wp2_with fail
      refine (HC.out _ (MaxOk.below hm (by repeat (first | exact Below.refl _ _ | refine Below.setCell ?_ (by first | (simp; done) | (simp; omega)) _ | refine Below.trans ?_ (Below.mono (by assumption) (by first | omega | (simp; done) | (simp; omega))) | refine Below.alloc ?_ (by first | omega | (simp; done) | (simp; omega)) _ | refine Below.alloc ?_ (Nat.le_refl _) _ | refine below_drewN ?_ _)))).mono ?_
      rintro e w1 ⟨ao, cp, rfl, -, b1⟩
      have hs1 : w.heap.size + 1 ≤ w1.heap.size := by have := b1.size; simp at this; omega
      have hbx : w1.heap[w.heap.size]? = some (.cells #[.float .f32 0, .float .f32 0, .float .f32 0] 43 (0, 0)) := (b1.block w.heap.size (by simp)).trans (heap_alloc_new w _)
      have c0 : w1.cell? ⟨w.heap.size, 0, none⟩ = some (.float .f32 0) := box_cell hbx 0
      have c1 : w1.cell? ⟨w.heap.size, 1, none⟩ = some (.float .f32 0) := box_cell hbx 1
      have c2 : w1.cell? ⟨w.heap.size, 2, none⟩ = some (.float .f32 0) := box_cell hbx 2
      have f0 := box_free hbx 0
      have f1 := box_free hbx 1
      have f2 := box_free hbx 2
      have HB : RowKit.Hid (Below w.heap.size w w1) := Lib.hid (by repeat (first | exact Below.refl _ _ | refine Below.setCell ?_ (by first | (simp; done) | (simp; omega)) _ | refine Below.trans ?_ (Below.mono (by assumption) (by first | omega | (simp; done) | (simp; omega))) | refine Below.alloc ?_ (by first | omega | (simp; done) | (simp; omega)) _ | refine Below.alloc ?_ (Nat.le_refl _) _ | refine below_drewN ?_ _))
      clear b1
      go_wp2_with fail
      refine bodyPost_ret (v := .tuple #[.agg #[.float .f32 0, .float .f32 0, .float .f32 0], .bool false]) ?_ rfl (HV.out _ (Below.setCell (Below.setCell (Below.setCell HB.out (by simp) _) (by simp) _) (by simp) _))
      simp [results, Tryd.results27, go_sem, c0, c1, c2]
    | some zs =>
      subst hO
      have hne : ¬ zs.length = 3 := by simpa [is3] using h3'
      have hnl : zs.length ≤ 256 := by simpa using hn
      have HC : RowKit.Hid (_) := HC
      simp only [Option.getD_some, Option.isSome_some] at HC
      have hni : ((zs.length : Int) != 3) = true := by simp; omega
      clear h3 h3' hn
      go_enter Tryd.func27, Tryd.ntmps27
      go_wp2_with fail
      refine (HC.out _ (MaxOk.below hm (by repeat (first | exact Below.refl _ _ | refine Below.setCell ?_ (by first | (simp; done) | (simp; omega)) _ | refine Below.trans ?_ (Below.mono (by assumption) (by first | omega | (simp; done) | (simp; omega))) | refine Below.alloc ?_ (by first | omega | (simp; done) | (simp; omega)) _ | refine Below.alloc ?_ (Nat.le_refl _) _ | refine below_drewN ?_ _)))).mono ?_
      rintro e w1 ⟨ao, cp, rfl, -, b1⟩
      have hs1 : w.heap.size + 1 ≤ w1.heap.size := by have := b1.size; simp at this; omega
      have hbx : w1.heap[w.heap.size]? = some (.cells #[.float .f32 0, .float .f32 0, .float .f32 0] 43 (0, 0)) := (b1.block w.heap.size (by simp)).trans (heap_alloc_new w _)
      have c0 : w1.cell? ⟨w.heap.size, 0, none⟩ = some (.float .f32 0) := box_cell hbx 0
      have c1 : w1.cell? ⟨w.heap.size, 1, none⟩ = some (.float .f32 0) := box_cell hbx 1
      have c2 : w1.cell? ⟨w.heap.size, 2, none⟩ = some (.float .f32 0) := box_cell hbx 2
      have f0 := box_free hbx 0
      have f1 := box_free hbx 1
      have f2 := box_free hbx 2
      have HB : RowKit.Hid (Below w.heap.size w w1) := Lib.hid (by repeat (first | exact Below.refl _ _ | refine Below.setCell ?_ (by first | (simp; done) | (simp; omega)) _ | refine Below.trans ?_ (Below.mono (by assumption) (by first | omega | (simp; done) | (simp; omega))) | refine Below.alloc ?_ (by first | omega | (simp; done) | (simp; omega)) _ | refine Below.alloc ?_ (Nat.le_refl _) _ | refine below_drewN ?_ _))
      clear b1
      go_wp2_with fail
      refine bodyPost_ret (v := .tuple #[.agg #[.float .f32 0, .float .f32 0, .float .f32 0], .bool false]) ?_ rfl (HV.out _ (Below.setCell (Below.setCell (Below.setCell HB.out (by simp) _) (by simp) _) (by simp) _))
      simp [results, Tryd.results27, go_sem, c0, c1, c2]
  obtain ⟨x, y, z, rfl⟩ : ∃ x y z, O = some [x, y, z] := by
    cases O with
    | none => simp [is3] at h3
    | some zs =>
      match zs, h3 with
      | [x, y, z], _ => exact ⟨x, y, z, rfl⟩
      | [], h => simp [is3] at h
      | [_], h => simp [is3] at h
      | [_, _], h => simp [is3] at h
      | _ :: _ :: _ :: _ :: _, h => simp [is3] at h
  have HV : RowKit.Hid (∀ w', Below w.heap.size w w' → VecIs (some [x, y, z]) w (.returned (.tuple #[.agg #[.float .f32 x, .float .f32 y, .float .f32 z], .bool true])) w') := Lib.hid fun w' => VecIs.yes
  simp only [Option.getD_some, Option.isSome_some, List.length_cons, List.length_nil, Nat.zero_add, Nat.reduceAdd] at HC
  clear h3 hn
  go_enter Tryd.func27, Tryd.ntmps27
  go_wp2_with fail
  refine (HC.out _ (MaxOk.below hm (by repeat (first | exact Below.refl _ _ | refine Below.setCell ?_ (by first | (simp; done) | (simp; omega)) _ | refine Below.trans ?_ (Below.mono (by assumption) (by first | omega | (simp; done) | (simp; omega))) | refine Below.alloc ?_ (by first | omega | (simp; done) | (simp; omega)) _ | refine Below.alloc ?_ (Nat.le_refl _) _ | refine below_drewN ?_ _)))).mono ?_
  rintro e w1 ⟨ao, cp, rfl, hr, b1⟩
  have hs1 : w.heap.size + 1 ≤ w1.heap.size := by have := b1.size; simp at this; omega
  have hbx : w1.heap[w.heap.size]? = some (.cells #[.float .f32 0, .float .f32 0, .float .f32 0] 43 (0, 0)) := (b1.block w.heap.size (by simp)).trans (heap_alloc_new w _)
  have c0 : w1.cell? ⟨w.heap.size, 0, none⟩ = some (.float .f32 0) := box_cell hbx 0
  have c1 : w1.cell? ⟨w.heap.size, 1, none⟩ = some (.float .f32 0) := box_cell hbx 1
  have c2 : w1.cell? ⟨w.heap.size, 2, none⟩ = some (.float .f32 0) := box_cell hbx 2
  have f0 := box_free hbx 0
  have f1 := box_free hbx 1
  have f2 := box_free hbx 2
  obtain ⟨g, rfl, hg0, hg1, hg2, hfr⟩ := hr.own.resolve_left (by simp)
  obtain ⟨g', off, e, hbl, hcl⟩ := hr.row.2.2.2.2.resolve_left (by omega)
  simp only [Option.some.injEq, Addr.mk.injEq, and_true] at e
  obtain ⟨rfl, rfl⟩ := e
  have d0 : w1.cell? ⟨g, 0, none⟩ = some (.float .f32 x) := hcl 0 (by omega)
  have d1 : w1.cell? ⟨g, 1, none⟩ = some (.float .f32 y) := hcl 1 (by omega)
  have d2 : w1.cell? ⟨g, 2, none⟩ = some (.float .f32 z) := hcl 2 (by omega)
  have hcap : 3 ≤ cp := hr.row.2.1
  have hcm : cp ≤ 9223372036854775807 := by have := hr.row.2.2.1; unfold maxLen at this; omega
  have hgw : g ≠ w.heap.size := by simp at hg0; omega
  have HB : RowKit.Hid (Below w.heap.size w w1) := Lib.hid (by repeat (first | exact Below.refl _ _ | refine Below.setCell ?_ (by first | (simp; done) | (simp; omega)) _ | refine Below.trans ?_ (Below.mono (by assumption) (by first | omega | (simp; done) | (simp; omega))) | refine Below.alloc ?_ (by first | omega | (simp; done) | (simp; omega)) _ | refine Below.alloc ?_ (Nat.le_refl _) _ | refine below_drewN ?_ _))
  clear b1 hr hfr hcl hg0 hg1 hg2
  go_wp2_with fail
  go_region
  go_wp2_with fail
  refine bodyPost_ret (v := .tuple #[.agg #[.float .f32 x, .float .f32 y, .float .f32 z], .bool true]) ?_ rfl (HV.out _ (Below.setCell (Below.setCell (Below.setCell HB.out (by simp) _) (by simp) _) (by simp) _).drew)
  simp [results, Tryd.results27, go_sem, c0, c1, c2]

theorem spec_ReadVector (s : ByteArray) (w : World) (hs : s.size ≤ 1048576) : Calls Tryd.prog 26 #[.string s] w (VecIs (rdText rdN 256 s.data.toList) w) := by
  have HC := Lib.hid fun w => spec_l01VRead s w hs
  generalize rdText rdN 256 s.data.toList = O at HC ⊢
  clear hs
  obtain ⟨x, hx⟩ : ∃ x, x = v3 O 0 := ⟨_, rfl⟩
  obtain ⟨y, hy⟩ : ∃ y, y = v3 O 1 := ⟨_, rfl⟩
  obtain ⟨z, hz⟩ : ∃ z, z = v3 O 2 := ⟨_, rfl⟩
  obtain ⟨ok, hok⟩ : ∃ ok, ok = is3 O := ⟨_, rfl⟩
  unfold VecIs at HC ⊢
  rw [← hx, ← hy, ← hz, ← hok]
  simp only [← hx, ← hy, ← hz, ← hok] at HC
  clear hx hy hz hok
  go_enter Tryd.func26, Tryd.ntmps26
  go_wp2_with fail
  refine (HC.out _).mono ?_
  rintro e w1 ⟨rfl, b1⟩
  have hs1 : w.heap.size + 1 ≤ w1.heap.size := by have := b1.size; simp at this; omega
  have hbx : w1.heap[w.heap.size]? = some (.cells #[.float .f32 0, .float .f32 0, .float .f32 0] 43 (0, 0)) := (b1.block w.heap.size (by simp)).trans (heap_alloc_new w _)
  have c0 : w1.cell? ⟨w.heap.size, 0, none⟩ = some (.float .f32 0) := box_cell hbx 0
  have c1 : w1.cell? ⟨w.heap.size, 1, none⟩ = some (.float .f32 0) := box_cell hbx 1
  have c2 : w1.cell? ⟨w.heap.size, 2, none⟩ = some (.float .f32 0) := box_cell hbx 2
  have f0 := box_free hbx 0
  have f1 := box_free hbx 1
  have f2 := box_free hbx 2
  have HB : RowKit.Hid (Below w.heap.size w w1) := Lib.hid (by repeat (first | exact Below.refl _ _ | refine Below.setCell ?_ (by first | (simp; done) | (simp; omega)) _ | refine Below.trans ?_ (Below.mono (by assumption) (by first | omega | (simp; done) | (simp; omega))) | refine Below.alloc ?_ (by first | omega | (simp; done) | (simp; omega)) _ | refine Below.alloc ?_ (Nat.le_refl _) _ | refine below_drewN ?_ _))
  clear b1
  go_wp2_with fail
  refine bodyPost_ret (v := .tuple #[.agg #[.float .f32 x, .float .f32 y, .float .f32 z], .bool ok]) ?_ rfl ⟨rfl, (Below.setCell (Below.setCell (Below.setCell HB.out (by simp) _) (by simp) _) (by simp) _)⟩
  simp [results, Tryd.results26, go_sem, c0, c1, c2]

def FnExactReadVector_Env (w : World) : Prop := MaxOk w
theorem FnExactReadVector_env (w : World) (_ : laidMet Tryd.prog Rows.fnExactReadVectorRow.laid w) (hs : w.ShapedOpen Tryd.prog) : FnExactReadVector_Env w := max_of hs
theorem FnExactReadVector_walk (s : ByteArray) (w : World) (hs : s.size ≤ maxLen) (hE : FnExactReadVector_Env w) : Calls Tryd.prog 8 #[.string s] w fun e w' => e = .returned (.bool true) ∧ Below w.heap.size w w' := by
  have HE := Lib.hid (show MaxOk w from hE)
  clear hE
  have hcl : s.size ≤ 9223372036854775807 := by unfold maxLen at hs; omega
  by_cases hl : (s.size : Int) ≤ 1048576
  case neg =>
    go_enter Tryd.func8, Tryd.ntmps8
    go_wp2_with fail
    go_ret
    exact ⟨rfl, (by repeat (first | exact Below.refl _ _ | refine Below.setCell ?_ (by first | (simp; done) | (simp; omega)) _ | refine Below.trans ?_ (Below.mono (by assumption) (by first | omega | (simp; done) | (simp; omega))) | refine Below.alloc ?_ (by first | omega | (simp; done) | (simp; omega)) _ | refine Below.alloc ?_ (Nat.le_refl _) _ | refine below_drewN ?_ _))⟩
  have hl' : s.size ≤ 1048576 := by omega
  have hsp := fun w => spec_ReadVector s w hl'
  have him := fun w hm => impl_ReadVector s w hl' hm
  generalize rdText rdN 256 s.data.toList = O at hsp him
  obtain ⟨x, hx⟩ : ∃ x, x = v3 O 0 := ⟨_, rfl⟩
  obtain ⟨y, hy⟩ : ∃ y, y = v3 O 1 := ⟨_, rfl⟩
  obtain ⟨z, hz⟩ : ∃ z, z = v3 O 2 := ⟨_, rfl⟩
  obtain ⟨ok, hok⟩ : ∃ ok, ok = is3 O := ⟨_, rfl⟩
  unfold VecIs at hsp him
  simp only [← hx, ← hy, ← hz, ← hok] at hsp him
  have HS := Lib.hid hsp
  have HI := Lib.hid him
  clear hx hy hz hok hsp him
  go_enter Tryd.func8, Tryd.ntmps8
  go_wp2_with fail
  refine (HS.out _).mono ?_
  rintro e w1 ⟨rfl, b1⟩
  have HB1 := Lib.hid b1
  have hs1 := b1.size
  clear b1
  go_wp2_with fail
  refine (HI.out _ (MaxOk.below HE.out ?_)).mono ?_
  · exact Below.alloc HB1.out hs1 _
  rintro e w2 ⟨rfl, b2⟩
  have hs2 : w1.heap.size + 1 ≤ w2.heap.size := by have := b2.size; simp at this; omega
  have HB2 : RowKit.Hid (Below w.heap.size w w2) := Lib.hid (Below.trans (by exact Below.alloc HB1.out hs1 _) (b2.mono (by simp; omega)))
  have k0 := (b2.cell (p := ⟨w1.heap.size, 0, none⟩) (by simp)).trans (show _ = some (.float .f32 x) from by go_simp)
  have k1 := (b2.cell (p := ⟨w1.heap.size, 1, none⟩) (by simp)).trans (show _ = some (.float .f32 y) from by go_simp)
  have k2 := (b2.cell (p := ⟨w1.heap.size, 2, none⟩) (by simp)).trans (show _ = some (.float .f32 z) from by go_simp)
  have k3 : w1.heap.size ≠ w2.heap.size := by omega
  have e0 : ∀ o, (w2.alloc o).cell? ⟨w1.heap.size, 0, none⟩ = some (.float .f32 x) := fun o => (World.cell?_alloc_old _ _ _ (by simpa using k3)).trans k0
  have e1 : ∀ o, (w2.alloc o).cell? ⟨w1.heap.size, 1, none⟩ = some (.float .f32 y) := fun o => (World.cell?_alloc_old _ _ _ (by simpa using k3)).trans k1
  have e2 : ∀ o, (w2.alloc o).cell? ⟨w1.heap.size, 2, none⟩ = some (.float .f32 z) := fun o => (World.cell?_alloc_old _ _ _ (by simpa using k3)).trans k2
  clear b2
  go_wp2_with fail
  refine (eqVector x y z x y z _ rfl rfl rfl).mono ?_
  rintro e w3 ⟨rfl, b3⟩
  have HB3 : RowKit.Hid (Below w.heap.size w w3) := Lib.hid (Below.trans (by exact Below.alloc HB2.out (by omega) _) (b3.mono (by simp; omega)))
  clear b3
  go_wp2_with fail
  go_ret
  exact ⟨rfl, HB3.out⟩
end Go.Proofs.YtopacaenlemfcaaDoor
