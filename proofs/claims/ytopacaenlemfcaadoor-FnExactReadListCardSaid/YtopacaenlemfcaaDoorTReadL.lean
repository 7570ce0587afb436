/-
  The walks of the functions that read lists of integers out of a text.
-/
import Derived.Test.YtopacaenlemfcaaDoorTRead
import Derived.Test.YtopacaenlemfcaaDoorTVal
namespace Go.Proofs.YtopacaenlemfcaaDoor
open Go.RowKit Go.TX
theorem elemInt : ElemOk Tryd.prog 2 30 (.int .i64 0) 8 := ⟨Tryd.underlying30, by kernel_rfl, rfl⟩
def decO (l : List UInt8) : Option Int := if decB l then some (valN l) else none
theorem decO_some (l : List UInt8) : (decO l).isSome = decB l := by unfold decO; cases decB l <;> rfl
theorem ValIs.it {l : List UInt8} {w w' : World} {e : Ending} (h : ValIs l w e w') : ∃ u, e = .returned (.tuple #[u, .bool (decO l).isSome]) ∧ (∀ x, decO l = some x → u = .int .i64 x) ∧ Below w.heap.size w w' := by
  refine ⟨_, by rw [decO_some]; exact h.1, fun x hx => ?_, h.2⟩
  unfold decO at hx
  split at hx
  · cases hx; rename_i hb; rw [if_pos hb]
  · cases hx

set_option maxRecDepth 20000 in
theorem impl_ReadList (s : ByteArray) (w : World) (hs : s.size ≤ 1048576) (hm : MaxOk w) (ht : TabOk w) (he : ErrsOk w) : Calls Tryd.prog 17 #[.string s] w (RdV 2 (Value.int .i64) (rdText decO 64 s.data.toList) w) := by
  have hL : s.data.toList.length = s.size := by simp
  obtain ⟨O, hO⟩ : ∃ O, O = rdText decO 64 s.data.toList := ⟨_, rfl⟩
  have hover := fun h => rdText_over (f := decO) (m := 64) (L := s.data.toList) h
  have hbad := fun l hm hl => rdText_bad (f := decO) (m := 64) (L := s.data.toList) (l := l) hm hl
  have hall := fun h => rdText_pcs (f := decO) (m := 64) (L := s.data.toList) h
  have hpl := pcs_len s.data.toList
  have hpm := fun p h => pcs_mem (L := s.data.toList) (p := p) h
  have hc := fun w hm => impl_parted s w hs hm
  rw [← hO] at hover hbad hall ⊢
  rw [hL] at hpl
  simp only [show (if s.data.toList = noneL then [] else cutA [] s.data.toList) = pcs s.data.toList from rfl] at hc
  generalize pcs s.data.toList = ps at hover hbad hall hpl hpm hc
  have hlm : s.data.toList.length ≤ 1048576 := by omega
  have HOV := Lib.hid hover
  have HBAD := Lib.hid hbad
  have HALL := Lib.hid hall
  have HPM := Lib.hid fun p h => Nat.le_trans (hpm p h) hlm
  have HM := Lib.hid hm
  have HT := Lib.hid ht
  have HE := Lib.hid he
  clear ht he
  have HCALL := Lib.hid hc
  clear hO hL hover hbad hall hpm hlm hm hc
  go_enter Tryd.func17, Tryd.ntmps17
  go_wp2_with fail
  refine (HCALL.out _ (MaxOk.below HM.out (by repeat (first | exact Below.refl _ _ | refine Below.setCell ?_ (by first | (simp; done) | (simp; omega)) _ | refine Below.trans ?_ (Below.mono (by assumption) (by first | omega | (simp; done) | (simp; omega))) | refine Below.alloc ?_ (by first | omega | (simp; done) | (simp; omega)) _ | refine Below.alloc ?_ (Nat.le_refl _) _ | refine below_drewN ?_ _)))).mono ?_
  rintro e w1 ⟨pv, rfl, ho, b1⟩
  obtain ⟨ao, cp, hpv⟩ := ho.shape
  rw [List.length_map] at hpv
  have HPO := Lib.hid ho
  have hs1 : w.heap.size + 1 ≤ w1.heap.size := by have := b1.size; simp at this; omega
  have B1 : Below w.heap.size w w1 := (by repeat (first | exact Below.refl _ _ | refine Below.setCell ?_ (by first | (simp; done) | (simp; omega)) _ | refine Below.trans ?_ (Below.mono (by assumption) (by first | omega | (simp; done) | (simp; omega))) | refine Below.alloc ?_ (by first | omega | (simp; done) | (simp; omega)) _ | refine Below.alloc ?_ (Nat.le_refl _) _ | refine below_drewN ?_ _))
  have O1 : OwnL w1 w.heap.size 2 (.slice (some ⟨w.heap.size, 0, none⟩) 0 0) [] := (OwnL.new w 2).below b1
  have hap : Apart pv (.slice (some ⟨w.heap.size, 0, none⟩) 0 0) := by
    refine .inr fun e => ?_
    have := (HPO.out.lt _ e).1
    simp at this
    omega
  have hcpm : ps.length ≤ cp ∨ ao = none := by
    rcases ho.2 with ⟨e, _⟩ | ⟨g, c, cur, e, _, _, hnc, _⟩
    · rw [hpv] at e; simp at e; exact .inr e.1
    · rw [hpv] at e; simp at e; simp only [List.length_map] at hnc; exact .inl (by omega)
  have HB1 := Lib.hid B1
  have HO1 := Lib.hid O1
  have HAP := Lib.hid hap
  clear ho b1 B1 O1 hap
  subst hpv
  go_wp2_with fail
  go_loopw [4, 13] (fun out k wr => ∃ i : Nat, ∃ xs : List _, i ≤ ps.length ∧ i ≤ 64 ∧ xs.length = i ∧ k = .int .i64 i ∧ RowKit.Hid (rdAll decO (ps.take i) = some xs) ∧ OwnL wr w.heap.size 2 out (xs.map (Value.int .i64)) ∧ RowKit.Hid (OwnL wr (w.heap.size + 1) 9 (.slice ao ps.length cp) (ps.map strV) ∧ Apart (.slice ao ps.length cp) out) ∧ Below w.heap.size w wr) (fun _ k _ => ps.length - (intOf k).toNat)
  case atStart => exact ⟨0, [], by omega, by omega, rfl, rfl, Lib.hid rfl, HO1.out, Lib.hid ⟨by simpa using HPO.out, HAP.out⟩, HB1.out⟩
  case round =>
    obtain ⟨i, xs, hi, hiM, hxl, rfl, hr, ho, hpo, hb⟩ := hrel
    obtain ⟨oo, oc, e⟩ := ho.shape
    rw [List.length_map, hxl] at e
    subst e
    have HO := Lib.hid ho
    have HB := Lib.hid hb
    clear ho hb HO1 HB1 HAP HPO
    by_cases hlt : i < ps.length
    · obtain ⟨l, hl⟩ : ∃ l, ps[i]? = some l := ⟨_, List.getElem?_eq_getElem hlt⟩
      have hmem : l ∈ ps := List.mem_of_getElem? hl
      have hll := HPM.out l hmem
      obtain ⟨g, rfl⟩ : ∃ g, ao = some ⟨g, 0, none⟩ := by
        rcases hpo.out.1.2 with ⟨e, e0⟩ | ⟨g, c, cur, e, _⟩
        · simp at e0; subst e0; simp at hlt
        · simp at e; exact ⟨g, e.1⟩
      have hcp : ps.length ≤ cp := hcpm.resolve_right (by simp)
      have hcpx : cp ≤ 9223372036854775807 := by
        rcases hpo.out.1.2 with ⟨e, e0⟩ | ⟨g', c, cur, e, _, _, _, hcm, _⟩
        · simp at e
        · simp at e; unfold maxLen at hcm; omega
      have hcx : wr.cell? ⟨g, i, none⟩ = some (strV l) := hpo.out.1.cell.2.2.2.2.2 i (strV l) (by simp [hl])
      have hgl : g < wr.heap.size := hpo.out.1.cell.2.2.2.1
      unfold strV at hcx
      have HRN := Lib.hid (take_at hl)
      have hln : (xs.map (Value.int .i64)).length ≤ 100000 := by simp; omega
      have hs2 := HB.out.size
      have hit := (impl_ReadDecimal ⟨l.toArray⟩ wr (by rw [str_size]; omega) (HT.out.below HB.out) (HE.out.below HB.out)).mono (R' := fun e w' => ∃ u, e = .returned (.tuple #[u, .bool (decO l).isSome]) ∧ (∀ x, decO l = some x → u = .int .i64 x) ∧ Below wr.heap.size wr w') fun e w' h => ValIs.it h
      cases hfl : decO l with
      | none =>
        have HV : RowKit.Hid (∀ w', Below w.heap.size w w' → RdV 2 (Value.int .i64) O w (.returned (.tuple #[.slice none 0 0, .bool false])) w') := Lib.hid fun w' => RdV.none (HBAD.out l hmem hfl)
        rw [hfl] at hit
        have HIT := Lib.hid hit
        clear hl hmem hfl hit HBAD HOV HALL hpo
        go_wp2_with (first | (go_at_call 15; refine HIT.out.mono ?_; rintro e w2 ⟨u, rfl, -, b2⟩))
        go_ret2
        exact HV.out _ (HB.out.trans (b2.mono HB.out.size))
      | some x =>
        rw [hfl] at hit
        have HX := Lib.hid (rdAll_snoc hr.out hfl)
        have HIT := Lib.hid hit
        by_cases hmx : i = 64
        · have HV : RowKit.Hid (∀ w', Below w.heap.size w w' → RdV 2 (Value.int .i64) O w (.returned (.tuple #[.slice none 0 0, .bool false])) w') := Lib.hid fun w' => RdV.none (HOV.out (by omega))
          have hme : ((i : Int) == 64) = true := by simp; omega
          clear hl hmem hfl hit HBAD HOV HALL hpo hmx
          go_wp2_with (first | (go_at_call 15; refine HIT.out.mono ?_; rintro e w2 ⟨u, rfl, -, b2⟩))
          go_ret2
          exact HV.out _ (HB.out.trans (b2.mono HB.out.size))
        · have hme : ((i : Int) == 64) = false := by simp; omega
          clear hl hmem hfl hit HBAD HOV HALL
          go_wp2_with (first | (go_at_call 15; refine HIT.out.mono ?_; rintro e w2 ⟨u, rfl, hu, b2⟩; obtain rfl := hu x rfl; have hs3 := b2.size) | (at_builtin; refine wpList_append1A elemInt (by omega) rfl (.tmp 29) (.tmp 31) rfl rfl rfl (HO.out.below (b2.trans (by repeat (first | exact Below.refl _ _ | refine Below.setCell ?_ (by first | (simp; done) | (simp; omega)) _ | refine Below.trans ?_ (Below.mono (by assumption) (by first | omega | (simp; done) | (simp; omega))) | refine Below.alloc ?_ (by first | omega | (simp; done) | (simp; omega)) _ | refine Below.alloc ?_ (Nat.le_refl _) _ | refine below_drewN ?_ _)))) (by simp; omega) hln (by go_simp; rfl) rfl ?_; intro v' w' h7 hgr h8; have hbn := own_stepL HO.out (b2.trans (by repeat (first | exact Below.refl _ _ | refine Below.setCell ?_ (by first | (simp; done) | (simp; omega)) _ | refine Below.trans ?_ (Below.mono (by assumption) (by first | omega | (simp; done) | (simp; omega))) | refine Below.alloc ?_ (by first | omega | (simp; done) | (simp; omega)) _ | refine Below.alloc ?_ (Nat.le_refl _) _ | refine below_drewN ?_ _))) hgr HB.out (by first | (simp; done) | (simp; omega)); have hkp := OwnL.keep (hpo.out.1.below (b2.trans (by repeat (first | exact Below.refl _ _ | refine Below.setCell ?_ (by first | (simp; done) | (simp; omega)) _ | refine Below.trans ?_ (Below.mono (by assumption) (by first | omega | (simp; done) | (simp; omega))) | refine Below.alloc ?_ (by first | omega | (simp; done) | (simp; omega)) _ | refine Below.alloc ?_ (Nat.le_refl _) _ | refine below_drewN ?_ _)))) hpo.out.2 hgr; have hka := hpo.out.2.step h8 (fun k hk => by have := (hpo.out.1.lt k hk).2; simp; omega)))
          go_roundw
          case rel => exact ⟨i + 1, xs ++ [x], by omega, by omega, by simp [hxl], by go_num, by rw [HRN.out]; exact HX, by rw [List.map_append]; exact h7, Lib.hid ⟨hkp, hka⟩, hbn⟩
          case measure => simp [intOf]; omega
    · obtain rfl : i = ps.length := by omega
      have hfin := hr.out
      rw [List.take_length] at hfin
      have hV := RdV.some (w := w) (w' := wr) (T := 2) (mk := (Value.int .i64)) (v := .slice oo ps.length oc) ((HALL.out (by omega)).trans hfin) HO.out HB.out
      have HV := Lib.hid hV
      clear hfin hV hpo
      go_wp2_with fail
      go_ret2
      exact HV.out

set_option maxRecDepth 20000 in
theorem spec_l01Numbers (s : ByteArray) (w : World) (hs : s.size ≤ 1048576) : Calls Tryd.prog 36 #[.string s] w (RdV 2 (Value.int .i64) (rdText decO 64 s.data.toList) w) := by
  have hL : s.data.toList.length = s.size := by simp
  by_cases hn : s.data.toList = noneL
  · have hc1 : (s.toList == [110, 111, 110, 101]) = true := by rw [ByteArray.toList_eq, hn]; rfl
    have HV := Lib.hid (RdV.some (w := w) (T := 2) (mk := (Value.int .i64)) (rdText_none (f := decO) (m := 64) hn) (OwnL.new w 2) (Below.alloc (Below.refl _ _) (Nat.le_refl _) _))
    clear hn hL
    go_enter Tryd.func36, Tryd.ntmps36
    go_wp2_with fail
    go_ret2
    exact HV.out
  have hc1 : (s.toList == [110, 111, 110, 101]) = false := by rw [ByteArray.toList_eq]; simpa [noneL] using hn
  obtain ⟨O, hO⟩ : ∃ O, O = rdText decO 64 s.data.toList := ⟨_, rfl⟩
  have hover := fun h => rdText_long (f := decO) (m := 64) (L := s.data.toList) hn h
  have hall := fun h => rdText_cut (f := decO) (m := 64) (L := s.data.toList) hn h
  have hpl := cutA_len [] s.data.toList
  have hpm := fun p h => cutA_mem [] s.data.toList p h
  have hc := fun w => spec_l01Cut s w hs
  rw [← hO] at hover hall ⊢
  rw [hL] at hpl
  generalize cutA [] s.data.toList = ps at hover hall hpl hpm hc
  have hlm : s.data.toList.length ≤ 1048576 := by omega
  have HALL := Lib.hid hall
  have HPM := Lib.hid fun p h => Nat.le_trans (hpm p h) (by simpa using hlm)
  have HCALL := Lib.hid hc
  by_cases hmx : ps.length ≤ 64
  case neg =>
    have HV : RowKit.Hid (∀ w', Below w.heap.size w w' → RdV 2 (Value.int .i64) O w (.returned (.tuple #[.slice none 0 0, .bool false])) w') := Lib.hid fun w' => RdV.none (hover hmx)
    clear hO hL hover hall hpm hlm hc hn HALL HPM
    go_enter Tryd.func36, Tryd.ntmps36
    go_wp2_with fail
    refine (HCALL.out _).mono ?_
    rintro e w1 ⟨pv, rfl, ho, b1⟩
    obtain ⟨ao, cp, hpv⟩ := ho.shape
    rw [List.length_map] at hpv
    have hs1 : w.heap.size + 1 ≤ w1.heap.size := by have := b1.size; simp at this; omega
    have B1 : Below w.heap.size w w1 := (by repeat (first | exact Below.refl _ _ | refine Below.setCell ?_ (by first | (simp; done) | (simp; omega)) _ | refine Below.trans ?_ (Below.mono (by assumption) (by first | omega | (simp; done) | (simp; omega))) | refine Below.alloc ?_ (by first | omega | (simp; done) | (simp; omega)) _ | refine Below.alloc ?_ (Nat.le_refl _) _ | refine below_drewN ?_ _))
    have HB1 := Lib.hid B1
    clear ho b1 B1
    subst hpv
    go_wp2_with fail
    go_ret2
    exact HV.out _ HB1.out
  clear hO hL hover hall hpm hlm hc hn
  go_enter Tryd.func36, Tryd.ntmps36
  go_wp2_with fail
  refine (HCALL.out _).mono ?_
  rintro e w1 ⟨pv, rfl, ho, b1⟩
  obtain ⟨ao, cp, hpv⟩ := ho.shape
  rw [List.length_map] at hpv
  have HPO := Lib.hid ho
  have hs1 : w.heap.size + 1 ≤ w1.heap.size := by have := b1.size; simp at this; omega
  have B1 : Below w.heap.size w w1 := (by repeat (first | exact Below.refl _ _ | refine Below.setCell ?_ (by first | (simp; done) | (simp; omega)) _ | refine Below.trans ?_ (Below.mono (by assumption) (by first | omega | (simp; done) | (simp; omega))) | refine Below.alloc ?_ (by first | omega | (simp; done) | (simp; omega)) _ | refine Below.alloc ?_ (Nat.le_refl _) _ | refine below_drewN ?_ _))
  have O1 : OwnL w1 w.heap.size 2 (.slice (some ⟨w.heap.size, 0, none⟩) 0 0) [] := (OwnL.new w 2).below b1
  have hap : Apart pv (.slice (some ⟨w.heap.size, 0, none⟩) 0 0) := by
    refine .inr fun e => ?_
    have := (HPO.out.lt _ e).1
    simp at this
    omega
  have hcpm : ps.length ≤ cp ∨ ao = none := by
    rcases ho.2 with ⟨e, _⟩ | ⟨g, c, cur, e, _, _, hnc, _⟩
    · rw [hpv] at e; simp at e; exact .inr e.1
    · rw [hpv] at e; simp at e; simp only [List.length_map] at hnc; exact .inl (by omega)
  have HB1 := Lib.hid B1
  have HO1 := Lib.hid O1
  have HAP := Lib.hid hap
  clear ho b1 B1 O1 hap
  subst hpv
  go_wp2_with fail
  go_loopw [4, 6] (fun out k wr => ∃ i : Nat, ∃ xs : List _, i ≤ ps.length ∧ xs.length = i ∧ k = .int .i64 i ∧ RowKit.Hid (rdAll decO (ps.take i) = some xs) ∧ OwnL wr w.heap.size 2 out (xs.map (Value.int .i64)) ∧ RowKit.Hid (OwnL wr (w.heap.size + 1) 9 (.slice ao ps.length cp) (ps.map strV) ∧ Apart (.slice ao ps.length cp) out) ∧ Below w.heap.size w wr) (fun _ k _ => ps.length - (intOf k).toNat)
  case atStart => exact ⟨0, [], by omega, rfl, rfl, Lib.hid rfl, HO1.out, Lib.hid ⟨by simpa using HPO.out, HAP.out⟩, HB1.out⟩
  case round =>
    obtain ⟨i, xs, hi, hxl, rfl, hr, ho, hpo, hb⟩ := hrel
    obtain ⟨oo, oc, e⟩ := ho.shape
    rw [List.length_map, hxl] at e
    subst e
    have HO := Lib.hid ho
    have HB := Lib.hid hb
    clear ho hb HO1 HB1 HAP HPO
    by_cases hlt : i < ps.length
    · obtain ⟨l, hl⟩ : ∃ l, ps[i]? = some l := ⟨_, List.getElem?_eq_getElem hlt⟩
      have hmem : l ∈ ps := List.mem_of_getElem? hl
      have hll := HPM.out l hmem
      obtain ⟨g, rfl⟩ : ∃ g, ao = some ⟨g, 0, none⟩ := by
        rcases hpo.out.1.2 with ⟨e, e0⟩ | ⟨g, c, cur, e, _⟩
        · simp at e0; subst e0; simp at hlt
        · simp at e; exact ⟨g, e.1⟩
      have hcp : ps.length ≤ cp := hcpm.resolve_right (by simp)
      have hcpx : cp ≤ 9223372036854775807 := by
        rcases hpo.out.1.2 with ⟨e, e0⟩ | ⟨g', c, cur, e, _, _, _, hcm, _⟩
        · simp at e
        · simp at e; unfold maxLen at hcm; omega
      have hcx : wr.cell? ⟨g, i, none⟩ = some (strV l) := hpo.out.1.cell.2.2.2.2.2 i (strV l) (by simp [hl])
      have hgl : g < wr.heap.size := hpo.out.1.cell.2.2.2.1
      unfold strV at hcx
      have HRN := Lib.hid (take_at hl)
      have hln : (xs.map (Value.int .i64)).length ≤ 100000 := by simp; omega
      have hs2 := HB.out.size
      have HBAD : RowKit.Hid (decO l = none → ∀ w', Below w.heap.size w w' → RdV 2 (Value.int .i64) O w (.returned (.tuple #[.slice none 0 0, .bool false])) w') := Lib.hid fun hfl w' => RdV.none ((HALL.out hmx).trans (rdAll_none hmem hfl))
      have hit := (spec_l01Value ⟨l.toArray⟩ wr (by rw [str_size]; unfold maxLen; omega)).mono (R' := fun e w' => ∃ u, e = .returned (.tuple #[u, .bool (decO l).isSome]) ∧ (∀ x, decO l = some x → u = .int .i64 x) ∧ Below wr.heap.size wr w') fun e w' h => ValIs.it h
      cases hfl : decO l with
      | none =>
        have HV := Lib.hid (HBAD.out hfl)
        rw [hfl] at hit
        have HIT := Lib.hid hit
        clear hl hmem hfl hit HBAD HALL hpo
        go_wp2_with (first | (go_at_call 33; refine HIT.out.mono ?_; rintro e w2 ⟨u, rfl, -, b2⟩))
        go_ret2
        exact HV.out _ (HB.out.trans (b2.mono HB.out.size))
      | some x =>
        rw [hfl] at hit
        have HX := Lib.hid (rdAll_snoc hr.out hfl)
        have HIT := Lib.hid hit
        clear hl hmem hfl hit HBAD HALL
        go_wp2_with (first | (go_at_call 33; refine HIT.out.mono ?_; rintro e w2 ⟨u, rfl, hu, b2⟩; obtain rfl := hu x rfl; have hs3 := b2.size) | (at_builtin; refine wpList_append1A elemInt (by omega) rfl (.tmp 34) (.tmp 36) rfl rfl rfl (HO.out.below (b2.trans (by repeat (first | exact Below.refl _ _ | refine Below.setCell ?_ (by first | (simp; done) | (simp; omega)) _ | refine Below.trans ?_ (Below.mono (by assumption) (by first | omega | (simp; done) | (simp; omega))) | refine Below.alloc ?_ (by first | omega | (simp; done) | (simp; omega)) _ | refine Below.alloc ?_ (Nat.le_refl _) _ | refine below_drewN ?_ _)))) (by simp; omega) hln (by go_simp; rfl) rfl ?_; intro v' w' h7 hgr h8; have hbn := own_stepL HO.out (b2.trans (by repeat (first | exact Below.refl _ _ | refine Below.setCell ?_ (by first | (simp; done) | (simp; omega)) _ | refine Below.trans ?_ (Below.mono (by assumption) (by first | omega | (simp; done) | (simp; omega))) | refine Below.alloc ?_ (by first | omega | (simp; done) | (simp; omega)) _ | refine Below.alloc ?_ (Nat.le_refl _) _ | refine below_drewN ?_ _))) hgr HB.out (by first | (simp; done) | (simp; omega)); have hkp := OwnL.keep (hpo.out.1.below (b2.trans (by repeat (first | exact Below.refl _ _ | refine Below.setCell ?_ (by first | (simp; done) | (simp; omega)) _ | refine Below.trans ?_ (Below.mono (by assumption) (by first | omega | (simp; done) | (simp; omega))) | refine Below.alloc ?_ (by first | omega | (simp; done) | (simp; omega)) _ | refine Below.alloc ?_ (Nat.le_refl _) _ | refine below_drewN ?_ _)))) hpo.out.2 hgr; have hka := hpo.out.2.step h8 (fun k hk => by have := (hpo.out.1.lt k hk).2; simp; omega)))
        go_roundw
        case rel => exact ⟨i + 1, xs ++ [x], by omega, by simp [hxl], by go_num, by rw [HRN.out]; exact HX, by rw [List.map_append]; exact h7, Lib.hid ⟨hkp, hka⟩, hbn⟩
        case measure => simp [intOf]; omega
    · obtain rfl : i = ps.length := by omega
      have hfin := hr.out
      rw [List.take_length] at hfin
      have hV := RdV.some (w := w) (w' := wr) (T := 2) (mk := (Value.int .i64)) (v := .slice oo ps.length oc) ((HALL.out hmx).trans hfin) HO.out HB.out
      have HV := Lib.hid hV
      clear hfin hV hpo
      go_wp2_with fail
      go_ret2
      exact HV.out

theorem spec_ReadList (s : ByteArray) (w : World) (hs : s.size ≤ 1048576) : Calls Tryd.prog 16 #[.string s] w (RdV 2 (Value.int .i64) (rdText decO 64 s.data.toList) w) := by
  have HC := Lib.hid (spec_l01Numbers s w hs)
  generalize rdText decO 64 s.data.toList = O at HC ⊢
  clear hs
  go_enter Tryd.func16, Tryd.ntmps16
  go_wp2_with fail
  refine HC.out.mono ?_
  rintro e w1 ⟨v, rfl, ho, b1⟩
  have HV := Lib.hid (show RdV 2 (Value.int .i64) O w (.returned (.tuple #[v, .bool O.isSome])) w1 from ⟨v, rfl, ho, b1⟩)
  generalize O.isSome = ok at HV ⊢
  clear ho
  go_wp2_with fail
  go_ret2
  exact HV.out
end Go.Proofs.YtopacaenlemfcaaDoor
