/-
  The walks of the functions that read lists of floats out of a text.
-/
import Derived.Test.YtopacaenlemfcaaDoorTRead
import Derived.Test.YtopacaenlemfcaaDoorTVal
import Derived.Test.YtopacaenlemfcaaDoorOne
namespace Go.TX
theorem numH_next {l : List UInt8} {k n : Nat} (h : numH (l.take k) = some n) (hk : k < l.length) (hv : hexV (l[k]'hk) < 16) : numH (l.take (k + 1)) = some (16 * n + hexV (l[k]'hk)) := by
  rw [List.take_succ_eq_append_getElem hk, numH_snoc, h]
  simp [hexF, hv]
theorem numH_stop {l : List UInt8} {k n : Nat} (h : numH (l.take k) = some n) (hk : k < l.length) (hv : ¬ hexV (l[k]'hk) < 16) : numH l = none := by
  have : numH (l.take (k + 1)) = none := by
    rw [List.take_succ_eq_append_getElem hk, numH_snoc, h]
    simp [hexF, hv]
  rw [← List.take_append_drop (k + 1) l]
  exact numH_none _ _ this
end Go.TX
namespace Go.Proofs.YtopacaenlemfcaaDoor
open Go.RowKit Go.TX Go.FL
theorem elemFloat : ElemOk Tryd.prog 41 22 (.float .f32 0) 4 := ⟨Tryd.underlying22, by kernel_rfl, rfl⟩
/-- the number that eight digits write, if they are its digits -/
def rdN (l : List UInt8) : Option Nat := if l.length = 8 then (numH l).bind fun n => if bitsOf n = n then some n else none else none
theorem rdN_yes {l : List UInt8} {n : Nat} (h8 : l.length = 8) (hn : numH l = some n) (hb : bitsOf n = n) : rdN l = some n := by simp [rdN, h8, hn, hb]
theorem rdN_nan {l : List UInt8} {n : Nat} (hn : numH l = some n) (hb : bitsOf n ≠ n) : rdN l = none := by
  unfold rdN
  split
  · simp [hn, hb]
  · rfl
theorem rdN_len {l : List UInt8} (h8 : l.length ≠ 8) : rdN l = none := by simp [rdN, h8]
theorem rdN_bad {l : List UInt8} (hn : numH l = none) : rdN l = none := by
  unfold rdN
  split
  · simp [hn]
  · rfl
theorem rdN_lt {l : List UInt8} {n : Nat} (h : rdN l = some n) : n < 4294967296 := by
  unfold rdN at h
  split at h
  · rename_i h8
    cases hn : numH l with
    | none => rw [hn] at h; simp at h
    | some m =>
      have := numH_lt8 (by omega) hn
      rw [hn] at h
      simp only [Option.bind_some] at h
      split at h
      · cases h; exact this
      · cases h
  · cases h
theorem rdText_lt (L : List UInt8) : ∀ z ∈ (rdText rdN 256 L).getD [], z < 4294967296 := by
  intro z hz
  unfold rdText at hz
  split at hz
  · simp at hz
  · split at hz
    · cases hr : rdAll rdN (cutA [] L) with
      | none => rw [hr] at hz; simp at hz
      | some xs =>
        rw [hr] at hz
        obtain ⟨l, _, h⟩ := rdAll_mem hr z hz
        exact rdN_lt h
    · simp at hz
theorem hexV_le (c : UInt8) : hexV c ≤ 16 := by
  unfold hexV
  split
  · omega
  · split <;> omega
theorem str_at (s : ByteArray) (k : Nat) (h : k < s.size) (h2 : k < s.data.toList.length) : s.data.toList[k]'h2 = s[k]'h := by simp [ByteArray.getElem_eq_getElem_data]

theorem FromBits_at (m : Nat) (hm : m < 4294967296) (w : World) : Calls Tryd.prog 48 #[.int .i64 m] w fun e w' => e = .returned (.tuple #[.float .f32 m, .bool true]) ∧ w = w' := by
  go_enter Tryd.func48, Tryd.ntmps48
  go_wp2_with (first | (go_at_call 35; refine (in_t m _ _ _ (by omega) (by omega)).mono ?_; rintro e w' ⟨rfl, rfl⟩))
  go_ret2
  exact ⟨rfl, rfl⟩
theorem l01From_at (m : Nat) (hm : m < 4294967296) (w : World) : Calls Tryd.prog 44 #[.int .i64 m] w fun e w' => e = .returned (.float .f32 m) ∧ w = w' := by
  go_enter Tryd.func44, Tryd.ntmps44
  go_wp2_with fail
  go_ret
  exact ⟨rfl, rfl⟩

theorem hexS : (⟨#[48, 49, 50, 51, 52, 53, 54, 55, 56, 57, 97, 98, 99, 100, 101, 102]⟩ : ByteArray).data.toList = hexDigs := rfl
/-- what reading eight digits hands back -/
def NumIs (l : List UInt8) (w : World) (e : Ending) (w' : World) : Prop := ∃ u, e = .returned (.tuple #[u, .bool (rdN l).isSome]) ∧ (∀ x, rdN l = some x → u = .float .f32 x) ∧ Below w.heap.size w w'
theorem NumIs.no {l : List UInt8} (h : rdN l = none) {w w' : World} {u : Value} (hb : Below w.heap.size w w') : NumIs l w (.returned (.tuple #[u, .bool false])) w' := ⟨u, by rw [h]; rfl, by rw [h]; simp, hb⟩
theorem NumIs.yes {l : List UInt8} {n : Nat} (h : rdN l = some n) {w w' : World} (hb : Below w.heap.size w w') : NumIs l w (.returned (.tuple #[.float .f32 n, .bool true])) w' := ⟨.float .f32 n, by rw [h]; rfl, by rw [h]; simp, hb⟩

set_option maxRecDepth 20000 in
theorem impl_readNumber (s : ByteArray) (w : World) (hs : s.size ≤ 1048576) : Calls Tryd.prog 31 #[.string s] w (NumIs s.data.toList w) := by
  have hL : s.data.toList.length = s.size := by simp
  have HL := Lib.hid hL
  clear hL
  go_enter Tryd.func31, Tryd.ntmps31
  go_wp2_with fail
  go_loopw [4, 11] (fun n k wr => ∃ i m : Nat, i ≤ s.size ∧ i ≤ 8 ∧ k = .int .i64 i ∧ n = .int .i64 m ∧ RowKit.Hid (numH (s.data.toList.take i) = some m) ∧ m < 4294967296 ∧ wr = w) (fun _ k _ => s.size - (intOf k).toNat)
  case atStart => exact ⟨0, 0, by omega, by omega, rfl, rfl, Lib.hid rfl, by omega, rfl⟩
  case round =>
    obtain ⟨i, m, hi, hi8, rfl, rfl, hm, hmb, rfl⟩ := hrel
    by_cases hlt : i < s.size
    · have hix := Tryd.strings_IndexByte ⟨#[48, 49, 50, 51, 52, 53, 54, 55, 56, 57, 97, 98, 99, 100, 101, 102]⟩ ((s[i]'hlt).toNat : Int) wr
      have hb : ((s[i]'hlt).toNat : Int).toNat.toUInt8 = s[i]'hlt := by simp
      rw [hexS, hb, hexV_index] at hix
      have hat := str_at s i hlt (by rw [HL.out]; exact hlt)
      by_cases hv : hexV (s[i]'hlt) < 16
      · rw [if_pos hv] at hix
        have HN := Lib.hid (numH_next hm.out (by rw [HL.out]; exact hlt) (by rw [hat]; exact hv))
        rw [hat] at HN
        generalize hexV (s[i]'hlt) = d at hix HN hv
        have HIX := Lib.hid hix
        clear hix hat hb
        by_cases h8 : i = 8
        · have HV : RowKit.Hid (∀ w', Below wr.heap.size wr w' → NumIs s.data.toList wr (.returned (.tuple #[.float .f32 0, .bool false])) w') := Lib.hid fun w' => NumIs.no (rdN_len (by rw [HL.out]; omega))
          have he : ((i : Int) == 8) = true := by simp; omega
          clear h8
          go_wp2_with (first | (go_at_call 47; refine HIX.out.mono ?_; rintro e w' ⟨rfl, rfl⟩))
          go_ret2
          exact HV.out _ (Below.refl _ _)
        · have he : ((i : Int) == 8) = false := by simp; omega
          have HB := Lib.hid (numH_lt8 (by simp; omega) HN.out)
          go_wp2_with (first | (go_at_call 47; refine HIX.out.mono ?_; rintro e w' ⟨rfl, rfl⟩))
          go_roundw
          case rel => exact ⟨i + 1, 16 * m + d, by omega, by omega, by go_num, by go_num, HN, HB.out, by first | trivial | rfl⟩
          case measure => simp [intOf]; omega
      · rw [if_neg hv] at hix
        have HV : RowKit.Hid (∀ w', Below wr.heap.size wr w' → NumIs s.data.toList wr (.returned (.tuple #[.float .f32 0, .bool false])) w') := Lib.hid fun w' => NumIs.no (rdN_bad (numH_stop hm.out (by rw [HL.out]; exact hlt) (by rw [hat]; exact hv)))
        have HIX := Lib.hid hix
        clear hix hat hb hv
        go_wp2_with (first | (go_at_call 47; refine HIX.out.mono ?_; rintro e w' ⟨rfl, rfl⟩))
        go_ret2
        exact HV.out _ (Below.refl _ _)
    · obtain rfl : i = s.size := by omega
      have hmm := hm.out
      rw [List.take_of_length_le (by rw [HL.out]; exact Nat.le_refl _)] at hmm
      by_cases h8 : s.size = 8
      · have he : ((s.size : Int) == 8) = true := by simp; omega
        by_cases hbm : bitsOf m = m
        · have HV : RowKit.Hid (∀ w', Below wr.heap.size wr w' → NumIs s.data.toList wr (.returned (.tuple #[.float .f32 m, .bool true])) w') := Lib.hid fun w' => NumIs.yes (rdN_yes (by rw [HL.out]; exact h8) hmm hbm)
          have hbe : ((bitsOf m : Int) == (m : Int)) = true := by rw [hbm]; simp
          clear hmm h8 hbm
          go_wp2_with (first | (go_at_call 48; refine (FromBits_at m hmb _).mono ?_; rintro e w' ⟨rfl, rfl⟩) | (go_at_call 49; refine (BitsOf m _ hmb).mono ?_; rintro e w' ⟨rfl, rfl⟩))
          go_ret2
          exact HV.out _ (Below.refl _ _)
        · have HV : RowKit.Hid (∀ w', Below wr.heap.size wr w' → NumIs s.data.toList wr (.returned (.tuple #[.float .f32 m, .bool false])) w') := Lib.hid fun w' => NumIs.no (rdN_nan hmm hbm)
          have hbe : ((bitsOf m : Int) == (m : Int)) = false := by simp; intro e; exact hbm (by exact_mod_cast e)
          clear hmm h8 hbm
          go_wp2_with (first | (go_at_call 48; refine (FromBits_at m hmb _).mono ?_; rintro e w' ⟨rfl, rfl⟩) | (go_at_call 49; refine (BitsOf m _ hmb).mono ?_; rintro e w' ⟨rfl, rfl⟩))
          go_ret2
          exact HV.out _ (Below.refl _ _)
      · have he : ((s.size : Int) == 8) = false := by simp; omega
        have HV : RowKit.Hid (∀ w', Below wr.heap.size wr w' → NumIs s.data.toList wr (.returned (.tuple #[.float .f32 m, .bool false])) w') := Lib.hid fun w' => NumIs.no (rdN_len (by rw [HL.out]; exact h8))
        clear hmm h8
        go_wp2_with (first | (go_at_call 48; refine (FromBits_at m hmb _).mono ?_; rintro e w' ⟨rfl, rfl⟩))
        go_ret2
        exact HV.out _ (Below.refl _ _)

set_option maxRecDepth 20000 in
theorem impl_ReadNumbers (s : ByteArray) (w : World) (hs : s.size ≤ 1048576) (hm : MaxOk w) : Calls Tryd.prog 10 #[.string s] w (RdV 41 (Value.float .f32) (rdText rdN 256 s.data.toList) w) := by
  have hL : s.data.toList.length = s.size := by simp
  obtain ⟨O, hO⟩ : ∃ O, O = rdText rdN 256 s.data.toList := ⟨_, rfl⟩
  have hover := fun h => rdText_over (f := rdN) (m := 256) (L := s.data.toList) h
  have hbad := fun l hm hl => rdText_bad (f := rdN) (m := 256) (L := s.data.toList) (l := l) hm hl
  have hall := fun h => rdText_pcs (f := rdN) (m := 256) (L := s.data.toList) h
  have hpl := pcs_len s.data.toList
  have hpm := fun p h => pcs_mem (L := s.data.toList) (p := p) h
  have hc := fun w hm => impl_parted s w hs hm
  rw [← hO] at hover hbad hall ⊢
  rw [hL] at hpl
  simp only [show (if s.data.toList = noneL then [] else cutA [] s.data.toList) = pcs s.data.toList from rfl] at hc
  generalize pcs s.data.toList = ps at hover hbad hall hpl hpm hc
  have hlm : s.data.toList.length ≤ 1048576 := by omega
  have HOV := Lib.hid hover
  have HBAD := Lib.hid hbad
  have HALL := Lib.hid hall
  have HPM := Lib.hid fun p h => Nat.le_trans (hpm p h) hlm
  have HM := Lib.hid hm
  have HCALL := Lib.hid hc
  clear hO hL hover hbad hall hpm hlm hm hc
  go_enter Tryd.func10, Tryd.ntmps10
  go_wp2_with fail
  refine (HCALL.out _ (MaxOk.below HM.out (by repeat (first | exact Below.refl _ _ | refine Below.setCell ?_ (by first | (simp; done) | (simp; omega)) _ | refine Below.trans ?_ (Below.mono (by assumption) (by first | omega | (simp; done) | (simp; omega))) | refine Below.alloc ?_ (by first | omega | (simp; done) | (simp; omega)) _ | refine Below.alloc ?_ (Nat.le_refl _) _ | refine below_drewN ?_ _)))).mono ?_
  rintro e w1 ⟨pv, rfl, ho, b1⟩
  obtain ⟨ao, cp, hpv⟩ := ho.shape
  rw [List.length_map] at hpv
  have HPO := Lib.hid ho
  have hs1 : w.heap.size + 1 ≤ w1.heap.size := by have := b1.size; simp at this; omega
  have B1 : Below w.heap.size w w1 := (by repeat (first | exact Below.refl _ _ | refine Below.setCell ?_ (by first | (simp; done) | (simp; omega)) _ | refine Below.trans ?_ (Below.mono (by assumption) (by first | omega | (simp; done) | (simp; omega))) | refine Below.alloc ?_ (by first | omega | (simp; done) | (simp; omega)) _ | refine Below.alloc ?_ (Nat.le_refl _) _ | refine below_drewN ?_ _))
  have O1 : OwnL w1 w.heap.size 41 (.slice (some ⟨w.heap.size, 0, none⟩) 0 0) [] := (OwnL.new w 41).below b1
  have hap : Apart pv (.slice (some ⟨w.heap.size, 0, none⟩) 0 0) := by
    refine .inr fun e => ?_
    have := (HPO.out.lt _ e).1
    simp at this
    omega
  have hcpm : ps.length ≤ cp ∨ ao = none := by
    rcases ho.2 with ⟨e, _⟩ | ⟨g, c, cur, e, _, _, hnc, _⟩
    · rw [hpv] at e; simp at e; exact .inr e.1
    · rw [hpv] at e; simp at e; simp only [List.length_map] at hnc; exact .inl (by omega)
  have HB1 := Lib.hid B1
  have HO1 := Lib.hid O1
  have HAP := Lib.hid hap
  clear ho b1 B1 O1 hap
  subst hpv
  go_wp2_with fail
  go_loopw [4, 13] (fun out k wr => ∃ i : Nat, ∃ xs : List _, i ≤ ps.length ∧ i ≤ 256 ∧ xs.length = i ∧ k = .int .i64 i ∧ RowKit.Hid (rdAll rdN (ps.take i) = some xs) ∧ OwnL wr w.heap.size 41 out (xs.map (Value.float .f32)) ∧ RowKit.Hid (OwnL wr (w.heap.size + 1) 9 (.slice ao ps.length cp) (ps.map strV) ∧ Apart (.slice ao ps.length cp) out) ∧ Below w.heap.size w wr) (fun _ k _ => ps.length - (intOf k).toNat)
  case atStart => exact ⟨0, [], by omega, by omega, rfl, rfl, Lib.hid rfl, HO1.out, Lib.hid ⟨by simpa using HPO.out, HAP.out⟩, HB1.out⟩
  case round =>
    obtain ⟨i, xs, hi, hiM, hxl, rfl, hr, ho, hpo, hb⟩ := hrel
    obtain ⟨oo, oc, e⟩ := ho.shape
    rw [List.length_map, hxl] at e
    subst e
    have HO := Lib.hid ho
    have HB := Lib.hid hb
    clear ho hb HO1 HB1 HAP HPO
    by_cases hlt : i < ps.length
    · obtain ⟨l, hl⟩ : ∃ l, ps[i]? = some l := ⟨_, List.getElem?_eq_getElem hlt⟩
      have hmem : l ∈ ps := List.mem_of_getElem? hl
      have hll := HPM.out l hmem
      obtain ⟨g, rfl⟩ : ∃ g, ao = some ⟨g, 0, none⟩ := by
        rcases hpo.out.1.2 with ⟨e, e0⟩ | ⟨g, c, cur, e, _⟩
        · simp at e0; subst e0; simp at hlt
        · simp at e; exact ⟨g, e.1⟩
      have hcp : ps.length ≤ cp := hcpm.resolve_right (by simp)
      have hcpx : cp ≤ 9223372036854775807 := by
        rcases hpo.out.1.2 with ⟨e, e0⟩ | ⟨g', c, cur, e, _, _, _, hcm, _⟩
        · simp at e
        · simp at e; unfold maxLen at hcm; omega
      have hcx : wr.cell? ⟨g, i, none⟩ = some (strV l) := hpo.out.1.cell.2.2.2.2.2 i (strV l) (by simp [hl])
      have hgl : g < wr.heap.size := hpo.out.1.cell.2.2.2.1
      unfold strV at hcx
      have HRN := Lib.hid (take_at hl)
      have hln : (xs.map (Value.float .f32)).length ≤ 100000 := by simp; omega
      have hs2 := HB.out.size
      have hit := (impl_readNumber ⟨l.toArray⟩ wr (by rw [str_size]; omega)).mono (R' := fun e w' => ∃ u, e = .returned (.tuple #[u, .bool (rdN l).isSome]) ∧ (∀ x, rdN l = some x → u = .float .f32 x) ∧ Below wr.heap.size wr w') fun e w' h => h
      cases hfl : rdN l with
      | none =>
        have HV : RowKit.Hid (∀ w', Below w.heap.size w w' → RdV 41 (Value.float .f32) O w (.returned (.tuple #[.slice none 0 0, .bool false])) w') := Lib.hid fun w' => RdV.none (HBAD.out l hmem hfl)
        rw [hfl] at hit
        have HIT := Lib.hid hit
        clear hl hmem hfl hit HBAD HOV HALL hpo
        go_wp2_with (first | (go_at_call 31; refine HIT.out.mono ?_; rintro e w2 ⟨u, rfl, -, b2⟩))
        go_ret2
        exact HV.out _ (HB.out.trans (b2.mono HB.out.size))
      | some x =>
        rw [hfl] at hit
        have HX := Lib.hid (rdAll_snoc hr.out hfl)
        have HIT := Lib.hid hit
        by_cases hmx : i = 256
        · have HV : RowKit.Hid (∀ w', Below w.heap.size w w' → RdV 41 (Value.float .f32) O w (.returned (.tuple #[.slice none 0 0, .bool false])) w') := Lib.hid fun w' => RdV.none (HOV.out (by omega))
          have hme : ((i : Int) == 256) = true := by simp; omega
          clear hl hmem hfl hit HBAD HOV HALL hpo hmx
          go_wp2_with (first | (go_at_call 31; refine HIT.out.mono ?_; rintro e w2 ⟨u, rfl, -, b2⟩))
          go_ret2
          exact HV.out _ (HB.out.trans (b2.mono HB.out.size))
        · have hme : ((i : Int) == 256) = false := by simp; omega
          clear hl hmem hfl hit HBAD HOV HALL
          go_wp2_with (first | (go_at_call 31; refine HIT.out.mono ?_; rintro e w2 ⟨u, rfl, hu, b2⟩; obtain rfl := hu x rfl; have hs3 := b2.size) | (at_builtin; refine wpList_append1A elemFloat (by omega) rfl (.tmp 29) (.tmp 31) rfl rfl rfl (HO.out.below (b2.trans (by repeat (first | exact Below.refl _ _ | refine Below.setCell ?_ (by first | (simp; done) | (simp; omega)) _ | refine Below.trans ?_ (Below.mono (by assumption) (by first | omega | (simp; done) | (simp; omega))) | refine Below.alloc ?_ (by first | omega | (simp; done) | (simp; omega)) _ | refine Below.alloc ?_ (Nat.le_refl _) _ | refine below_drewN ?_ _)))) (by simp; omega) hln (by go_simp; rfl) rfl ?_; intro v' w' h7 hgr h8; have hbn := own_stepL HO.out (b2.trans (by repeat (first | exact Below.refl _ _ | refine Below.setCell ?_ (by first | (simp; done) | (simp; omega)) _ | refine Below.trans ?_ (Below.mono (by assumption) (by first | omega | (simp; done) | (simp; omega))) | refine Below.alloc ?_ (by first | omega | (simp; done) | (simp; omega)) _ | refine Below.alloc ?_ (Nat.le_refl _) _ | refine below_drewN ?_ _))) hgr HB.out (by first | (simp; done) | (simp; omega)); have hkp := OwnL.keep (hpo.out.1.below (b2.trans (by repeat (first | exact Below.refl _ _ | refine Below.setCell ?_ (by first | (simp; done) | (simp; omega)) _ | refine Below.trans ?_ (Below.mono (by assumption) (by first | omega | (simp; done) | (simp; omega))) | refine Below.alloc ?_ (by first | omega | (simp; done) | (simp; omega)) _ | refine Below.alloc ?_ (Nat.le_refl _) _ | refine below_drewN ?_ _)))) hpo.out.2 hgr; have hka := hpo.out.2.step h8 (fun k hk => by have := (hpo.out.1.lt k hk).2; simp; omega)))
          go_roundw
          case rel => exact ⟨i + 1, xs ++ [x], by omega, by omega, by simp [hxl], by go_num, by rw [HRN.out]; exact HX, by rw [List.map_append]; exact h7, Lib.hid ⟨hkp, hka⟩, hbn⟩
          case measure => simp [intOf]; omega
    · obtain rfl : i = ps.length := by omega
      have hfin := hr.out
      rw [List.take_length] at hfin
      have hV := RdV.some (w := w) (w' := wr) (T := 41) (mk := (Value.float .f32)) (v := .slice oo ps.length oc) ((HALL.out (by omega)).trans hfin) HO.out HB.out
      have HV := Lib.hid hV
      clear hfin hV hpo
      go_wp2_with fail
      go_ret2
      exact HV.out

set_option maxHeartbeats 4000000 in
set_option maxRecDepth 20000 in
theorem spec_l01NRead (s : ByteArray) (w : World) (hs : s.size ≤ 1048576) : Calls Tryd.prog 29 #[.string s] w (RdV 41 (Value.float .f32) (rdText rdN 256 s.data.toList) w) := by
  have hL : s.data.toList.length = s.size := by simp
  by_cases hn : s.data.toList = noneL
  · have hc1 : (s.toList == [110, 111, 110, 101]) = true := by rw [ByteArray.toList_eq, hn]; rfl
    have HV := Lib.hid (RdV.some (w := w) (T := 41) (mk := (Value.float .f32)) (rdText_none (f := rdN) (m := 256) hn) (OwnL.new w 41) (Below.alloc (Below.refl _ _) (Nat.le_refl _) _))
    clear hn hL
    go_enter Tryd.func29, Tryd.ntmps29
    go_wp2_with fail
    go_ret2
    exact HV.out
  have hc1 : (s.toList == [110, 111, 110, 101]) = false := by rw [ByteArray.toList_eq]; simpa [noneL] using hn
  obtain ⟨O, hO⟩ : ∃ O, O = rdText rdN 256 s.data.toList := ⟨_, rfl⟩
  have hover := fun h => rdText_long (f := rdN) (m := 256) (L := s.data.toList) hn h
  have hall := fun h => rdText_cut (f := rdN) (m := 256) (L := s.data.toList) hn h
  have hpl := cutA_len [] s.data.toList
  have hpm := fun p h => cutA_mem [] s.data.toList p h
  have hc := fun w => spec_l01Cut s w hs
  rw [← hO] at hover hall ⊢
  rw [hL] at hpl
  generalize cutA [] s.data.toList = ps at hover hall hpl hpm hc
  have hlm : s.data.toList.length ≤ 1048576 := by omega
  have HALL := Lib.hid hall
  have HPM := Lib.hid fun p h => Nat.le_trans (hpm p h) (by simpa using hlm)
  have HCALL := Lib.hid hc
  by_cases hmx : ps.length ≤ 256
  case neg =>
    have HV : RowKit.Hid (∀ w', Below w.heap.size w w' → RdV 41 (Value.float .f32) O w (.returned (.tuple #[.slice none 0 0, .bool false])) w') := Lib.hid fun w' => RdV.none (hover hmx)
    clear hO hL hover hall hpm hlm hc hn HALL HPM
    go_enter Tryd.func29, Tryd.ntmps29
    go_wp2_with fail
    refine (HCALL.out _).mono ?_
    rintro e w1 ⟨pv, rfl, ho, b1⟩
    obtain ⟨ao, cp, hpv⟩ := ho.shape
    rw [List.length_map] at hpv
    have hs1 : w.heap.size + 1 ≤ w1.heap.size := by have := b1.size; simp at this; omega
    have B1 : Below w.heap.size w w1 := (by repeat (first | exact Below.refl _ _ | refine Below.setCell ?_ (by first | (simp; done) | (simp; omega)) _ | refine Below.trans ?_ (Below.mono (by assumption) (by first | omega | (simp; done) | (simp; omega))) | refine Below.alloc ?_ (by first | omega | (simp; done) | (simp; omega)) _ | refine Below.alloc ?_ (Nat.le_refl _) _ | refine below_drewN ?_ _))
    have HB1 := Lib.hid B1
    clear ho b1 B1
    subst hpv
    go_wp2_with fail
    go_ret2
    exact HV.out _ HB1.out
  clear hO hL hover hall hpm hlm hc hn
  go_enter Tryd.func29, Tryd.ntmps29
  go_wp2_with fail
  refine (HCALL.out _).mono ?_
  rintro e w1 ⟨pv, rfl, ho, b1⟩
  obtain ⟨ao, cp, hpv⟩ := ho.shape
  rw [List.length_map] at hpv
  have HPO := Lib.hid ho
  have hs1 : w.heap.size + 1 ≤ w1.heap.size := by have := b1.size; simp at this; omega
  have B1 : Below w.heap.size w w1 := (by repeat (first | exact Below.refl _ _ | refine Below.setCell ?_ (by first | (simp; done) | (simp; omega)) _ | refine Below.trans ?_ (Below.mono (by assumption) (by first | omega | (simp; done) | (simp; omega))) | refine Below.alloc ?_ (by first | omega | (simp; done) | (simp; omega)) _ | refine Below.alloc ?_ (Nat.le_refl _) _ | refine below_drewN ?_ _))
  have O1 : OwnL w1 w.heap.size 41 (.slice (some ⟨w.heap.size, 0, none⟩) 0 0) [] := (OwnL.new w 41).below b1
  have hap : Apart pv (.slice (some ⟨w.heap.size, 0, none⟩) 0 0) := by
    refine .inr fun e => ?_
    have := (HPO.out.lt _ e).1
    simp at this
    omega
  have hcpm : ps.length ≤ cp ∨ ao = none := by
    rcases ho.2 with ⟨e, _⟩ | ⟨g, c, cur, e, _, _, hnc, _⟩
    · rw [hpv] at e; simp at e; exact .inr e.1
    · rw [hpv] at e; simp at e; simp only [List.length_map] at hnc; exact .inl (by omega)
  have HB1 := Lib.hid B1
  have HO1 := Lib.hid O1
  have HAP := Lib.hid hap
  clear ho b1 B1 O1 hap
  subst hpv
  go_wp2_with fail
  go_loopw [4, 6] (fun out k wr => ∃ i : Nat, ∃ xs : List _, i ≤ ps.length ∧ xs.length = i ∧ k = .int .i64 i ∧ RowKit.Hid (rdAll rdN (ps.take i) = some xs) ∧ OwnL wr w.heap.size 41 out (xs.map (Value.float .f32)) ∧ RowKit.Hid (OwnL wr (w.heap.size + 1) 9 (.slice ao ps.length cp) (ps.map strV) ∧ Apart (.slice ao ps.length cp) out) ∧ Below w.heap.size w wr) (fun _ k _ => ps.length - (intOf k).toNat)
  case atStart => exact ⟨0, [], by omega, rfl, rfl, Lib.hid rfl, HO1.out, Lib.hid ⟨by simpa using HPO.out, HAP.out⟩, HB1.out⟩
  case round =>
    obtain ⟨i, xs, hi, hxl, rfl, hr, ho, hpo, hb⟩ := hrel
    obtain ⟨oo, oc, e⟩ := ho.shape
    rw [List.length_map, hxl] at e
    subst e
    have HO := Lib.hid ho
    have HB := Lib.hid hb
    clear ho hb HO1 HB1 HAP HPO
    by_cases hlt : i < ps.length
    · obtain ⟨l, hl⟩ : ∃ l, ps[i]? = some l := ⟨_, List.getElem?_eq_getElem hlt⟩
      have hmem : l ∈ ps := List.mem_of_getElem? hl
      have hll := HPM.out l hmem
      obtain ⟨g, rfl⟩ : ∃ g, ao = some ⟨g, 0, none⟩ := by
        rcases hpo.out.1.2 with ⟨e, e0⟩ | ⟨g, c, cur, e, _⟩
        · simp at e0; subst e0; simp at hlt
        · simp at e; exact ⟨g, e.1⟩
      have hcp : ps.length ≤ cp := hcpm.resolve_right (by simp)
      have hcpx : cp ≤ 9223372036854775807 := by
        rcases hpo.out.1.2 with ⟨e, e0⟩ | ⟨g', c, cur, e, _, _, _, hcm, _⟩
        · simp at e
        · simp at e; unfold maxLen at hcm; omega
      have hcx : wr.cell? ⟨g, i, none⟩ = some (strV l) := hpo.out.1.cell.2.2.2.2.2 i (strV l) (by simp [hl])
      have hgl : g < wr.heap.size := hpo.out.1.cell.2.2.2.1
      unfold strV at hcx
      have HRN := Lib.hid (take_at hl)
      have hln : (xs.map (Value.float .f32)).length ≤ 100000 := by simp; omega
      have hs2 := HB.out.size
      have HBAD : RowKit.Hid (rdN l = none → ∀ w', Below w.heap.size w w' → RdV 41 (Value.float .f32) O w (.returned (.tuple #[.slice none 0 0, .bool false])) w') := Lib.hid fun hfl w' => RdV.none ((HALL.out hmx).trans (rdAll_none hmem hfl))
      obtain ⟨t, ht⟩ : ∃ t : ByteArray, t = ⟨l.toArray⟩ := ⟨_, rfl⟩
      have htl : t.data.toList = l := by rw [ht]
      have hts : t.size = l.length := by rw [ht]; exact str_size l
      rw [← ht] at hcx
      clear ht
      by_cases h8 : l.length = 8
      case neg =>
        have HV := Lib.hid (HBAD.out (rdN_len h8))
        have he : ((t.size : Int) != 8) = true := by rw [hts]; simp; omega
        clear hl hmem HBAD HALL hpo htl h8
        go_wp2_with fail
        go_ret2
        exact HV.out _ HB.out
      have ht8 : t.size = 8 := by omega
      have HTL := Lib.hid htl
      have H8 := Lib.hid h8
      have HPP := Lib.hid hpo
      have HMEM := Lib.hid hmem
      have HLL := Lib.hid hl
      clear hl hmem htl hpo hts h8 hll
      go_wp2_with fail
      go_loopw [7, 8] (fun n k ws => ∃ j m : Nat, j ≤ 8 ∧ k = .int .i64 j ∧ n = .int .i64 m ∧ RowKit.Hid (numH (l.take j) = some m) ∧ m < 4294967296 ∧ ws = wr) (fun _ k _ => 8 - (intOf k).toNat)
      case atStart => exact ⟨0, 0, by omega, rfl, rfl, Lib.hid rfl, by omega, rfl⟩
      case round =>
        obtain ⟨j, m, hj, rfl, rfl, hm, hmb, rfl⟩ := hrel
        by_cases hj8 : j < 8
        · have hjt : j < t.size := by omega
          have hjl : j < l.length := by have := H8.out; omega
          have hat : l[j]'hjl = t[j]'hjt := by have := str_at t j hjt (by rw [HTL.out]; exact hjl); simpa [HTL.out] using this
          obtain ⟨c, hc⟩ : ∃ c : Nat, (t[j]'hjt).toNat = c := ⟨_, rfl⟩
          have hci : ((t[j]'hjt).toNat : Int) = (c : Int) := by rw [hc]
          have hb1 : c < 256 := by have := (t[j]'hjt).toNat_lt; omega
          by_cases h1 : 48 ≤ c
          · by_cases h2 : c ≤ 57
            · have hhx : hexV (t[j]'hjt) = c - 48 := by unfold hexV; rw [hc, if_pos ⟨h1, h2⟩]
              have HN := Lib.hid (numH_next hm.out hjl (by rw [hat]; omega))
              rw [hat, hhx] at HN
              have HNB := Lib.hid (numH_lt8 (by simp; omega) HN.out)
              have HM := Lib.hid hm
              clear hat hhx hm
              go_wp2_with fail
              go_roundw
              case rel => exact ⟨j + 1, 16 * m + (c - 48), by omega, by go_num, by go_num, HN, HNB.out, by first | trivial | rfl⟩
              case measure => simp [intOf]; omega
            · by_cases h3 : 97 ≤ c
              · by_cases h4 : c ≤ 102
                · have hhx : hexV (t[j]'hjt) = c - 97 + 10 := by unfold hexV; rw [hc, if_neg (by omega), if_pos ⟨h3, h4⟩]
                  have HN := Lib.hid (numH_next hm.out hjl (by rw [hat]; omega))
                  rw [hat, hhx] at HN
                  have HNB := Lib.hid (numH_lt8 (by simp; omega) HN.out)
                  have HM := Lib.hid hm
                  clear hat hhx hm
                  go_wp2_with fail
                  go_roundw
                  case rel => exact ⟨j + 1, 16 * m + (c - 97 + 10), by omega, by go_num, by go_num, HN, HNB.out, by first | trivial | rfl⟩
                  case measure => simp [intOf]; omega
                · have hhx : hexV (t[j]'hjt) = 16 := by unfold hexV; rw [hc, if_neg (by omega), if_neg (by omega)]
                  have HV := Lib.hid (HBAD.out (rdN_bad (numH_stop hm.out hjl (by rw [hat]; omega))))
                  clear hat hhx hm HBAD
                  go_wp2_with fail
                  go_ret2
                  exact HV.out _ HB.out
              · have hhx : hexV (t[j]'hjt) = 16 := by unfold hexV; rw [hc, if_neg (by omega), if_neg (by omega)]
                have HV := Lib.hid (HBAD.out (rdN_bad (numH_stop hm.out hjl (by rw [hat]; omega))))
                clear hat hhx hm HBAD
                go_wp2_with fail
                go_ret2
                exact HV.out _ HB.out
          · have hhx : hexV (t[j]'hjt) = 16 := by unfold hexV; rw [hc, if_neg (by omega), if_neg (by omega)]
            have HV := Lib.hid (HBAD.out (rdN_bad (numH_stop hm.out hjl (by rw [hat]; omega))))
            clear hat hhx hm HBAD
            go_wp2_with fail
            go_ret2
            exact HV.out _ HB.out
        · obtain rfl : j = 8 := by omega
          have hmm := hm.out
          rw [List.take_of_length_le (by rw [H8.out]; omega)] at hmm
          by_cases hbm : bitsOf m = m
          · have HX := Lib.hid (rdAll_snoc hr.out (rdN_yes H8.out hmm hbm))
            have hbe : ((bitsOf m : Int) == (m : Int)) = true := by rw [hbm]; simp
            have b2 : Below wr.heap.size wr wr := Below.refl _ _
            have hs3 : wr.heap.size ≤ wr.heap.size := Nat.le_refl _
            have hpo := HPP.out
            clear hmm hbm hm
            go_wp2_with (first | (go_at_call 44; refine (l01From_at m hmb _).mono ?_; rintro e w' ⟨rfl, rfl⟩) | (go_at_call 45; refine (l01Bits m _ hmb).mono ?_; rintro e w' ⟨rfl, rfl⟩) | (at_builtin; refine wpList_append1A elemFloat (by omega) rfl (.tmp 74) (.tmp 76) rfl rfl rfl (HO.out.below (b2.trans (by repeat (first | exact Below.refl _ _ | refine Below.setCell ?_ (by first | (simp; done) | (simp; omega)) _ | refine Below.trans ?_ (Below.mono (by assumption) (by first | omega | (simp; done) | (simp; omega))) | refine Below.alloc ?_ (by first | omega | (simp; done) | (simp; omega)) _ | refine Below.alloc ?_ (Nat.le_refl _) _ | refine below_drewN ?_ _)))) (by simp; omega) hln (by go_simp; rfl) rfl ?_; intro v' w' h7 hgr h8; have hbn := own_stepL HO.out (b2.trans (by repeat (first | exact Below.refl _ _ | refine Below.setCell ?_ (by first | (simp; done) | (simp; omega)) _ | refine Below.trans ?_ (Below.mono (by assumption) (by first | omega | (simp; done) | (simp; omega))) | refine Below.alloc ?_ (by first | omega | (simp; done) | (simp; omega)) _ | refine Below.alloc ?_ (Nat.le_refl _) _ | refine below_drewN ?_ _))) hgr HB.out (by first | (simp; done) | (simp; omega)); have hkp := OwnL.keep (hpo.out.1.below (b2.trans (by repeat (first | exact Below.refl _ _ | refine Below.setCell ?_ (by first | (simp; done) | (simp; omega)) _ | refine Below.trans ?_ (Below.mono (by assumption) (by first | omega | (simp; done) | (simp; omega))) | refine Below.alloc ?_ (by first | omega | (simp; done) | (simp; omega)) _ | refine Below.alloc ?_ (Nat.le_refl _) _ | refine below_drewN ?_ _)))) hpo.out.2 hgr; have hka := hpo.out.2.step h8 (fun k hk => by have := (hpo.out.1.lt k hk).2; simp; omega)))
            go_roundw
            case rel => exact ⟨i + 1, xs ++ [m], by omega, by simp [hxl], by go_num, by rw [HRN.out]; exact HX, by rw [List.map_append]; exact h7, Lib.hid ⟨hkp, hka⟩, hbn⟩
            case measure => simp [intOf]; omega
          · have HV := Lib.hid (HBAD.out (rdN_nan hmm hbm))
            have hbe : ((bitsOf m : Int) == (m : Int)) = false := by simp; intro e; exact hbm (by exact_mod_cast e)
            have hbe2 : ((bitsOf m : Int) != (m : Int)) = true := by simp; intro e; exact hbm (by exact_mod_cast e)
            clear hmm hbm hm
            go_wp2_with (first | (go_at_call 44; refine (l01From_at m hmb _).mono ?_; rintro e w' ⟨rfl, rfl⟩) | (go_at_call 45; refine (l01Bits m _ hmb).mono ?_; rintro e w' ⟨rfl, rfl⟩))
            go_ret2
            exact HV.out _ HB.out
    · obtain rfl : i = ps.length := by omega
      have hfin := hr.out
      rw [List.take_length] at hfin
      have hV := RdV.some (w := w) (w' := wr) (T := 41) (mk := (Value.float .f32)) (v := .slice oo ps.length oc) ((HALL.out hmx).trans hfin) HO.out HB.out
      have HV := Lib.hid hV
      clear hfin hV hpo
      go_wp2_with fail
      go_ret2
      exact HV.out

theorem spec_ReadNumbers (s : ByteArray) (w : World) (hs : s.size ≤ 1048576) : Calls Tryd.prog 9 #[.string s] w (RdV 41 (Value.float .f32) (rdText rdN 256 s.data.toList) w) := by
  have HC := Lib.hid (spec_l01NRead s w hs)
  generalize rdText rdN 256 s.data.toList = O at HC ⊢
  clear hs
  go_enter Tryd.func9, Tryd.ntmps9
  go_wp2_with fail
  refine HC.out.mono ?_
  rintro e w1 ⟨v, rfl, ho, b1⟩
  have HV := Lib.hid (show RdV 41 (Value.float .f32) O w (.returned (.tuple #[v, .bool O.isSome])) w1 from ⟨v, rfl, ho, b1⟩)
  generalize O.isSome = ok at HV ⊢
  clear ho
  go_wp2_with fail
  go_ret2
  exact HV.out
end Go.Proofs.YtopacaenlemfcaaDoor
