/-
  The walks of the functions that read one number in decimal.
-/
import Derived.Test.YtopacaenlemfcaaDoorTDec
import Derived.Lib.SmallJoins
namespace Go.Proofs.YtopacaenlemfcaaDoor
open Go.RowKit Go.TX
theorem below_grow (w : World) (q : Nat) (os : Array Obj) : Below w.heap.size w (Sort.grow (w.drewN q) os) :=
  ⟨rfl, rfl, rfl, by simp [Sort.grow], fun i hi => by
    show ((w.drewN q).heap ++ os)[i]? = _
    rw [Array.getElem?_append_left (by show i < w.heap.size; omega)]
    rfl⟩
theorem take_snoc (s : ByteArray) (k : Nat) (h : k < s.size) : s.data.toList.take (k + 1) = s.data.toList.take k ++ [s[k]] := by
  rw [List.take_succ_eq_append_getElem (by simpa using h)]; rfl

theorem l00In_t (n a b : Int) (w : World) (h1 : a ≤ n) (h2 : n ≤ b) : Calls Tryd.prog 50 #[.int .i64 n, .int .i64 a, .int .i64 b] w fun e w' => e = .returned (.bool true) ∧ w = w' := by
  go_enter Tryd.func50, Tryd.ntmps50
  go_wp2
  go_ret
  exact ⟨rfl, rfl⟩
theorem l00In_f (n a b : Int) (w : World) (h : n < a ∨ b < n) : Calls Tryd.prog 50 #[.int .i64 n, .int .i64 a, .int .i64 b] w fun e w' => e = .returned (.bool false) ∧ w = w' := by
  by_cases h1 : a ≤ n
  · have h2 : ¬ n ≤ b := by omega
    go_enter Tryd.func50, Tryd.ntmps50
    go_wp2
    go_ret
    exact ⟨by simp, rfl⟩
  · go_enter Tryd.func50, Tryd.ntmps50
    go_wp2
    go_ret
    exact ⟨rfl, rfl⟩
theorem in_t (n a b : Int) (w : World) (h1 : a ≤ n) (h2 : n ≤ b) : Calls Tryd.prog 35 #[.int .i64 n, .int .i64 a, .int .i64 b] w fun e w' => e = .returned (.bool true) ∧ w = w' := by
  go_enter Tryd.func35, Tryd.ntmps35
  go_wp2
  go_ret
  exact ⟨rfl, rfl⟩
theorem in_f (n a b : Int) (w : World) (h : n < a ∨ b < n) : Calls Tryd.prog 35 #[.int .i64 n, .int .i64 a, .int .i64 b] w fun e w' => e = .returned (.bool false) ∧ w = w' := by
  by_cases h1 : a ≤ n
  · have h2 : ¬ n ≤ b := by omega
    go_enter Tryd.func35, Tryd.ntmps35
    go_wp2
    go_ret
    exact ⟨by simp, rfl⟩
  · go_enter Tryd.func35, Tryd.ntmps35
    go_wp2
    go_ret
    exact ⟨rfl, rfl⟩

/-- the digits' fold, walked -/
def ValIs (l : List UInt8) (w : World) (e : Ending) (w' : World) : Prop := e = .returned (.tuple #[.int .i64 (if decB l then valN l else 0), .bool (decB l)]) ∧ Below w.heap.size w w'

set_option maxRecDepth 20000 in
theorem spec_l01Value_long (s : ByteArray) (w : World) (h : s.size = 0 ∨ 17 < s.size) (hs : s.size ≤ maxLen) : Calls Tryd.prog 33 #[.string s] w (ValIs s.data.toList w) := by
  have hd : decB s.data.toList = false := by
    unfold decB
    have : s.data.toList.length = s.size := by simp
    rcases h with h | h
    · simp [this, h]
    · have h3 : decide (s.data.toList.length ≤ 17) = false := decide_eq_false (by omega)
      rw [h3]; simp
  have HV : RowKit.Hid (∀ w', Below w.heap.size w w' → ValIs s.data.toList w (.returned (.tuple #[.int .i64 0, .bool false])) w') := Lib.hid fun w' hb => ⟨by rw [hd]; rfl, hb⟩
  unfold maxLen at hs
  clear hd
  rcases h with h | h
  · go_enter Tryd.func33, Tryd.ntmps33
    go_wp2_with fail
    go_ret2
    exact HV.out _ (Below.refl _ _)
  · go_enter Tryd.func33, Tryd.ntmps33
    go_wp2_with fail
    go_ret2
    exact HV.out _ (Below.refl _ _)

theorem digN_le (l : List UInt8) (k : Nat) (h : l.length ≤ k) (hk : k ≤ 17) : (digN l : Int) ≤ 99999999999999999 := by
  have h1 := digN_lt l.length l rfl
  have h2 : 10 ^ l.length ≤ 10 ^ 17 := Nat.pow_le_pow_right (by decide) (by omega)
  have h3 : 10 ^ 17 = 100000000000000000 := by decide
  omega
theorem digN_le16 (l : List UInt8) (h : l.length ≤ 16) : (digN l : Int) ≤ 9999999999999999 := by
  have h1 := digN_lt l.length l rfl
  have h2 : 10 ^ l.length ≤ 10 ^ 16 := Nat.pow_le_pow_right (by decide) (by omega)
  have h3 : 10 ^ 16 = 10000000000000000 := by decide
  omega

set_option maxRecDepth 20000 in
theorem spec_l01Value_go (s : ByteArray) (w : World) (h1 : 1 ≤ s.size) (h17 : s.size ≤ 17) : Calls Tryd.prog 33 #[.string s] w (ValIs s.data.toList w) := by
  go_enter Tryd.func33, Tryd.ntmps33
  go_wp2_with fail
  go_loop [4, 5] (fun n i => ∃ k : Nat, ∃ a : Int, k ≤ s.size ∧ i = .int .i64 k ∧ n = .int .i64 a ∧ RowKit.Hid (a = (digN (s.data.toList.take k) : Int))) (fun _ i => s.size - (intOf i).toNat)
  case atStart => exact ⟨0, 0, by omega, rfl, rfl, Lib.hid (by simp [digN])⟩
  case round =>
    obtain ⟨k, a, hk, rfl, rfl, HA⟩ := hrel
    by_cases hlt : k < s.size
    · have ha1 : 0 ≤ a := by have := HA.out; omega
      have ha2 : a ≤ 9999999999999999 := by
        have := HA.out
        have h2 := digN_le16 (s.data.toList.take k) (by simp; omega)
        omega
      have hsn := take_snoc s k hlt
      have HS := Lib.hid hsn
      clear hsn
      obtain ⟨c, hc⟩ : ∃ c : Int, (s[k].toNat : Int) = c := ⟨_, rfl⟩
      have hb1 : c < 256 := by have := s[k].toNat_lt; omega
      have hb0 : 0 ≤ c := by omega
      by_cases hx : 48 ≤ c
      · by_cases hy : c ≤ 57
        · have HR : RowKit.Hid (10 * a + (c - 48) = (digN (s.data.toList.take (k + 1)) : Int)) := Lib.hid (by
            rw [HS.out, digN_snoc, digF, if_pos (by omega)]; have := HA.out; omega)
          have HC := Lib.hid hc
          go_wp2_with fail
          go_round
          case rel => exact ⟨k + 1, _, by omega, by go_num, rfl, HR⟩
          case measure => simp [intOf]; omega
        · have HR : RowKit.Hid (a = (digN (s.data.toList.take (k + 1)) : Int)) := Lib.hid (by
            rw [HS.out, digN_snoc, digF, if_neg (by omega)]; have := HA.out; omega)
          go_wp2_with fail
          go_round
          case rel => exact ⟨k + 1, _, by omega, by go_num, rfl, HR⟩
          case measure => simp [intOf]; omega
      · have HR : RowKit.Hid (a = (digN (s.data.toList.take (k + 1)) : Int)) := Lib.hid (by
          rw [HS.out, digN_snoc, digF, if_neg (by omega)]; have := HA.out; omega)
        go_wp2_with fail
        go_round
        case rel => exact ⟨k + 1, _, by omega, by go_num, rfl, HR⟩
        case measure => simp [intOf]; omega
    · obtain rfl : k = s.size := by omega
      have ha : a = (digN s.data.toList : Int) := by have := HA.out; rw [List.take_of_length_le (by simp)] at this; exact this
      have hd := digN_le s.data.toList s.size (by simp) h17
      have ha1 : 0 ≤ a := by omega
      have ha2 : a ≤ 99999999999999999 := by omega
      have hne : s.data.toList ≠ [] := by intro e; have : s.data.toList.length = s.size := by simp
                                          rw [e] at this; simp at this; omega
      have HA := Lib.hid ha
      have hh : s.data.toList.head? = some (s[0]'(by omega)) := by
        have h0 : 0 < s.data.toList.length := by simp; omega
        rw [List.head?_eq_getElem?, List.getElem?_eq_getElem h0]; rfl
      clear hd ha hne
      by_cases hneg : (s[0]'(by omega)) = 45
      · have ht : (((s[0]'(by omega)).toNat : Int) == 45) = true := by rw [hneg]; rfl
        have hv : valN s.data.toList = -a := by unfold valN; rw [if_pos (by rw [hh, hneg]), ← HA.out]
        by_cases hr0 : -1000000000000000 ≤ -a
        · by_cases hr1 : -a ≤ 1000000000000000
          · by_cases heq : Lib.itoa (-a) = s.data.toList
            · have hsame : (⟨(Lib.itoa (-a)).toArray⟩ : ByteArray) = s := by rw [heq]
              have hdec : decB s.data.toList = true := by unfold decB; rw [hv, heq]; simp; omega
              have HV : RowKit.Hid (∀ w', Below w.heap.size w w' → ValIs s.data.toList w (.returned (.tuple #[.int .i64 (-a), .bool true])) w') := Lib.hid fun w' hb => ⟨by rw [hdec, hv]; rfl, hb⟩
              have hc1 : (Lib.itoa (-a) == s.toList) = true := by rw [ByteArray.toList_eq, heq]; simp
              clear hdec hsame heq hv hh
              go_wp2_with (first | (go_at_call 50; refine (l00In_t (-a) _ _ _ hr0 hr1).mono ?_; rintro e w' ⟨rfl, rfl⟩) | (go_at_call 37; refine (spec_l01Dec (-a) _ (by omega) (by omega)).mono ?_; rintro e w1 ⟨rfl, b1⟩))
              go_ret2
              exact HV.out _ b1
            · have hdec : decB s.data.toList = false := by unfold decB; rw [hv]; simp [heq]
              have HV : RowKit.Hid (∀ w', Below w.heap.size w w' → ValIs s.data.toList w (.returned (.tuple #[.int .i64 0, .bool false])) w') := Lib.hid fun w' hb => ⟨by rw [hdec]; rfl, hb⟩
              have hc1 : (Lib.itoa (-a) == s.toList) = false := by rw [ByteArray.toList_eq]; simpa using heq
              clear hdec heq hv hh
              go_wp2_with (first | (go_at_call 50; refine (l00In_t (-a) _ _ _ hr0 hr1).mono ?_; rintro e w' ⟨rfl, rfl⟩) | (go_at_call 37; refine (spec_l01Dec (-a) _ (by omega) (by omega)).mono ?_; rintro e w1 ⟨rfl, b1⟩))
              go_ret2
              exact HV.out _ b1
          · have hdec : decB s.data.toList = false := by unfold decB; rw [hv]; simp [hr1]
            have HV : RowKit.Hid (∀ w', Below w.heap.size w w' → ValIs s.data.toList w (.returned (.tuple #[.int .i64 0, .bool false])) w') := Lib.hid fun w' hb => ⟨by rw [hdec]; rfl, hb⟩
            clear hdec hv hh
            go_wp2_with (first | (go_at_call 50; refine (l00In_f (-a) _ _ _ (by omega)).mono ?_; rintro e w' ⟨rfl, rfl⟩) | (go_at_call 37; refine (spec_l01Dec (-a) _ (by omega) (by omega)).mono ?_; rintro e w1 ⟨rfl, b1⟩))
            go_ret2
            exact HV.out _ (Below.refl _ _)
        · have hdec : decB s.data.toList = false := by unfold decB; rw [hv]; simp [hr0]
          have HV : RowKit.Hid (∀ w', Below w.heap.size w w' → ValIs s.data.toList w (.returned (.tuple #[.int .i64 0, .bool false])) w') := Lib.hid fun w' hb => ⟨by rw [hdec]; rfl, hb⟩
          clear hdec hv hh
          go_wp2_with (first | (go_at_call 50; refine (l00In_f (-a) _ _ _ (by omega)).mono ?_; rintro e w' ⟨rfl, rfl⟩) | (go_at_call 37; refine (spec_l01Dec (-a) _ (by omega) (by omega)).mono ?_; rintro e w1 ⟨rfl, b1⟩))
          go_ret2
          exact HV.out _ (Below.refl _ _)
      · have ht : (((s[0]'(by omega)).toNat : Int) == 45) = false := by
          simp only [beq_eq_false_iff_ne, ne_eq]; intro e
          exact hneg (UInt8.toNat_inj.1 (by simpa using (show (s[0]'(by omega)).toNat = 45 by omega)))
        have hv : valN s.data.toList = a := by unfold valN; rw [if_neg (by rw [hh]; intro e; exact hneg (Option.some.inj e)), ← HA.out]
        by_cases hr0 : -1000000000000000 ≤ a
        · by_cases hr1 : a ≤ 1000000000000000
          · by_cases heq : Lib.itoa (a) = s.data.toList
            · have hsame : (⟨(Lib.itoa (a)).toArray⟩ : ByteArray) = s := by rw [heq]
              have hdec : decB s.data.toList = true := by unfold decB; rw [hv, heq]; simp; omega
              have HV : RowKit.Hid (∀ w', Below w.heap.size w w' → ValIs s.data.toList w (.returned (.tuple #[.int .i64 (a), .bool true])) w') := Lib.hid fun w' hb => ⟨by rw [hdec, hv]; rfl, hb⟩
              have hc1 : (Lib.itoa (a) == s.toList) = true := by rw [ByteArray.toList_eq, heq]; simp
              clear hdec hsame heq hv hh
              go_wp2_with (first | (go_at_call 50; refine (l00In_t (a) _ _ _ hr0 hr1).mono ?_; rintro e w' ⟨rfl, rfl⟩) | (go_at_call 37; refine (spec_l01Dec (a) _ (by omega) (by omega)).mono ?_; rintro e w1 ⟨rfl, b1⟩))
              go_ret2
              exact HV.out _ b1
            · have hdec : decB s.data.toList = false := by unfold decB; rw [hv]; simp [heq]
              have HV : RowKit.Hid (∀ w', Below w.heap.size w w' → ValIs s.data.toList w (.returned (.tuple #[.int .i64 0, .bool false])) w') := Lib.hid fun w' hb => ⟨by rw [hdec]; rfl, hb⟩
              have hc1 : (Lib.itoa (a) == s.toList) = false := by rw [ByteArray.toList_eq]; simpa using heq
              clear hdec heq hv hh
              go_wp2_with (first | (go_at_call 50; refine (l00In_t (a) _ _ _ hr0 hr1).mono ?_; rintro e w' ⟨rfl, rfl⟩) | (go_at_call 37; refine (spec_l01Dec (a) _ (by omega) (by omega)).mono ?_; rintro e w1 ⟨rfl, b1⟩))
              go_ret2
              exact HV.out _ b1
          · have hdec : decB s.data.toList = false := by unfold decB; rw [hv]; simp [hr1]
            have HV : RowKit.Hid (∀ w', Below w.heap.size w w' → ValIs s.data.toList w (.returned (.tuple #[.int .i64 0, .bool false])) w') := Lib.hid fun w' hb => ⟨by rw [hdec]; rfl, hb⟩
            clear hdec hv hh
            go_wp2_with (first | (go_at_call 50; refine (l00In_f (a) _ _ _ (by omega)).mono ?_; rintro e w' ⟨rfl, rfl⟩) | (go_at_call 37; refine (spec_l01Dec (a) _ (by omega) (by omega)).mono ?_; rintro e w1 ⟨rfl, b1⟩))
            go_ret2
            exact HV.out _ (Below.refl _ _)
        · exfalso; omega

theorem spec_l01Value (s : ByteArray) (w : World) (hs : s.size ≤ maxLen) : Calls Tryd.prog 33 #[.string s] w (ValIs s.data.toList w) := by
  by_cases h : s.size = 0 ∨ 17 < s.size
  · exact spec_l01Value_long s w h hs
  · exact spec_l01Value_go s w (by omega) (by omega)


theorem spec_Decimal (n : Int) (w : World) (h0 : -9223372036854775808 ≤ n) (h1 : n ≤ 9223372036854775807) : Calls Tryd.prog 21 #[.int .i64 n] w fun e w' => e = .returned (.string ⟨(Lib.itoa n).toArray⟩) ∧ Below w.heap.size w w' := by
  have hc := spec_l01Dec n w h0 h1
  have HC := Lib.hid hc
  clear hc h0 h1
  go_enter Tryd.func21, Tryd.ntmps21
  go_wp2_with fail
  refine HC.out.mono ?_
  rintro e w1 ⟨rfl, b1⟩
  go_wp2_with fail
  go_ret
  exact ⟨rfl, b1⟩

/-- strconv's table of powers of ten, as it is laid -/
def TabOk (w : World) : Prop := Lib.TabIs Tryd.prog w "internal/strconv.uint64pow10" .u64 Lib.pow10Tab
theorem tabGlobal : ∃ g, Tryd.prog.globalNamed "internal/strconv.uint64pow10" = some g := Option.isSome_iff_exists.1 (show (Tryd.prog.globalNamed "internal/strconv.uint64pow10").isSome = true by kernel_rfl)
theorem TabOk.below {w w' : World} (h : TabOk w) (hb : Below w.heap.size w w') : TabOk w' := by
  obtain ⟨g, hg⟩ := tabGlobal
  exact Joins.var_stays hg h hb (Nat.le_refl _)

theorem impl_Decimal (n : Int) (w : World) (h0 : -9223372036854775808 ≤ n) (h1 : n ≤ 9223372036854775807) (ht : TabOk w) : Calls Tryd.prog 22 #[.int .i64 n] w fun e w' => e = .returned (.string ⟨(Lib.itoa n).toArray⟩) ∧ Below w.heap.size w w' := by
  have hc := Tryd.strconv_FormatInt_10 n h0 h1 w ht
  have HC := Lib.hid hc
  clear hc h0 h1 ht
  go_enter Tryd.func22, Tryd.ntmps22
  go_wp2_with fail
  refine HC.out.mono ?_
  rintro e w1 ⟨rfl, k, os, hw⟩
  have b1 : Below w.heap.size w w1 := by rw [hw]; exact below_grow w k os
  clear hw
  go_wp2_with fail
  go_ret
  exact ⟨rfl, b1⟩

/-- strconv's two errors, as they are laid: values of an interface's type -/
def ErrsOk (w : World) : Prop := (∃ tp p, w.var? Tryd.prog "strconv.ErrSyntax" = some #[.iface tp p]) ∧ ∃ tp p, w.var? Tryd.prog "strconv.ErrRange" = some #[.iface tp p]
theorem ErrsOk.below {w w' : World} (h : ErrsOk w) (hb : Below w.heap.size w w') : ErrsOk w' := by
  obtain ⟨⟨t1, p1, h1⟩, t2, p2, h2⟩ := h
  obtain ⟨g1, hg1⟩ := Option.isSome_iff_exists.1 (show (Tryd.prog.globalNamed "strconv.ErrSyntax").isSome = true by kernel_rfl)
  obtain ⟨g2, hg2⟩ := Option.isSome_iff_exists.1 (show (Tryd.prog.globalNamed "strconv.ErrRange").isSome = true by kernel_rfl)
  exact ⟨⟨t1, p1, Joins.var_stays hg1 h1 hb (Nat.le_refl _)⟩, t2, p2, Joins.var_stays hg2 h2 hb (Nat.le_refl _)⟩
/-- a parse that fails -/
def ParseBad (w : World) (e : Ending) (w' : World) : Prop := ∃ z te pe, e = .returned (.tuple #[.int .i64 z, .iface te pe]) ∧ Below w.heap.size w w'
def ParseGood (v : Int) (w : World) (e : Ending) (w' : World) : Prop := e = .returned (.tuple #[.int .i64 v, .nilIface]) ∧ Below w.heap.size w w'
theorem parse_bad (s : ByteArray) (w : World) (hs : s.size ≤ 281474976710656) (he : ErrsOk w) (h : ∀ v, Lib.parseIntB 64 s.data.toList ≠ .ok v) : Calls Tryd.prog 34 #[.string s, .int .i64 10, .int .i64 64] w (ParseBad w) := by
  obtain ⟨⟨t1, p1, h1⟩, t2, p2, h2⟩ := he
  rcases hp : Lib.parseIntB 64 s.data.toList with v | _ | _
  · exact absurd hp (h v)
  · exact Calls.mono (Any.strconv_ParseInt_10_at64_syntax_var Tryd.laysC174 s hs hp t1 p1 w h1) fun e w' ⟨N, he, _, _, hb⟩ => ⟨_, _, _, he, hb⟩
  · exact Calls.mono (Any.strconv_ParseInt_10_at64_range_var Tryd.laysC174 s hs hp t2 p2 w h2) fun e w' ⟨N, he, _, _, hb⟩ => ⟨_, _, _, he, hb⟩
theorem parse_good (s : ByteArray) (w : World) (hs : s.size ≤ 281474976710656) (v : Int) (h : Lib.parseIntB 64 s.data.toList = .ok v) : Calls Tryd.prog 34 #[.string s, .int .i64 10, .int .i64 64] w (ParseGood v w) :=
  (Tryd.strconv_ParseInt_10_at64_ok s (by omega) v h w).mono fun e w' ⟨he, hw⟩ => ⟨he, by
    rcases hw with rfl | ⟨t, rfl⟩
    · exact Below.refl _ _
    · exact Lib.bytesWorld_below w _ _⟩
theorem decB_parse {l : List UInt8} (h : decB l = true) : Lib.parseIntB 64 l = .ok (valN l) ∧ -1000000000000000 ≤ valN l ∧ valN l ≤ 1000000000000000 ∧ Lib.itoa (valN l) = l := by
  unfold decB at h
  simp only [Bool.and_eq_true, decide_eq_true_eq] at h
  have h1 := parse_itoa (valN l) h.1.1.2 h.1.2
  rw [h.2] at h1
  exact ⟨h1, h.1.1.2, h.1.2, h.2⟩

set_option maxRecDepth 20000 in
theorem impl_ReadDecimal (s : ByteArray) (w : World) (hs : s.size ≤ 281474976710656) (ht : TabOk w) (he : ErrsOk w) : Calls Tryd.prog 15 #[.string s] w (ValIs s.data.toList w) := by
  have HT := Lib.hid ht
  clear ht
  by_cases hp : ∃ v, Lib.parseIntB 64 s.data.toList = .ok v
  · obtain ⟨v, hv⟩ := hp
    have hc := parse_good s w hs v hv
    have HC := Lib.hid hc
    clear hc
    by_cases hr0 : -1000000000000000 ≤ v
    · by_cases hr1 : v ≤ 1000000000000000
      · by_cases heq : Lib.itoa v = s.data.toList
        · obtain ⟨hd, hvn⟩ := decB_of heq hr0 hr1
          have HV : RowKit.Hid (∀ w', Below w.heap.size w w' → ValIs s.data.toList w (.returned (.tuple #[.int .i64 v, .bool true])) w') := Lib.hid fun w' hb => ⟨by rw [hd, hvn]; rfl, hb⟩
          have hc1 : (Lib.itoa v == s.toList) = true := by rw [ByteArray.toList_eq, heq]; simp
          clear hd hvn heq hv hs he
          go_enter Tryd.func15, Tryd.ntmps15
          go_wp2_with fail
          refine HC.out.mono ?_
          rintro e w1 ⟨rfl, b1⟩
          go_wp2_with (first | (go_at_call 35; refine (in_t v _ _ _ hr0 hr1).mono ?_; rintro e w' ⟨rfl, rfl⟩) | (go_at_call 22; refine (impl_Decimal v _ (by omega) (by omega) (HT.out.below b1)).mono ?_; rintro e w2 ⟨rfl, b2⟩))
          go_ret2
          exact HV.out _ (b1.trans (b2.mono b1.size))
        · have hd : decB s.data.toList = false := by
            cases hd : decB s.data.toList with
            | false => rfl
            | true =>
              obtain ⟨h1, h2, h3, h4⟩ := decB_parse hd
              rw [hv] at h1
              cases h1
              exact absurd h4 heq
          have HV : RowKit.Hid (∀ w', Below w.heap.size w w' → ValIs s.data.toList w (.returned (.tuple #[.int .i64 0, .bool false])) w') := Lib.hid fun w' hb => ⟨by rw [hd]; rfl, hb⟩
          have hc1 : (Lib.itoa v == s.toList) = false := by rw [ByteArray.toList_eq]; simpa using heq
          clear hd heq hv hs he
          go_enter Tryd.func15, Tryd.ntmps15
          go_wp2_with fail
          refine HC.out.mono ?_
          rintro e w1 ⟨rfl, b1⟩
          go_wp2_with (first | (go_at_call 35; refine (in_t v _ _ _ hr0 hr1).mono ?_; rintro e w' ⟨rfl, rfl⟩) | (go_at_call 22; refine (impl_Decimal v _ (by omega) (by omega) (HT.out.below b1)).mono ?_; rintro e w2 ⟨rfl, b2⟩))
          go_ret2
          exact HV.out _ (b1.trans (b2.mono b1.size))
      · have hd : decB s.data.toList = false := by
          cases hd : decB s.data.toList with
          | false => rfl
          | true =>
            obtain ⟨h1, h2, h3, h4⟩ := decB_parse hd
            rw [hv] at h1
            cases h1
            exact absurd h3 hr1
        have HV : RowKit.Hid (∀ w', Below w.heap.size w w' → ValIs s.data.toList w (.returned (.tuple #[.int .i64 0, .bool false])) w') := Lib.hid fun w' hb => ⟨by rw [hd]; rfl, hb⟩
        clear hd hv hs he
        go_enter Tryd.func15, Tryd.ntmps15
        go_wp2_with fail
        refine HC.out.mono ?_
        rintro e w1 ⟨rfl, b1⟩
        go_wp2_with (first | (go_at_call 35; refine (in_f v _ _ _ (by omega)).mono ?_; rintro e w' ⟨rfl, rfl⟩) | (go_at_call 22; refine (impl_Decimal v _ (by omega) (by omega) (HT.out.below b1)).mono ?_; rintro e w2 ⟨rfl, b2⟩))
        go_ret2
        exact HV.out _ b1
    · have hd : decB s.data.toList = false := by
        cases hd : decB s.data.toList with
        | false => rfl
        | true =>
          obtain ⟨h1, h2, h3, h4⟩ := decB_parse hd
          rw [hv] at h1
          cases h1
          exact absurd h2 hr0
      have HV : RowKit.Hid (∀ w', Below w.heap.size w w' → ValIs s.data.toList w (.returned (.tuple #[.int .i64 0, .bool false])) w') := Lib.hid fun w' hb => ⟨by rw [hd]; rfl, hb⟩
      clear hd hv hs he
      go_enter Tryd.func15, Tryd.ntmps15
      go_wp2_with fail
      refine HC.out.mono ?_
      rintro e w1 ⟨rfl, b1⟩
      go_wp2_with (first | (go_at_call 35; refine (in_f v _ _ _ (by omega)).mono ?_; rintro e w' ⟨rfl, rfl⟩) | (go_at_call 22; refine (impl_Decimal v _ (by omega) (by omega) (HT.out.below b1)).mono ?_; rintro e w2 ⟨rfl, b2⟩))
      go_ret2
      exact HV.out _ b1
  · have hn : ∀ v, Lib.parseIntB 64 s.data.toList ≠ .ok v := fun v h => hp ⟨v, h⟩
    have hc := parse_bad s w hs he hn
    have HC := Lib.hid hc
    have hd : decB s.data.toList = false := by
      cases hd : decB s.data.toList with
      | false => rfl
      | true => exact absurd (decB_parse hd).1 (hn _)
    have HV : RowKit.Hid (∀ w', Below w.heap.size w w' → ValIs s.data.toList w (.returned (.tuple #[.int .i64 0, .bool false])) w') := Lib.hid fun w' hb => ⟨by rw [hd]; rfl, hb⟩
    clear hd hn hp hs he hc
    go_enter Tryd.func15, Tryd.ntmps15
    go_wp2_with fail
    refine HC.out.mono ?_
    rintro e w1 ⟨z, te, pe, rfl, b1⟩
    go_wp2_with fail
    go_ret2
    exact HV.out _ b1
end Go.Proofs.YtopacaenlemfcaaDoor
