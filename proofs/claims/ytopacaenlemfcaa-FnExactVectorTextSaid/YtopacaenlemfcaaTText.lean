/-
  The walks of the functions that write lists of floats as text.
-/
import Derived.Test.YtopacaenlemfcaaTHex
import Derived.Test.YtopacaenlemfcaaTJoin
namespace Go.Proofs.Ytopacaenlemfcaa
open Go.RowKit Go.FL Go.TX
def hx (z : Nat) : List UInt8 := hexL (bitsOf z) 8
theorem getD_lt {zs : List Nat} (h : ∀ z ∈ zs, z < 4294967296) (i : Nat) : zs.getD i 0 < 4294967296 := by
  rw [List.getD_eq_getElem?_getD]
  cases hi : zs[i]? with
  | none => decide
  | some z => exact h z (List.mem_of_getElem? hi)
def hxs (zs : List Nat) : List (List UInt8) := zs.map hx

theorem hxs_at {zs : List Nat} {i : Nat} (h : i < zs.length) : (hxs zs)[i]? = some (hx (zs.getD i 0)) := by
  simp [hxs, h]
theorem hx_len (z : Nat) : (hx z).length = 8 := hexL_len _ _
theorem spec_l01NText (a : Option Addr) (len cap : Nat) (zs : List Nat) (w : World) (h : IsFRow w a len cap zs) (hl : len ≤ 256) : Calls Try.prog 13 #[.slice a len cap] w fun e w' => e = .returned (.string ⟨(listText (hxs zs)).toArray⟩) ∧ Below w.heap.size w w' := by
  obtain ⟨hz, hlc, hcm, hzl, hrow⟩ := h
  by_cases h0 : len = 0
  · subst h0
    obtain rfl : zs = [] := by simpa using hz
    go_enter Try.func13, Try.ntmps13
    go_wp2_with fail
    go_ret
    exact ⟨rfl, (by repeat (first | exact Below.refl _ _ | refine Below.setCell ?_ (by first | omega | (simp; done) | (simp; omega)) _ | refine Below.trans ?_ (Below.mono (by assumption) (by first | omega | (simp; done) | (simp; omega))) | refine Below.alloc ?_ (by first | omega | (simp; done) | (simp; omega)) _ | refine Below.alloc ?_ (Nat.le_refl _) _ | refine below_drewN ?_ _))⟩
  · obtain ⟨b, off, rfl, hbl, hc⟩ := hrow.resolve_left h0
    have hc0 := hc 0 (by omega)
    rw [Nat.add_zero] at hc0
    have HC := Lib.hid hc
    have HZL := Lib.hid hzl
    have hz0 : zs.getD 0 0 < 4294967296 := getD_lt hzl 0 
    generalize hzk : zs.getD 0 0 = z0 at hc0 hz0
    clear hc hzl
    go_enter Try.func13, Try.ntmps13
    go_wp2_with (first | (go_at_call 20; refine (spec_l01Hex z0 _ hz0).mono ?_; rintro e w1 ⟨rfl, b1⟩))
    go_loopw [3, 4] (fun out k wr => ∃ i : Nat, 1 ≤ i ∧ i ≤ len ∧ k = .int .i64 i ∧ out = .string ⟨(Lib.join ((hxs zs).take i) [44]).toArray⟩ ∧ Below w.heap.size w wr) (fun _ k _ => len - (intOf k).toNat)
    case atStart => 
      refine ⟨1, by omega, by omega, rfl, ?_, b1⟩
      have : (hxs zs).take 1 = [hx z0] := by
        cases zs with
        | nil => simp at hz; omega
        | cons z r => simp [hxs] at hzk ⊢; rw [hzk]
      rw [this, Lib.join_one]; rfl
    case round =>
      obtain ⟨i, hi0, hi, rfl, rfl, hb⟩ := hrel
      by_cases hlt : i < len
      · have hcx := (hb.cell (p := ⟨b, off + i, none⟩) hbl).trans (HC.out i hlt)
        have hzi := getD_lt HZL.out i
        have HJ := Lib.hid (join_step (hxs zs) i _ hi0 (hxs_at (by omega)))
        have hjl := join_le 8 ((hxs zs).take i) (fun x hx => by
          have := List.mem_of_mem_take hx
          simp only [hxs, List.mem_map] at this
          obtain ⟨z, _, rfl⟩ := this
          rw [hx_len]; exact Nat.le_refl _)
        have hjl2 : (Lib.join ((hxs zs).take i) [44]).length ≤ 3000 := by simp [hxs] at hjl ⊢; omega
        clear hjl
        generalize zs.getD i 0 = zi at hcx hzi HJ
        have hx8 : (hexL (bitsOf zi) 8).length = 8 := hexL_len _ _
        have HB := Lib.hid hb
        clear hb hzk
        go_wp2_with (first | (go_at_call 20; refine (spec_l01Hex zi _ hzi).mono ?_; rintro e w2 ⟨rfl, b2⟩))
        go_roundw
        case rel => exact ⟨i + 1, by omega, by omega, by go_num, by rw [HJ.out, str_app]; rfl, HB.out.trans (b2.mono HB.out.size)⟩
        case measure => simp [intOf]; omega
      · obtain rfl : i = len := by omega
        go_wp2_with fail
        go_ret
        refine ⟨?_, hb⟩
        rw [List.take_of_length_le (by simp [hxs]; omega), listText, if_neg (by intro e; simp [hxs] at e; subst e; simp at hz; omega)]
        rfl

theorem hxs_take {zs : List Nat} {k : Nat} (h : k < zs.length) : ((hxs zs).take (k + 1)).map strV = ((hxs zs).take k).map strV ++ [strV (hx (zs.getD k 0))] := by
  rw [List.take_succ_eq_append_getElem (by simpa [hxs] using h), List.map_append]
  simp [hxs, h]

theorem impl_NumbersText (a : Option Addr) (len cap : Nat) (zs : List Nat) (w : World) (h : IsFRow w a len cap zs) (hl : len ≤ 256) : Calls Try.prog 7 #[.slice a len cap] w fun e w' => e = .returned (.tuple #[.string ⟨(listText (hxs zs)).toArray⟩, .bool true]) ∧ Below w.heap.size w w' := by
  obtain ⟨hz, hlc, hcm, hzl, hrow⟩ := h
  have HROW := Lib.hid hrow
  have HZL := Lib.hid hzl
  have HZ := Lib.hid hz
  have hd : decide ((len : Int) ≤ 256) = true := decide_eq_true (by omega)
  clear hrow hzl hz
  go_enter Try.func7, Try.ntmps7
  go_wp2_with (first | (go_at_call 14; refine (impl_listOk a len cap _).mono ?_; rintro e w1 ⟨rfl, rfl⟩))
  go_loopw [4, 15] (fun parts k wr => ∃ i : Nat, i ≤ len ∧ k = .int .i64 i ∧ OwnL wr w.heap.size 9 parts (((hxs zs).take i).map strV) ∧ Below w.heap.size w wr) (fun _ k _ => len - (intOf k).toNat)
  case atStart => exact ⟨0, by omega, rfl, OwnL.new w _, Below.alloc (Below.refl _ _) (Nat.le_refl _) _⟩
  case round =>
    obtain ⟨i, hi, rfl, ho, hb⟩ := hrel
    obtain ⟨ao, cp, e⟩ := ho.shape
    have hln : (((hxs zs).take i).map strV).length = i := by simp [hxs, HZ.out]; omega
    rw [hln] at e
    subst e
    have HO := Lib.hid ho
    have HB := Lib.hid hb
    clear ho hb
    by_cases hlt : i < len
    · obtain ⟨b, off, rfl, hbl, hc⟩ := HROW.out.resolve_left (by omega)
      have hcx := (HB.out.cell (p := ⟨b, off + i, none⟩) hbl).trans (hc i hlt)
      have hzi := getD_lt HZL.out i
      have HT := Lib.hid (hxs_take (zs := zs) (k := i) (by rw [HZ.out]; exact hlt))
      have hlen' : (((hxs zs).take i).map strV).length ≤ 100000 := by omega
      clear hc hln
      generalize zs.getD i 0 = z at hcx hzi HT
      go_wp2_with fail
      go_loopw [7, 8] (fun t k ws => ∃ j : Nat, j ≤ 8 ∧ k = .int .i64 (28 - 4 * j) ∧ OwnL ws wr.heap.size 5 t ((hexL (bitsOf z) j).map byteV) ∧ Below wr.heap.size wr ws) (fun _ k _ => (intOf k + 4).toNat)
      case atStart => exact ⟨0, by omega, rfl, OwnL.new wr _, Below.alloc (Below.refl _ _) (Nat.le_refl _) _⟩
      case round =>
        obtain ⟨j, hj, rfl, ho2, hb2⟩ := hrel
        obtain ⟨ao2, cp2, e⟩ := ho2.shape
        rw [List.length_map, hexL_len] at e
        subst e
        have HO2 := Lib.hid ho2
        have HB2 := Lib.hid hb2
        by_cases hlt2 : j < 8
        · have hlen : ((hexL (bitsOf z) j).map byteV).length ≤ 100000 := by simp [hexL_len]; omega
          obtain ⟨d, hd⟩ : ∃ d : Nat, d = bitsOf z / 2 ^ (28 - 4 * j) % 16 := ⟨_, rfl⟩
          have hd16 : d < 16 := by omega
          have hand : bits .and .i64 ((bitsOf z : Int) / 2 ^ (28 - 4 * j)) 15 = (d : Int) := by rw [i64_and15, hd]; push_cast; rfl
          have HD := Lib.hid hd
          have HS : RowKit.Hid ((hexL (bitsOf z) (j + 1)).map byteV = (hexL (bitsOf z) j).map byteV ++ [byteV ((⟨#[48, 49, 50, 51, 52, 53, 54, 55, 56, 57, 97, 98, 99, 100, 101, 102]⟩ : ByteArray)[d]'hd16)]) := Lib.hid (by rw [hexL_succ, List.map_append, hexIx d hd16, hd]; rfl)
          clear ho2 hb2 hd hcx
          go_wp2_with (first | (go_at_call 15; refine (BitsOf z _ hzi).mono ?_; rintro e w1 ⟨rfl, rfl⟩) | (at_builtin; refine wpList_append1L elemByte (by omega) rfl (.tmp 24) (.tmp 31) rfl rfl rfl (HO2.out.below (by repeat (first | exact Below.refl _ _ | refine Below.setCell ?_ (by first | omega | (simp; done) | (simp; omega)) _ | refine Below.trans ?_ (Below.mono (by assumption) (by first | omega | (simp; done) | (simp; omega))) | refine Below.alloc ?_ (by first | omega | (simp; done) | (simp; omega)) _ | refine Below.alloc ?_ (Nat.le_refl _) _ | refine below_drewN ?_ _))) (by first | omega | (simp; done) | (simp; omega) | exact HB2.out.size | (have := HB2.out.size; simp; omega)) hlen (by go_simp; rfl) rfl ?_; intro v' w' h7 hgr; have hbn := own_stepL HO2.out (by repeat (first | exact Below.refl _ _ | refine Below.setCell ?_ (by first | omega | (simp; done) | (simp; omega)) _ | refine Below.trans ?_ (Below.mono (by assumption) (by first | omega | (simp; done) | (simp; omega))) | refine Below.alloc ?_ (by first | omega | (simp; done) | (simp; omega)) _ | refine Below.alloc ?_ (Nat.le_refl _) _ | refine below_drewN ?_ _)) hgr HB2.out (by first | (simp; done) | (simp; omega))))
          go_roundw
          case rel => exact ⟨j + 1, by omega, by simp only [Value.int.injEq, true_and]; omega, by rw [HS.out]; exact h7, hbn⟩
          case measure => simp [intOf]; omega
        · obtain rfl : j = 8 := by omega
          have hconv := run_textBack ho2
          clear ho2 hb2 hcx
          have hs2 := HB2.out.size
          have hs1 := HB.out.size
          go_wp2_with (at_builtin; refine wpList_append1L elemString (by omega) rfl (.tmp 33) (.tmp 36) rfl rfl rfl (HO.out.below (HB2.out.trans (by repeat (first | exact Below.refl _ _ | refine Below.setCell ?_ (by first | omega | (simp; done) | (simp; omega)) _ | refine Below.trans ?_ (Below.mono (by assumption) (by first | omega | (simp; done) | (simp; omega))) | refine Below.alloc ?_ (by first | omega | (simp; done) | (simp; omega)) _ | refine Below.alloc ?_ (Nat.le_refl _) _ | refine below_drewN ?_ _)))) (by simp; omega) hlen' (by go_simp; rfl) rfl ?_; intro v' w' h7 hgr; have hbn := own_stepL HO.out (HB2.out.trans (by repeat (first | exact Below.refl _ _ | refine Below.setCell ?_ (by first | omega | (simp; done) | (simp; omega)) _ | refine Below.trans ?_ (Below.mono (by assumption) (by first | omega | (simp; done) | (simp; omega))) | refine Below.alloc ?_ (by first | omega | (simp; done) | (simp; omega)) _ | refine Below.alloc ?_ (Nat.le_refl _) _ | refine below_drewN ?_ _))) hgr HB.out (by first | (simp; done) | (simp; omega)))
          go_roundw
          case rel => exact ⟨i + 1, by omega, by go_num, by rw [HT.out]; exact h7, hbn⟩
          case measure => simp [intOf]; omega
    · obtain rfl : i = len := by omega
      have hall : (hxs zs).take i = hxs zs := List.take_of_length_le (by simp [hxs, HZ.out])
      rw [hall] at HO
      have hj := impl_joined _ _ _ _ _ _ HO.out 8 (fun x hx => by
          simp only [hxs, List.mem_map] at hx
          obtain ⟨z, _, rfl⟩ := hx
          rw [hx_len]; exact Nat.le_refl _) (by simp [hxs, HZ.out]; omega) (by simp [hxs, HZ.out]; omega)
      obtain ⟨T, hT⟩ : ∃ T, T = listText (hxs zs) := ⟨_, rfl⟩
      rw [← hT] at hj
      have HTT := Lib.hid hT
      clear hall hln hT
      go_wp2_with (first | (go_at_call 16; refine hj.mono ?_; rintro e w1 ⟨rfl, b1⟩))
      go_ret2
      exact ⟨by rw [← HTT.out]; rfl, HB.out.trans (b1.mono HB.out.size)⟩

theorem impl_NumbersText_no (a : Option Addr) (len cap : Nat) (w : World) (hl : ¬ len ≤ 256) : Calls Try.prog 7 #[.slice a len cap] w fun e w' => e = .returned (.tuple #[.string ⟨#[]⟩, .bool false]) ∧ Below w.heap.size w w' := by
  have hd : decide ((len : Int) ≤ 256) = false := decide_eq_false (by omega)
  go_enter Try.func7, Try.ntmps7
  go_wp2_with (first | (go_at_call 14; refine (impl_listOk a len cap _).mono ?_; rintro e w1 ⟨rfl, rfl⟩))
  go_ret2
  exact ⟨rfl, (by repeat (first | exact Below.refl _ _ | refine Below.setCell ?_ (by first | omega | (simp; done) | (simp; omega)) _ | refine Below.trans ?_ (Below.mono (by assumption) (by first | omega | (simp; done) | (simp; omega))) | refine Below.alloc ?_ (by first | omega | (simp; done) | (simp; omega)) _ | refine Below.alloc ?_ (Nat.le_refl _) _ | refine below_drewN ?_ _))⟩

theorem spec_NumbersText (a : Option Addr) (len cap : Nat) (zs : List Nat) (w : World) (h : IsFRow w a len cap zs) (hl : len ≤ 256) : Calls Try.prog 5 #[.slice a len cap] w fun e w' => e = .returned (.tuple #[.string ⟨(listText (hxs zs)).toArray⟩, .bool true]) ∧ Below w.heap.size w w' := by
  have hd : decide ((len : Int) ≤ 256) = true := decide_eq_true (by omega)
  have hc := spec_l01NText a len cap zs w h hl
  go_enter Try.func5, Try.ntmps5
  go_wp2_with (first | (go_at_call 12; refine (spec_l01Few a len cap _).mono ?_; rintro e w1 ⟨rfl, rfl⟩) | (go_at_call 13; refine hc.mono ?_; rintro e w1 ⟨rfl, hb⟩))
  go_ret2
  exact ⟨rfl, hb⟩

theorem spec_NumbersText_no (a : Option Addr) (len cap : Nat) (w : World) (hl : ¬ len ≤ 256) : Calls Try.prog 5 #[.slice a len cap] w fun e w' => e = .returned (.tuple #[.string ⟨#[]⟩, .bool false]) ∧ Below w.heap.size w w' := by
  have hd : decide ((len : Int) ≤ 256) = false := decide_eq_false (by omega)
  go_enter Try.func5, Try.ntmps5
  go_wp2_with (first | (go_at_call 12; refine (spec_l01Few a len cap _).mono ?_; rintro e w1 ⟨rfl, rfl⟩))
  go_ret2
  exact ⟨rfl, (by repeat (first | exact Below.refl _ _ | refine Below.setCell ?_ (by first | omega | (simp; done) | (simp; omega)) _ | refine Below.trans ?_ (Below.mono (by assumption) (by first | omega | (simp; done) | (simp; omega))) | refine Below.alloc ?_ (by first | omega | (simp; done) | (simp; omega)) _ | refine Below.alloc ?_ (Nat.le_refl _) _ | refine below_drewN ?_ _))⟩

/-- both sides hand back one text and one answer -/
theorem NumbersText_pair (len : Nat) (zs : List Nat) : ∃ (t : ByteArray) (ok : Bool),
    (∀ a cap w, IsFRow w a len cap zs → Calls Try.prog 5 #[.slice a len cap] w fun e w' => e = .returned (.tuple #[.string t, .bool ok]) ∧ Below w.heap.size w w') ∧
    (∀ a cap w, IsFRow w a len cap zs → Calls Try.prog 7 #[.slice a len cap] w fun e w' => e = .returned (.tuple #[.string t, .bool ok]) ∧ Below w.heap.size w w') := by
  by_cases hl : len ≤ 256
  · exact ⟨_, _, fun a cap w h => spec_NumbersText a len cap zs w h hl, fun a cap w h => impl_NumbersText a len cap zs w h hl⟩
  · exact ⟨_, _, fun a cap w _ => spec_NumbersText_no a len cap w hl, fun a cap w _ => impl_NumbersText_no a len cap w hl⟩
end Go.Proofs.Ytopacaenlemfcaa
