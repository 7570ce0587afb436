/-
  The walks of the functions that write lists of integers as text, and of the law ListText.
-/
import Derived.Test.YtopacaenlemfcaaDoorTEnv
import Derived.Test.YtopacaenlemfcaaDoorTMark
namespace Go.Proofs.YtopacaenlemfcaaDoor
open Go.RowKit Go.TX
theorem infoI : (Tryd.prog.info? 2).map (fun i => (i.zero, i.size, i.bytes)) = some (some (.int .i64 0), 1, 8) := by kernel_rfl
theorem IsIRow.below {w w' : World} {a : Option Addr} {len cap : Nat} {zs : List Int} (h : FL.IsIRow w a len cap zs) (hb : Below w.heap.size w w') : FL.IsIRow w' a len cap zs := by
  obtain ⟨h1, h2, h3, h4, h5⟩ := h
  refine ⟨h1, h2, h3, h4, ?_⟩
  rcases h5 with h5 | ⟨b, off, rfl, hbl, hc⟩
  · exact .inl h5
  · exact .inr ⟨b, off, rfl, Nat.lt_of_lt_of_le hbl hb.size, fun i hi => (hb.cell (p := ⟨b, off + i, none⟩) hbl).trans (hc i hi)⟩

theorem toInt64S (a : Option Addr) (len cap : Nat) (zs : List Int) (w : World) (h : FL.IsIRow w a len cap zs) (hl : len ≤ 1048576) : Calls Tryd.prog 24 #[.slice a len cap] w fun e w' =>
    e = .returned (.slice (some ⟨w.heap.size, 0, none⟩) len len) ∧ IRow w' w.heap.size w'.heap.size (some ⟨w.heap.size, 0, none⟩) len len zs ∧ Below w.heap.size w w' := by
  obtain ⟨hz, hlc, hcm, hzl, hrow⟩ := h
  have hmk := run_make_row' (P := Tryd.prog) 30 2 (.int .i64 0) 8 Tryd.underlying30 infoI rfl .i64 .i64 len (by omega) (by omega)
  go_enter Tryd.func24, Tryd.ntmps24
  go_wp2
  go_loopw [4] (fun i wr => ∃ k : Nat, k ≤ len ∧ i = .int .i64 k ∧ wr.rowIs w.heap.size 2 len (fun j => .int .i64 (if j < k then zs.getD j 0 else 0)) ∧ Below w.heap.size w wr) (fun i _ => len - (intOf i).toNat)
  case atStart => exact ⟨0, Nat.zero_le _, rfl, (World.rowIs_made w _ len _).congr (fun i hi => by simp), Below.alloc (Below.refl _ _) (Nat.le_refl _) _⟩
  case round =>
    obtain ⟨k, hk, rfl, hr, hb⟩ := hrel
    by_cases hlt : k < len
    · obtain ⟨b, off, rfl, hbl, hc⟩ := hrow.resolve_left (by omega)
      have hcx : wr.cell? ⟨b, off + k, none⟩ = some (.int .i64 (zs.getD k 0)) := (hb.cell (by exact hbl)).trans (hc k hlt)
      have hcy := hr.cell hlt
      have hfy := hr.frozen k
      generalize hzk : zs.getD k 0 = z at hcx
      have H := Lib.hid hc
      have HR := Lib.hid hr
      have HB := Lib.hid hb
      have HZ := Lib.hid hzk
      clear hc hr hb hzk hmk hzl hz
      go_wp2
      go_roundw
      case rel =>
        refine ⟨k + 1, by omega, rfl, (HR.out.set k (.int .i64 z)).congr (fun j hj => ?_), Below.setCell HB.out (Nat.le_refl _) _⟩
        by_cases hjk : j = k
        · subst hjk
          rw [if_pos rfl, if_pos (by omega), HZ.out]
        · rw [if_neg hjk]
          congr 1
          by_cases h1 : j < k
          · rw [if_pos h1, if_pos (by omega)]
          · rw [if_neg h1, if_neg (by omega)]
      case measure => simp [intOf]; omega
    · have hkl : k = len := by omega
      subst hkl
      have HR := Lib.hid hr
      have HB := Lib.hid hb
      clear hr hb hmk
      go_wp2
      go_ret
      refine ⟨rfl, ⟨⟨hz, Nat.le_refl _, by omega⟩, .inr ⟨_, rfl, Nat.le_refl _, HR.out.lt, HR.out.lt, fun i => HR.out.frozen i, fun i hi => ?_⟩⟩, HB.out⟩
      rw [HR.out.cell hi, if_pos hi]

def inB (z : Int) : Bool := decide (-1000000000000000 ≤ z) && decide (z ≤ 1000000000000000)
def listB (zs : List Int) : Bool := zs.all inB && decide (zs.length ≤ 64)
theorem inB_yes {z : Int} (h0 : -1000000000000000 ≤ z) (h1 : z ≤ 1000000000000000) : inB z = true := by simp [inB, h0, h1]
theorem inB_no {z : Int} (h : ¬ (-1000000000000000 ≤ z ∧ z ≤ 1000000000000000)) : inB z = false := by
  cases hb : inB z with
  | false => rfl
  | true => exact absurd (by simpa [inB] using hb) h
theorem listB_no {zs : List Int} {k : Nat} (h : k < zs.length) (hz : inB (zs.getD k 0) = false) : listB zs = false := by
  have hm : zs.getD k 0 ∈ zs := by simp [List.getD, h]
  have : zs.all inB = false := List.all_eq_false.2 ⟨_, hm, by rw [hz]; simp⟩
  simp [listB, this]
theorem listB_long {zs : List Int} (h : ¬ zs.length ≤ 64) : listB zs = false := by simp [listB, h]
theorem listB_yes {zs : List Int} (h : ∀ j, j < zs.length → inB (zs.getD j 0) = true) : listB zs = decide ((zs.length : Int) ≤ 64) := by
  have : zs.all inB = true := by
    rw [List.all_eq_true]
    intro z hz
    obtain ⟨i, hi, rfl⟩ := List.mem_iff_getElem.1 hz
    simpa [List.getD, hi] using h i hi
  simp only [listB, this, Bool.true_and]
  by_cases h : zs.length ≤ 64
  · rw [decide_eq_true h, decide_eq_true (by omega)]
  · rw [decide_eq_false h, decide_eq_false (by omega)]
theorem listB_in {zs : List Int} (h : listB zs = true) : zs.length ≤ 64 ∧ ∀ j, j < zs.length → -1000000000000000 ≤ zs.getD j 0 ∧ zs.getD j 0 ≤ 1000000000000000 := by
  simp only [listB, Bool.and_eq_true, decide_eq_true_eq, List.all_eq_true] at h
  refine ⟨h.2, fun j hj => ?_⟩
  have := h.1 (zs.getD j 0) (by simp [List.getD, hj])
  simpa [inB] using this
def itoas (zs : List Int) : List (List UInt8) := zs.map Lib.itoa
theorem itoas_at {zs : List Int} {i : Nat} (h : i < zs.length) : (itoas zs)[i]? = some (Lib.itoa (zs.getD i 0)) := by simp [itoas, h]
theorem itoas_take {zs : List Int} {k : Nat} (h : k < zs.length) : ((itoas zs).take (k + 1)).map strV = ((itoas zs).take k).map strV ++ [strV (Lib.itoa (zs.getD k 0))] := by
  rw [List.take_succ_eq_append_getElem (by simpa [itoas] using h), List.map_append]
  simp [itoas, h]
theorem itoas_len {zs : List Int} {k : Nat} (h : ∀ j, j < k → j < zs.length → -1000000000000000 ≤ zs.getD j 0 ∧ zs.getD j 0 ≤ 1000000000000000) : ∀ x ∈ (itoas zs).take k, x.length ≤ 17 := by
  intro x hx
  obtain ⟨i, hi, rfl⟩ := List.mem_iff_getElem.1 hx
  have hi' := hi
  simp only [itoas, List.length_take, List.length_map] at hi'
  have h1 := h i (by omega) (by omega)
  have h2 := (itoa_len (zs.getD i 0) h1.1 h1.2).2
  simpa [itoas, List.getD, show i < zs.length by omega] using h2

theorem spec_l01List (a : Option Addr) (len cap lo hi : Nat) (zs : List Int) (w : World) (h : IRow w lo hi a len cap zs) (hl : len ≤ 1048576) : Calls Tryd.prog 39 #[.slice a len cap] w fun e w' => e = .returned (.bool (listB zs)) ∧ w = w' := by
  have H := Lib.hid h
  have hcap : len ≤ cap := h.row.2.1
  have hcm : cap ≤ 9223372036854775807 := by have := h.row.2.2; unfold maxLen at this; omega
  obtain ⟨B, hB⟩ : ∃ B, B = listB zs := ⟨_, rfl⟩
  rw [← hB]
  have HB := Lib.hid hB
  clear hB h
  go_enter Tryd.func39, Tryd.ntmps39
  go_wp2_with fail
  go_loopw [3] (fun k wr => ∃ i : Nat, i ≤ len ∧ k = .int .i64 i ∧ RowKit.Hid (∀ j, j < i → inB (zs.getD j 0) = true) ∧ wr = w) (fun k _ => len - (intOf k).toNat)
  case atStart => exact ⟨0, by omega, rfl, Lib.hid (fun j hj => absurd hj (by omega)), rfl⟩
  case round =>
    obtain ⟨i, hi, rfl, ha, rfl⟩ := hrel
    by_cases hlt : i < len
    · obtain ⟨b, rfl, k1', k2', k3', k4', k5'⟩ := H.out.own.resolve_left (by omega)
      have hcx := k5' i hlt
      obtain ⟨z, hz⟩ : ∃ z, z = zs.getD i 0 := ⟨_, rfl⟩
      rw [← hz] at hcx
      have HZ := Lib.hid hz
      clear hz k4' k5'
      by_cases hr : -1000000000000000 ≤ z ∧ z ≤ 1000000000000000
      · obtain ⟨hr0, hr1⟩ := hr
        go_wp2_with (first | (go_at_call 50; refine (l00In_t z _ _ _ hr0 hr1).mono ?_; rintro e w' ⟨rfl, rfl⟩))
        go_roundw
        case rel =>
          refine ⟨i + 1, by omega, by go_num, Lib.hid fun j hj => ?_, by first | trivial | rfl⟩
          by_cases hji : j = i
          · rw [hji, ← HZ.out]; exact inB_yes hr0 hr1
          · exact ha.out j (by omega)
        case measure => simp [intOf]; omega
      · have hBf := HB.out.trans (listB_no (by rw [H.out.row.1]; exact hlt) (by rw [← HZ.out]; exact inB_no hr))
        go_wp2_with (first | (go_at_call 50; refine (l00In_f z _ _ _ (by omega)).mono ?_; rintro e w' ⟨rfl, rfl⟩))
        go_ret
        exact ⟨by rw [hBf]; rfl, rfl⟩
    · obtain rfl : i = len := by omega
      have hBt := HB.out.trans (listB_yes (fun j hj => ha.out j (by rw [H.out.row.1] at hj; exact hj)))
      rw [H.out.row.1] at hBt
      have HBT := Lib.hid hBt
      clear hBt
      go_wp2_with fail
      go_ret
      exact ⟨by rw [HBT.out]; rfl, rfl⟩

theorem spec_l01Text (a : Option Addr) (len cap lo hi : Nat) (zs : List Int) (w : World) (h : IRow w lo hi a len cap zs) (hlb : listB zs = true) : Calls Tryd.prog 40 #[.slice a len cap] w fun e w' => e = .returned (.string ⟨(listText (itoas zs)).toArray⟩) ∧ Below w.heap.size w w' := by
  have hz : zs.length = len := h.row.1
  obtain ⟨hl, hin⟩ := listB_in hlb
  rw [hz] at hl hin
  have HIN := Lib.hid hin
  by_cases h0 : len = 0
  · subst h0
    obtain rfl : zs = [] := by simpa using hz
    go_enter Tryd.func40, Tryd.ntmps40
    go_wp2_with fail
    go_ret
    exact ⟨rfl, (by repeat (first | exact Below.refl _ _ | refine Below.setCell ?_ (by first | (simp; done) | (simp; omega)) _ | refine Below.trans ?_ (Below.mono (by assumption) (by first | omega | (simp; done) | (simp; omega))) | refine Below.alloc ?_ (by first | omega | (simp; done) | (simp; omega)) _ | refine Below.alloc ?_ (Nat.le_refl _) _ | refine below_drewN ?_ _))⟩
  · obtain ⟨b, rfl, -, -, hbl, -, hc⟩ := h.own.resolve_left (by omega)
    have hcap : len ≤ cap := h.row.2.1
    have hcm : cap ≤ 9223372036854775807 := by have := h.row.2.2; unfold maxLen at this; omega
    have hc0 := hc 0 (by omega)
    have HC := Lib.hid hc
    have hz0 := hin 0 (by omega)
    generalize hzk : zs.getD 0 0 = z0 at hc0 hz0
    have HZK := Lib.hid hzk
    have HZ := Lib.hid hz
    clear hc hin hlb h hzk hz
    go_enter Tryd.func40, Tryd.ntmps40
    go_wp2_with (first | (go_at_call 37; refine (spec_l01Dec z0 _ (by omega) (by omega)).mono ?_; rintro e w1 ⟨rfl, b1⟩))
    go_loopw [3, 4] (fun out k wr => ∃ i : Nat, 1 ≤ i ∧ i ≤ len ∧ k = .int .i64 i ∧ out = .string ⟨(Lib.join ((itoas zs).take i) [44]).toArray⟩ ∧ Below w.heap.size w wr) (fun _ k _ => len - (intOf k).toNat)
    case atStart =>
      refine ⟨1, by omega, by omega, rfl, ?_, b1⟩
      have : (itoas zs).take 1 = [Lib.itoa z0] := by
        have h1 := HZK.out
        have h2 := HZ.out
        cases zs with
        | nil => simp at h2; omega
        | cons z r => simp [itoas] at h1 ⊢; rw [h1]
      rw [this, Lib.join_one]
    case round =>
      obtain ⟨i, hi0, hi, rfl, rfl, hb⟩ := hrel
      by_cases hlt : i < len
      · have hcx := (hb.cell (p := ⟨b, i, none⟩) hbl).trans (HC.out i hlt)
        have hzi := HIN.out i hlt
        have HJ := Lib.hid (join_step (itoas zs) i _ hi0 (itoas_at (by rw [HZ.out]; exact hlt)))
        have hjl := join_le 17 ((itoas zs).take i) (itoas_len fun j h1 h2 => HIN.out j (by omega))
        have hjl2 : (Lib.join ((itoas zs).take i) [44]).length ≤ 3000 := by simp [itoas] at hjl ⊢; omega
        have hx17 := (itoa_len _ hzi.1 hzi.2).2
        clear hjl
        generalize zs.getD i 0 = zi at hcx hzi HJ hx17
        have HB := Lib.hid hb
        clear hb
        go_wp2_with (first | (go_at_call 37; refine (spec_l01Dec zi _ (by omega) (by omega)).mono ?_; rintro e w2 ⟨rfl, b2⟩))
        go_roundw
        case rel => exact ⟨i + 1, by omega, by omega, by go_num, by rw [HJ.out, str_app], HB.out.trans (b2.mono HB.out.size)⟩
        case measure => simp [intOf]; omega
      · obtain rfl : i = len := by omega
        go_wp2_with fail
        go_ret
        refine ⟨?_, hb⟩
        have h2 := HZ.out
        rw [List.take_of_length_le (by simp [itoas]; omega), listText, if_neg (by intro e; simp [itoas] at e; subst e; simp at h2; omega)]
        rfl

/-- both sides' answer -/
def txtO (b : Bool) (l : List UInt8) : ByteArray := if b then ⟨l.toArray⟩ else ⟨#[]⟩
def LTextIs (zs : List Int) (w : World) (e : Ending) (w' : World) : Prop := e = .returned (.tuple #[.string (txtO (listB zs) (listText (itoas zs))), .bool (listB zs)]) ∧ Below w.heap.size w w'
theorem LTextIs.no {zs : List Int} (h : listB zs = false) {w w' : World} (hb : Below w.heap.size w w') : LTextIs zs w (.returned (.tuple #[.string ⟨#[]⟩, .bool false])) w' := ⟨by rw [h]; rfl, hb⟩
theorem LTextIs.yes {zs : List Int} (h : listB zs = true) {w w' : World} (hb : Below w.heap.size w w') : LTextIs zs w (.returned (.tuple #[.string ⟨(listText (itoas zs)).toArray⟩, .bool true])) w' := ⟨by rw [h]; rfl, hb⟩

theorem spec_ListText (a : Option Addr) (len cap lo hi : Nat) (zs : List Int) (w : World) (h : IRow w lo hi a len cap zs) (hl : len ≤ 1048576) : Calls Tryd.prog 23 #[.slice a len cap] w (LTextIs zs w) := by
  have hc := spec_l01List a len cap lo hi zs w h hl
  by_cases hb : listB zs = true
  · have hd := spec_l01Text a len cap lo hi zs w h hb
    have HV : RowKit.Hid (∀ w', Below w.heap.size w w' → LTextIs zs w (.returned (.tuple #[.string ⟨(listText (itoas zs)).toArray⟩, .bool true])) w') := Lib.hid fun w' => LTextIs.yes hb
    rw [hb] at hc
    have HC := Lib.hid hc
    have HD := Lib.hid hd
    clear hc hd hb h
    go_enter Tryd.func23, Tryd.ntmps23
    go_wp2_with fail
    refine HC.out.mono ?_
    rintro e w1 ⟨rfl, rfl⟩
    go_wp2_with fail
    refine HD.out.mono ?_
    rintro e w1 ⟨rfl, b1⟩
    go_wp2_with fail
    go_ret2
    exact HV.out _ b1
  · have hb' : listB zs = false := by simpa using hb
    have HV : RowKit.Hid (∀ w', Below w.heap.size w w' → LTextIs zs w (.returned (.tuple #[.string ⟨#[]⟩, .bool false])) w') := Lib.hid fun w' => LTextIs.no hb'
    rw [hb'] at hc
    have HC := Lib.hid hc
    clear hc hb hb' h
    go_enter Tryd.func23, Tryd.ntmps23
    go_wp2_with fail
    refine HC.out.mono ?_
    rintro e w1 ⟨rfl, rfl⟩
    go_wp2_with fail
    go_ret2
    exact HV.out _ (Below.refl _ _)

theorem impl_ListText (a : Option Addr) (len cap lo hi : Nat) (zs : List Int) (w : World) (h : IRow w lo hi a len cap zs) (hl : len ≤ 1048576) (ht : TabOk w) : Calls Tryd.prog 25 #[.slice a len cap] w (LTextIs zs w) := by
  have H := Lib.hid h
  have HT := Lib.hid ht
  have HZ := Lib.hid h.row.1
  have hcap : len ≤ cap := h.row.2.1
  have hcm : cap ≤ 9223372036854775807 := by have := h.row.2.2; unfold maxLen at this; omega
  clear h ht
  go_enter Tryd.func25, Tryd.ntmps25
  go_wp2_with fail
  go_loopw [4, 10] (fun parts k wr => ∃ i : Nat, i ≤ len ∧ i ≤ 64 ∧ k = .int .i64 i ∧ RowKit.Hid (∀ j, j < i → -1000000000000000 ≤ zs.getD j 0 ∧ zs.getD j 0 ≤ 1000000000000000) ∧ OwnL wr w.heap.size 9 parts (((itoas zs).take i).map strV) ∧ Below w.heap.size w wr) (fun _ k _ => len - (intOf k).toNat)
  case atStart => exact ⟨0, by omega, by omega, rfl, Lib.hid (fun j hj => absurd hj (by omega)), OwnL.new w _, Below.alloc (Below.refl _ _) (Nat.le_refl _) _⟩
  case round =>
    obtain ⟨i, hi, hi64, rfl, ha, ho, hb⟩ := hrel
    obtain ⟨ao, cp, e⟩ := ho.shape
    have hln : (((itoas zs).take i).map strV).length = i := by simp [itoas, HZ.out]; omega
    rw [hln] at e
    subst e
    have HO := Lib.hid ho
    have HB := Lib.hid hb
    clear ho hb
    by_cases hlt : i < len
    · obtain ⟨b, rfl, -, -, k3, -, hc⟩ := H.out.own.resolve_left (by omega)
      have hcx := (HB.out.cell (p := ⟨b, i, none⟩) k3).trans (hc i hlt)
      have HT2 := Lib.hid (itoas_take (zs := zs) (k := i) (by rw [HZ.out]; exact hlt))
      obtain ⟨z, hz⟩ : ∃ z, z = zs.getD i 0 := ⟨_, rfl⟩
      rw [← hz] at hcx HT2
      have HZI := Lib.hid hz
      have hlen' : (((itoas zs).take i).map strV).length ≤ 100000 := by omega
      clear hc hln hz
      by_cases hr : -1000000000000000 ≤ z ∧ z ≤ 1000000000000000
      · obtain ⟨hr0, hr1⟩ := hr
        by_cases h64 : i = 64
        · subst h64
          have HV : RowKit.Hid (∀ w', Below w.heap.size w w' → LTextIs zs w (.returned (.tuple #[.string ⟨#[]⟩, .bool false])) w') := Lib.hid fun w' => LTextIs.no (listB_long (by rw [HZ.out]; omega))
          clear HT2 HZI hlen'
          go_wp2_with (first | (go_at_call 35; refine (in_t z _ _ _ hr0 hr1).mono ?_; rintro e w' ⟨rfl, rfl⟩))
          go_ret2
          exact HV.out _ HB.out
        · have hne : ((i : Int) == 64) = false := by simp; omega
          have hTW := HT.out.below HB.out
          have hs1 := HB.out.size
          go_wp2_with (first | (go_at_call 35; refine (in_t z _ _ _ hr0 hr1).mono ?_; rintro e w' ⟨rfl, rfl⟩) | (go_at_call 22; refine (impl_Decimal z _ (by omega) (by omega) hTW).mono ?_; rintro e w2 ⟨rfl, b2⟩; have hs2 := b2.size) | (at_builtin; refine wpList_append1L elemString (by omega) rfl (.tmp 22) (.tmp 25) rfl rfl rfl (HO.out.below (b2.trans (by repeat (first | exact Below.refl _ _ | refine Below.setCell ?_ (by first | (simp; done) | (simp; omega)) _ | refine Below.trans ?_ (Below.mono (by assumption) (by first | omega | (simp; done) | (simp; omega))) | refine Below.alloc ?_ (by first | omega | (simp; done) | (simp; omega)) _ | refine Below.alloc ?_ (Nat.le_refl _) _ | refine below_drewN ?_ _)))) (by simp; omega) hlen' (by go_simp; rfl) rfl ?_; intro v' w' h7 hgr; have hbn := own_stepL HO.out (b2.trans (by repeat (first | exact Below.refl _ _ | refine Below.setCell ?_ (by first | (simp; done) | (simp; omega)) _ | refine Below.trans ?_ (Below.mono (by assumption) (by first | omega | (simp; done) | (simp; omega))) | refine Below.alloc ?_ (by first | omega | (simp; done) | (simp; omega)) _ | refine Below.alloc ?_ (Nat.le_refl _) _ | refine below_drewN ?_ _))) hgr HB.out (by first | (simp; done) | (simp; omega))))
          go_roundw
          case rel =>
            refine ⟨i + 1, by omega, by omega, by go_num, Lib.hid fun j hj => ?_, by rw [HT2.out]; exact h7, hbn⟩
            by_cases hji : j = i
            · rw [hji, ← HZI.out]; exact ⟨hr0, hr1⟩
            · exact ha.out j (by omega)
          case measure => simp [intOf]; omega
      · have HV : RowKit.Hid (∀ w', Below w.heap.size w w' → LTextIs zs w (.returned (.tuple #[.string ⟨#[]⟩, .bool false])) w') := Lib.hid fun w' => LTextIs.no (listB_no (by rw [HZ.out]; exact hlt) (by rw [← HZI.out]; exact inB_no hr))
        clear HT2 HZI hlen'
        go_wp2_with (first | (go_at_call 35; refine (in_f z _ _ _ (by omega)).mono ?_; rintro e w' ⟨rfl, rfl⟩))
        go_ret2
        exact HV.out _ HB.out
    · obtain rfl : i = len := by omega
      have hall : (itoas zs).take i = itoas zs := List.take_of_length_le (by simp [itoas, HZ.out])
      have hx := itoas_len (zs := zs) (k := i) fun j h1 _ => ha.out j h1
      rw [hall] at HO hx
      have hBt := listB_yes (zs := zs) (fun j hj => inB_yes (ha.out j (by rw [HZ.out] at hj; exact hj)).1 (ha.out j (by rw [HZ.out] at hj; exact hj)).2)
      rw [HZ.out, decide_eq_true (by omega)] at hBt
      have HV : RowKit.Hid (∀ w', Below w.heap.size w w' → LTextIs zs w (.returned (.tuple #[.string ⟨(listText (itoas zs)).toArray⟩, .bool true])) w') := Lib.hid fun w' => LTextIs.yes hBt
      have hj := impl_joined _ _ _ _ _ _ HO.out 17 hx (by simp [itoas, HZ.out]; omega) (by simp [itoas, HZ.out]; omega)
      generalize listText (itoas zs) = T at hj HV
      clear hall hln hx hBt
      go_wp2_with (first | (go_at_call 41; refine hj.mono ?_; rintro e w1 ⟨rfl, b1⟩))
      go_ret2
      exact HV.out _ (HB.out.trans (b1.mono HB.out.size))

def FnExactListText_Env (w : World) : Prop := TabOk w
theorem FnExactListText_env (w : World) (h : laidMet Tryd.prog Rows.fnExactListTextRow.laid w) (_ : w.ShapedOpen Tryd.prog) : FnExactListText_Env w := tab_of h (by simp [Rows.fnExactListTextRow])
theorem FnExactListText_walk (a : Option Addr) (len cap : Nat) (zs : List Int) (w : World) (h : FL.IsIRow w a len cap zs) (hE : FnExactListText_Env w) : Calls Tryd.prog 7 #[.slice a len cap] w fun e w' => e = .returned (.bool true) ∧ Below w.heap.size w w' := by
  have hcm : len ≤ 9223372036854775807 := by have h1 := h.2.1; have h2 := h.2.2.1; unfold maxLen at h2; omega
  have H := Lib.hid h
  have HT := Lib.hid (show TabOk w from hE)
  clear h hE
  by_cases hl : (len : Int) ≤ 1048576
  case neg =>
    go_enter Tryd.func7, Tryd.ntmps7
    go_wp2_with fail
    go_ret
    exact ⟨rfl, (by repeat (first | exact Below.refl _ _ | refine Below.setCell ?_ (by first | (simp; done) | (simp; omega)) _ | refine Below.trans ?_ (Below.mono (by assumption) (by first | omega | (simp; done) | (simp; omega))) | refine Below.alloc ?_ (by first | omega | (simp; done) | (simp; omega)) _ | refine Below.alloc ?_ (Nat.le_refl _) _ | refine below_drewN ?_ _))⟩
  have hl' : len ≤ 1048576 := by omega
  have hs := fun a cap lo hi w h => spec_ListText a len cap lo hi zs w h hl'
  have hi := fun a cap lo hi w h ht => impl_ListText a len cap lo hi zs w h hl' ht
  unfold LTextIs at hs hi
  generalize txtO (listB zs) (listText (itoas zs)) = T at hs hi
  generalize listB zs = ok at hs hi
  have HS := Lib.hid hs
  have HI := Lib.hid hi
  clear hs hi
  go_enter Tryd.func7, Tryd.ntmps7
  go_wp2_with fail
  refine (toInt64S a len cap zs _ H.out hl').mono ?_
  rintro e w1 ⟨rfl, r1, b1⟩
  have R1 := Lib.hid r1
  clear r1
  go_wp2_with fail
  refine (HS.out _ _ _ _ _ R1.out).mono ?_
  rintro e w2 ⟨rfl, b2⟩
  have BB : Below w.heap.size w w2 := b1.trans (b2.mono b1.size)
  go_wp2_with fail
  refine (toInt64S a len cap zs _ (IsIRow.below H.out BB) hl').mono ?_
  rintro e w3 ⟨rfl, r3, b3⟩
  have R3 := Lib.hid r3
  clear r3
  have BB3 : Below w.heap.size w w3 := BB.trans (b3.mono BB.size)
  go_wp2_with fail
  refine (HI.out _ _ _ _ _ R3.out (HT.out.below BB3)).mono ?_
  rintro e w4 ⟨rfl, b4⟩
  have BC : Below w.heap.size w w4 := BB3.trans (b4.mono BB3.size)
  have R4 := Lib.hid (IRow.below R3.out b4)
  clear R3
  go_wp2_with fail
  refine (toInt64S a len cap zs _ (IsIRow.below H.out BC) hl').mono ?_
  rintro e w5 ⟨rfl, r5, b5⟩
  have R5 := Lib.hid r5
  have R6 := Lib.hid (IRow.below R4.out b5)
  have BD : Below w.heap.size w w5 := BC.trans (b5.mono BC.size)
  clear r5 R4 R1
  go_wp2_with fail
  refine (eqInt64S _ _ len _ _ _ _ _ _ zs zs _ R6.out R5.out (fun _ _ => rfl)).mono ?_
  rintro e w6 ⟨rfl, b6⟩
  go_wp2_with fail
  go_ret
  exact ⟨rfl, BD.trans (b6.mono BD.size)⟩
end Go.Proofs.YtopacaenlemfcaaDoor
