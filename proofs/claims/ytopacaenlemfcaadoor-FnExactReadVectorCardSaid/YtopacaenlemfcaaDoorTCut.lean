/-
  A text cut at its commas: the plain laws and the walks of the functions that cut.
-/
import Derived.Test.YtopacaenlemfcaaDoorText
import Derived.Test.YtopacaenlemfcaaDoorShelf
import Derived.Test.YtopacaenlemfcaaDoorTDec
import Derived.Test.YtopacaenlemfcaaDoorTJoin
import Derived.WalkKit
import Derived.WalkSpells
import Derived.WalkLawsBesides
import Derived.Lib.Hide
import Derived.ProofKit
namespace Go.TX
/-- the loop that cuts a text: i bytes are seen, the piece under way begins at fr, ps are the pieces that are done -/
def CutI (L : List UInt8) (ps : List (List UInt8)) (fr i : Nat) : Prop :=
  fr ≤ i ∧ i ≤ L.length + 1 ∧ ps.length ≤ i ∧ (i ≤ L.length → cutA [] L = ps ++ cutA ((L.drop fr).take (i - fr)) (L.drop i)) ∧ (i = L.length + 1 → cutA [] L = ps)
theorem CutI.start (L : List UInt8) : CutI L [] 0 0 := ⟨by omega, by omega, by simp, fun _ => by simp, fun h => by omega⟩
theorem CutI.mark {L : List UInt8} {ps : List (List UInt8)} {fr i : Nat} (h : CutI L ps fr i) (hi : i < L.length) (hb : L[i]'hi = 44) : CutI L (ps ++ [(L.drop fr).take (i - fr)]) (i + 1) (i + 1) := by
  obtain ⟨h1, h2, h3, h4, h5⟩ := h
  refine ⟨Nat.le_refl _, by omega, by simp; omega, fun _ => ?_, fun h => by omega⟩
  rw [h4 (by omega), List.drop_eq_getElem_cons hi, hb, cutA, if_pos rfl]
  simp
theorem CutI.plain {L : List UInt8} {ps : List (List UInt8)} {fr i : Nat} (h : CutI L ps fr i) (hi : i < L.length) (hb : L[i]'hi ≠ 44) : CutI L ps fr (i + 1) := by
  obtain ⟨h1, h2, h3, h4, h5⟩ := h
  refine ⟨by omega, by omega, by omega, fun _ => ?_, fun h => by omega⟩
  rw [h4 (by omega), List.drop_eq_getElem_cons hi, cutA, if_neg hb]
  have e : (L.drop fr).take (i - fr) ++ [L[i]'hi] = (L.drop fr).take (i + 1 - fr) := by
    rw [show i + 1 - fr = (i - fr) + 1 by omega, List.take_succ_eq_append_getElem (by simp; omega)]
    simp [show fr + (i - fr) = i by omega]
  rw [e]
theorem CutI.last {L : List UInt8} {ps : List (List UInt8)} {fr i : Nat} (h : CutI L ps fr i) (hi : i = L.length) : CutI L (ps ++ [(L.drop fr).take (i - fr)]) (i + 1) (i + 1) := by
  obtain ⟨h1, h2, h3, h4, h5⟩ := h
  refine ⟨Nat.le_refl _, by omega, by simp; omega, fun h => by omega, fun _ => ?_⟩
  rw [h4 (by omega), hi]
  simp [cutA]
theorem CutI.done {L : List UInt8} {ps : List (List UInt8)} {fr i : Nat} (h : CutI L ps fr i) (hi : ¬ i ≤ L.length) : ps = cutA [] L := (h.2.2.2.2 (by have := h.2.1; omega)).symm

/-- each piece is read; or none at all -/
def rdAll {α : Type} (f : List UInt8 → Option α) : List (List UInt8) → Option (List α)
  | [] => some []
  | l :: r => (f l).bind fun x => (rdAll f r).map fun xs => x :: xs
theorem rdAll_snoc {α : Type} {f : List UInt8 → Option α} {ps : List (List UInt8)} {l : List UInt8} {xs : List α} {x : α} (h : rdAll f ps = some xs) (hl : f l = some x) : rdAll f (ps ++ [l]) = some (xs ++ [x]) := by
  induction ps generalizing xs with
  | nil => simp [rdAll] at h ⊢; subst h; simp [hl]
  | cons p r ih =>
    rw [rdAll] at h
    rw [List.cons_append, rdAll]
    cases hp : f p with
    | none => rw [hp] at h; simp at h
    | some y =>
      cases hr : rdAll f r with
      | none => rw [hp, hr] at h; simp at h
      | some ys => rw [hp, hr] at h; simp at h; subst h; rw [ih hr]; simp
theorem rdAll_none {α : Type} {f : List UInt8 → Option α} {ps : List (List UInt8)} {l : List UInt8} (hm : l ∈ ps) (hl : f l = none) : rdAll f ps = none := by
  induction ps with
  | nil => simp at hm
  | cons p r ih =>
    rw [rdAll]
    rcases List.mem_cons.1 hm with rfl | hm
    · rw [hl]; rfl
    · rw [ih hm]; cases f p <;> rfl
theorem rdAll_len {α : Type} {f : List UInt8 → Option α} {ps : List (List UInt8)} {xs : List α} (h : rdAll f ps = some xs) : xs.length = ps.length := by
  induction ps generalizing xs with
  | nil => simp [rdAll] at h; subst h; rfl
  | cons p r ih =>
    rw [rdAll] at h
    cases hp : f p with
    | none => rw [hp] at h; simp at h
    | some y =>
      cases hr : rdAll f r with
      | none => rw [hp, hr] at h; simp at h
      | some ys => rw [hp, hr] at h; simp at h; subst h; simp [ih hr]
theorem rdAll_mem {α : Type} {f : List UInt8 → Option α} {ps : List (List UInt8)} {xs : List α} (h : rdAll f ps = some xs) : ∀ x ∈ xs, ∃ l ∈ ps, f l = some x := by
  induction ps generalizing xs with
  | nil => simp [rdAll] at h; subst h; simp
  | cons p r ih =>
    rw [rdAll] at h
    cases hp : f p with
    | none => rw [hp] at h; simp at h
    | some y =>
      cases hr : rdAll f r with
      | none => rw [hp, hr] at h; simp at h
      | some ys =>
        rw [hp, hr] at h; simp at h; subst h
        intro x hx
        rcases List.mem_cons.1 hx with rfl | hx
        · exact ⟨p, List.mem_cons_self .., hp⟩
        · obtain ⟨l, h1, h2⟩ := ih hr x hx
          exact ⟨l, List.mem_cons_of_mem _ h1, h2⟩
def noneL : List UInt8 := [110, 111, 110, 101]
/-- a list that a text holds: at most m pieces, each of them read -/
def rdText {α : Type} (f : List UInt8 → Option α) (m : Nat) (L : List UInt8) : Option (List α) :=
  if L = noneL then some [] else if (cutA [] L).length ≤ m then rdAll f (cutA [] L) else none
theorem take_at {ps : List (List UInt8)} {i : Nat} {l : List UInt8} (h : ps[i]? = some l) : ps.take (i + 1) = ps.take i ++ [l] := by
  obtain ⟨hi, rfl⟩ := List.getElem?_eq_some_iff.1 h
  exact List.take_succ_eq_append_getElem hi
end Go.TX
namespace Go.Proofs.YtopacaenlemfcaaDoor
open Go.RowKit Go.TX

theorem str_cut (s : ByteArray) (i j : Nat) : Value.string (s.extract i j) = strV ((s.data.toList.drop i).take (j - i)) := by
  unfold strV
  congr 1
  apply ByteArray.ext
  apply Array.ext'
  simp [ByteArray.data_extract]

/-- append of one text onto the call's own row of texts, however many -/
theorem wpList_appendS {ops : Array Oper} {rest : List Oper} {o : Oper} {a : Act} {w : World} {Q : Exit → Act → World → Prop} {base : Nat} {v u : Value} {xs : List Value} {nb : Nat} (hgd : o.guard = none) (s x : Operand)
    (ho : o.op = .call { callee := .builtin .append, args := #[s, x], argTypes := #[47, 47] })
    (hs : a.eval s = v) (hx : a.eval x = .slice (some ⟨nb, 0, none⟩) 1 1) (h : OwnL w base 9 v xs) (hbase : base ≤ w.heap.size)
    (hn : xs.length ≤ 2000000) (hc : w.cell? ⟨nb, 0, none⟩ = some u) (h1 : u.oneCell' = true)
    (hK : ∀ v' w', OwnL w' base 9 v' (xs ++ [u]) → w.grownBy w' v.ownBlock → wpList Tryd.prog ops Q rest (a.put o.dst v') w') : wpList Tryd.prog ops Q (o :: rest) a w := by
  obtain ⟨i, hi, hz, hsz, hb⟩ := elemString.at
  obtain ⟨v', w', hrun, h4, h5, -⟩ := run_append_own (P := Tryd.prog) (w := w) base 47 o.type 9 i (.string ByteArray.empty) 1 16 Tryd.underlying47 hi hz hsz hb rfl (by omega) v xs.length xs h ⟨nb, 0, none⟩ 1 1 [u] rfl
    (fun j y hj => by
      rcases j with _ | j
      · simp only [List.getElem?_cons_zero, Option.some.injEq] at hj; subst hj; exact hc
      · simp at hj)
    (fun y hy => by simp only [List.mem_singleton] at hy; subst hy; exact h1) (by unfold maxLen; omega) (by omega) hbase
  refine wpList_plain hgd fun _ hK' => ?_
  unfold Oper.wp execOp
  simp only [ho, resolve, invoke, builtin, Sem.run_bind, Sem.run_pure, Result.andThen_ok, List.map_toArray, List.map_cons, List.map_nil, hs, hx, hrun]
  exact hK' _ _ (hK v' w' (by unfold OwnL; rw [List.length_append]; exact h4) h5)

set_option maxRecDepth 20000 in
theorem spec_l01Cut (s : ByteArray) (w : World) (hs : s.size ≤ 1048576) : Calls Tryd.prog 43 #[.string s, .int .u8 44] w fun e w' =>
    ∃ v, e = .returned v ∧ OwnL w' w.heap.size 9 v ((cutA [] s.data.toList).map strV) ∧ Below w.heap.size w w' := by
  have hL : s.data.toList.length = s.size := by simp
  have HL := Lib.hid hL
  clear hL
  go_enter Tryd.func43, Tryd.ntmps43
  go_wp2_with fail
  go_loopw [5, 6, 7] (fun out fr k wr => ∃ f i : Nat, ∃ ps, fr = .int .i64 f ∧ k = .int .i64 i ∧ CutI s.data.toList ps f i ∧ OwnL wr w.heap.size 9 out (ps.map strV) ∧ Below w.heap.size w wr) (fun _ _ k _ => s.size + 1 - (intOf k).toNat)
  case atStart => exact ⟨0, 0, [], rfl, rfl, CutI.start _, OwnL.new w _, Below.alloc (Below.refl _ _) (Nat.le_refl _) _⟩
  case round =>
    obtain ⟨f, i, ps, rfl, rfl, hc, ho, hb⟩ := hrel
    obtain ⟨hf, hi, hp, -⟩ := id hc
    rw [HL.out] at hi
    obtain ⟨ao, cp, rfl⟩ := ho.shape
    have hn : (ps.map strV).length ≤ 2000000 := by simp; omega
    have HC := Lib.hid hc
    have HO := Lib.hid ho
    have HB := Lib.hid hb
    clear hc ho hb
    have hs2 := HB.out.size
    by_cases hle : i ≤ s.size
    · by_cases hlt : i < s.size
      · have hb1 : ((i : Int) == (s.size : Int)) = false := by simp; omega
        by_cases hm : s[i] = 44
        · have HM := Lib.hid (HC.out.mark (by rw [HL.out]; exact hlt) (by simpa [ByteArray.getElem_eq_getElem_data] using hm))
          have hb2 : (((s[i]'hlt).toNat : Int) == 44) = true := by rw [hm]; rfl
          clear hm
          go_wp2_with (at_builtin; refine wpList_appendS rfl (.tmp 26) (.tmp 31) rfl rfl rfl (HO.out.below (by repeat (first | exact Below.refl _ _ | refine Below.setCell ?_ (by first | (simp; done) | (simp; omega)) _ | refine Below.trans ?_ (Below.mono (by assumption) (by first | omega | (simp; done) | (simp; omega))) | refine Below.alloc ?_ (by first | omega | (simp; done) | (simp; omega)) _ | refine Below.alloc ?_ (Nat.le_refl _) _ | refine below_drewN ?_ _))) (by first | omega | (simp; done) | (simp; omega) | exact HB.out.size | (have := HB.out.size; simp; omega)) hn (by go_simp; rfl) rfl ?_; intro v' w' h7 hgr; have hbn := own_stepL HO.out (by repeat (first | exact Below.refl _ _ | refine Below.setCell ?_ (by first | (simp; done) | (simp; omega)) _ | refine Below.trans ?_ (Below.mono (by assumption) (by first | omega | (simp; done) | (simp; omega))) | refine Below.alloc ?_ (by first | omega | (simp; done) | (simp; omega)) _ | refine Below.alloc ?_ (Nat.le_refl _) _ | refine below_drewN ?_ _)) hgr HB.out (by first | (simp; done) | (simp; omega)))
          go_roundw
          case rel => exact ⟨i + 1, i + 1, _, rfl, rfl, HM.out, by rw [List.map_append, List.map_singleton]; rw [str_cut] at h7; exact h7, hbn⟩
          case measure => simp [intOf]; omega
        · have HM := Lib.hid (HC.out.plain (by rw [HL.out]; exact hlt) (by simpa [ByteArray.getElem_eq_getElem_data] using hm))
          have hb2 : (((s[i]'hlt).toNat : Int) == 44) = false := by
            simp only [beq_eq_false_iff_ne, ne_eq]; intro e
            exact hm (UInt8.toNat_inj.1 (by simpa using (show (s[i]'hlt).toNat = 44 by omega)))
          clear hm
          go_wp2_with fail
          go_roundw
          case rel => exact ⟨f, i + 1, ps, rfl, by go_num, HM.out, HO.out, HB.out⟩
          case measure => simp [intOf]; omega
      · have hie : i = s.size := by omega
        have HM := Lib.hid (HC.out.last (by rw [HL.out]; exact hie))
        have hb1 : ((s.size : Int) == (s.size : Int)) = true := by simp
        subst hie
        go_wp2_with (at_builtin; refine wpList_appendS rfl (.tmp 26) (.tmp 31) rfl rfl rfl (HO.out.below (by repeat (first | exact Below.refl _ _ | refine Below.setCell ?_ (by first | (simp; done) | (simp; omega)) _ | refine Below.trans ?_ (Below.mono (by assumption) (by first | omega | (simp; done) | (simp; omega))) | refine Below.alloc ?_ (by first | omega | (simp; done) | (simp; omega)) _ | refine Below.alloc ?_ (Nat.le_refl _) _ | refine below_drewN ?_ _))) (by first | omega | (simp; done) | (simp; omega) | exact HB.out.size | (have := HB.out.size; simp; omega)) hn (by go_simp; rfl) rfl ?_; intro v' w' h7 hgr; have hbn := own_stepL HO.out (by repeat (first | exact Below.refl _ _ | refine Below.setCell ?_ (by first | (simp; done) | (simp; omega)) _ | refine Below.trans ?_ (Below.mono (by assumption) (by first | omega | (simp; done) | (simp; omega))) | refine Below.alloc ?_ (by first | omega | (simp; done) | (simp; omega)) _ | refine Below.alloc ?_ (Nat.le_refl _) _ | refine below_drewN ?_ _)) hgr HB.out (by first | (simp; done) | (simp; omega)))
        go_roundw
        case rel => exact ⟨s.size + 1, s.size + 1, _, rfl, rfl, HM.out, by rw [List.map_append, List.map_singleton]; rw [str_cut] at h7; exact h7, hbn⟩
        case measure => simp [intOf]
    · have HM := Lib.hid (HC.out.done (by rw [HL.out]; exact hle))
      go_wp2_with fail
      go_ret
      exact ⟨_, rfl, by rw [← HM.out]; exact HO.out, HB.out⟩

/-- internal/bytealg.MaxLen holds some int -/
def MaxOk (w : World) : Prop := ∃ m, w.cell? ⟨4, 0, none⟩ = some (.int .i64 m)
theorem MaxOk.below {w w' : World} (h : MaxOk w) (hb : Below w.heap.size w w') : MaxOk w' := by
  obtain ⟨m, hm⟩ := h
  exact ⟨m, (hb.cell (World.block_lt_of_cell? w _ hm)).trans hm⟩

theorem impl_parted (s : ByteArray) (w : World) (hs : s.size ≤ 1048576) (hm : MaxOk w) : Calls Tryd.prog 30 #[.string s] w fun e w' =>
    ∃ v, e = .returned v ∧ OwnL w' w.heap.size 9 v ((if s.data.toList = noneL then [] else cutA [] s.data.toList).map strV) ∧ Below w.heap.size w w' := by
  obtain ⟨m, hm⟩ := hm
  by_cases hn : s.data.toList = noneL
  · rw [if_pos hn]
    have hc1 : (s.toList == [110, 111, 110, 101]) = true := by rw [ByteArray.toList_eq, hn]; rfl
    clear hn
    go_enter Tryd.func30, Tryd.ntmps30
    go_wp2_with fail
    go_ret
    exact ⟨_, rfl, ⟨rfl, .inl ⟨rfl, rfl⟩⟩, Below.refl _ _⟩
  · rw [if_neg hn]
    have hc1 : (s.toList == [110, 111, 110, 101]) = false := by rw [ByteArray.toList_eq]; simpa [noneL] using hn
    have hc := Tryd.strings_Split s comma m w (by omega) hm (by decide)
    rw [splitB_cut] at hc
    have hlen := count_pieces s
    rw [← hlen] at hc
    have hp : (pieces s).map Value.string = (cutA [] s.data.toList).map strV := by
      unfold pieces strV
      rw [List.map_map]
      rfl
    have hpl : (pieces s).length = ((cutA [] s.data.toList).map strV).length := by simp [pieces]
    rw [hp, hpl] at hc
    have hle : ((cutA [] s.data.toList).map strV).length ≤ maxLen := by
      have := cutA_len [] s.data.toList
      simp only [List.length_map]
      have h2 : s.data.toList.length = s.size := by simp
      unfold maxLen
      omega
    have HLE := Lib.hid hle
    have HC := Lib.hid hc
    clear hn hc hlen hp hpl hle
    generalize (cutA [] s.data.toList).map strV = xs at HC HLE
    go_enter Tryd.func30, Tryd.ntmps30
    go_wp2_with fail
    refine HC.out.mono ?_
    rintro e w1 ⟨rfl, rfl⟩
    go_wp2_with fail
    go_ret
    exact ⟨_, rfl, OwnL.made w _ xs HLE.out, Below.alloc (Below.refl _ _) (Nat.le_refl _) _⟩
end Go.Proofs.YtopacaenlemfcaaDoor
