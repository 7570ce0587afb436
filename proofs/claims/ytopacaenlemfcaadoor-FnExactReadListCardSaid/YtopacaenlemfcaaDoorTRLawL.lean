/-
  The walk of the law ReadList.
-/
import Derived.Test.YtopacaenlemfcaaDoorTReadL
import Derived.Test.YtopacaenlemfcaaDoorTEnv
namespace Go.Proofs.YtopacaenlemfcaaDoor
open Go.RowKit Go.TX
theorem rdText_len {α : Type} (f : List UInt8 → Option α) (m : Nat) (L : List UInt8) : ((rdText f m L).getD []).length ≤ m := by
  unfold rdText
  split
  · simp
  · split
    · rename_i h
      cases hr : rdAll f (cutA [] L) with
      | none => simp
      | some xs => simp [rdAll_len hr]; exact h
    · simp

theorem RdInt64S_row {O : Option (List _)} {w w' : World} {e : Ending} (h : RdV 2 (Value.int .i64) O w e w') : ∃ ao cp, e = .returned (.tuple #[.slice ao (O.getD []).length cp, .bool O.isSome]) ∧ IRow w' w.heap.size w'.heap.size ao (O.getD []).length cp (O.getD []) ∧ Below w.heap.size w w' := by
  obtain ⟨v, rfl, ho, hb⟩ := h
  obtain ⟨ao, cp, rfl, hr⟩ := OwnL.irow ho
  exact ⟨ao, cp, rfl, hr, hb⟩
def FnExactReadList_Env (w : World) : Prop := MaxOk w ∧ TabOk w ∧ ErrsOk w
theorem FnExactReadList_Env.below {w w' : World} (h : FnExactReadList_Env w) (hb : Below w.heap.size w w') : FnExactReadList_Env w' := ⟨h.1.below hb, h.2.1.below hb, h.2.2.below hb⟩
theorem FnExactReadList_env (w : World) (h : laidMet Tryd.prog Rows.fnExactReadListRow.laid w) (hs : w.ShapedOpen Tryd.prog) : FnExactReadList_Env w := ⟨max_of hs, tab_of h (by simp [Rows.fnExactReadListRow]), errs_of h (by simp [Rows.fnExactReadListRow]) (by simp [Rows.fnExactReadListRow])⟩
theorem FnExactReadList_walk (s : ByteArray) (w : World) (hs : s.size ≤ maxLen) (hE : FnExactReadList_Env w) : Calls Tryd.prog 5 #[.string s] w fun e w' => e = .returned (.bool true) ∧ Below w.heap.size w w' := by
  have HE := Lib.hid hE
  clear hE
  have hcl : s.size ≤ 9223372036854775807 := by unfold maxLen at hs; omega
  by_cases hl : (s.size : Int) ≤ 1048576
  case neg =>
    go_enter Tryd.func5, Tryd.ntmps5
    go_wp2_with fail
    go_ret
    exact ⟨rfl, (by repeat (first | exact Below.refl _ _ | refine Below.setCell ?_ (by first | (simp; done) | (simp; omega)) _ | refine Below.trans ?_ (Below.mono (by assumption) (by first | omega | (simp; done) | (simp; omega))) | refine Below.alloc ?_ (by first | omega | (simp; done) | (simp; omega)) _ | refine Below.alloc ?_ (Nat.le_refl _) _ | refine below_drewN ?_ _))⟩
  have hl' : s.size ≤ 1048576 := by omega
  obtain ⟨O, hO⟩ : ∃ O, O = rdText decO 64 s.data.toList := ⟨_, rfl⟩
  have hn : (O.getD []).length ≤ 64 := by rw [hO]; exact rdText_len _ _ _

  have hsp := fun w => spec_ReadList s w hl'
  have him := fun w (h : FnExactReadList_Env w) => impl_ReadList s w hl' h.1 h.2.1 h.2.2
  rw [← hO] at hsp him
  have hsp' := fun w => (hsp w).mono (R' := fun e w' => ∃ ao cp, e = .returned (.tuple #[.slice ao (O.getD []).length cp, .bool O.isSome]) ∧ IRow w' w.heap.size w'.heap.size ao (O.getD []).length cp (O.getD []) ∧ Below w.heap.size w w') fun e w' h => RdInt64S_row h
  have him' := fun w h => (him w h).mono (R' := fun e w' => ∃ ao cp, e = .returned (.tuple #[.slice ao (O.getD []).length cp, .bool O.isSome]) ∧ IRow w' w.heap.size w'.heap.size ao (O.getD []).length cp (O.getD []) ∧ Below w.heap.size w w') fun e w' h => RdInt64S_row h
  clear hsp him hO
  obtain ⟨n, hnn⟩ : ∃ n, n = (O.getD []).length := ⟨_, rfl⟩
  rw [← hnn] at hn
  simp only [← hnn] at hsp' him'
  generalize O.getD [] = zs at hsp' him'
  generalize O.isSome = ok at hsp' him'
  have HS := Lib.hid hsp'
  have HI := Lib.hid him'
  clear hsp' him' hnn
  go_enter Tryd.func5, Tryd.ntmps5
  go_wp2_with fail
  refine (HS.out _).mono ?_
  rintro e w1 ⟨a1, c1, rfl, r1, b1⟩
  have R1 := Lib.hid r1
  have B1 := Lib.hid b1
  have s1 := b1.size
  clear r1 b1
  go_wp2_with fail
  refine (HI.out _ (FnExactReadList_Env.below HE.out B1.out)).mono ?_
  rintro e w2 ⟨a2, c2, rfl, r2, b2⟩
  have R2 := Lib.hid r2
  have s2 := b2.size
  have B2 : RowKit.Hid (Below w.heap.size w w2) := Lib.hid (B1.out.trans (b2.mono s1))
  replace R1 := Lib.hid (R1.out.below b2)
  clear r2 b2 B1
  go_wp2_with fail
  refine (eqInt64S a2 a1 n c2 c1 _ _ _ _ zs zs _ R2.out R1.out (fun _ _ => rfl)).mono ?_
  rintro e w3 ⟨rfl, b3⟩
  have s3 := b3.size
  have B3 : RowKit.Hid (Below w.heap.size w w3) := Lib.hid (B2.out.trans (b3.mono (by omega)))
  replace R1 := Lib.hid (R1.out.below b3)
  replace R2 := Lib.hid (R2.out.below b3)
  clear b3 B2
  go_wp2_with fail
  refine (markInt64S a2 n c2 _ _ zs 1 _ R2.out (by omega) (by omega) (by omega)).mono ?_
  rintro e w4 ⟨rfl, r4, o4⟩
  have s4 := o4.size
  have R4 := Lib.hid r4
  have B4 : RowKit.Hid (Below w.heap.size w w4) := Lib.hid (B3.out.trans (o4.below (by omega) (by omega)))
  replace R1 := Lib.hid (R1.out.only o4 (.inl (Nat.le_refl _)))
  clear r4 o4 B3 R2
  go_wp2_with fail
  refine (heldInt64S a2 n c2 _ _ 1 _ R4.out (by omega) (by omega) (by omega)).mono ?_
  rintro e w5 ⟨rfl, q5, rfl⟩
  go_wp2_with fail
  refine (HI.out _ (FnExactReadList_Env.below HE.out (below_drewN B4.out q5))).mono ?_
  rintro e w6 ⟨a6, c6, rfl, r6, b6⟩
  have b6' : Below w4.heap.size w4 w6 := (below_drewN (Below.refl _ _) q5).trans b6
  have R6 := Lib.hid r6
  have s6 := b6'.size
  have B6 : RowKit.Hid (Below w.heap.size w w6) := Lib.hid (B4.out.trans (b6'.mono (by omega)))
  replace R1 := Lib.hid (R1.out.below b6')
  replace R4 := Lib.hid (R4.out.below b6')
  clear r6 b6 b6' B4
  go_wp2_with fail
  refine (eqInt64S a6 a1 n c6 c1 _ _ _ _ zs zs _ R6.out R1.out (fun _ _ => rfl)).mono ?_
  rintro e w7 ⟨rfl, b7⟩
  have B7 : RowKit.Hid (Below w.heap.size w w7) := Lib.hid (B6.out.trans (b7.mono (by omega)))
  replace R4 := Lib.hid (R4.out.below b7)
  clear b7 B6
  go_wp2_with fail
  refine (heldInt64S a2 n c2 _ _ 1 _ R4.out (by omega) (by omega) (by omega)).mono ?_
  rintro e w8 ⟨rfl, q8, rfl⟩
  go_wp2_with fail
  go_ret
  exact ⟨rfl, below_drewN B7.out q8⟩
end Go.Proofs.YtopacaenlemfcaaDoor
