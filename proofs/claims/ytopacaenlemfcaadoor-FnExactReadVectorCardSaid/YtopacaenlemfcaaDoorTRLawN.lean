/-
  The walk of the law ReadNumbers.
-/
import Derived.Test.YtopacaenlemfcaaDoorTReadN
import Derived.Test.YtopacaenlemfcaaDoorTEnv
namespace Go.Proofs.YtopacaenlemfcaaDoor
open Go.RowKit Go.TX Go.FL
theorem rdText_len {α : Type} (f : List UInt8 → Option α) (m : Nat) (L : List UInt8) : ((rdText f m L).getD []).length ≤ m := by
  unfold rdText
  split
  · simp
  · split
    · rename_i h
      cases hr : rdAll f (cutA [] L) with
      | none => simp
      | some xs => simp [rdAll_len hr]; exact h
    · simp
theorem RetB_below {b : Bool} {w w' : World} {e : Ending} (h : RetB b w e w') : e = .returned (.bool b) ∧ Below w.heap.size w w' := by
  obtain ⟨n, rfl, rfl⟩ := h
  exact ⟨rfl, below_drewN (Below.refl _ _) n⟩

theorem RdFloat32S_row {O : Option (List _)} {w w' : World} {e : Ending} (h : RdV 41 (Value.float .f32) O w e w') (hz : ∀ z ∈ O.getD [], z < 4294967296) : ∃ ao cp, e = .returned (.tuple #[.slice ao (O.getD []).length cp, .bool O.isSome]) ∧ ORow w' w.heap.size w'.heap.size ao (O.getD []).length cp (O.getD []) ∧ Below w.heap.size w w' := by
  obtain ⟨v, rfl, ho, hb⟩ := h
  obtain ⟨ao, cp, rfl, hr⟩ := OwnL.orow ho hz
  exact ⟨ao, cp, rfl, hr, hb⟩
def FnExactReadNumbers_Env (w : World) : Prop := MaxOk w
theorem FnExactReadNumbers_Env.below {w w' : World} (h : FnExactReadNumbers_Env w) (hb : Below w.heap.size w w') : FnExactReadNumbers_Env w' := MaxOk.below h hb
theorem FnExactReadNumbers_env (w : World) (_ : laidMet Tryd.prog Rows.fnExactReadNumbersRow.laid w) (hs : w.ShapedOpen Tryd.prog) : FnExactReadNumbers_Env w := max_of hs
theorem FnExactReadNumbers_walk (s : ByteArray) (w : World) (hs : s.size ≤ maxLen) (hE : FnExactReadNumbers_Env w) : Calls Tryd.prog 3 #[.string s] w fun e w' => e = .returned (.bool true) ∧ Below w.heap.size w w' := by
  have HE := Lib.hid hE
  clear hE
  have hcl : s.size ≤ 9223372036854775807 := by unfold maxLen at hs; omega
  by_cases hl : (s.size : Int) ≤ 1048576
  case neg =>
    go_enter Tryd.func3, Tryd.ntmps3
    go_wp2_with fail
    go_ret
    exact ⟨rfl, (by repeat (first | exact Below.refl _ _ | refine Below.setCell ?_ (by first | (simp; done) | (simp; omega)) _ | refine Below.trans ?_ (Below.mono (by assumption) (by first | omega | (simp; done) | (simp; omega))) | refine Below.alloc ?_ (by first | omega | (simp; done) | (simp; omega)) _ | refine Below.alloc ?_ (Nat.le_refl _) _ | refine below_drewN ?_ _))⟩
  have hl' : s.size ≤ 1048576 := by omega
  obtain ⟨O, hO⟩ : ∃ O, O = rdText rdN 256 s.data.toList := ⟨_, rfl⟩
  have hn : (O.getD []).length ≤ 256 := by rw [hO]; exact rdText_len _ _ _
  have hz : ∀ z ∈ O.getD [], z < 4294967296 := by rw [hO]; exact rdText_lt s.data.toList
  have hsp := fun w => spec_ReadNumbers s w hl'
  have him := fun w (h : FnExactReadNumbers_Env w) => impl_ReadNumbers s w hl' h
  rw [← hO] at hsp him
  have hsp' := fun w => (hsp w).mono (R' := fun e w' => ∃ ao cp, e = .returned (.tuple #[.slice ao (O.getD []).length cp, .bool O.isSome]) ∧ ORow w' w.heap.size w'.heap.size ao (O.getD []).length cp (O.getD []) ∧ Below w.heap.size w w') fun e w' h => RdFloat32S_row h hz
  have him' := fun w h => (him w h).mono (R' := fun e w' => ∃ ao cp, e = .returned (.tuple #[.slice ao (O.getD []).length cp, .bool O.isSome]) ∧ ORow w' w.heap.size w'.heap.size ao (O.getD []).length cp (O.getD []) ∧ Below w.heap.size w w') fun e w' h => RdFloat32S_row h hz
  clear hsp him hO hz
  obtain ⟨n, hnn⟩ : ∃ n, n = (O.getD []).length := ⟨_, rfl⟩
  rw [← hnn] at hn
  simp only [← hnn] at hsp' him'
  generalize O.getD [] = zs at hsp' him'
  generalize O.isSome = ok at hsp' him'
  have HS := Lib.hid hsp'
  have HI := Lib.hid him'
  clear hsp' him' hnn
  go_enter Tryd.func3, Tryd.ntmps3
  go_wp2_with fail
  refine (HS.out _).mono ?_
  rintro e w1 ⟨a1, c1, rfl, r1, b1⟩
  have R1 := Lib.hid r1
  have B1 := Lib.hid b1
  have s1 := b1.size
  clear r1 b1
  go_wp2_with fail
  refine (HI.out _ (FnExactReadNumbers_Env.below HE.out B1.out)).mono ?_
  rintro e w2 ⟨a2, c2, rfl, r2, b2⟩
  have R2 := Lib.hid r2
  have s2 := b2.size
  have B2 : RowKit.Hid (Below w.heap.size w w2) := Lib.hid (B1.out.trans (b2.mono s1))
  replace R1 := Lib.hid (R1.out.below b2)
  clear r2 b2 B1
  go_wp2_with fail
  refine (eqF2 a2 a1 n c2 c1 zs zs _ R2.out.row R1.out.row (fun _ _ => rfl)).mono ?_
  rintro e w3 hq
  obtain ⟨rfl, b3⟩ := RetB_below hq
  clear hq
  have s3 := b3.size
  have B3 : RowKit.Hid (Below w.heap.size w w3) := Lib.hid (B2.out.trans (b3.mono (by omega)))
  replace R1 := Lib.hid (R1.out.below b3)
  replace R2 := Lib.hid (R2.out.below b3)
  clear b3 B2
  go_wp2_with fail
  refine (markFloat32S a2 n c2 _ _ zs 1 _ R2.out (by omega) (by omega) (by omega)).mono ?_
  rintro e w4 ⟨rfl, r4, o4⟩
  have s4 := o4.size
  have R4 := Lib.hid r4
  have B4 : RowKit.Hid (Below w.heap.size w w4) := Lib.hid (B3.out.trans (o4.below (by omega) (by omega)))
  replace R1 := Lib.hid (R1.out.only o4 (.inl (Nat.le_refl _)))
  clear r4 o4 B3 R2
  go_wp2_with fail
  refine (heldFloat32S a2 n c2 _ _ 1 _ R4.out (by omega) (by omega) (by omega)).mono ?_
  rintro e w5 ⟨rfl, q5, rfl⟩
  go_wp2_with fail
  refine (HI.out _ (FnExactReadNumbers_Env.below HE.out (below_drewN B4.out q5))).mono ?_
  rintro e w6 ⟨a6, c6, rfl, r6, b6⟩
  have b6' : Below w4.heap.size w4 w6 := (below_drewN (Below.refl _ _) q5).trans b6
  have R6 := Lib.hid r6
  have s6 := b6'.size
  have B6 : RowKit.Hid (Below w.heap.size w w6) := Lib.hid (B4.out.trans (b6'.mono (by omega)))
  replace R1 := Lib.hid (R1.out.below b6')
  replace R4 := Lib.hid (R4.out.below b6')
  clear r6 b6 b6' B4
  go_wp2_with fail
  refine (eqF2 a6 a1 n c6 c1 zs zs _ R6.out.row R1.out.row (fun _ _ => rfl)).mono ?_
  rintro e w7 hq
  obtain ⟨rfl, b7⟩ := RetB_below hq
  clear hq
  have B7 : RowKit.Hid (Below w.heap.size w w7) := Lib.hid (B6.out.trans (b7.mono (by omega)))
  replace R4 := Lib.hid (R4.out.below b7)
  clear b7 B6
  go_wp2_with fail
  refine (heldFloat32S a2 n c2 _ _ 1 _ R4.out (by omega) (by omega) (by omega)).mono ?_
  rintro e w8 ⟨rfl, q8, rfl⟩
  go_wp2_with fail
  go_ret
  exact ⟨rfl, below_drewN B7.out q8⟩
end Go.Proofs.YtopacaenlemfcaaDoor
