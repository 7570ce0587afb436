/-
  The walks of the laws Decimal and ReadDecimal.
-/
import Derived.Test.YtopacaenlemfcaaDoorTEnv
import Derived.Test.YtopacaenlemfcaaDoorFloat
namespace Go.Proofs.YtopacaenlemfcaaDoor
open Go.RowKit Go.TX

def FnExactDecimal_Env (w : World) : Prop := TabOk w
theorem FnExactDecimal_env (w : World) (h : laidMet Tryd.prog Rows.fnExactDecimalRow.laid w) (_ : w.ShapedOpen Tryd.prog) : FnExactDecimal_Env w := tab_of h (by simp [Rows.fnExactDecimalRow])
theorem FnExactDecimal_walk (n : Int) (w : World) (hn : (Lit.int .i64 n).wf = true) (ht : FnExactDecimal_Env w) : Calls Tryd.prog 6 #[.int .i64 n] w fun e w' => e = .returned (.bool true) ∧ Below w.heap.size w w' := by
  obtain ⟨h0, h1⟩ := FL.i64_bounds hn
  have HT := Lib.hid (show TabOk w from ht)
  clear hn ht
  have hs := fun w => spec_Decimal n w h0 h1
  have hi := fun w ht => impl_Decimal n w h0 h1 ht
  generalize (⟨(Lib.itoa n).toArray⟩ : ByteArray) = T at hs hi
  have HS := Lib.hid hs
  have HI := Lib.hid hi
  clear hs hi h0 h1
  go_enter Tryd.func6, Tryd.ntmps6
  go_wp2_with fail
  refine (HS.out _).mono ?_
  rintro e w1 ⟨rfl, b1⟩
  go_wp2_with fail
  refine (HI.out _ (HT.out.below b1)).mono ?_
  rintro e w2 ⟨rfl, b2⟩
  go_wp2_with fail
  go_ret
  exact ⟨rfl, b1.trans (b2.mono b1.size)⟩

def FnExactReadDecimal_Env (w : World) : Prop := TabOk w ∧ ErrsOk w
theorem FnExactReadDecimal_env (w : World) (h : laidMet Tryd.prog Rows.fnExactReadDecimalRow.laid w) (_ : w.ShapedOpen Tryd.prog) : FnExactReadDecimal_Env w := ⟨tab_of h (by simp [Rows.fnExactReadDecimalRow]), errs_of h (by simp [Rows.fnExactReadDecimalRow]) (by simp [Rows.fnExactReadDecimalRow])⟩
theorem spec_ReadDecimal (s : ByteArray) (w : World) (hs : s.size ≤ maxLen) : Calls Tryd.prog 14 #[.string s] w (ValIs s.data.toList w) := by
  have HV := Lib.hid (spec_l01Value s w hs)
  clear hs
  unfold ValIs at HV ⊢
  generalize (if decB s.data.toList = true then valN s.data.toList else 0) = v at HV ⊢
  generalize decB s.data.toList = ok at HV ⊢
  go_enter Tryd.func14, Tryd.ntmps14
  go_wp2_with fail
  refine HV.out.mono ?_
  rintro e w1 ⟨rfl, b1⟩
  go_wp2_with fail
  go_ret2
  exact ⟨rfl, b1⟩
theorem FnExactReadDecimal_walk (s : ByteArray) (w : World) (hs : s.size ≤ maxLen) (hE : FnExactReadDecimal_Env w) : Calls Tryd.prog 4 #[.string s] w fun e w' => e = .returned (.bool true) ∧ Below w.heap.size w w' := by
  have HE := Lib.hid hE
  clear hE
  have hcl : s.size ≤ 9223372036854775807 := by unfold maxLen at hs; omega
  by_cases hl : (s.size : Int) ≤ 1048576
  case neg =>
    go_enter Tryd.func4, Tryd.ntmps4
    go_wp2_with fail
    go_ret
    exact ⟨rfl, (by repeat (first | exact Below.refl _ _ | refine Below.setCell ?_ (by first | (simp; done) | (simp; omega)) _ | refine Below.trans ?_ (Below.mono (by assumption) (by first | omega | (simp; done) | (simp; omega))) | refine Below.alloc ?_ (by first | omega | (simp; done) | (simp; omega)) _ | refine Below.alloc ?_ (Nat.le_refl _) _ | refine below_drewN ?_ _))⟩
  have hm : s.size ≤ 281474976710656 := by omega
  have hsp := fun w => spec_ReadDecimal s w hs
  have him := fun w ht he => impl_ReadDecimal s w hm ht he
  unfold ValIs at hsp him
  generalize (if decB s.data.toList = true then valN s.data.toList else 0) = v at hsp him
  generalize decB s.data.toList = ok at hsp him
  have HS := Lib.hid hsp
  have HI := Lib.hid him
  clear hsp him
  go_enter Tryd.func4, Tryd.ntmps4
  go_wp2_with fail
  refine (HS.out _).mono ?_
  rintro e w1 ⟨rfl, b1⟩
  go_wp2_with fail
  refine (HI.out _ (HE.out.1.below b1) (HE.out.2.below b1)).mono ?_
  rintro e w2 ⟨rfl, b2⟩
  go_wp2_with fail
  go_ret
  exact ⟨rfl, b1.trans (b2.mono b1.size)⟩
end Go.Proofs.YtopacaenlemfcaaDoor
