/-
  A list of texts joined by commas.
-/
import Derived.Test.YtopacaenlemfcaaDoorText
import Derived.Test.YtopacaenlemfcaaDoorShelf
import Derived.Test.YtopacaenlemfcaaDoorRows
import Derived.WalkKit
import Derived.WalkSpells
import Derived.WalkLawsBesides
import Derived.Lib.Hide
namespace Go.Proofs.YtopacaenlemfcaaDoor
open Go.RowKit Go.TX
theorem join_step (xs : List (List UInt8)) (i : Nat) (y : List UInt8) (h1 : 1 ≤ i) (h : xs[i]? = some y) : Lib.join (xs.take (i + 1)) [44] = Lib.join (xs.take i) [44] ++ (44 :: y) := by
  cases xs with
  | nil => simp at h
  | cons x r =>
    obtain ⟨j, rfl⟩ : ∃ j, i = j + 1 := ⟨i - 1, by omega⟩
    rw [List.take_succ_cons, List.take_succ_cons, Lib.join_cons, Lib.join_cons, Lib.joinTail_take_succ [44] r j y (by simpa using h)]
    simp
theorem join_le (L : Nat) (xs : List (List UInt8)) (h : ∀ x ∈ xs, x.length ≤ L) : (Lib.join xs [44]).length ≤ (L + 1) * xs.length := by
  cases xs with
  | nil => simp [Lib.join_nil]
  | cons x r =>
    have hl : ∀ (l : List (List UInt8)), (∀ x ∈ l, x.length ≤ L) → (Lib.joinTail [44] l).length ≤ (L + 1) * l.length := by
      intro l
      induction l with
      | nil => intro _; simp [Lib.joinTail]
      | cons y t ih =>
        intro hh
        have h1 := ih fun z hz => hh z (List.mem_cons_of_mem _ hz)
        have h2 := hh y (List.mem_cons_self ..)
        have e : (Lib.joinTail [44] (y :: t)).length = 1 + y.length + (Lib.joinTail [44] t).length := by simp [Lib.joinTail]; omega
        rw [e, List.length_cons, Nat.mul_succ]; omega
    have h1 := hl r fun z hz => h z (List.mem_cons_of_mem _ hz)
    have h2 := h x (List.mem_cons_self ..)
    rw [Lib.join_cons, List.length_append, List.length_cons, Nat.mul_succ]; omega
theorem str_app (a b : List UInt8) (c : UInt8) : (⟨a.toArray⟩ : ByteArray) ++ ((⟨#[c]⟩ : ByteArray) ++ (⟨b.toArray⟩ : ByteArray)) = ⟨(a ++ c :: b).toArray⟩ := by
  apply ByteArray.ext
  simp

def strV (l : List UInt8) : Value := .string ⟨l.toArray⟩
theorem impl_joined (base : Nat) (a : Option Addr) (n cap : Nat) (xs : List (List UInt8)) (w : World) (h : OwnL w base 9 (.slice a n cap) (xs.map strV)) (L : Nat) (hx : ∀ x ∈ xs, x.length ≤ L) (hL : (L + 1) * xs.length ≤ 1000000) (hn : xs.length ≤ 1000) :
    Calls Tryd.prog 41 #[.slice a n cap] w fun e w' => e = .returned (.string ⟨(listText xs).toArray⟩) ∧ Below w.heap.size w w' := by
  have hjl := join_le L xs hx
  cases xs with
  | nil =>
    obtain ⟨ao, cp, e⟩ := h.shape
    simp only [List.map_nil, List.length_nil, Value.slice.injEq] at e
    obtain ⟨rfl, rfl, rfl⟩ := e
    clear h
    go_enter Tryd.func41, Tryd.ntmps41
    go_wp2_with fail
    go_ret
    exact ⟨rfl, Below.refl _ _⟩
  | cons x r =>
    cases a with
    | none =>
      rcases h.2 with ⟨_, h0⟩ | ⟨g, cap', cur, e, _⟩
      · simp at h0
      · simp at e
    | some ad =>
      obtain ⟨hl, ha, h1, h2, h3, h4⟩ := h.cell
      rw [ha]
      have hlt : listText (x :: r) = Lib.join (x :: r) [44] := by rw [listText, if_neg (by simp)]
      have e0 : (((x :: r).map fun l => (⟨l.toArray⟩ : ByteArray)).map (·.data.toList)) = x :: r := by
        rw [List.map_map]
        conv => rhs; rw [← List.map_id (x :: r)]
        exact List.map_congr_left fun y _ => by simp
      have hc := Tryd.strings_Join ad.block 0 cap ((x :: r).map fun l => (⟨l.toArray⟩ : ByteArray)) ⟨#[44]⟩ w (fun j y hy => by
          rw [Nat.zero_add]
          refine h4 j (.string y) ?_
          simp only [List.getElem?_map, Option.map_eq_some_iff] at hy ⊢
          obtain ⟨u, h5, rfl⟩ := hy
          exact ⟨u, h5, rfl⟩) h2 (by simp at hn ⊢; omega) (by simpa using h3) (by rw [e0]; exact Nat.le_trans hjl (Nat.le_trans hL (by omega)))
      rw [e0, show (⟨#[44]⟩ : ByteArray).data.toList = [44] from rfl, ← hlt] at hc
      rw [show ((x :: r).map fun l => (⟨l.toArray⟩ : ByteArray)).length = n from by rw [hl]; simp] at hc
      have hne : ((n : Int) == 0) = false := by rw [hl]; simp; omega
      generalize listText (x :: r) = T at hc ⊢
      clear hlt e0 hl h h4 hjl hL hn hx h3 ha
      go_enter Tryd.func41, Tryd.ntmps41
      go_wp2_with (first | (go_at_call 54; refine hc.mono ?_; rintro e w' ⟨rfl, hb⟩))
      go_ret
      exact ⟨rfl, hb⟩
end Go.Proofs.YtopacaenlemfcaaDoor
