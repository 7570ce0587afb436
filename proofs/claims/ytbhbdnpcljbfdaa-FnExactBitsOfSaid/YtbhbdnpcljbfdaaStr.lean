/-
  The walks of the functions that go over a string byte by byte, and of single numbers with two results.
-/
import Derived.Test.YtbhbdnpcljbfdaaOne
import Derived.ProofKit
import Derived.Lib.Hide
namespace Go.Proofs.Ytbhbdnpcljbfdaa
open Go.RowKit Go.FL

theorem take_snoc (s : ByteArray) (k : Nat) (h : k < s.size) : s.data.toList.take (k + 1) = s.data.toList.take k ++ [s[k]] := by
  rw [List.take_succ_eq_append_getElem (by simpa using h)]; rfl

def chk (n : Int) (l : List UInt8) : Int := l.foldl (fun n c => (727 * n + (c.toNat : Int) + 59) % 65003) n
theorem chk_snoc (n : Int) (l : List UInt8) (c : UInt8) : chk n (l ++ [c]) = (727 * chk n l + (c.toNat : Int) + 59) % 65003 := by simp [chk]
theorem chk_bd (l : List UInt8) : ∀ (n : Int), 0 ≤ n → n ≤ 65002 → 0 ≤ chk n l ∧ chk n l ≤ 65002 := by
  induction l with
  | nil => intro n h0 h1; exact ⟨h0, h1⟩
  | cons c l ih => intro n h0 h1; exact ih ((727 * n + (c.toNat : Int) + 59) % 65003) (by omega) (by omega)

theorem impl_CheckOf (n : Int) (s : ByteArray) (w : World) (hs : s.size ≤ maxLen) (h0 : 0 ≤ n) (h1 : n ≤ 65002) :
    Calls Try.prog 29 #[.int .i64 n, .string s] w fun e w' => e = .returned (.tuple #[.int .i64 (chk n s.data.toList), .bool true]) ∧ w = w' := by
  unfold maxLen at hs
  go_enter Try.func29, Try.ntmps29
  go_wp2
  go_loop [0, 12] (fun v i => ∃ k : Nat, k ≤ s.size ∧ i = .int .i64 k ∧ v = .int .i64 (chk n (s.data.toList.take k))) (fun _ i => s.size - (intOf i).toNat)
  case atStart => exact ⟨0, Nat.zero_le _, rfl, rfl⟩
  case round =>
    obtain ⟨k, hk, rfl, rfl⟩ := hrel
    obtain ⟨b0, b1⟩ := chk_bd (s.data.toList.take k) n h0 h1
    by_cases hlt : k < s.size
    · have hsn := chk_snoc n (s.data.toList.take k) s[k]
      rw [← take_snoc s k hlt] at hsn
      have HS := Lib.hid hsn
      clear hsn
      have hb : (s[k].toNat : Int) < 256 := by have := s[k].toNat_lt; omega
      go_wp2
      go_round
      case rel => exact ⟨k + 1, by omega, by go_num, by rw [HS.out]⟩
      case measure => simp [intOf]; omega
    · go_wp2
      go_ret2
      exact ⟨by rw [List.take_of_length_le (by simp; omega)]; rfl, rfl⟩

theorem impl_CheckOf_no (n : Int) (s : ByteArray) (w : World) (h : n < 0 ∨ 65002 < n) :
    Calls Try.prog 29 #[.int .i64 n, .string s] w fun e w' => e = .returned (.tuple #[.int .i64 0, .bool false]) ∧ w = w' := by
  rcases h with h | h
  · go_enter Try.func29, Try.ntmps29
    go_wp2
    go_ret2
    exact ⟨rfl, rfl⟩
  · have h0 : 0 ≤ n := by omega
    have h2 : decide (n ≤ 65002) = false := by simp; omega
    go_enter Try.func29, Try.ntmps29
    go_wp2
    go_ret2
    exact ⟨rfl, rfl⟩

theorem spec_l01Check (n : Int) (s : ByteArray) (w : World) (hs : s.size ≤ maxLen) (h0 : 0 ≤ n) (h1 : n ≤ 65002) :
    Calls Try.prog 48 #[.int .i64 n, .string s] w fun e w' => e = .returned (.int .i64 (chk n s.data.toList)) ∧ w = w' := by
  unfold maxLen at hs
  go_enter Try.func48, Try.ntmps48
  go_wp2
  go_loop [0, 5] (fun v i => ∃ k : Nat, k ≤ s.size ∧ i = .int .i64 k ∧ v = .int .i64 (chk n (s.data.toList.take k))) (fun _ i => s.size - (intOf i).toNat)
  case atStart => exact ⟨0, Nat.zero_le _, rfl, rfl⟩
  case round =>
    obtain ⟨k, hk, rfl, rfl⟩ := hrel
    obtain ⟨b0, b1⟩ := chk_bd (s.data.toList.take k) n h0 h1
    by_cases hlt : k < s.size
    · have hsn := chk_snoc n (s.data.toList.take k) s[k]
      rw [← take_snoc s k hlt] at hsn
      have HS := Lib.hid hsn
      clear hsn
      have hb : (s[k].toNat : Int) < 256 := by have := s[k].toNat_lt; omega
      go_wp2
      go_round
      case rel => exact ⟨k + 1, by omega, by go_num, by rw [HS.out]⟩
      case measure => simp [intOf]; omega
    · go_wp2
      go_ret
      exact ⟨by rw [List.take_of_length_le (by simp; omega)]; rfl, rfl⟩

theorem spec_CheckOf (n : Int) (s : ByteArray) (w : World) (hs : s.size ≤ maxLen) (h0 : 0 ≤ n) (h1 : n ≤ 65002) :
    Calls Try.prog 28 #[.int .i64 n, .string s] w fun e w' => e = .returned (.tuple #[.int .i64 (chk n s.data.toList), .bool true]) ∧ w = w' := by
  go_enter Try.func28, Try.ntmps28
  go_wp2_with (first | (go_at_call 48; refine (spec_l01Check n s _ hs h0 h1).mono ?_; rintro e w' ⟨rfl, rfl⟩) | go_in)
  go_ret2
  exact ⟨rfl, rfl⟩

theorem spec_CheckOf_no (n : Int) (s : ByteArray) (w : World) (h : n < 0 ∨ 65002 < n) :
    Calls Try.prog 28 #[.int .i64 n, .string s] w fun e w' => e = .returned (.tuple #[.int .i64 0, .bool false]) ∧ w = w' := by
  rcases h with h | h
  · go_enter Try.func28, Try.ntmps28
    go_wp2
    go_ret2
    exact ⟨rfl, rfl⟩
  · have h0 : 0 ≤ n := by omega
    have h2 : decide (n ≤ 65002) = false := by simp; omega
    go_enter Try.func28, Try.ntmps28
    go_wp2
    go_ret2
    exact ⟨rfl, rfl⟩

theorem FnExactCheckOf_walk (n : Int) (s : ByteArray) (w : World) (_ : (Lit.int .i64 n).wf = true) (hs : s.size ≤ maxLen) : Calls Try.prog 10 #[.int .i64 n, .string s] w fun e w' => e = .returned (.bool true) ∧ Below w.heap.size w w' := by
  by_cases hn : 0 ≤ n ∧ n ≤ 65002
  · go_enter Try.func10, Try.ntmps10
    go_wp2_with (first | (go_at_call 28; refine (spec_CheckOf n s _ hs hn.1 hn.2).mono ?_; rintro e w' ⟨rfl, rfl⟩) | (go_at_call 29; refine (impl_CheckOf n s _ hs hn.1 hn.2).mono ?_; rintro e w' ⟨rfl, rfl⟩))
    all_goals (go_ret; exact ⟨rfl, Below.refl _ _⟩)
  · have hn' : n < 0 ∨ 65002 < n := by omega
    go_enter Try.func10, Try.ntmps10
    go_wp2_with (first | (go_at_call 28; refine (spec_CheckOf_no n s _ hn').mono ?_; rintro e w' ⟨rfl, rfl⟩) | (go_at_call 29; refine (impl_CheckOf_no n s _ hn').mono ?_; rintro e w' ⟨rfl, rfl⟩))
    all_goals (go_ret; exact ⟨rfl, Below.refl _ _⟩)

def nameB (l : List UInt8) : Bool := l.all fun c => decide (97 ≤ (c.toNat : Int)) && decide ((c.toNat : Int) ≤ 122)
def isName (l : List UInt8) : Bool := nameB l && decide (1 ≤ (l.length : Int)) && decide ((l.length : Int) ≤ 8)
theorem nameB_at {s : ByteArray} {k : Nat} (h : k < s.size) (hc : ¬ (97 ≤ (s[k].toNat : Int) ∧ (s[k].toNat : Int) ≤ 122)) : nameB s.data.toList = false := by
  rw [nameB, List.all_eq_false]
  exact ⟨s[k], Array.mem_toList_iff.2 (Array.getElem_mem (xs := s.data) h), by simpa using hc⟩

theorem impl_IsName (s : ByteArray) (w : World) (hs : s.size ≤ maxLen) : Calls Try.prog 25 #[.string s] w fun e w' => e = .returned (.bool (isName s.data.toList)) ∧ w = w' := by
  unfold maxLen at hs
  go_enter Try.func25, Try.ntmps25
  go_wp2
  go_loop [6] (fun i => ∃ k : Nat, k ≤ s.size ∧ i = .int .i64 k ∧ nameB (s.data.toList.take k) = true) (fun i => s.size - (intOf i).toNat)
  case atStart => exact ⟨0, Nat.zero_le _, rfl, rfl⟩
  case round =>
    obtain ⟨k, hk, rfl, hn⟩ := hrel
    have HN := Lib.hid hn
    clear hn
    by_cases hlt : k < s.size
    · by_cases c1 : 97 ≤ (s[k].toNat : Int)
      · by_cases c2 : (s[k].toNat : Int) ≤ 122
        · go_wp2
          go_round
          case rel => exact ⟨k + 1, by omega, by go_num, by rw [take_snoc s k hlt]; simp only [nameB, List.all_append, Bool.and_eq_true]; exact ⟨HN.out, by simp [c1, c2]⟩⟩
          case measure => simp [intOf]; omega
        · go_wp2
          go_ret
          refine ⟨ret_bool ?_, rfl⟩
          have := nameB_at (s := s) (k := k) hlt (fun h => by omega)
          simp [isName, this]
      · go_wp2
        go_ret
        refine ⟨ret_bool ?_, rfl⟩
        have := nameB_at (s := s) (k := k) hlt (fun h => by omega)
        simp [isName, this]
    · have hfull : nameB s.data.toList = true := by
        have := HN.out
        rwa [List.take_of_length_le (by simp; omega)] at this
      have hL : s.data.toList.length = s.size := by simp
      have HF := Lib.hid hfull
      clear hfull HN
      by_cases l1 : 1 ≤ (s.size : Int)
      · go_wp2
        go_ret
        exact ⟨ret_bool (by simp only [isName, HF.out, hL]; simp [l1]), rfl⟩
      · go_wp2
        go_ret
        exact ⟨ret_bool (by simp only [isName, HF.out, hL]; simp; omega), rfl⟩

theorem spec_IsName (s : ByteArray) (w : World) (hs : s.size ≤ maxLen) : Calls Try.prog 24 #[.string s] w fun e w' => e = .returned (.bool (isName s.data.toList)) ∧ w = w' := by
  unfold maxLen at hs
  go_enter Try.func24, Try.ntmps24
  go_wp2
  go_loop [3] (fun i => ∃ k : Nat, k ≤ s.size ∧ i = .int .i64 k ∧ nameB (s.data.toList.take k) = true) (fun i => s.size - (intOf i).toNat)
  case atStart => exact ⟨0, Nat.zero_le _, rfl, rfl⟩
  case round =>
    obtain ⟨k, hk, rfl, hn⟩ := hrel
    have HN := Lib.hid hn
    clear hn
    by_cases hlt : k < s.size
    · by_cases c1 : 97 ≤ (s[k].toNat : Int)
      · by_cases c2 : (s[k].toNat : Int) ≤ 122
        · go_wp2
          go_round
          case rel => exact ⟨k + 1, by omega, by go_num, by rw [take_snoc s k hlt]; simp only [nameB, List.all_append, Bool.and_eq_true]; exact ⟨HN.out, by simp [c1, c2]⟩⟩
          case measure => simp [intOf]; omega
        · go_wp2
          go_ret
          refine ⟨ret_bool ?_, rfl⟩
          have := nameB_at (s := s) (k := k) hlt (fun h => by omega)
          simp [isName, this]
      · go_wp2
        go_ret
        refine ⟨ret_bool ?_, rfl⟩
        have := nameB_at (s := s) (k := k) hlt (fun h => by omega)
        simp [isName, this]
    · have hfull : nameB s.data.toList = true := by
        have := HN.out
        rwa [List.take_of_length_le (by simp; omega)] at this
      have hL : s.data.toList.length = s.size := by simp
      have HF := Lib.hid hfull
      clear hfull HN
      by_cases l1 : 1 ≤ (s.size : Int)
      · go_wp2
        go_ret
        exact ⟨ret_bool (by simp only [isName, HF.out, hL]; simp [l1]), rfl⟩
      · go_wp2
        go_ret
        exact ⟨ret_bool (by simp only [isName, HF.out, hL]; simp; omega), rfl⟩

theorem FnExactIsName_walk (s : ByteArray) (w : World) (hs : s.size ≤ maxLen) : Calls Try.prog 8 #[.string s] w fun e w' => e = .returned (.bool true) ∧ Below w.heap.size w w' := by
  go_enter Try.func8, Try.ntmps8
  go_wp2_with (first | (go_at_call 24; refine (spec_IsName s _ hs).mono ?_; rintro e w' ⟨rfl, rfl⟩) | (go_at_call 25; refine (impl_IsName s _ hs).mono ?_; rintro e w' ⟨rfl, rfl⟩))
  all_goals (go_ret; exact ⟨rfl, Below.refl _ _⟩)
end Go.Proofs.Ytbhbdnpcljbfdaa
