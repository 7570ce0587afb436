/-
  The walks of the functions that write and read one number in decimal.
-/
import Derived.Test.YtopacaenlemfcaaDoorText
import Derived.Test.YtopacaenlemfcaaDoorShelf
import Derived.Test.YtopacaenlemfcaaDoorRows
import Derived.WalkKit
import Derived.WalkSpells
import Derived.WalkLawsBesides
import Derived.Lib.Hide
import Derived.ProofKit
namespace Go.Proofs.YtopacaenlemfcaaDoor
open Go.RowKit Go.TX
def byteV (b : UInt8) : Value := .int .u8 (b.toNat : Int)
theorem elemByte : ElemOk Tryd.prog 5 68 (.int .u8 0) 1 := ⟨Tryd.underlying68, by kernel_rfl, rfl⟩
theorem elemString : ElemOk Tryd.prog 9 47 (.string ByteArray.empty) 16 := ⟨Tryd.underlying47, by kernel_rfl, rfl⟩

/-- a text out of the call's own row of bytes -/
theorem run_textBack {w : World} {base : Nat} {ao : Option Addr} {n cap : Nat} {l : List UInt8} (h : OwnL w base 5 (.slice ao n cap) (l.map byteV)) :
    (convert 68 9 (.slice ao n cap)).run Tryd.prog w = .ok (.string ⟨l.toArray⟩) w := by
  cases ao with
  | none =>
    rcases h.2 with ⟨e, h0⟩ | ⟨g, cap', cur, e, _⟩
    · simp only [Value.slice.injEq] at e
      obtain ⟨_, rfl, rfl⟩ := e
      obtain rfl : l = [] := by simpa using h0
      rw [run_convert_bytes_string w _ _ _ _ _ _ Tryd.underlying68 Tryd.underlying5 Tryd.underlying9]
      rfl
    · simp at e
  | some a =>
    obtain ⟨hn, ha, _, _, _, hc⟩ := h.cell
    obtain rfl : n = l.length := by simpa using hn
    refine run_convert_bytes_back w _ _ _ a cap l Tryd.underlying68 Tryd.underlying5 Tryd.underlying9 fun j hj => ?_
    have := hc j (byteV l[j]) (by simp [hj])
    rw [ha]
    by_cases hj0 : j = 0
    · subst hj0; simpa [Addr.add, byteV] using this
    · simpa [Addr.add, hj0, byteV] using this

theorem OwnL.isSome {w : World} {base : Nat} {e : TypeId} {v : Value} {xs : List Value} (h : OwnL w base e v xs) (hx : xs ≠ []) : ∃ g cap, v = .slice (some ⟨g, 0, none⟩) xs.length cap := by
  rcases h.2 with ⟨_, h0⟩ | ⟨g, cap, cur, rfl, -⟩
  · exact absurd (List.length_eq_zero_iff.1 h0) hx
  · exact ⟨_, _, rfl⟩
theorem OwnL.cellAdd {w : World} {base : Nat} {e : TypeId} {g n cap : Nat} {xs : List Value} (h : OwnL w base e (.slice (some ⟨g, 0, none⟩) n cap) xs) : ∀ j u, xs[j]? = some u → w.cell? ((⟨g, 0, none⟩ : Addr).add j) = some u := by
  intro j u hj
  have := h.cell.2.2.2.2.2 j u hj
  by_cases hj0 : j = 0
  · subst hj0; simpa [Addr.add] using this
  · simpa [Addr.add, hj0] using this
/-- a new row of one value, with the call's own row behind it -/
theorem wpList_before {ops : Array Oper} {rest : List Oper} {o : Oper} {a : Act} {w wr : World} {Q : Exit → Act → World → Prop} {base : Nat} {u : Value} {xs : List Value} {g n cap nb : Nat} (hgd : o.guard = none) (s x : Operand)
    (ho : o.op = .call { callee := .builtin .append, args := #[s, x], argTypes := #[68, 68] })
    (hs : a.eval s = .slice (some ⟨nb, 0, none⟩) 1 1) (hx : a.eval x = .slice (some ⟨g, 0, none⟩) n cap) (h : OwnL wr base 5 (.slice (some ⟨g, 0, none⟩) n cap) xs) (hw : w = wr.alloc (.cells #[u] 5)) (hnb : nb = wr.heap.size)
    (hn : xs.length ≤ 1000) (h1 : ∀ u ∈ xs, u.oneCell' = true) (hbase : base ≤ wr.heap.size)
    (hK : ∀ v' w', OwnL w' base 5 v' (u :: xs) → Below wr.heap.size wr w' → wpList Tryd.prog ops Q rest (a.put o.dst v') w') : wpList Tryd.prog ops Q (o :: rest) a w := by
  subst hw
  subst hnb
  have hm := OwnL.made wr 5 [u] (by simp [maxLen])
  have hl : xs.length = n := h.cell.1.symm
  refine wpList_appendL elemByte (by omega) hgd s x ho hs hx hm (by simp) (by simp; omega) hl (fun j y hj => ?_) h1 ?_
  · exact OwnL.cellAdd (OwnL.below h (Below.alloc (Below.refl _ _) (Nat.le_refl _) _)) j y hj
  · intro v' w' h7 hgr
    refine hK v' w' (h7.mono hbase) ?_
    exact (Below.alloc (Below.refl _ _) (Nat.le_refl _) _).trans (OwnL.grown hm (by simp) hgr)

def slLen : Value → Nat
  | .slice _ n _ => n
  | _ => 0

set_option maxRecDepth 20000 in
theorem spec_l01Dec_pos (n : Int) (w : World) (h0 : 0 ≤ n) (h1 : n ≤ 9223372036854775807) : Calls Tryd.prog 37 #[.int .i64 n] w fun e w' => e = .returned (.string ⟨(Lib.itoa n).toArray⟩) ∧ Below w.heap.size w w' := by
  have hit : Lib.itoa n = Lib.decDigits n.natAbs := by unfold Lib.itoa; rw [if_neg (by omega)]; congr 1; omega
  have hlen : (Lib.decDigits n.natAbs).length ≤ 21 := by
    have := Lib.itoa_length_le n (by omega) (by omega)
    rw [hit] at this
    first | omega | (simp only [List.length_cons] at this; omega)
  have HI := Lib.hid hit
  have HN := Lib.hid h1
  have HL := Lib.hid hlen
  clear hlen hit h1
  go_enter Tryd.func37, Tryd.ntmps37
  go_wp2_with fail
  go_loopw [3, 4] (fun out k wr => ∃ l m g cap, ∃ a : Int, RowKit.Hid (a.natAbs = m ∧ 0 ≤ a ∧ a ≤ 9223372036854775807) ∧ k = .int .i64 a ∧ DecI n.natAbs m l ∧ out = .slice (some ⟨g, 0, none⟩) l.length cap ∧ OwnL wr w.heap.size 5 (.slice (some ⟨g, 0, none⟩) l.length cap) (l.map byteV) ∧ Below w.heap.size w wr) (fun out k _ => (intOf k).natAbs + (1 - slLen out))
  case atStart => exact ⟨[], _, _, _, n, Lib.hid ⟨rfl, by have := HN.out; omega⟩, rfl, DecI.start _, rfl, OwnL.new w _, Below.alloc (Below.refl _ _) (Nat.le_refl _) _⟩
  case round =>
    obtain ⟨l, m, g, cap, a, ha, rfl, hd, rfl, ho, hb⟩ := hrel
    have hl21 : l.length ≤ 21 := Nat.le_trans hd.len HL.out
    obtain ⟨ham, ha1, ha2⟩ := ha.out
    have HD := Lib.hid hd
    have HO := Lib.hid ho
    have HB := Lib.hid hb
    clear hd ho hb
    by_cases hc : l = [] ∨ m ≠ 0
    · have HS := Lib.hid (HD.out.step hc)
      obtain ⟨d, hd⟩ : ∃ d : Int, ((m % 10 : Nat) : Int) = d := ⟨_, rfl⟩
      obtain ⟨q, hq⟩ : ∃ q, q = m / 10 := ⟨_, rfl⟩
      obtain ⟨b, hbq⟩ : ∃ b : Int, b = (q : Int) := ⟨_, rfl⟩
      have hb1 : 0 ≤ b := by omega
      have hb2 : b ≤ 9223372036854775807 := by omega
      have HBQ : RowKit.Hid (b.natAbs = q ∧ 0 ≤ b ∧ b ≤ 9223372036854775807) := Lib.hid ⟨by omega, by omega, by omega⟩
      have HME : RowKit.Hid (b.natAbs + (1 - (l.length + 1)) < a.natAbs + (1 - l.length)) := Lib.hid (by rcases hc with h | h
                                                                                                         · subst h; simp; omega
                                                                                                         · omega)
      rw [← hq] at HS
      have hr : a % 10 = d := by omega
      have hqq : a / 10 = b := by omega
      have HQQ := Lib.hid hqq
      have hd1 : 0 ≤ d := by omega
      have hd2 : d < 10 := by omega
      have HBV : RowKit.Hid (byteV (UInt8.ofNat (48 + m % 10)) = .int .u8 (48 + d)) := Lib.hid (by unfold byteV; rw [ofDigit_toNat _ (by omega), ← hd]; push_cast; rfl)
      have hd0 := hd
      clear hd hd0 hbq hq
      by_cases hl0 : l.length = 0
      · have hb0 : ((l.length : Int) == 0) = true := by simp [hl0]
        clear hc
        have HL0 := Lib.hid hl0
        clear hl0 ham
        go_wp2_with (at_builtin; refine wpList_before rfl (.tmp 24) (.tmp 25) rfl rfl rfl HO.out rfl rfl (by simp; omega) (by intro u hu; simp only [List.mem_map] at hu; obtain ⟨b, _, rfl⟩ := hu; rfl) HB.out.size ?_; intro v' w' h7 hb7)
        obtain ⟨g', cap', rfl⟩ := OwnL.isSome h7 (by simp)
        simp only [List.length_cons, List.length_map] at h7
        go_roundw
        case rel => exact ⟨_ :: l, q, g', cap', b, HBQ.out, by first | rfl | rw [HQQ.out], HS.out, by simp, by rw [List.map_cons, HBV.out]; exact h7, HB.out.trans (hb7.mono HB.out.size)⟩
        case measure =>
          have h1 := HME.out
          simp only [intOf, slLen, List.length_cons]
          omega
      · have hb0 : ((l.length : Int) == 0) = false := by simp; intro e; exact hl0 (by rw [e]; rfl)
        have hm0 : m ≠ 0 := hc.resolve_left (fun e => hl0 (by rw [e]; rfl))
        have ha0 : (a == 0) = false := by simp; omega
        have ha1 : (a != 0) = true := by simp; omega
        clear hc hl0 hm0 ham
        go_wp2_with (at_builtin; refine wpList_before rfl (.tmp 24) (.tmp 25) rfl rfl rfl HO.out rfl rfl (by simp; omega) (by intro u hu; simp only [List.mem_map] at hu; obtain ⟨b, _, rfl⟩ := hu; rfl) HB.out.size ?_; intro v' w' h7 hb7)
        obtain ⟨g', cap', rfl⟩ := OwnL.isSome h7 (by simp)
        simp only [List.length_cons, List.length_map] at h7
        go_roundw
        case rel => exact ⟨_ :: l, q, g', cap', b, HBQ.out, by first | rfl | rw [HQQ.out], HS.out, by simp, by rw [List.map_cons, HBV.out]; exact h7, HB.out.trans (hb7.mono HB.out.size)⟩
        case measure =>
          have h1 := HME.out
          simp only [intOf, slLen, List.length_cons]
          omega
    · have hm0 : m = 0 := by
        by_cases h : m = 0
        · exact h
        · exact absurd (.inr h) hc
      obtain rfl : a = 0 := by omega
      have hb0 : ((l.length : Int) == 0) = false := by simp; intro e; exact hc (.inl e)
      have HDD := Lib.hid (HD.out.done hc)
      clear hc hm0 HD HN HL ham ha ha1 ha2
      have hconv := run_textBack HO.out
      clear HO
      go_wp2_with fail
      go_ret
      exact ⟨by rw [HI.out, ← HDD.out]; rfl, HB.out⟩

set_option maxRecDepth 20000 in
theorem spec_l01Dec_neg (n : Int) (w : World) (h0 : n < 0) (h1 : -9223372036854775808 ≤ n) : Calls Tryd.prog 37 #[.int .i64 n] w fun e w' => e = .returned (.string ⟨(Lib.itoa n).toArray⟩) ∧ Below w.heap.size w w' := by
  have hit : Lib.itoa n = 45 :: Lib.decDigits n.natAbs := by unfold Lib.itoa; rw [if_pos h0]
  have hlen : (Lib.decDigits n.natAbs).length ≤ 21 := by
    have := Lib.itoa_length_le n (by omega) (by omega)
    rw [hit] at this
    first | omega | (simp only [List.length_cons] at this; omega)
  have HI := Lib.hid hit
  have HN := Lib.hid h1
  have HL := Lib.hid hlen
  clear hlen hit h1
  go_enter Tryd.func37, Tryd.ntmps37
  go_wp2_with fail
  go_loopw [3, 4] (fun out k wr => ∃ l m g cap, ∃ a : Int, RowKit.Hid (a.natAbs = m ∧ a ≤ 0 ∧ -9223372036854775808 ≤ a) ∧ k = .int .i64 a ∧ DecI n.natAbs m l ∧ out = .slice (some ⟨g, 0, none⟩) l.length cap ∧ OwnL wr w.heap.size 5 (.slice (some ⟨g, 0, none⟩) l.length cap) (l.map byteV) ∧ Below w.heap.size w wr) (fun out k _ => (intOf k).natAbs + (1 - slLen out))
  case atStart => exact ⟨[], _, _, _, n, Lib.hid ⟨rfl, by have := HN.out; omega⟩, rfl, DecI.start _, rfl, OwnL.new w _, Below.alloc (Below.refl _ _) (Nat.le_refl _) _⟩
  case round =>
    obtain ⟨l, m, g, cap, a, ha, rfl, hd, rfl, ho, hb⟩ := hrel
    have hl21 : l.length ≤ 21 := Nat.le_trans hd.len HL.out
    obtain ⟨ham, ha1, ha2⟩ := ha.out
    have HD := Lib.hid hd
    have HO := Lib.hid ho
    have HB := Lib.hid hb
    clear hd ho hb
    by_cases hc : l = [] ∨ m ≠ 0
    · have HS := Lib.hid (HD.out.step hc)
      obtain ⟨d, hd⟩ : ∃ d : Int, ((m % 10 : Nat) : Int) = d := ⟨_, rfl⟩
      obtain ⟨q, hq⟩ : ∃ q, q = m / 10 := ⟨_, rfl⟩
      obtain ⟨b, hbq⟩ : ∃ b : Int, b = -(q : Int) := ⟨_, rfl⟩
      have hb1 : b ≤ 0 := by omega
      have hb2 : -9223372036854775808 ≤ b := by omega
      have HBQ : RowKit.Hid (b.natAbs = q ∧ b ≤ 0 ∧ -9223372036854775808 ≤ b) := Lib.hid ⟨by omega, by omega, by omega⟩
      have HME : RowKit.Hid (b.natAbs + (1 - (l.length + 1)) < a.natAbs + (1 - l.length)) := Lib.hid (by rcases hc with h | h
                                                                                                         · subst h; simp; omega
                                                                                                         · omega)
      rw [← hq] at HS
      have hqq : a.tdiv 10 = b := by rw [show a = -(m : Int) by omega, Int.neg_tdiv, Int.tdiv_eq_ediv_of_nonneg (by omega)]; omega
      have HQQ := Lib.hid hqq
      by_cases hd0 : d = 0
      · have hr : a.tmod 10 = 0 := by rw [show a = -(m : Int) by omega, Int.neg_tmod, Int.tmod_eq_emod_of_nonneg (by omega)]; omega
        have HBV : RowKit.Hid (byteV (UInt8.ofNat (48 + m % 10)) = .int .u8 48) := Lib.hid (by unfold byteV; rw [ofDigit_toNat _ (by omega), show m % 10 = 0 by omega]; rfl)
        clear hd hd0 hbq hq
        by_cases hl0 : l.length = 0
        · have hb0 : ((l.length : Int) == 0) = true := by simp [hl0]
          clear hc
          have HL0 := Lib.hid hl0
          clear hl0 ham
          go_wp2_with (at_builtin; refine wpList_before rfl (.tmp 24) (.tmp 25) rfl rfl rfl HO.out rfl rfl (by simp; omega) (by intro u hu; simp only [List.mem_map] at hu; obtain ⟨b, _, rfl⟩ := hu; rfl) HB.out.size ?_; intro v' w' h7 hb7)
          obtain ⟨g', cap', rfl⟩ := OwnL.isSome h7 (by simp)
          simp only [List.length_cons, List.length_map] at h7
          go_roundw
          case rel => exact ⟨_ :: l, q, g', cap', b, HBQ.out, by first | rfl | rw [HQQ.out], HS.out, by simp, by rw [List.map_cons, HBV.out]; exact h7, HB.out.trans (hb7.mono HB.out.size)⟩
          case measure =>
            have h1 := HME.out
            simp only [intOf, slLen, List.length_cons]
            omega
        · have hb0 : ((l.length : Int) == 0) = false := by simp; intro e; exact hl0 (by rw [e]; rfl)
          have hm0 : m ≠ 0 := hc.resolve_left (fun e => hl0 (by rw [e]; rfl))
          have ha0 : (a == 0) = false := by simp; omega
          have ha1 : (a != 0) = true := by simp; omega
          clear hc hl0 hm0 ham
          go_wp2_with (at_builtin; refine wpList_before rfl (.tmp 24) (.tmp 25) rfl rfl rfl HO.out rfl rfl (by simp; omega) (by intro u hu; simp only [List.mem_map] at hu; obtain ⟨b, _, rfl⟩ := hu; rfl) HB.out.size ?_; intro v' w' h7 hb7)
          obtain ⟨g', cap', rfl⟩ := OwnL.isSome h7 (by simp)
          simp only [List.length_cons, List.length_map] at h7
          go_roundw
          case rel => exact ⟨_ :: l, q, g', cap', b, HBQ.out, by first | rfl | rw [HQQ.out], HS.out, by simp, by rw [List.map_cons, HBV.out]; exact h7, HB.out.trans (hb7.mono HB.out.size)⟩
          case measure =>
            have h1 := HME.out
            simp only [intOf, slLen, List.length_cons]
            omega
      · have hr : a.tmod 10 = -d := by rw [show a = -(m : Int) by omega, Int.neg_tmod, Int.tmod_eq_emod_of_nonneg (by omega)]; omega
        have hd1 : 0 < d := by omega
        have hd2 : d < 10 := by omega
        have HBV : RowKit.Hid (byteV (UInt8.ofNat (48 + m % 10)) = .int .u8 (48 + d)) := Lib.hid (by unfold byteV; rw [ofDigit_toNat _ (by omega), ← hd]; push_cast; rfl)
        clear hd hd0 hbq hq
        by_cases hl0 : l.length = 0
        · have hb0 : ((l.length : Int) == 0) = true := by simp [hl0]
          clear hc
          have HL0 := Lib.hid hl0
          clear hl0 ham
          go_wp2_with (at_builtin; refine wpList_before rfl (.tmp 24) (.tmp 25) rfl rfl rfl HO.out rfl rfl (by simp; omega) (by intro u hu; simp only [List.mem_map] at hu; obtain ⟨b, _, rfl⟩ := hu; rfl) HB.out.size ?_; intro v' w' h7 hb7)
          obtain ⟨g', cap', rfl⟩ := OwnL.isSome h7 (by simp)
          simp only [List.length_cons, List.length_map] at h7
          go_roundw
          case rel => exact ⟨_ :: l, q, g', cap', b, HBQ.out, by first | rfl | rw [HQQ.out], HS.out, by simp, by rw [List.map_cons, HBV.out]; exact h7, HB.out.trans (hb7.mono HB.out.size)⟩
          case measure =>
            have h1 := HME.out
            simp only [intOf, slLen, List.length_cons]
            omega
        · have hb0 : ((l.length : Int) == 0) = false := by simp; intro e; exact hl0 (by rw [e]; rfl)
          have hm0 : m ≠ 0 := hc.resolve_left (fun e => hl0 (by rw [e]; rfl))
          have ha0 : (a == 0) = false := by simp; omega
          have ha1 : (a != 0) = true := by simp; omega
          clear hc hl0 hm0 ham
          go_wp2_with (at_builtin; refine wpList_before rfl (.tmp 24) (.tmp 25) rfl rfl rfl HO.out rfl rfl (by simp; omega) (by intro u hu; simp only [List.mem_map] at hu; obtain ⟨b, _, rfl⟩ := hu; rfl) HB.out.size ?_; intro v' w' h7 hb7)
          obtain ⟨g', cap', rfl⟩ := OwnL.isSome h7 (by simp)
          simp only [List.length_cons, List.length_map] at h7
          go_roundw
          case rel => exact ⟨_ :: l, q, g', cap', b, HBQ.out, by first | rfl | rw [HQQ.out], HS.out, by simp, by rw [List.map_cons, HBV.out]; exact h7, HB.out.trans (hb7.mono HB.out.size)⟩
          case measure =>
            have h1 := HME.out
            simp only [intOf, slLen, List.length_cons]
            omega
    · have hm0 : m = 0 := by
        by_cases h : m = 0
        · exact h
        · exact absurd (.inr h) hc
      obtain rfl : a = 0 := by omega
      have hb0 : ((l.length : Int) == 0) = false := by simp; intro e; exact hc (.inl e)
      have HDD := Lib.hid (HD.out.done hc)
      clear hc hm0 HD HN HL ham ha ha1 ha2
      go_wp2_with (first | (at_builtin; refine wpList_before rfl (.tmp 31) (.tmp 32) rfl rfl rfl HO.out rfl rfl (by simp; omega) (by intro u hu; simp only [List.mem_map] at hu; obtain ⟨b, _, rfl⟩ := hu; rfl) HB.out.size ?_; intro v' w' h7 hb7; obtain ⟨g', cap', rfl⟩ := OwnL.isSome h7 (by simp); simp only [List.length_cons, List.length_map] at h7; have hconv := run_textBack (l := 45 :: l) h7))
      go_ret
      exact ⟨by rw [HI.out, ← HDD.out]; rfl, HB.out.trans (hb7.mono HB.out.size)⟩

theorem spec_l01Dec (n : Int) (w : World) (h0 : -9223372036854775808 ≤ n) (h1 : n ≤ 9223372036854775807) : Calls Tryd.prog 37 #[.int .i64 n] w fun e w' => e = .returned (.string ⟨(Lib.itoa n).toArray⟩) ∧ Below w.heap.size w w' := by
  by_cases h : 0 ≤ n
  · exact spec_l01Dec_pos n w h h1
  · exact spec_l01Dec_neg n w (by omega) h0
end Go.Proofs.YtopacaenlemfcaaDoor
