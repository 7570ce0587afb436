/-
  The walks of the functions that write numbers as text.
-/
import Derived.Test.YtopacaenlemfcaaRow
import Derived.Test.YtopacaenlemfcaaText
import Derived.Laws.Bits128
namespace Go.Proofs.Ytopacaenlemfcaa
open Go.RowKit Go.FL Go.TX
def byteV (b : UInt8) : Value := .int .u8 (b.toNat : Int)
theorem elemByte : ElemOk Try.prog 5 37 (.int .u8 0) 1 := ⟨Try.underlying37, by kernel_rfl, rfl⟩
theorem elemString : ElemOk Try.prog 9 36 (.string ByteArray.empty) 16 := ⟨Try.underlying36, by kernel_rfl, rfl⟩

theorem i64_and15 (n : Int) : bits .and .i64 n 15 = n % 16 := by
  have h127 : (BitVec.ofInt 64 15).toNat = 2 ^ 4 - 1 := by decide
  have key : (BitVec.ofInt 64 n &&& BitVec.ofInt 64 15).toNat = (n % ((2 ^ 64 : Nat) : Int)).toNat % 2 ^ 4 := by
    rw [BitVec.toNat_and, BitVec.toNat_ofInt, h127, Nat.and_two_pow_sub_one_eq_mod]
  show IntKind.i64.wrap ((BitVec.ofInt 64 n &&& BitVec.ofInt 64 15).toNat : Nat) = n % 16
  rw [key, IntKind.wrap_i64]
  omega
theorem hexIx (d : Nat) (h : d < 16) (h2 : d < (⟨#[48, 49, 50, 51, 52, 53, 54, 55, 56, 57, 97, 98, 99, 100, 101, 102]⟩ : ByteArray).size) : (⟨#[48, 49, 50, 51, 52, 53, 54, 55, 56, 57, 97, 98, 99, 100, 101, 102]⟩ : ByteArray)[d] = hexDigs.getD d 0 := by
  have k : ∀ d : Fin 16, (⟨#[48, 49, 50, 51, 52, 53, 54, 55, 56, 57, 97, 98, 99, 100, 101, 102]⟩ : ByteArray)[d.val]'d.2 = hexDigs.getD d.val 0 := by decide +kernel
  exact k ⟨d, h⟩

/-- a text out of the call's own row of bytes -/
theorem run_textBack {w : World} {base : Nat} {ao : Option Addr} {n cap : Nat} {l : List UInt8} (h : OwnL w base 5 (.slice ao n cap) (l.map byteV)) :
    (convert 37 9 (.slice ao n cap)).run Try.prog w = .ok (.string ⟨l.toArray⟩) w := by
  cases ao with
  | none =>
    rcases h.2 with ⟨e, h0⟩ | ⟨g, cap', cur, e, _⟩
    · simp only [Value.slice.injEq] at e
      obtain ⟨_, rfl, rfl⟩ := e
      obtain rfl : l = [] := by simpa using h0
      rw [run_convert_bytes_string w _ _ _ _ _ _ Try.underlying37 Try.underlying5 Try.underlying9]
      rfl
    · simp at e
  | some a =>
    obtain ⟨hn, ha, _, _, _, hc⟩ := h.cell
    obtain rfl : n = l.length := by simpa using hn
    refine run_convert_bytes_back w _ _ _ a cap l Try.underlying37 Try.underlying5 Try.underlying9 fun j hj => ?_
    have := hc j (byteV l[j]) (by simp [hj])
    rw [ha]
    by_cases hj0 : j = 0
    · subst hj0; simpa [Addr.add, byteV] using this
    · simpa [Addr.add, hj0, byteV] using this

theorem spec_l01Hex (z : Nat) (w : World) (hz : z < 4294967296) : Calls Try.prog 20 #[.float .f32 z] w fun e w' => e = .returned (.string ⟨(hexL (bitsOf z) 8).toArray⟩) ∧ Below w.heap.size w w' := by
  go_enter Try.func20, Try.ntmps20
  go_wp2_with (first | (go_at_call 24; refine (l01Bits z _ hz).mono ?_; rintro e w' ⟨rfl, rfl⟩))
  go_loopw [4, 5] (fun out k wr => ∃ i : Nat, i ≤ 8 ∧ k = .int .i64 (28 - 4 * i) ∧ OwnL wr w.heap.size 5 out ((hexL (bitsOf z) i).map byteV) ∧ Below w.heap.size w wr) (fun _ k _ => (intOf k + 4).toNat)
  case atStart => exact ⟨0, by omega, rfl, OwnL.new w _, Below.alloc (Below.refl _ _) (Nat.le_refl _) _⟩
  case round =>
    obtain ⟨i, hi, rfl, ho, hb⟩ := hrel
    obtain ⟨ao, cp, e⟩ := ho.shape
    rw [List.length_map, hexL_len] at e
    subst e
    have HO := Lib.hid ho
    have HB := Lib.hid hb
    by_cases hlt : i < 8
    · have hlen : ((hexL (bitsOf z) i).map byteV).length ≤ 100000 := by simp [hexL_len]; omega
      obtain ⟨d, hd⟩ : ∃ d : Nat, d = bitsOf z / 2 ^ (28 - 4 * i) % 16 := ⟨_, rfl⟩
      have hd16 : d < 16 := by omega
      have hand : bits .and .i64 ((bitsOf z : Int) / 2 ^ (28 - 4 * i)) 15 = (d : Int) := by rw [i64_and15, hd]; push_cast; rfl
      have HD := Lib.hid hd
      have HS : RowKit.Hid ((hexL (bitsOf z) (i + 1)).map byteV = (hexL (bitsOf z) i).map byteV ++ [byteV ((⟨#[48, 49, 50, 51, 52, 53, 54, 55, 56, 57, 97, 98, 99, 100, 101, 102]⟩ : ByteArray)[d]'hd16)]) := Lib.hid (by rw [hexL_succ, List.map_append, hexIx d hd16, hd]; rfl)
      clear ho hb hd
      go_wp2_with (at_builtin; refine wpList_append1L elemByte (by omega) rfl (.tmp 13) (.tmp 20) rfl rfl rfl (HO.out.below (by repeat (first | exact Below.refl _ _ | refine Below.setCell ?_ (by first | omega | (simp; done) | (simp; omega)) _ | refine Below.trans ?_ (Below.mono (by assumption) (by first | omega | (simp; done) | (simp; omega))) | refine Below.alloc ?_ (by first | omega | (simp; done) | (simp; omega)) _ | refine Below.alloc ?_ (Nat.le_refl _) _ | refine below_drewN ?_ _))) (by first | omega | (simp; done) | (simp; omega) | exact HB.out.size | (have := HB.out.size; simp; omega)) hlen (by go_simp; rfl) rfl ?_; intro v' w' h7 hgr; have hbn := own_stepL HO.out (by repeat (first | exact Below.refl _ _ | refine Below.setCell ?_ (by first | omega | (simp; done) | (simp; omega)) _ | refine Below.trans ?_ (Below.mono (by assumption) (by first | omega | (simp; done) | (simp; omega))) | refine Below.alloc ?_ (by first | omega | (simp; done) | (simp; omega)) _ | refine Below.alloc ?_ (Nat.le_refl _) _ | refine below_drewN ?_ _)) hgr HB.out (by first | (simp; done) | (simp; omega)))
      go_roundw
      case rel => exact ⟨i + 1, by omega, by simp only [Value.int.injEq, true_and]; omega, by rw [HS.out]; exact h7, hbn⟩
      case measure => simp [intOf]; omega
    · obtain rfl : i = 8 := by omega
      have hconv := run_textBack ho
      clear ho hb
      go_wp2_with fail
      go_ret
      exact ⟨rfl, HB.out⟩
end Go.Proofs.Ytopacaenlemfcaa
