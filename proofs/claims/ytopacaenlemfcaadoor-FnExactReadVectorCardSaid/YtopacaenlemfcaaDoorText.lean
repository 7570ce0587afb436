/-
  Plain lemmas on texts: a text cut at its commas, decimal and hexadecimal numerals; rows of one-celled values that a call has made.
  No conditions but those that each lemma names.
-/
import Derived.Lib.Split
import Derived.Lib.SplitLaws
import Derived.Lib.IndexBytes
import Derived.Lib.IndexLaws
import Derived.Lib.Join
import Derived.Lib.ItoaMem
import Derived.Lib.ItoaLen
import Derived.Lib.ParseIntBTie
import Derived.Lib.ParseIntBCases
import Derived.Laws.AppendOwn
import Derived.WalkKit
import Derived.ProofKit
import Derived.Deep.OwnRows
import Derived.Below
namespace Go.TX
open Go.Lib

/-- a text cut at its commas; 'cur': what stands of the piece under way -/
def cutA (cur : List UInt8) : List UInt8 → List (List UInt8)
  | [] => [cur]
  | b :: l => if b = 44 then cur :: cutA [] l else cutA (cur ++ [b]) l

theorem cutA_miss : ∀ (l cur : List UInt8), index l [44] = -1 → cutA cur l = [cur ++ l]
  | [], cur, _ => by simp [cutA]
  | b :: l, cur, h => by
    rw [index_one, indexByte] at h
    by_cases hb : b = 44
    · subst hb; simp at h
    · have hb' : (b == (44 : UInt8)) = false := by simpa using hb
      rw [hb'] at h
      have hl : index l [44] = -1 := by
        rw [index_one]
        by_cases h1 : indexByte l 44 = -1
        · exact h1
        · have := indexByte_ge l 44
          have h2 : (indexByte l 44 == -1) = false := by simpa using h1
          rw [h2] at h
          simp at h
          omega
      rw [cutA, if_neg hb, cutA_miss l _ hl]
      simp

theorem cutA_hit : ∀ (l cur : List UInt8) (i : Nat), index l [44] = i → cutA cur l = (cur ++ l.take i) :: cutA [] (l.drop (i + 1))
  | [], cur, i, h => by simp [index] at h
  | b :: l, cur, i, h => by
    rw [index_one, indexByte] at h
    by_cases hb : b = 44
    · subst hb
      simp at h
      obtain rfl : i = 0 := by omega
      simp [cutA]
    · have hb' : (b == (44 : UInt8)) = false := by simpa using hb
      rw [hb'] at h
      by_cases h1 : indexByte l 44 = -1
      · rw [h1] at h; simp at h
      · have h2 : (indexByte l 44 == -1) = false := by simpa using h1
        rw [h2] at h
        simp at h
        obtain ⟨j, rfl⟩ : ∃ j, i = j + 1 := ⟨i - 1, by have := indexByte_ge l 44; omega⟩
        have hl : index l [44] = (j : Int) := by rw [index_one]; omega
        rw [cutA, if_neg hb, cutA_hit l _ j hl]
        simp

theorem splitK_cut : ∀ (n : Nat) (s : List UInt8), count s [44] = n → splitK [44] 0 n s = cutA [] s
  | 0, s, h => by
    rcases index_spec s [44] with ⟨h1, _⟩ | ⟨i, h1, _, _, _⟩
    · rw [cutA_miss s [] h1]; rfl
    · rw [count_hit (by simp) h1] at h; simp at h
  | n + 1, s, h => by
    rcases index_spec s [44] with ⟨h1, _⟩ | ⟨i, h1, _, _, _⟩
    · rw [count_miss h1] at h; omega
    · rw [count_hit (by simp) h1] at h
      have h2 : ¬ (index s [44] == -1) = true := by rw [h1]; simp
      rw [splitK, if_neg h2, h1, cutA_hit s [] i h1]
      simp only [Int.toNat_natCast, Nat.add_zero, List.nil_append]
      congr 1
      exact splitK_cut n _ (by simp only [List.length_singleton] at h ⊢; omega)

def comma : ByteArray := ⟨#[44]⟩
def pieces (s : ByteArray) : List ByteArray := (cutA [] s.data.toList).map fun l => ⟨l.toArray⟩
theorem splitB_cut (s : ByteArray) : splitB comma 0 (countB s comma) s = pieces s := by
  have h := splitB_data comma 0 (countB s comma) s
  rw [show comma.data.toList = [44] from rfl, splitK_cut _ _ (by rfl)] at h
  unfold pieces
  rw [← h, List.map_map]
  conv => lhs; rw [← List.map_id (splitB comma 0 (countB s comma) s)]
  refine List.map_congr_left fun x _ => ?_
  rfl

theorem cutA_ne (cur l : List UInt8) : cutA cur l ≠ [] := by
  induction l generalizing cur with
  | nil => simp [cutA]
  | cons b l ih => unfold cutA; split; · simp
                   · exact ih _
theorem cutA_len (cur l : List UInt8) : (cutA cur l).length ≤ l.length + 1 := by
  induction l generalizing cur with
  | nil => simp [cutA]
  | cons b l ih => unfold cutA; split
                   · simp; have := ih []; omega
                   · have := ih (cur ++ [b]); simp; omega
theorem cutA_mem (cur l p : List UInt8) (h : p ∈ cutA cur l) : p.length ≤ cur.length + l.length := by
  induction l generalizing cur with
  | nil => simp [cutA] at h; subst h; simp
  | cons b l ih => unfold cutA at h; split at h
                   · rcases List.mem_cons.1 h with rfl | h
                     · simp
                     · have := ih [] h; simp at this ⊢; omega
                   · have := ih _ h; simp at this ⊢; omega
theorem count_pieces (s : ByteArray) : (pieces s).length = countB s comma + 1 := by
  rw [← splitB_cut]; exact splitB_all comma (by decide) 0 _ s rfl

/-! decimals -/
theorem decDigits_small {u : Nat} (h : u < 10) : decDigits u = [UInt8.ofNat (48 + u)] := by rw [decDigits, dif_pos h]
theorem decDigits_big {u : Nat} (h : ¬ u < 10) : decDigits u = decDigits (u / 10) ++ [UInt8.ofNat (48 + u % 10)] := by rw [decDigits, dif_neg h]
theorem decDigits_ne (u : Nat) : decDigits u ≠ [] := by
  intro h; have := decDigits_length u; rw [h] at this; have h2 := nDigits_pos u; simp at this; omega
/-- the loop that lays the digits from the last: m is what is left -/
def DecI (u m : Nat) (out : List UInt8) : Prop := (m = 0 ∧ out = decDigits u) ∨ (decDigits u = decDigits m ++ out ∧ (out = [] ∨ m ≠ 0))
theorem DecI.start (u : Nat) : DecI u u [] := .inr ⟨by simp, .inl rfl⟩
theorem DecI.step {u m : Nat} {out : List UInt8} (h : DecI u m out) (hc : out = [] ∨ m ≠ 0) : DecI u (m / 10) (UInt8.ofNat (48 + m % 10) :: out) := by
  rcases h with ⟨rfl, rfl⟩ | ⟨h, _⟩
  · rcases hc with h | h
    · exact absurd h (decDigits_ne u)
    · exact absurd rfl h
  · by_cases hm : m < 10
    · refine .inl ⟨by omega, ?_⟩
      rw [h, decDigits_small hm, Nat.mod_eq_of_lt hm]; rfl
    · refine .inr ⟨?_, .inr (by omega)⟩
      rw [h, decDigits_big hm]; simp
theorem DecI.done {u m : Nat} {out : List UInt8} (h : DecI u m out) (hc : ¬ (out = [] ∨ m ≠ 0)) : out = decDigits u := by
  rcases h with ⟨_, h⟩ | ⟨_, h⟩
  · exact h
  · exact absurd h hc
theorem DecI.len {u m : Nat} {out : List UInt8} (h : DecI u m out) : out.length ≤ (decDigits u).length := by
  rcases h with ⟨_, h⟩ | ⟨h, _⟩
  · rw [h]; exact Nat.le_refl _
  · rw [h]; simp
theorem nDigits_le : ∀ (k u : Nat), u < 10 ^ (k + 1) → nDigits u ≤ k + 1
  | 0, u, h => by rw [nDigits_small (by simpa using h)]; exact Nat.le_refl _
  | k + 1, u, h => by
    by_cases h1 : u < 10
    · rw [nDigits_small h1]; omega
    · rw [nDigits_big h1]
      rw [Nat.pow_succ] at h
      have := nDigits_le k (u / 10) (by omega)
      omega
theorem ofDigit_toNat (d : Nat) (h : d < 10) : (UInt8.ofNat (48 + d)).toNat = 48 + d := by
  rw [UInt8.toNat_ofNat']; omega
theorem parseUint10_app : ∀ (l : List UInt8) (acc a : Nat) (c : UInt8), parseUint10 acc l = .ok a → parseUint10 acc (l ++ [c]) = parseUint10 a [c]
  | [], acc, a, c, h => by cases h; rfl
  | b :: l, acc, a, c, h => by
    rw [parseUint10] at h
    rw [List.cons_append, parseUint10]
    split at h
    · rename_i h1
      rw [if_pos h1]
      split at h
      · cases h
      · rename_i h2
        rw [if_neg h2]
        split at h
        · cases h
        · rename_i h3
          rw [if_neg h3]
          exact parseUint10_app l _ a c h
    · cases h
theorem parseUint10_dec (u : Nat) (h : u < 18446744073709551616) : parseUint10 0 (decDigits u) = .ok u := by
  induction u using Nat.strongRecOn with
  | _ u ih =>
    by_cases hu : u < 10
    · rw [decDigits_small hu, parseUint10, ofDigit_toNat u hu, if_pos (by omega), if_neg (by omega), if_neg (by omega), parseUint10]
      congr 1; omega
    · have hd := ofDigit_toNat (u % 10) (by omega)
      rw [decDigits_big hu, parseUint10_app _ _ _ _ (ih (u / 10) (by omega) (by omega)), parseUint10, hd, if_pos (by omega), if_neg (by omega), if_neg (by omega), parseUint10]
      congr 1; omega
/-- the digits' fold; what is no digit is passed by -/
def digF (n : Nat) (c : UInt8) : Nat := if 48 ≤ c.toNat ∧ c.toNat ≤ 57 then 10 * n + (c.toNat - 48) else n
def digN (l : List UInt8) : Nat := l.foldl digF 0
theorem digN_snoc (l : List UInt8) (c : UInt8) : digN (l ++ [c]) = digF (digN l) c := by simp [digN]
theorem digN_lt : ∀ (n : Nat) (l : List UInt8), l.length = n → digN l < 10 ^ n
  | 0, l, h => by rw [List.length_eq_zero_iff.1 h]; decide
  | n + 1, l, h => by
    obtain ⟨l', c, rfl⟩ : ∃ l' c, l = l' ++ [c] := ⟨l.dropLast, l.getLast (by intro e; rw [e] at h; simp at h), (List.dropLast_concat_getLast _).symm⟩
    have := digN_lt n l' (by simp at h; exact h)
    rw [digN_snoc, Nat.pow_succ]
    unfold digF
    split <;> omega
theorem digN_dec (u : Nat) : digN (decDigits u) = u := by
  induction u using Nat.strongRecOn with
  | _ u ih =>
    by_cases hu : u < 10
    · rw [decDigits_small hu]; simp only [digN, List.foldl_cons, List.foldl_nil, digF]; rw [ofDigit_toNat u hu, if_pos (by omega)]; omega
    · rw [decDigits_big hu, digN_snoc, ih _ (by omega), digF, ofDigit_toNat _ (by omega), if_pos (by omega)]; omega
def valN (l : List UInt8) : Int := if l.head? = some 45 then -(digN l : Int) else digN l
theorem dec_head (u : Nat) : ∃ c r, decDigits u = c :: r ∧ 48 ≤ c.toNat ∧ c.toNat ≤ 57 := by
  induction u using Nat.strongRecOn with
  | _ u ih =>
    by_cases hu : u < 10
    · exact ⟨_, [], decDigits_small hu, by rw [ofDigit_toNat u hu]; omega, by rw [ofDigit_toNat u hu]; omega⟩
    · obtain ⟨c, r, h, h1, h2⟩ := ih (u / 10) (by omega)
      exact ⟨c, r ++ [_], by rw [decDigits_big hu, h]; rfl, h1, h2⟩
theorem valN_itoa (n : Int) : valN (itoa n) = n := by
  unfold itoa
  split
  · have : digN (45 :: decDigits n.natAbs) = digN (decDigits n.natAbs) := by simp [digN, digF]
    simp only [valN, List.head?_cons, if_true, this, digN_dec]; omega
  · obtain ⟨c, r, h, h1, h2⟩ := dec_head n.toNat
    have hc : c ≠ 45 := by rintro rfl; simp at h1
    unfold valN
    rw [h, List.head?_cons, if_neg (by simpa using hc), ← h, digN_dec]; omega
theorem parse_itoa (n : Int) (h0 : -1000000000000000 ≤ n) (h1 : n ≤ 1000000000000000) : parseIntB 64 (itoa n) = .ok n := by
  rw [parseIntB_64]
  unfold itoa
  split
  · rw [atoiAll_minus, parseMag, if_neg (decDigits_ne _), parseUint10_dec _ (by omega)]
    simp only [signed]
    rw [if_neg (by omega)]
    congr 1; omega
  · obtain ⟨c, r, h, h2, h3⟩ := dec_head n.toNat
    have hp := parseUint10_dec n.toNat (by omega)
    have hne := decDigits_ne n.toNat
    rw [h] at hp hne ⊢
    rw [atoiAll_plain c r (by omega) (by omega), parseMag, if_neg hne, hp]
    simp only [signless]
    rw [if_neg (by omega)]
    congr 1; omega
theorem itoa_len (n : Int) (h0 : -1000000000000000 ≤ n) (h1 : n ≤ 1000000000000000) : 1 ≤ (itoa n).length ∧ (itoa n).length ≤ 17 := by
  unfold itoa
  split
  · have h2 := nDigits_le 15 n.natAbs (by omega)
    simp only [List.length_cons, decDigits_length]; omega
  · have h2 := nDigits_le 15 n.toNat (by omega)
    have h3 := nDigits_pos n.toNat
    rw [decDigits_length]; omega
/-- a text is a number's numeral, of a number not too great -/
def decB (l : List UInt8) : Bool := decide (1 ≤ l.length) && decide (l.length ≤ 17) && decide (-1000000000000000 ≤ valN l) && decide (valN l ≤ 1000000000000000) && decide (itoa (valN l) = l)
theorem decB_of {l : List UInt8} {v : Int} (h : itoa v = l) (h0 : -1000000000000000 ≤ v) (h1 : v ≤ 1000000000000000) : decB l = true ∧ valN l = v := by
  have hv := valN_itoa v
  rw [h] at hv
  have hl := itoa_len v h0 h1
  rw [h] at hl
  unfold decB
  rw [hv]
  simp [h0, h1, h]
  omega

/-! hexadecimal -/
def hexDigs : List UInt8 := [48, 49, 50, 51, 52, 53, 54, 55, 56, 57, 97, 98, 99, 100, 101, 102]
/-- the value of a digit; 16 for what is none -/
def hexV (c : UInt8) : Nat := if 48 ≤ c.toNat ∧ c.toNat ≤ 57 then c.toNat - 48 else if 97 ≤ c.toNat ∧ c.toNat ≤ 102 then c.toNat - 97 + 10 else 16
theorem hexV_index : ∀ c : UInt8, indexByte hexDigs c = if hexV c < 16 then (hexV c : Int) else -1 := by
  intro c
  have h : ∀ n : Fin 256, indexByte hexDigs (UInt8.ofNat n.val) = if hexV (UInt8.ofNat n.val) < 16 then (hexV (UInt8.ofNat n.val) : Int) else -1 := by decide +kernel
  have := h ⟨c.toNat, c.toNat_lt⟩
  simpa using this
def hexF (a : Option Nat) (c : UInt8) : Option Nat := a.bind fun n => if hexV c < 16 then some (16 * n + hexV c) else none
def numH (l : List UInt8) : Option Nat := l.foldl hexF (some 0)
theorem numH_snoc (l : List UInt8) (c : UInt8) : numH (l ++ [c]) = hexF (numH l) c := by simp [numH]
theorem numH_none (l r : List UInt8) (h : numH l = none) : numH (l ++ r) = none := by
  unfold numH at h ⊢
  rw [List.foldl_append, h]
  induction r with
  | nil => rfl
  | cons c r ih => exact ih
theorem numH_lt : ∀ (k : Nat) (l : List UInt8) (n : Nat), l.length = k → numH l = some n → n < 16 ^ k
  | 0, l, n, h, e => by rw [List.length_eq_zero_iff.1 h] at e; cases e; decide
  | k + 1, l, n, h, e => by
    obtain ⟨l', c, rfl⟩ : ∃ l' c, l = l' ++ [c] := ⟨l.dropLast, l.getLast (by intro e; rw [e] at h; simp at h), (List.dropLast_concat_getLast _).symm⟩
    rw [numH_snoc] at e
    cases hm : numH l' with
    | none => rw [hm] at e; simp [hexF] at e
    | some m =>
      have := numH_lt k l' m (by simp at h; exact h) hm
      rw [hm] at e
      simp only [hexF, Option.bind_some] at e
      split at e
      · cases e; rw [Nat.pow_succ]; omega
      · cases e
theorem numH_lt8 {l : List UInt8} {n : Nat} (h : l.length ≤ 8) (e : numH l = some n) : n < 4294967296 := by
  have h1 := numH_lt _ l n rfl e
  have h2 : 16 ^ l.length ≤ 16 ^ 8 := Nat.pow_le_pow_right (by decide) h
  have h3 : 16 ^ 8 = 4294967296 := by decide
  omega
/-- the eight digits of some bits -/
def hexAt (z k : Nat) : UInt8 := hexDigs.getD (z / 2 ^ (28 - 4 * k) % 16) 0
def hexL (z : Nat) (k : Nat) : List UInt8 := (List.range k).map (hexAt z)
theorem hexL_succ (z k : Nat) : hexL z (k + 1) = hexL z k ++ [hexAt z k] := by simp [hexL, List.range_succ]
theorem hexL_len (z k : Nat) : (hexL z k).length = k := by simp [hexL]
/-- a list of numbers as a text -/
def listText (xs : List (List UInt8)) : List UInt8 := if xs = [] then [110, 111, 110, 101] else join xs [44]


/-! rows of one-celled values that the call has made -/
section
open Go.RowKit
variable {P : Program}

theorem grownBy_of_below' {w w' : World} (hb : Below w.heap.size w w') : w.grownBy w' none := ⟨hb.os, hb.tape, hb.output, hb.size, fun k hk _ => hb.block k hk⟩
/-- a row of one-celled values that the call made -/
def OwnL (w : World) (base : Nat) (e : TypeId) (v : Value) (xs : List Value) : Prop := w.ownsRow base e 1 v xs.length xs
theorem OwnL.below {w w' : World} {base : Nat} {e : TypeId} {v : Value} {xs : List Value} (h : OwnL w base e v xs) (hb : Below w.heap.size w w') : OwnL w' base e v xs :=
  World.ownsRow.kept h (grownBy_of_below' hb) (by cases hv : v.ownBlock <;> simp)
theorem OwnL.shape {w : World} {base : Nat} {e : TypeId} {v : Value} {xs : List Value} (h : OwnL w base e v xs) : ∃ ao cap, v = .slice ao xs.length cap := by
  rcases h.2 with ⟨rfl, h0⟩ | ⟨g, cap, cur, rfl, -⟩
  · exact ⟨_, _, by rw [h0]⟩
  · exact ⟨_, _, rfl⟩
theorem OwnL.mono {w : World} {base base' : Nat} {e : TypeId} {v : Value} {xs : List Value} (h : OwnL w base e v xs) (hb : base' ≤ base) : OwnL w base' e v xs := by
  refine ⟨h.1, ?_⟩
  rcases h.2 with e | ⟨g, cap, cur, e, hg, r⟩
  · exact .inl e
  · exact .inr ⟨g, cap, cur, e, Nat.le_trans hb hg, r⟩
theorem OwnL.lt {w : World} {base : Nat} {e : TypeId} {v : Value} {xs : List Value} (h : OwnL w base e v xs) : ∀ k, v.ownBlock = some k → base ≤ k ∧ k < w.heap.size := World.ownsRow.lt h
theorem OwnL.grown {w w' : World} {base : Nat} {e : TypeId} {v : Value} {xs : List Value} (h : OwnL w base e v xs) (hb : base ≤ w.heap.size) (hg : w.grownBy w' v.ownBlock) : Below base w w' :=
  ⟨hg.os, hg.tape, hg.output, hg.size, fun k hk => hg.block k (Nat.lt_of_lt_of_le hk hb) fun e => by have := (h.lt k e.symm).1; omega⟩
/-- an element type of one cell -/
structure ElemOk (P : Program) (e st : TypeId) (z : Value) (bytes : Nat) : Prop where
  und : P.underlying st = some (.slice e)
  info : (P.info? e).map (fun i => (i.zero, i.size, i.bytes)) = some (some z, 1, bytes)
  one : z.cells.size = 1
theorem ElemOk.at {e st : TypeId} {z : Value} {bytes : Nat} (E : ElemOk P e st z bytes) : ∃ i, P.info? e = some i ∧ i.zero = some z ∧ i.size = 1 ∧ i.bytes = bytes := by
  have h := E.info
  revert h
  cases P.info? e with
  | none => intro h; simp at h
  | some i => intro h; simp only [Option.map_some, Option.some.injEq, Prod.mk.injEq] at h; exact ⟨i, rfl, h.1, h.2.1, h.2.2⟩
/-- append of a row onto the call's own row -/
theorem run_appendL {e st ty : TypeId} {z : Value} {bytes : Nat} (E : ElemOk P e st z bytes) (hby : bytes ≤ 16) {w : World} {base : Nat} {v : Value} {xs news : List Value} (h : OwnL w base e v xs) (hbase : base ≤ w.heap.size)
    (hn : xs.length + news.length ≤ 1000000) {a : Addr} {m c : Nat} (hm : news.length = m) (hc : ∀ j u, news[j]? = some u → w.cell? (a.add j) = some u) (h1 : ∀ u ∈ news, u.oneCell' = true) :
    ∃ v' w', (Builtin.append_ #[st, st] ty #[v, .slice (some a) m c]).run P w = .ok v' w' ∧ OwnL w' base e v' (xs ++ news) ∧ w.grownBy w' v.ownBlock := by
  obtain ⟨i, hi, hz, hs, hb⟩ := E.at
  subst hm
  have hmul : (xs.length + news.length) * bytes ≤ 1000000 * 16 := Nat.mul_le_mul hn hby
  obtain ⟨v', w', hrun, h4, h5, -⟩ := run_append_own (P := P) (w := w) base st ty e i z 1 bytes E.und hi hz hs hb E.one (by omega) v xs.length xs h a news.length c news (by simp) hc h1 (by unfold maxLen; omega) (by omega) hbase
  exact ⟨v', w', hrun, by unfold OwnL; rw [List.length_append]; exact h4, h5⟩
theorem wp_appendL {e st : TypeId} {z : Value} {bytes : Nat} (E : ElemOk P e st z bytes) (hby : bytes ≤ 16) {o : Oper} {a : Act} {w : World} {K : Act → World → Prop} {Q : Exit → Act → World → Prop} {base : Nat} {v : Value} {xs news : List Value} {ad : Addr} {m c : Nat} (s x : Operand)
    (ho : o.op = .call { callee := .builtin .append, args := #[s, x], argTypes := #[st, st] })
    (hs : a.eval s = v) (hx : a.eval x = .slice (some ad) m c) (h : OwnL w base e v xs) (hbase : base ≤ w.heap.size)
    (hn : xs.length + news.length ≤ 1000000) (hm : news.length = m) (hc : ∀ j u, news[j]? = some u → w.cell? (ad.add j) = some u) (h1 : ∀ u ∈ news, u.oneCell' = true)
    (hK : ∀ v' w', OwnL w' base e v' (xs ++ news) → w.grownBy w' v.ownBlock → K (a.put o.dst v') w') : o.wp P a w K Q := by
  obtain ⟨v', w', hrun, h2, h3⟩ := run_appendL (ty := o.type) (c := c) E hby h hbase hn hm hc h1
  unfold Oper.wp execOp
  simp only [ho, resolve, invoke, builtin, Sem.run_bind, Sem.run_pure, Result.andThen_ok, List.map_toArray, List.map_cons, List.map_nil, hs, hx, hrun]
  exact hK v' w' h2 h3
theorem wpList_appendL {e st : TypeId} {z : Value} {bytes : Nat} (E : ElemOk P e st z bytes) (hby : bytes ≤ 16) {ops : Array Oper} {rest : List Oper} {o : Oper} {a : Act} {w : World} {Q : Exit → Act → World → Prop} {base : Nat} {v : Value} {xs news : List Value} {ad : Addr} {m c : Nat} (hgd : o.guard = none) (s x : Operand)
    (ho : o.op = .call { callee := .builtin .append, args := #[s, x], argTypes := #[st, st] })
    (hs : a.eval s = v) (hx : a.eval x = .slice (some ad) m c) (h : OwnL w base e v xs) (hbase : base ≤ w.heap.size)
    (hn : xs.length + news.length ≤ 1000000) (hm : news.length = m) (hc : ∀ j u, news[j]? = some u → w.cell? (ad.add j) = some u) (h1 : ∀ u ∈ news, u.oneCell' = true)
    (hK : ∀ v' w', OwnL w' base e v' (xs ++ news) → w.grownBy w' v.ownBlock → wpList P ops Q rest (a.put o.dst v') w') : wpList P ops Q (o :: rest) a w :=
  wpList_plain hgd fun _ hK' => wp_appendL E hby s x ho hs hx h hbase hn hm hc h1 fun v' w' h2 h3 => hK' _ _ (hK v' w' h2 h3)
/-- one value -/
theorem wpList_append1L {e st : TypeId} {z : Value} {bytes : Nat} (E : ElemOk P e st z bytes) (hby : bytes ≤ 16) {ops : Array Oper} {rest : List Oper} {o : Oper} {a : Act} {w : World} {Q : Exit → Act → World → Prop} {base : Nat} {v u : Value} {xs : List Value} {nb c : Nat} (hgd : o.guard = none) (s x : Operand)
    (ho : o.op = .call { callee := .builtin .append, args := #[s, x], argTypes := #[st, st] })
    (hs : a.eval s = v) (hx : a.eval x = .slice (some ⟨nb, 0, none⟩) 1 c) (h : OwnL w base e v xs) (hbase : base ≤ w.heap.size)
    (hn : xs.length ≤ 100000) (hc : w.cell? ⟨nb, 0, none⟩ = some u) (h1 : u.oneCell' = true)
    (hK : ∀ v' w', OwnL w' base e v' (xs ++ [u]) → w.grownBy w' v.ownBlock → wpList P ops Q rest (a.put o.dst v') w') : wpList P ops Q (o :: rest) a w :=
  wpList_appendL E hby hgd s x ho hs hx h hbase (news := [u]) (by simp; omega) rfl (fun j y hj => by
      rcases j with _ | j
      · simp only [List.getElem?_cons_zero, Option.some.injEq] at hj; subst hj; exact hc
      · simp at hj) (fun y hy => by simp only [List.mem_singleton] at hy; subst hy; exact h1) hK
theorem own_stepL {wr Wp w' WZ : World} {base : Nat} {e : TypeId} {v : Value} {xs : List Value} (h : OwnL wr base e v xs) (BP : Below wr.heap.size wr Wp) (hg : Wp.grownBy w' v.ownBlock) (HB : Below base WZ wr) (hb : base ≤ WZ.heap.size) : Below base WZ w' := by
  have h2 := h.below BP
  have hs := Nat.le_trans hb HB.size
  exact HB.trans ((BP.mono hs).trans (h2.grown (Nat.le_trans hs BP.size) hg))
theorem OwnL.made (w : World) (e : TypeId) (xs : List Value) (hm : xs.length ≤ maxLen) : OwnL (w.alloc (.cells xs.toArray e)) w.heap.size e (.slice (some ⟨w.heap.size, 0, none⟩) xs.length xs.length) xs :=
  ⟨by simp, .inr ⟨w.heap.size, xs.length, xs.toArray, rfl, Nat.le_refl _, heap_alloc_new w _, Nat.le_refl _, hm, by simp, by simp⟩⟩
theorem OwnL.new (w : World) (e : TypeId) : OwnL (w.alloc (.cells #[] e)) w.heap.size e (.slice (some ⟨w.heap.size, 0, none⟩) 0 0) [] := OwnL.made w e [] (by simp)
theorem OwnL.cell {w : World} {base : Nat} {e : TypeId} {a : Addr} {n cap : Nat} {xs : List Value} (h : OwnL w base e (.slice (some a) n cap) xs) : n = xs.length ∧ a = ⟨a.block, 0, none⟩ ∧ base ≤ a.block ∧ a.block < w.heap.size ∧ xs.length ≤ cap ∧ ∀ j u, xs[j]? = some u → w.cell? ⟨a.block, j, none⟩ = some u := by
  have hc := fun g hg => World.ownsRow.cells h (g := g) hg
  rcases h.2 with ⟨h0, _⟩ | ⟨g, cap', cur, e, hg, hh, hn, _⟩
  · simp at h0
  · simp only [Value.slice.injEq, Option.some.injEq] at e
    obtain ⟨rfl, rfl, rfl⟩ := e
    refine ⟨rfl, rfl, hg, lt_of_block hh, hn, fun j u hj => ?_⟩
    have := hc g rfl j u hj
    by_cases hj0 : j = 0
    · subst hj0; simpa [Addr.add] using this
    · simpa [Addr.add, hj0] using this
end
end Go.TX
