/-
  What the readers of lists share: rows that lie apart, what they hand back.
-/
import Derived.Test.YtopacaenlemfcaaDoorTCut
import Derived.Test.YtopacaenlemfcaaDoorTMark
import Derived.Maps.AppendAt
namespace Go.Proofs.YtopacaenlemfcaaDoor
open Go.RowKit Go.TX

/-- two rows that lie apart -/
def Apart (p v : Value) : Prop := p.ownBlock = none ∨ p.ownBlock ≠ v.ownBlock
theorem Apart.step {p v v' : Value} {H : Nat} (h : Apart p v) (hb : v'.ownBlock = v.ownBlock ∨ v'.ownBlock = some H) (hp : ∀ k, p.ownBlock = some k → k < H) : Apart p v' := by
  rcases h with h | h
  · exact .inl h
  · rcases hb with hb | hb
    · exact .inr (by rw [hb]; exact h)
    · refine .inr fun e => ?_
      rw [hb] at e
      exact absurd (hp _ e) (by omega)
theorem OwnL.keep {w w' : World} {base : Nat} {e : TypeId} {p v : Value} {xs : List Value} (h : OwnL w base e p xs) (ha : Apart p v) (hg : w.grownBy w' v.ownBlock) : OwnL w' base e p xs := World.ownsRow.kept h hg ha
/-- append of one value onto the call's own row: where the row lies then -/
theorem wpList_append1A {e st : TypeId} {z : Value} {bytes : Nat} (E : ElemOk Tryd.prog e st z bytes) (hby : bytes ≤ 16) {ops : Array Oper} {rest : List Oper} {o : Oper} {a : Act} {w : World} {Q : Exit → Act → World → Prop} {base : Nat} {v u : Value} {xs : List Value} {nb c : Nat} (hgd : o.guard = none) (s x : Operand)
    (ho : o.op = .call { callee := .builtin .append, args := #[s, x], argTypes := #[st, st] })
    (hs : a.eval s = v) (hx : a.eval x = .slice (some ⟨nb, 0, none⟩) 1 c) (h : OwnL w base e v xs) (hbase : base ≤ w.heap.size)
    (hn : xs.length ≤ 100000) (hc : w.cell? ⟨nb, 0, none⟩ = some u) (h1 : u.oneCell' = true)
    (hK : ∀ v' w', OwnL w' base e v' (xs ++ [u]) → w.grownBy w' v.ownBlock → v'.ownBlock = v.ownBlock ∨ v'.ownBlock = some w.heap.size → wpList Tryd.prog ops Q rest (a.put o.dst v') w') : wpList Tryd.prog ops Q (o :: rest) a w := by
  obtain ⟨i, hi, hz, hsz, hb⟩ := E.at
  have hmul : (xs.length + 1) * bytes ≤ 100001 * 16 := Nat.mul_le_mul (by omega) hby
  obtain ⟨v', w', hrun, h4, h5, -, h6⟩ := run_append_own_at (P := Tryd.prog) (w := w) base st o.type e i z 1 bytes E.und hi hz hsz hb E.one (by omega) v xs.length xs h ⟨nb, 0, none⟩ 1 c [u] rfl
    (fun j y hj => by
      rcases j with _ | j
      · simp only [List.getElem?_cons_zero, Option.some.injEq] at hj; subst hj; exact hc
      · simp at hj)
    (fun y hy => by simp only [List.mem_singleton] at hy; subst hy; exact h1) (by unfold maxLen; omega) (by omega) hbase
  refine wpList_plain hgd fun _ hK' => ?_
  unfold Oper.wp execOp
  simp only [ho, resolve, invoke, builtin, Sem.run_bind, Sem.run_pure, Result.andThen_ok, List.map_toArray, List.map_cons, List.map_nil, hs, hx, hrun]
  exact hK' _ _ (hK v' w' (by unfold OwnL; rw [List.length_append]; exact h4) h5 h6)

/-- what a reader of lists hands back: the values, if the text holds some -/
def RdV {α : Type} (T : TypeId) (mk : α → Value) (o : Option (List α)) (w : World) (e : Ending) (w' : World) : Prop :=
  ∃ v, e = .returned (.tuple #[v, .bool o.isSome]) ∧ OwnL w' w.heap.size T v ((o.getD []).map mk) ∧ Below w.heap.size w w'
theorem RdV.none {α : Type} {T : TypeId} {mk : α → Value} {o : Option (List α)} (h : o = none) {w w' : World} (hb : Below w.heap.size w w') : RdV T mk o w (.returned (.tuple #[.slice none 0 0, .bool false])) w' := by
  subst h
  exact ⟨_, rfl, ⟨rfl, .inl ⟨rfl, rfl⟩⟩, hb⟩
theorem RdV.some {α : Type} {T : TypeId} {mk : α → Value} {o : Option (List α)} {xs : List α} (h : o = some xs) {w w' : World} {v : Value} (ho : OwnL w' w.heap.size T v (xs.map mk)) (hb : Below w.heap.size w w') : RdV T mk o w (.returned (.tuple #[v, .bool true])) w' := by
  subst h
  exact ⟨_, rfl, ho, hb⟩
theorem str_list (l : List UInt8) : (⟨l.toArray⟩ : ByteArray).data.toList = l := rfl
theorem str_size (l : List UInt8) : (⟨l.toArray⟩ : ByteArray).size = l.length := by simp [ByteArray.size]
theorem rdText_none {α : Type} {f : List UInt8 → Option α} {m : Nat} {L : List UInt8} (h : L = noneL) : rdText f m L = some [] := by rw [rdText, if_pos h]
theorem rdText_cut {α : Type} {f : List UInt8 → Option α} {m : Nat} {L : List UInt8} (h : L ≠ noneL) (hl : (cutA [] L).length ≤ m) : rdText f m L = rdAll f (cutA [] L) := by rw [rdText, if_neg h, if_pos hl]
theorem rdText_long {α : Type} {f : List UInt8 → Option α} {m : Nat} {L : List UInt8} (h : L ≠ noneL) (hl : ¬ (cutA [] L).length ≤ m) : rdText f m L = none := by rw [rdText, if_neg h, if_neg hl]
/-- the pieces that the program reads -/
def pcs (L : List UInt8) : List (List UInt8) := if L = noneL then [] else cutA [] L
theorem rdText_pcs {α : Type} {f : List UInt8 → Option α} {m : Nat} {L : List UInt8} (hl : (pcs L).length ≤ m) : rdText f m L = rdAll f (pcs L) := by
  unfold pcs at hl ⊢
  by_cases h : L = noneL
  · rw [rdText_none h, if_pos h]; rfl
  · rw [if_neg h] at hl ⊢; exact rdText_cut h hl
theorem rdText_bad {α : Type} {f : List UInt8 → Option α} {m : Nat} {L l : List UInt8} (hm : l ∈ pcs L) (hl : f l = none) : rdText f m L = none := by
  unfold pcs at hm
  by_cases h : L = noneL
  · rw [if_pos h] at hm; simp at hm
  · rw [if_neg h] at hm
    by_cases hb : (cutA [] L).length ≤ m
    · rw [rdText_cut h hb]; exact rdAll_none hm hl
    · exact rdText_long h hb
theorem rdText_over {α : Type} {f : List UInt8 → Option α} {m : Nat} {L : List UInt8} (hl : m < (pcs L).length) : rdText f m L = none := by
  unfold pcs at hl
  by_cases h : L = noneL
  · rw [if_pos h] at hl; simp at hl
  · rw [if_neg h] at hl; exact rdText_long h (by omega)
theorem pcs_mem {L p : List UInt8} (h : p ∈ pcs L) : p.length ≤ L.length := by
  unfold pcs at h
  split at h
  · simp at h
  · simpa using cutA_mem [] L p h
theorem pcs_len (L : List UInt8) : (pcs L).length ≤ L.length + 1 := by
  unfold pcs
  split
  · simp
  · exact cutA_len [] L
end Go.Proofs.YtopacaenlemfcaaDoor
