/-
  A region that draws its order and appends to a row of the call's own; rows of floats that a call has made.
-/
import Derived.Test.YtohpklakhkfebaaPicV
import Derived.Deep.AppendLies
namespace Go.Proofs.Ytohpklakhkfebaa
open Go.RowKit Go.FL

/-- An operation has been run: its value lies in its slot; what is known of the others' values still holds. -/
def RanG (act : Act → (Nat → Value) → Act) (G : World → Prop) (R : Nat → World → Value → Prop) (a : Act) (vals : Nat → Value) (W : World) (i : Nat) (a' : Act) (W' : World) : Prop :=
  ∃ v, a' = act a (upd vals i v) ∧ G W' ∧ R i W' v ∧ ∀ j s, j ≠ i → R j W s → R j W' s

section
variable {P : Program} {ops : Array Oper} {Q : Exit → Act → World → Prop}

/-- A REGION THAT DRAWS ITS ORDER, whose last operation waits for all others, and whose operations but m make new blocks at most (m: an append, a store). -/
theorem wp_region_own {id : Nat} {a : Act} {w : World} (hm : P.follows .mixedOrders = true) (hdown : edgesDown ops = true) (fin : Nat) (hlast : lastWaits ops fin = true) (m : Nat)
    (act : Act → (Nat → Value) → Act) (G : Bool → World → Prop) (R : Nat → World → Value → Prop)
    (hst : ∀ j W W' v, RowKit.Below W.heap.size W W' → R j W v → R j W' v)
    (h0 : ∃ vals, a = act a vals) (hG : G false w.drew)
    (hstep : ∀ i o, ops[i]? = some o → i < fin → i ≠ m → ∀ d vals W, G d W → (∀ e ∈ o.after, Region.binds .any e = true → R e.on W (vals e.on)) →
      wpOp P ops Q i (Ran act (G d) R a vals W i) (act a vals) W)
    (happ : ∀ o, ops[m]? = some o → m < fin → ∀ vals W, G false W → (∀ e ∈ o.after, Region.binds .any e = true → R e.on W (vals e.on)) →
      wpOp P ops Q m (RanG act (G true) R a vals W m) (act a vals) W)
    (hmf : m < fin)
    (hfin : ∀ vals W, G true W → (∀ j, j < fin → R j W (vals j)) → wpOp P ops Q fin (fun a' W' => Q .normal a' W') (act a vals) W) :
    (Code.region id ops true).wp P Q a w := by
  unfold lastWaits at hlast
  rw [Bool.and_eq_true, beq_iff_eq, List.all_eq_true] at hlast
  obtain ⟨hsz, hwait⟩ := hlast
  have hgen : ∀ i o, ops[i]? = some o → i < fin → ∀ d vals W, (i = m → d = false) → G d W → (∀ e ∈ o.after, Region.binds .any e = true → R e.on W (vals e.on)) →
      wpOp P ops Q i (RanG act (G (i == m || d)) R a vals W i) (act a vals) W := by
    intro i o ho hi d vals W hdm hGW hd
    by_cases him : i = m
    · subst him
      rw [hdm rfl] at hGW
      simpa using happ o ho hi vals W hGW hd
    · refine wpOp_mono (fun a'' W' h => ?_) (hstep i o ho hi him d vals W hGW hd)
      obtain ⟨v, e, hb, hG', hRi⟩ := h
      have hi' : (i == m) = false := by rw [beq_eq_false_iff_ne]; exact him
      rw [hi', Bool.false_or]
      exact ⟨v, e, hG', hRi, fun j s _ hs => hst j W W' s hb hs⟩
  refine wp_region_inv hm hdown (fun L a' W => if L fin = true then Q .normal a' W ∧ ∀ j, j < ops.size → L j = true else ∃ vals, a' = act a vals ∧ G (L m) W ∧ ∀ j, j < fin → L j = true → R j W (vals j)) ?_ ?_ ?_
  · simp only [Bool.false_eq_true, if_false]
    obtain ⟨vals, h0⟩ := h0
    exact ⟨vals, h0, hG, fun j _ h => by cases h⟩
  · intro L a' W i o hI ho hLi hd
    have hi : i < ops.size := (Array.getElem?_eq_some_iff.1 ho).1
    by_cases hf : L fin = true
    · rw [if_pos hf] at hI
      rw [hI.2 i hi] at hLi
      cases hLi
    · rw [if_neg hf] at hI
      obtain ⟨vals, rfl, hGW, hR⟩ := hI
      by_cases hif : i = fin
      · subst hif
        have hall : ∀ j, j < i → L j = true := by
          intro j hj
          have := hwait j (by simpa using hj)
          rw [ho] at this
          simp only [Option.map_some, Option.getD_some, List.any_eq_true, Bool.and_eq_true, beq_iff_eq] at this
          obtain ⟨e, he, hej, hb⟩ := this
          rw [← hej]
          exact hd e (Array.mem_toList_iff.1 he) hb
        refine wpOp_mono (fun a'' W' hQ => ?_) (hfin vals W (by rw [hall m hmf] at hGW; exact hGW) fun j hj => hR j hj (hall j hj))
        simp only [beq_self_eq_true, Bool.true_or, if_true]
        refine ⟨hQ, fun j hj => ?_⟩
        by_cases hji : j = i
        · simp [hji]
        · simp [hall j (by omega)]
      · have hlt : i < fin := by omega
        have hdn : ∀ e ∈ o.after, e.on < i := by
          intro e he
          unfold edgesDown at hdown
          have := List.all_eq_true.1 hdown i (by simpa using hi)
          rw [ho] at this
          simp only [Option.map_some, Option.getD_some, Array.all_eq_true_iff_forall_mem] at this
          simpa using this e he
        refine wpOp_mono (fun a'' W' h => ?_) (hgen i o ho hlt (L m) vals W (fun e => by rw [← e]; exact hLi) hGW fun e he hb => hR e.on (Nat.lt_trans (hdn e he) hlt) (hd e he hb))
        obtain ⟨v, rfl, hG', hRi, hoth⟩ := h
        have hne : ((fin == i) || L fin) = false := by
          have : (fin == i) = false := by rw [beq_eq_false_iff_ne]; omega
          rw [this]; simpa using hf
        rw [if_neg (show ¬ ((fin == i) || L fin) = true by rw [hne]; simp)]
        refine ⟨_, rfl, by show G (m == i || L m) W'; rw [show (m == i) = (i == m) from by rw [Bool.eq_iff_iff, beq_iff_eq, beq_iff_eq]; exact ⟨Eq.symm, Eq.symm⟩]; exact hG', fun j hj hLj => ?_⟩
        unfold upd
        by_cases hji : j = i
        · subst hji; simpa using hRi
        · rw [if_neg hji]
          have : (j == i) = false := by rw [beq_eq_false_iff_ne]; exact hji
          simp only [this, Bool.false_or] at hLj
          exact hoth j _ hji (hR j hj hLj)
  · intro L a' W hI hall
    rw [if_pos (hall fin (by omega))] at hI
    exact hI.1
end

/-- a row of n floats that the call has made, each known up to which NaN -/
def OwnF (w : World) (base : Nat) (v : Value) (n : Nat) (os : Nat → Option Nat) : Prop :=
  ∃ zs : List Nat, zs.length = n ∧ w.ownsRow base 45 1 v n (zs.map (Value.float .f32)) ∧ ∀ i, i < n → Is .f32 (zs.getD i 0) (os i)

theorem grownBy_of_below {w w' : World} (hb : Below w.heap.size w w') : w.grownBy w' none := ⟨hb.os, hb.tape, hb.output, hb.size, fun k hk _ => hb.block k hk⟩

theorem ownsRow_below {w w' : World} {base e size n : Nat} {v : Value} {xs : List Value} (h : w.ownsRow base e size v n xs) (hb : Below w.heap.size w w') : w'.ownsRow base e size v n xs :=
  h.kept (grownBy_of_below hb) (by cases hv : v.ownBlock <;> simp)

theorem OwnF.below {w w' : World} {base n : Nat} {v : Value} {os : Nat → Option Nat} (h : OwnF w base v n os) (hb : Below w.heap.size w w') : OwnF w' base v n os := by
  obtain ⟨zs, h1, h2, h3⟩ := h
  exact ⟨zs, h1, ownsRow_below h2 hb, h3⟩

theorem OwnF.congr {w : World} {base n m : Nat} {v : Value} {os os' : Nat → Option Nat} (h : OwnF w base v n os) (e : n = m) (ho : ∀ i, i < m → os i = os' i) : OwnF w base v m os' := by
  subst e
  obtain ⟨zs, h1, h2, h3⟩ := h
  exact ⟨zs, h1, h2, fun i hi => by rw [← ho i hi]; exact h3 i hi⟩

theorem box_cell {w : World} {b : Nat} {cs : Array Value} {t : TypeId} (h : w.heap[b]? = some (.cells cs t (0, 0))) (i : Nat) : w.cell? ⟨b, i, none⟩ = cs[i]? := by simp [World.cell?, h]
theorem box_free {w : World} {b : Nat} {cs : Array Value} {t : TypeId} (h : w.heap[b]? = some (.cells cs t (0, 0))) (i : Nat) : w.frozen? ⟨b, i, none⟩ = false := by simp [World.frozen?, h]
theorem box_set {w : World} {b i : Nat} {cs : Array Value} {t : TypeId} (u : Value) (h : w.heap[b]? = some (.cells cs t (0, 0))) : (w.setCell ⟨b, i, none⟩ u).heap[b]? = some (.cells (cs.setIfInBounds i u) t (0, 0)) := by
  have hlt := lt_of_block h
  have h' : w.heap[b] = .cells cs t (0, 0) := by simpa [Array.getElem?_eq_getElem hlt] using h
  show (w.heap.modify b _)[b]? = _
  rw [Array.getElem?_eq_getElem (by simpa using hlt), Array.getElem_modify_self, h']; simp

theorem own_ne_box {w : World} {base b n : Nat} {v : Value} {os : Nat → Option Nat} {cs : Array Value} (h : OwnF w base v n os) (hb : w.heap[b]? = some (.cells cs 29 (0, 0))) : v.ownBlock ≠ some b := by
  obtain ⟨zs, h1, h2, h3⟩ := h
  rcases h2.2 with ⟨rfl, -⟩ | ⟨g, cap, cur, rfl, -, hh, -⟩
  · simp [Value.ownBlock]
  · simp only [Value.ownBlock, ne_eq, Option.some.injEq]
    rintro rfl
    rw [hh] at hb
    simp at hb

theorem OwnF.setBox {w : World} {base b n : Nat} {v : Value} {os : Nat → Option Nat} {cs : Array Value} (h : OwnF w base v n os) (hb : w.heap[b]? = some (.cells cs 29 (0, 0))) (i : Nat) (u : Value) : OwnF (w.setCell ⟨b, i, none⟩ u) base v n os := by
  have hne := own_ne_box h hb
  obtain ⟨zs, h1, h2, h3⟩ := h
  exact ⟨zs, h1, ownsRow_setCell_other h2 hne u, h3⟩

theorem OwnF.nil (w : World) (base : Nat) (os : Nat → Option Nat) : OwnF w base (.slice none 0 0) 0 os := ⟨[], rfl, World.ownsRow_nil w base _ 1, fun _ hi => absurd hi (Nat.not_lt_zero _)⟩

theorem infoF4 : ∃ i, Try.prog.info? 45 = some i ∧ i.zero = some (.float .f32 0) ∧ i.size = 1 ∧ i.bytes = 4 := by
  have h := infoF
  revert h
  cases Try.prog.info? 45 with
  | none => intro h; simp at h
  | some i => intro h; simp only [Option.map_some, Option.some.injEq, Prod.mk.injEq] at h; exact ⟨i, rfl, h.1, h.2.1, h.2.2⟩

theorem OwnF.lt {w : World} {base n : Nat} {v : Value} {os : Nat → Option Nat} (h : OwnF w base v n os) : ∀ k, v.ownBlock = some k → base ≤ k ∧ k < w.heap.size := by
  obtain ⟨zs, h1, h2, h3⟩ := h
  exact h2.lt

theorem OwnF.grown {w w' : World} {base n : Nat} {v : Value} {os : Nat → Option Nat} (h : OwnF w base v n os) (hb : base ≤ w.heap.size) (hg : w.grownBy w' v.ownBlock) : Below base w w' :=
  ⟨hg.os, hg.tape, hg.output, hg.size, fun k hk => hg.block k (Nat.lt_of_lt_of_le hk hb) fun e => by have := (h.lt k e.symm).1; omega⟩

theorem OwnF.shape {w : World} {base n : Nat} {v : Value} {os : Nat → Option Nat} (h : OwnF w base v n os) : ∃ ao cap, v = .slice ao n cap := by
  obtain ⟨zs, h1, h2, h3⟩ := h
  rcases h2.2 with ⟨rfl, rfl⟩ | ⟨g, cap, cur, rfl, -⟩
  · exact ⟨_, _, rfl⟩
  · exact ⟨_, _, rfl⟩

theorem OwnF.mono {w : World} {base base' n : Nat} {v : Value} {os : Nat → Option Nat} (h : OwnF w base v n os) (hb : base' ≤ base) : OwnF w base' v n os := by
  obtain ⟨zs, h1, h2, h3⟩ := h
  refine ⟨zs, h1, ⟨h2.1, ?_⟩, h3⟩
  rcases h2.2 with e | ⟨g, cap, cur, e, hg, r⟩
  · exact .inl e
  · exact .inr ⟨g, cap, cur, e, Nat.le_trans hb hg, r⟩

/-- append of one float to the call's own row -/
theorem run_append1 {w : World} {base n : Nat} {v : Value} {os : Nat → Option Nat} {nb : Nat} {r : Nat} {ty : TypeId} (h : OwnF w base v n os) (hbase : base ≤ w.heap.size) (hn : n ≤ 1000)
    (hc : w.cell? ⟨nb, 0, none⟩ = some (.float .f32 r)) (hr : Is .f32 r (os n)) :
    ∃ v' w', (Builtin.append_ #[22, 22] ty #[v, .slice (some ⟨nb, 0, none⟩) 1 1]).run Try.prog w = .ok v' w' ∧ OwnF w' base v' (n + 1) os ∧ w.grownBy w' v.ownBlock := by
  obtain ⟨zs, h1, h2, h3⟩ := h
  obtain ⟨i, hi, hz, hs, hby⟩ := infoF4
  obtain ⟨v', w', hrun, h4, h5, -⟩ := run_append_own (P := Try.prog) (w := w) base 22 ty 45 i (.float .f32 0) 1 4 Try.underlying22 hi hz hs hby rfl (by omega) v n _ h2 ⟨nb, 0, none⟩ 1 1 [.float .f32 r] rfl
    (fun j u hj => by
      rcases j with _ | j
      · simp only [List.getElem?_cons_zero, Option.some.injEq] at hj; subst hj; exact hc
      · simp at hj)
    (fun u hu => by simp only [List.mem_singleton] at hu; subst hu; rfl) (by unfold maxLen; omega) (by omega) hbase
  refine ⟨v', w', hrun, ⟨zs ++ [r], by simp [h1], by simpa using h4, fun j hj => ?_⟩, h5⟩
  by_cases hjn : j = n
  · have e : (zs ++ [r]).getD j 0 = r := by rw [hjn, ← h1]; simp
    rw [e, hjn]
    exact hr
  · have hlt : j < zs.length := by omega
    have := h3 j (by omega)
    simpa [List.getD, List.getElem?_append_left hlt] using this

theorem wp_append1 {o : Oper} {a : Act} {w : World} {K : Act → World → Prop} {Q : Exit → Act → World → Prop} {base n : Nat} {v : Value} {os : Nat → Option Nat} {nb : Nat} {r : Nat} (s x : Operand)
    (ho : o.op = .call { callee := .builtin .append, args := #[s, x], argTypes := #[22, 22] })
    (hs : a.eval s = v) (hx : a.eval x = .slice (some ⟨nb, 0, none⟩) 1 1) (h : OwnF w base v n os) (hbase : base ≤ w.heap.size) (hn : n ≤ 1000)
    (hc : w.cell? ⟨nb, 0, none⟩ = some (.float .f32 r)) (hr : Is .f32 r (os n))
    (hK : ∀ v' w', OwnF w' base v' (n + 1) os → w.grownBy w' v.ownBlock → K (a.put o.dst v') w') : o.wp Try.prog a w K Q := by
  obtain ⟨v', w', hrun, h2, h3⟩ := run_append1 (ty := o.type) h hbase hn hc hr
  unfold Oper.wp execOp
  simp only [ho, resolve, invoke, builtin, Sem.run_bind, Sem.run_pure, Result.andThen_ok, List.map_toArray, List.map_cons, List.map_nil, hs, hx, hrun]
  exact hK v' w' h2 h3
end Go.Proofs.Ytohpklakhkfebaa
