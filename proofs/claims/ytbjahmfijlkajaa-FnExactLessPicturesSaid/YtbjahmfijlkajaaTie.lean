/-
  A region that draws its order and stores once, in the middle.
-/
import Derived.Test.YtbjahmfijlkajaaDown
namespace Go.Proofs.Ytbjahmfijlkajaa
open Go.FL

/-- does m wait for i? -/
def depOf (ops : Array Oper) (m i : Nat) : Bool := ((ops[m]?).map fun o => o.after.toList.any fun e => e.on == i && Region.binds .any e).getD false

/-- The storing operation has been run. -/
def RanK (act : Act → (Nat → Value) → Act) (G : World → Prop) (R : Nat → World → Value → Prop) (keep : Nat → Bool) (a : Act) (vals : Nat → Value) (W : World) (i : Nat) (a' : Act) (W' : World) : Prop :=
  ∃ v, a' = act a (upd vals i v) ∧ G W' ∧ R i W' v ∧ ∀ j s, j ≠ i → keep j = true → R j W s → R j W' s

section
variable {P : Program} {ops : Array Oper} {Q : Exit → Act → World → Prop}

theorem wp_region_keep {id : Nat} {a : Act} {w : World} (hm : P.follows .mixedOrders = true) (hdown : edgesDownB ops = true) (fin : Nat) (hlast : lastWaits ops fin = true) (m : Nat) (mk : Value) (keep : Nat → Bool)
    (act : Act → (Nat → Value) → Act) (G : Bool → World → Prop) (R : Nat → World → Value → Prop)
    (hst : ∀ j W W' v, RowKit.Below W.heap.size W W' → R j W v → R j W' v)
    (h0 : ∃ vals, a = act a vals ∧ vals m = mk) (hG : G false w.drew)
    (hstep : ∀ i o, ops[i]? = some o → i < fin → i ≠ m → ∀ d vals W, G d W → (∀ e ∈ o.after, Region.binds .any e = true → (d = true → keep e.on = true) → R e.on W (vals e.on)) → (depOf ops m i = true → d = false ∧ vals m = mk) →
      wpOp P ops Q i (Ran act (G d) R a vals W i) (act a vals) W)
    (happ : ∀ o, ops[m]? = some o → ∀ vals W, G false W → (∀ e ∈ o.after, Region.binds .any e = true → R e.on W (vals e.on)) → vals m = mk →
      wpOp P ops Q m (RanK act (G true) R keep a vals W m) (act a vals) W)
    (hmf : m < fin)
    (hfin : ∀ vals W, G true W → (∀ j, j < fin → keep j = true → R j W (vals j)) → wpOp P ops Q fin (fun a' W' => Q .normal a' W') (act a vals) W) :
    (Code.region id ops true).wp P Q a w := by
  unfold lastWaits at hlast
  rw [Bool.and_eq_true, beq_iff_eq, List.all_eq_true] at hlast
  obtain ⟨hsz, hwait⟩ := hlast
  refine wp_region_invB hm hdown (fun L a' W => if L fin = true then Q .normal a' W ∧ ∀ j, j < ops.size → L j = true else
    ∃ vals, a' = act a vals ∧ G (L m) W ∧ (∀ j, j < fin → L j = true → (L m = true → keep j = true) → R j W (vals j)) ∧ (L m = false → vals m = mk) ∧ (L m = true → ∀ j, depOf ops m j = true → L j = true)) ?_ ?_ ?_
  · simp only [Bool.false_eq_true, if_false]
    obtain ⟨vals, h0, h1⟩ := h0
    exact ⟨vals, h0, hG, fun j _ h => (by cases h), fun _ => h1, fun h => by cases h⟩
  · intro L a' W i o hI ho hLi hd
    have hi : i < ops.size := (Array.getElem?_eq_some_iff.1 ho).1
    by_cases hf : L fin = true
    · rw [if_pos hf] at hI
      rw [hI.2 i hi] at hLi
      cases hLi
    · rw [if_neg hf] at hI
      obtain ⟨vals, rfl, hGW, hR, hmk, hdep⟩ := hI
      by_cases hif : i = fin
      · subst hif
        have hall : ∀ j, j < i → L j = true := by
          intro j hj
          have := hwait j (by simpa using hj)
          rw [ho] at this
          simp only [Option.map_some, Option.getD_some, List.any_eq_true, Bool.and_eq_true, beq_iff_eq] at this
          obtain ⟨e, he, hej, hb⟩ := this
          rw [← hej]
          exact hd e (Array.mem_toList_iff.1 he) hb
        refine wpOp_mono (fun a'' W' hQ => ?_) (hfin vals W (by rw [hall m hmf] at hGW; exact hGW) fun j hj hk => hR j hj (hall j hj) fun _ => hk)
        simp only [beq_self_eq_true, Bool.true_or, if_true]
        refine ⟨hQ, fun j hj => ?_⟩
        by_cases hji : j = i
        · simp [hji]
        · simp [hall j (by omega)]
      · have hlt : i < fin := by omega
        have hdn : ∀ e ∈ o.after, Region.binds .any e = true → e.on < i := by
          intro e he hb
          unfold edgesDownB at hdown
          have := List.all_eq_true.1 hdown i (by simpa using hi)
          rw [ho] at this
          simp only [Option.map_some, Option.getD_some, Array.all_eq_true_iff_forall_mem] at this
          simpa [hb] using this e he
        have hne : ((fin == i) || L fin) = false := by
          have : (fin == i) = false := by rw [beq_eq_false_iff_ne]; omega
          rw [this]; simpa using hf
        by_cases him : i = m
        · subst him
          rw [hLi] at hGW
          have hLm : ¬ L i = true := by rw [hLi]; decide
          refine wpOp_mono (fun a'' W' h => ?_) (happ o ho vals W hGW (fun e he hb => hR e.on (Nat.lt_trans (hdn e he hb) hlt) (hd e he hb) fun h => absurd h hLm) (hmk hLi))
          obtain ⟨v, rfl, hG', hRi, hoth⟩ := h
          rw [if_neg (show ¬ ((fin == i) || L fin) = true by rw [hne]; simp)]
          refine ⟨_, rfl, by simpa using hG', fun j hj hLj hk => ?_, fun h => by simp at h, fun _ j hj => ?_⟩
          · have hk' : keep j = true := hk (by simp)
            unfold upd
            by_cases hji : j = i
            · subst hji; simpa using hRi
            · rw [if_neg hji]
              have : (j == i) = false := by rw [beq_eq_false_iff_ne]; exact hji
              simp only [this, Bool.false_or] at hLj
              exact hoth j _ hji hk' (hR j hj hLj fun h => absurd h hLm)
          · have : L j = true := by
              unfold depOf at hj
              rw [ho] at hj
              simp only [Option.map_some, Option.getD_some, List.any_eq_true, Bool.and_eq_true, beq_iff_eq] at hj
              obtain ⟨e, he, hej, hb⟩ := hj
              rw [← hej]
              exact hd e (Array.mem_toList_iff.1 he) hb
            simp [this]
        · have hmi : (m == i) = false := by rw [beq_eq_false_iff_ne]; exact Ne.symm him
          refine wpOp_mono (fun a'' W' h => ?_) (hstep i o ho hlt him (L m) vals W hGW (fun e he hb hk => hR e.on (Nat.lt_trans (hdn e he hb) hlt) (hd e he hb) hk) fun hdp => ?_)
          · obtain ⟨v, rfl, hb, hG', hRi⟩ := h
            rw [if_neg (show ¬ ((fin == i) || L fin) = true by rw [hne]; simp)]
            refine ⟨_, rfl, by simpa [hmi] using hG', fun j hj hLj hk => ?_, fun h => ?_, fun h j hj => ?_⟩
            · unfold upd
              by_cases hji : j = i
              · subst hji; simpa using hRi
              · rw [if_neg hji]
                have : (j == i) = false := by rw [beq_eq_false_iff_ne]; exact hji
                simp only [this, Bool.false_or] at hLj
                exact hst j W W' _ hb (hR j hj hLj fun h => hk (by simp [h]))
            · simp only [hmi, Bool.false_or] at h
              unfold upd
              rw [if_neg (Ne.symm him)]
              exact hmk h
            · simp only [hmi, Bool.false_or] at h
              simp [hdep h j hj]
          · cases hLm : L m with
            | false => exact ⟨rfl, hmk hLm⟩
            | true => rw [hdep hLm i hdp] at hLi; cases hLi
  · intro L a' W hI hall
    rw [if_pos (hall fin (by omega))] at hI
    exact hI.1
end
end Go.Proofs.Ytbjahmfijlkajaa
