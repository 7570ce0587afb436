/-
  A region that draws its order, some of whose edges bind no order.
-/
import Derived.Test.YtbjahmfijlkajaaFloat
namespace Go.Proofs.Ytbjahmfijlkajaa
open Go.FL
section
variable {P : Program} {ops : Array Oper} {Q : Exit → Act → World → Prop}

theorem wpAny_invB (Inv : (Nat → Bool) → Act → World → Prop)
    (hstep : ∀ (L : Nat → Bool) a w i o, Inv L a w → ops[i]? = some o → L i = false → (∀ e ∈ o.after, Region.binds .any e = true → L e.on = true) →
      wpOp P ops Q i (fun a' w' => Inv (fun j => j == i || L j) a' w') a w)
    (hend : ∀ (L : Nat → Bool) a w, Inv L a w → (∀ i, i < ops.size → L i = true) → Q .normal a w)
    (hdown : ∀ (i : Nat) (o : Oper), ops[i]? = some o → ∀ e ∈ o.after, Region.binds .any e = true → e.on < i) :
    ∀ (fuel : Nat) (listed : Array Bool) (a : Act) (w : World), listed.size = ops.size → listed.toList.countP (!·) ≤ fuel → Inv (fun j => listed.getD j true) a w → wpAny P .any ops Q fuel listed a w := by
  have hall : ∀ (listed : Array Bool), listed.size = ops.size → Region.ready .any ops listed = [] → ∀ i, i < ops.size → listed.getD i true = true := by
    intro listed hsz hr i
    induction i using Nat.strongRecOn with
    | ind i ih =>
      intro hi
      cases hc : listed.getD i true with
      | true => rfl
      | false =>
        exfalso
        have hm : i ∈ Region.ready .any ops listed := by
          refine mem_ready.2 ⟨hc, ops[i], by simp [hi], fun e he hb => ?_⟩
          have h1 := hdown i ops[i] (by simp [hi]) e he hb
          have h2 := ih e.on h1 (by omega)
          rw [Array.getD_eq_getD_getElem?] at h2 ⊢
          rw [Array.getElem?_eq_getElem (by omega)] at h2 ⊢
          exact h2
        rw [hr] at hm
        cases hm
  intro fuel
  induction fuel with
  | zero =>
    intro listed a w hsz hcnt hI
    have h0 : ∀ i, i < ops.size → listed.getD i true = true := by
      intro i hi
      have := List.countP_eq_zero.1 (Nat.le_zero.1 hcnt) (listed[i]'(by omega)) (by simp)
      simp only [Array.getD_eq_getD_getElem?]
      rw [Array.getElem?_eq_getElem (by omega)]
      simpa using this
    have hr : Region.ready .any ops listed = [] := by
      rw [List.eq_nil_iff_forall_not_mem]
      intro j hj
      obtain ⟨h1, o, h2, _⟩ := mem_ready.1 hj
      have hj' : j < ops.size := (Array.getElem?_eq_some_iff.1 h2).1
      rw [h0 j hj'] at h1
      cases h1
    exact ⟨hr, hend _ a w hI h0⟩
  | succ fuel ih =>
    intro listed a w hsz hcnt hI
    refine ⟨fun hr => hend _ a w hI (hall listed hsz hr), fun i hi => ?_⟩
    obtain ⟨h1, o, h2, h3⟩ := mem_ready.1 hi
    have hi' : i < ops.size := (Array.getElem?_eq_some_iff.1 h2).1
    have hs := hstep _ a w i o hI h2 h1 (fun e he hb => by
      have h4 := h3 e he hb
      simp only [Array.getD_eq_getD_getElem?] at h4 ⊢
      cases hx : listed[e.on]? with
      | none => rw [hx] at h4; simp at h4
      | some x => rw [hx] at h4; simpa using h4)
    refine wpOp_mono (fun a' w' hI' => ih _ a' w' (by simpa using hsz) ?_ ?_) hs
    · have hli : listed[i]'(by omega) = false := by
        simp only [Array.getD_eq_getD_getElem?] at h1
        rw [Array.getElem?_eq_getElem (by omega)] at h1
        simpa using h1
      have hset : (listed.setIfInBounds i true).toList = listed.toList.set i true := by simp
      rw [hset, List.countP_set (by simpa using (by omega : i < listed.size))]
      simp only [hli, Array.getElem_toList, Bool.not_false, Bool.not_true]
      have : 0 < listed.toList.countP (!·) := List.countP_pos_iff.2 ⟨listed[i]'(by omega), by simp, by simp [hli]⟩
      simp
      simp at this hcnt
      omega
    · have : (fun j => (listed.setIfInBounds i true).getD j true) = fun j => j == i || listed.getD j true := by
        funext j
        simp only [Array.getD_eq_getD_getElem?, Array.getElem?_setIfInBounds]
        by_cases hj : j = i
        · subst hj
          have : j < listed.size := by omega
          simp [this]
        · have : ¬ i = j := fun h => hj h.symm
          simp [hj, this]
      rw [this]
      exact hI'

/-- the edges lead back -/
def edgesDownB (ops : Array Oper) : Bool := (List.range ops.size).all fun i => ((ops[i]?).map fun o => o.after.all fun e => !(Region.binds .any e) || decide (e.on < i)).getD true

/-- A REGION THAT DRAWS ITS ORDER: 'Inv L' says what is known when the operations in L have been carried out. -/
theorem wp_region_invB {id : Nat} {a : Act} {w : World} (hm : P.follows .mixedOrders = true) (hdown : edgesDownB ops = true) (Inv : (Nat → Bool) → Act → World → Prop)
    (h0 : Inv (fun _ => false) a w.drew)
    (hstep : ∀ (L : Nat → Bool) a w i o, Inv L a w → ops[i]? = some o → L i = false → (∀ e ∈ o.after, Region.binds .any e = true → L e.on = true) →
      wpOp P ops Q i (fun a' w' => Inv (fun j => j == i || L j) a' w') a w)
    (hend : ∀ (L : Nat → Bool) a w, Inv L a w → (∀ i, i < ops.size → L i = true) → Q .normal a w) : (Code.region id ops true).wp P Q a w := by
  have hd : ∀ (i : Nat) (o : Oper), ops[i]? = some o → ∀ e ∈ o.after, Region.binds .any e = true → e.on < i := by
    intro i o ho e he hb
    have hi : i < ops.size := (Array.getElem?_eq_some_iff.1 ho).1
    have := List.all_eq_true.1 hdown i (by simpa using hi)
    rw [ho] at this
    simp only [Option.map_some, Option.getD_some, Array.all_eq_true_iff_forall_mem] at this
    simpa [hb] using this e he
  -- whatever lies outside the region counts as carried out
  refine wp_region_any hm (wpAny_invB (fun L a w => ∃ L', (∀ i, i < ops.size → L' i = L i) ∧ Inv L' a w) ?_ ?_ hd ops.size _ a _ (by simp) (by simp [List.countP_replicate]) ⟨fun _ => false, fun i hi => by simp [hi], h0⟩)
  · rintro L a w i o ⟨L', hL, hI⟩ ho hLi hdep
    have hi : i < ops.size := (Array.getElem?_eq_some_iff.1 ho).1
    refine wpOp_mono (fun a' w' hI' => ⟨_, ?_, hI'⟩) (hstep L' a w i o hI ho (by rw [hL i hi]; exact hLi) (fun e he hb => by rw [hL e.on (Nat.lt_trans (hd i o ho e he hb) hi)]; exact hdep e he hb))
    intro j hj
    simp only [hL j hj]
  · rintro L a w ⟨L', hL, hI⟩ hall
    exact hend L' a w hI (fun i hi => by rw [hL i hi]; exact hall i hi)

/-- A REGION THAT DRAWS ITS ORDER, whose operations make new blocks at most: each operation is run once, and behind the region the values of all are known. -/
theorem wp_region_allB {id : Nat} {a : Act} {w : World} (hm : P.follows .mixedOrders = true) (hdown : edgesDownB ops = true) (n : Nat) (hsz : (ops.size == n) = true)
    (act : Act → (Nat → Value) → Act) (G : World → Prop) (R : Nat → World → Value → Prop)
    (hst : ∀ j W W' v, RowKit.Below W.heap.size W W' → R j W v → R j W' v)
    (h0 : ∃ vals, a = act a vals) (hG : G w.drew)
    (hstep : ∀ i o, ops[i]? = some o → i < n → ∀ vals W, G W → (∀ e ∈ o.after, Region.binds .any e = true → R e.on W (vals e.on)) →
      wpOp P ops Q i (Ran act G R a vals W i) (act a vals) W)
    (hfin : ∀ vals W, G W → (∀ j, j < n → R j W (vals j)) → Q .normal (act a vals) W) :
    (Code.region id ops true).wp P Q a w := by
  rw [beq_iff_eq] at hsz
  refine wp_region_invB hm hdown (fun L a' W => ∃ vals, a' = act a vals ∧ G W ∧ ∀ j, j < n → L j = true → R j W (vals j)) ?_ ?_ ?_
  · obtain ⟨vals, h0⟩ := h0
    exact ⟨vals, h0, hG, fun j _ h => by cases h⟩
  · intro L a' W i o hI ho hLi hd
    have hi : i < ops.size := (Array.getElem?_eq_some_iff.1 ho).1
    obtain ⟨vals, rfl, hGW, hR⟩ := hI
    have hdn : ∀ e ∈ o.after, Region.binds .any e = true → e.on < i := by
      intro e he hb
      unfold edgesDownB at hdown
      have := List.all_eq_true.1 hdown i (by simpa using hi)
      rw [ho] at this
      simp only [Option.map_some, Option.getD_some, Array.all_eq_true_iff_forall_mem] at this
      simpa [hb] using this e he
    refine wpOp_mono (fun a'' W' h => ?_) (hstep i o ho (by omega) vals W hGW fun e he hb => hR e.on (by have := hdn e he hb; omega) (hd e he hb))
    obtain ⟨v, rfl, hb, hG', hRi⟩ := h
    refine ⟨_, rfl, hG', fun j hj hLj => ?_⟩
    unfold upd
    by_cases hji : j = i
    · subst hji; simpa using hRi
    · rw [if_neg hji]
      have : (j == i) = false := by rw [beq_eq_false_iff_ne]; exact hji
      simp only [this, Bool.false_or] at hLj
      exact hst j W W' _ hb (hR j hj hLj)
  · intro L a' W hI hall
    obtain ⟨vals, rfl, hGW, hR⟩ := hI
    exact hfin vals W hGW fun j hj => hR j hj (hall j (by omega))
end
end Go.Proofs.Ytbjahmfijlkajaa
