/-
  The levels of a pyramid, and a row of pictures that a call builds.
-/
import Derived.Test.YtohpklakhkfebaaPyrE
import Derived.Test.YtohpklakhkfebaaPyrH
import Derived.Test.YtohpklakhkfebaaCopy
import Derived.Maps.AppendAt
namespace Go.Proofs.Ytohpklakhkfebaa
open Go.RowKit Go.FL

/-- the grey about a place, known up to which NaN -/
def greyO (os : Nat → Option Nat) (W H : Nat) (n m : Int) : Option Nat := os (cl n W + W * cl m H)
theorem greyO_of (zs : List Nat) (W H : Nat) (n m : Int) : ab .f32 (grey zs W H n m) = greyO (fun i => ab .f32 (zs.getD i 0)) W H n m := rfl
theorem greyO_congr {os os' : Nat → Option Nat} {W H len : Nat} (hl : len = W * H) (hW : 1 ≤ W ∧ W ≤ 24) (hH : 1 ≤ H ∧ H ≤ 24) (h : ∀ i, i < len → os i = os' i) (n m : Int) : greyO os W H n m = greyO os' W H n m := by
  obtain ⟨u, v, t, i, hu, hv, -, -, -, -, hil, hie, -, -⟩ := place hl hW hH n m
  unfold greyO
  rw [hu, hv, ← hie]
  exact h i hil
/-- the level above: half the size -/
def halveO (os : Nat → Option Nat) (W H : Nat) : Nat → Option Nat :=
  osXY ((W + 1) / 2) (fun (x y : Nat) => oop .mul .f32 (ab .f32 1048576000) (oop .add .f32 (oop .add .f32 (oop .add .f32 (greyO os W H (2 * x) (2 * y)) (greyO os W H (2 * x + 1) (2 * y))) (greyO os W H (2 * x) (2 * y + 1))) (greyO os W H (2 * x + 1) (2 * y + 1))))
theorem halveO_congr {os os' : Nat → Option Nat} {W H len : Nat} (hl : len = W * H) (hW : 1 ≤ W ∧ W ≤ 24) (hH : 1 ≤ H ∧ H ≤ 24) (h : ∀ i, i < len → os i = os' i) : halveO os W H = halveO os' W H := by
  unfold halveO
  simp only [greyO_congr hl hW hH h]
def lvlN (W : Nat) : Nat → Nat
  | 0 => W
  | k + 1 => (lvlN W k + 1) / 2
def lvlO (os : Nat → Option Nat) (W H : Nat) : Nat → Nat → Option Nat
  | 0 => os
  | k + 1 => halveO (lvlO os W H k) (lvlN W k) (lvlN H k)
/-- the pictures are a pyramid's levels -/
def LvOk (os : Nat → Option Nat) (W H : Nat) (ds : List PD) : Prop := ∀ (i : Nat) (d : PD), ds[i]? = some d → d.W = lvlN W i ∧ d.H = lvlN H i ∧ d.len = d.W * d.H ∧ (1 ≤ d.W ∧ d.W ≤ 24) ∧ (1 ≤ d.H ∧ d.H ≤ 24) ∧ ∀ j, j < d.len → ab .f32 (d.zs.getD j 0) = lvlO os W H i j
theorem LvOk.same {os : Nat → Option Nat} {W H : Nat} {ds es : List PD} (h : LvOk os W H ds) (k : LvOk os W H es) : SameP ds es := by
  intro i d e hd he
  obtain ⟨a1, a2, a3, -, -, a6⟩ := h i d hd
  obtain ⟨b1, b2, b3, -, -, b6⟩ := k i e he
  have hl : d.len = e.len := by rw [a3, b3, a1, a2, b1, b2]
  exact ⟨a1.trans b1.symm, a2.trans b2.symm, hl, fun j hj => (a6 j hj).trans (b6 j (by omega)).symm⟩
theorem LvOk.snoc {os : Nat → Option Nat} {W H : Nat} {ds : List PD} {d e : PD} {i : Nat} (h : LvOk os W H ds) (hd : ds[i]? = some d) (hl : ds.length = i + 1)
    (h1 : e.W = (d.W + 1) / 2) (h2 : e.H = (d.H + 1) / 2) (h3 : e.len = e.W * e.H) (h4 : ∀ j, j < e.len → ab .f32 (e.zs.getD j 0) = halveO (fun j => ab .f32 (d.zs.getD j 0)) d.W d.H j) : LvOk os W H (ds ++ [e]) := by
  obtain ⟨a1, a2, a3, a4, a5, a6⟩ := h i d hd
  intro j f hf
  by_cases hj : j < ds.length
  · rw [List.getElem?_append_left hj] at hf
    exact h j f hf
  · rw [List.getElem?_append_right (by omega)] at hf
    have hj0 : j - ds.length = 0 := by
      rcases hq : j - ds.length with _ | q
      · rfl
      · rw [hq] at hf; simp at hf
    rw [hj0] at hf
    simp at hf
    subst hf
    obtain rfl : j = i + 1 := by omega
    refine ⟨by rw [h1, a1]; rfl, by rw [h2, a2]; rfl, h3, by omega, by omega, fun j hj => ?_⟩
    rw [h4 j hj, halveO_congr a3 a4 a5 a6, a1, a2]
    rfl

def PD.cells (d : PD) : List Value := [.int .i64 d.W, .int .i64 d.H, .slice (some ⟨d.g, 0, none⟩) d.len d.cap]
def flatP : List PD → List Value
  | [] => []
  | d :: r => d.cells ++ flatP r
theorem flatP_snoc (ds : List PD) (d : PD) : flatP (ds ++ [d]) = flatP ds ++ d.cells := by
  induction ds with
  | nil => simp [flatP]
  | cons e r ih => rw [List.cons_append, flatP, ih, flatP, List.append_assoc]
theorem flatP_len (ds : List PD) : (flatP ds).length = ds.length * 3 := by
  induction ds with
  | nil => rfl
  | cons e r ih => rw [flatP, List.length_append, ih, List.length_cons]; simp [PD.cells]; omega
theorem flatP_at {ds : List PD} {i : Nat} {d : PD} (h : ds[i]? = some d) : (flatP ds)[i * 3]? = some (.int .i64 d.W) ∧ (flatP ds)[i * 3 + 1]? = some (.int .i64 d.H) ∧ (flatP ds)[i * 3 + 2]? = some (.slice (some ⟨d.g, 0, none⟩) d.len d.cap) := by
  induction ds generalizing i with
  | nil => simp at h
  | cons e r ih =>
    rcases i with _ | i
    · simp at h; subst h; exact ⟨rfl, rfl, rfl⟩
    · have hq := ih (i := i) (by simpa using h)
      have hl : e.cells.length = 3 := rfl
      rw [flatP]
      refine ⟨?_, ?_, ?_⟩
      · rw [List.getElem?_append_right (by omega), hl, show (i + 1) * 3 - 3 = i * 3 by omega]; exact hq.1
      · rw [List.getElem?_append_right (by omega), hl, show (i + 1) * 3 + 1 - 3 = i * 3 + 1 by omega]; exact hq.2.1
      · rw [List.getElem?_append_right (by omega), hl, show (i + 1) * 3 + 2 - 3 = i * 3 + 2 by omega]; exact hq.2.2

/-- a row of pictures that the call builds -/
structure BRow (w : World) (base : Nat) (v : Value) (ds : List PD) : Prop where
  own : w.ownsRow base 29 3 v ds.length (flatP ds)
  inn : ∀ (i : Nat) (d : PD), ds[i]? = some d → base ≤ d.g ∧ d.len ≤ 576 ∧ v.ownBlock ≠ some d.g ∧ ORow w d.g (d.g + 1) (some ⟨d.g, 0, none⟩) d.len d.cap d.zs
  nod : ∀ (i j : Nat) (d e : PD), ds[i]? = some d → ds[j]? = some e → i ≠ j → d.g ≠ e.g
theorem ORow.lt {w : World} {lo hi g len cap : Nat} {zs : List Nat} (h : ORow w lo hi (some ⟨g, 0, none⟩) len cap zs) : g < w.heap.size := by
  obtain ⟨b, e, -, -, k3, -⟩ := h.own.resolve_left (by simp)
  simp only [Option.some.injEq, Addr.mk.injEq, and_true] at e
  obtain ⟨rfl⟩ := e
  exact k3
theorem BRow.below {w w' : World} {base : Nat} {v : Value} {ds : List PD} (h : BRow w base v ds) (hb : Below w.heap.size w w') : BRow w' base v ds :=
  ⟨ownsRow_below h.own hb, fun i d hd => by
    obtain ⟨k1, k2, k3, k4⟩ := h.inn i d hd
    exact ⟨k1, k2, k3, k4.below hb⟩, h.nod⟩
theorem BRow.lt {w : World} {base : Nat} {v : Value} {ds : List PD} (h : BRow w base v ds) {i : Nat} {d : PD} (hd : ds[i]? = some d) : d.g < w.heap.size := (h.inn i d hd).2.2.2.lt
theorem BRow.shape {w : World} {base : Nat} {v : Value} {ds : List PD} (h : BRow w base v ds) (h0 : ds ≠ []) : ∃ b cap, v = .slice (some ⟨b, 0, none⟩) ds.length cap ∧ PRow w base w.heap.size b ds.length cap ds := by
  have h2 := h.own
  rcases h2.2 with ⟨rfl, e⟩ | ⟨g, cap, cur, rfl, hg, hh, hnc, hcm, hcs, htake⟩
  · exact absurd (List.length_eq_zero_iff.1 e) h0
  · refine ⟨g, cap, rfl, ⟨⟨rfl, hnc, hcm⟩, ⟨hg, lt_of_block hh, lt_of_block hh, fun i => box_free hh i⟩, fun i d hd => ?_, fun i d hd => ?_, h.nod⟩⟩
    · have hc : ∀ j u, (flatP ds)[j]? = some u → w.cell? ⟨g, j, none⟩ = some u := by
        intro j u hu
        have := h2.cells (g := g) rfl j u hu
        by_cases hj : j = 0
        · subst hj; simpa [Addr.add] using this
        · simpa [Addr.add, hj] using this
      obtain ⟨q0, q1, q2⟩ := flatP_at hd
      exact ⟨hc _ _ q0, hc _ _ q1, hc _ _ q2⟩
    · obtain ⟨k1, k2, k3, k4⟩ := h.inn i d hd
      exact ⟨k1, k4.lt, k2, fun e => k3 (by rw [e]; rfl), k4⟩
theorem infoP : (Try.prog.info? 29).map (fun i => (i.zero, i.size, i.bytes)) = some (some (.agg #[.int .i64 0, .int .i64 0, .slice none 0 0]), 3, 40) := by kernel_rfl
theorem infoP4 : ∃ i, Try.prog.info? 29 = some i ∧ i.zero = some (.agg #[.int .i64 0, .int .i64 0, .slice none 0 0]) ∧ i.size = 3 ∧ i.bytes = 40 := by
  have h := infoP
  revert h
  cases Try.prog.info? 29 with
  | none => intro h; simp at h
  | some i => intro h; simp only [Option.map_some, Option.some.injEq, Prod.mk.injEq] at h; exact ⟨i, rfl, h.1, h.2.1, h.2.2⟩
/-- append of one picture -/
theorem wpList_appendP {ops : Array Oper} {rest : List Oper} {o : Oper} {a : Act} {w : World} {Q : Exit → Act → World → Prop} {base : Nat} {v : Value} {ds : List PD} {d : PD} {nb c : Nat} (hgd : o.guard = none) (s x : Operand)
    (ho : o.op = .call { callee := .builtin .append, args := #[s, x], argTypes := #[26, 26] })
    (hs : a.eval s = v) (hx : a.eval x = .slice (some ⟨nb, 0, none⟩) 1 c) (h : BRow w base v ds) (hbase : base ≤ w.heap.size) (hn : ds.length ≤ 100)
    (hc : w.cell? ⟨nb, 0, none⟩ = some (.int .i64 d.W) ∧ w.cell? ⟨nb, 1, none⟩ = some (.int .i64 d.H) ∧ w.cell? ⟨nb, 2, none⟩ = some (.slice (some ⟨d.g, 0, none⟩) d.len d.cap))
    (hd : base ≤ d.g ∧ d.len ≤ 576 ∧ v.ownBlock ≠ some d.g ∧ ORow w d.g (d.g + 1) (some ⟨d.g, 0, none⟩) d.len d.cap d.zs) (hnew : ∀ (i : Nat) (e : PD), ds[i]? = some e → e.g ≠ d.g)
    (hK : ∀ v' w', BRow w' base v' (ds ++ [d]) → Below base w w' → wpList Try.prog ops Q rest (a.put o.dst v') w') : wpList Try.prog ops Q (o :: rest) a w := by
  obtain ⟨i, hi, hz, hsz, hb⟩ := infoP4
  have hcells : ∀ (j : Nat) (u : Value), d.cells[j]? = some u → w.cell? ((⟨nb, 0, none⟩ : Addr).add j) = some u := by
    intro j u hu
    rcases j with _ | _ | _ | j
    · simp [PD.cells] at hu; subst hu; simpa [Addr.add] using hc.1
    · simp [PD.cells] at hu; subst hu; simpa [Addr.add] using hc.2.1
    · simp [PD.cells] at hu; subst hu; simpa [Addr.add] using hc.2.2
    · simp [PD.cells] at hu
  obtain ⟨v', w', hrun, h4, h5, -, h6⟩ := run_append_own_at (P := Try.prog) (w := w) base 26 o.type 29 i (.agg #[.int .i64 0, .int .i64 0, .slice none 0 0]) 3 40 Try.underlying26 hi hz hsz hb rfl (by omega) v ds.length (flatP ds) h.own ⟨nb, 0, none⟩ 1 c d.cells rfl hcells
    (fun y hy => by simp only [PD.cells, List.mem_cons, List.not_mem_nil, or_false] at hy; rcases hy with rfl | rfl | rfl <;> rfl) (by unfold maxLen; omega) (by omega) hbase
  have hkeep : ∀ (e : PD), v.ownBlock ≠ some e.g → ORow w e.g (e.g + 1) (some ⟨e.g, 0, none⟩) e.len e.cap e.zs → v'.ownBlock ≠ some e.g ∧ ORow w' e.g (e.g + 1) (some ⟨e.g, 0, none⟩) e.len e.cap e.zs := by
    intro e hne hr
    refine ⟨?_, hr.block (h5.block e.g hr.lt (fun q => hne q.symm)) h5.size⟩
    rcases h6 with h6 | h6
    · rw [h6]; exact hne
    · rw [h6]; intro q; have := hr.lt; simp at q; omega
  refine wpList_plain hgd fun _ hK' => ?_
  unfold Oper.wp execOp
  simp only [ho, resolve, invoke, builtin, Sem.run_bind, Sem.run_pure, Result.andThen_ok, List.map_toArray, List.map_cons, List.map_nil, hs, hx, hrun]
  refine hK' _ _ (hK v' w' ⟨by rw [List.length_append, flatP_snoc]; exact h4, fun j e he => ?_, fun j k e f he hf hjk => ?_⟩ ⟨h5.os, h5.tape, h5.output, h5.size, fun k hk => h5.block k (Nat.lt_of_lt_of_le hk hbase) fun q => ?_⟩)
  · by_cases hj : j < ds.length
    · rw [List.getElem?_append_left hj] at he
      obtain ⟨k1, k2, k3, k4⟩ := h.inn j e he
      obtain ⟨q1, q2⟩ := hkeep e k3 k4
      exact ⟨k1, k2, q1, q2⟩
    · rw [List.getElem?_append_right (by omega)] at he
      rcases hq : j - ds.length with _ | q
      · rw [hq] at he; simp at he; subst he
        obtain ⟨q1, q2⟩ := hkeep d hd.2.2.1 hd.2.2.2
        exact ⟨hd.1, hd.2.1, q1, q2⟩
      · rw [hq] at he; simp at he
  · have hat : ∀ (j : Nat) (e : PD), (ds ++ [d])[j]? = some e → (j < ds.length ∧ ds[j]? = some e) ∨ (j = ds.length ∧ e = d) := by
      intro j e he
      by_cases hj : j < ds.length
      · rw [List.getElem?_append_left hj] at he; exact .inl ⟨hj, he⟩
      · rw [List.getElem?_append_right (by omega)] at he
        rcases hq : j - ds.length with _ | q
        · rw [hq] at he; simp at he; exact .inr ⟨by omega, he.symm⟩
        · rw [hq] at he; simp at he
    rcases hat j e he with ⟨a1, a2⟩ | ⟨a1, rfl⟩
    · rcases hat k f hf with ⟨b1, b2⟩ | ⟨b1, rfl⟩
      · exact h.nod j k e f a2 b2 hjk
      · exact hnew j e a2
    · rcases hat k f hf with ⟨b1, b2⟩ | ⟨b1, rfl⟩
      · exact (hnew k f b2).symm
      · omega
  · have := (h.own.lt k q.symm).1
    omega
theorem BRow.one {w : World} {base b : Nat} {d : PD} (hb : w.heap[b]? = some (.cells #[.int .i64 d.W, .int .i64 d.H, .slice (some ⟨d.g, 0, none⟩) d.len d.cap] 29 (0, 0))) (hbb : base ≤ b) (hd : base ≤ d.g ∧ d.len ≤ 576 ∧ b ≠ d.g ∧ ORow w d.g (d.g + 1) (some ⟨d.g, 0, none⟩) d.len d.cap d.zs) : BRow w base (.slice (some ⟨b, 0, none⟩) 1 1) [d] := by
  refine ⟨⟨rfl, .inr ⟨b, 1, #[.int .i64 d.W, .int .i64 d.H, .slice (some ⟨d.g, 0, none⟩) d.len d.cap], rfl, hbb, hb, Nat.le_refl _, by unfold maxLen; omega, rfl, rfl⟩⟩, fun i e he => ?_, fun i j e f he hf hij => ?_⟩
  · rcases i with _ | i
    · simp at he; subst he
      exact ⟨hd.1, hd.2.1, fun q => hd.2.2.1 (by simpa [Value.ownBlock] using q), hd.2.2.2⟩
    · simp at he
  · rcases i with _ | i
    · rcases j with _ | j
      · omega
      · simp at hf
    · simp at he
theorem ORow.narrow {w : World} {lo hi len cap : Nat} {ao : Option Addr} {zs : List Nat} (h : ORow w lo hi ao len cap zs) (h0 : 1 ≤ len) : ∃ g, ao = some ⟨g, 0, none⟩ ∧ lo ≤ g ∧ g < hi ∧ ORow w g (g + 1) (some ⟨g, 0, none⟩) len cap zs := by
  obtain ⟨b, rfl, k1, k2, k3, k4⟩ := h.own.resolve_left (by omega)
  exact ⟨b, rfl, k1, k2, ⟨h.row, .inr ⟨b, rfl, Nat.le_refl _, Nat.lt_succ_self _, k3, k4⟩⟩⟩
end Go.Proofs.Ytohpklakhkfebaa
