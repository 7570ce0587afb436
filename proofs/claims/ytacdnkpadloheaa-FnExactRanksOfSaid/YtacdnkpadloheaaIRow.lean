/-
  Rows of int64 that a call has made: appends, marks, comparison.
-/
import Derived.Test.YtacdnkpadloheaaImpl
import Derived.Test.YtacdnkpadloheaaSeq
namespace Go.Proofs.Ytacdnkpadloheaa
open Go.RowKit Go.FL
theorem infoI : (Try.prog.info? 2).map (fun i => (i.zero, i.size, i.bytes)) = some (some (.int .i64 0), 1, 8) := by kernel_rfl
def OwnI (w : World) (base : Nat) (v : Value) (n : Nat) (os : Nat → Int) : Prop :=
  ∃ zs : List Int, zs.length = n ∧ w.ownsRow base 2 1 v n (zs.map (Value.int .i64)) ∧ ∀ i, i < n → zs.getD i 0 = os i

theorem OwnI.below {w w' : World} {base n : Nat} {v : Value} {os : Nat → Int} (h : OwnI w base v n os) (hb : Below w.heap.size w w') : OwnI w' base v n os := by
  obtain ⟨zs, h1, h2, h3⟩ := h
  exact ⟨zs, h1, ownsRow_below h2 hb, h3⟩

theorem OwnI.congr {w : World} {base n m : Nat} {v : Value} {os os' : Nat → Int} (h : OwnI w base v n os) (e : n = m) (ho : ∀ i, i < m → os i = os' i) : OwnI w base v m os' := by
  subst e
  obtain ⟨zs, h1, h2, h3⟩ := h
  exact ⟨zs, h1, h2, fun i hi => by rw [← ho i hi]; exact h3 i hi⟩

theorem OwnI.lt {w : World} {base n : Nat} {v : Value} {os : Nat → Int} (h : OwnI w base v n os) : ∀ k, v.ownBlock = some k → base ≤ k ∧ k < w.heap.size := by
  obtain ⟨zs, h1, h2, h3⟩ := h
  exact h2.lt

theorem OwnI.shape {w : World} {base n : Nat} {v : Value} {os : Nat → Int} (h : OwnI w base v n os) : ∃ ao cap, v = .slice ao n cap := by
  obtain ⟨zs, h1, h2, h3⟩ := h
  rcases h2.2 with ⟨rfl, rfl⟩ | ⟨g, cap, cur, rfl, -⟩
  · exact ⟨_, _, rfl⟩
  · exact ⟨_, _, rfl⟩

theorem OwnI.mono {w : World} {base base' n : Nat} {v : Value} {os : Nat → Int} (h : OwnI w base v n os) (hb : base' ≤ base) : OwnI w base' v n os := by
  obtain ⟨zs, h1, h2, h3⟩ := h
  refine ⟨zs, h1, ⟨h2.1, ?_⟩, h3⟩
  rcases h2.2 with e | ⟨g, cap, cur, e, hg, r⟩
  · exact .inl e
  · exact .inr ⟨g, cap, cur, e, Nat.le_trans hb hg, r⟩

theorem OwnI.grown {w w' : World} {base n : Nat} {v : Value} {os : Nat → Int} (h : OwnI w base v n os) (hb : base ≤ w.heap.size) (hg : w.grownBy w' v.ownBlock) : Below base w w' :=
  ⟨hg.os, hg.tape, hg.output, hg.size, fun k hk => hg.block k (Nat.lt_of_lt_of_le hk hb) fun e => by have := (h.lt k e.symm).1; omega⟩

theorem infoI4 : ∃ i, Try.prog.info? 2 = some i ∧ i.zero = some (.int .i64 0) ∧ i.size = 1 ∧ i.bytes = 8 := by
  have h := infoI
  revert h
  cases Try.prog.info? 2 with
  | none => intro h; simp at h
  | some i => intro h; simp only [Option.map_some, Option.some.injEq, Prod.mk.injEq] at h; exact ⟨i, rfl, h.1, h.2.1, h.2.2⟩

theorem run_append1I {w : World} {base n : Nat} {v : Value} {os : Nat → Int} {nb : Nat} {r : Int} {ty : TypeId} (h : OwnI w base v n os) (hbase : base ≤ w.heap.size) (hn : n ≤ 1000)
    (hc : w.cell? ⟨nb, 0, none⟩ = some (.int .i64 r)) (hr : r = os n) :
    ∃ v' w', (Builtin.append_ #[37, 37] ty #[v, .slice (some ⟨nb, 0, none⟩) 1 1]).run Try.prog w = .ok v' w' ∧ OwnI w' base v' (n + 1) os ∧ w.grownBy w' v.ownBlock := by
  obtain ⟨zs, h1, h2, h3⟩ := h
  obtain ⟨i, hi, hz, hs, hby⟩ := infoI4
  obtain ⟨v', w', hrun, h4, h5, -⟩ := run_append_own (P := Try.prog) (w := w) base 37 ty 2 i (.int .i64 0) 1 8 Try.underlying37 hi hz hs hby rfl (by omega) v n _ h2 ⟨nb, 0, none⟩ 1 1 [.int .i64 r] rfl
    (fun j u hj => by
      rcases j with _ | j
      · simp only [List.getElem?_cons_zero, Option.some.injEq] at hj; subst hj; exact hc
      · simp at hj)
    (fun u hu => by simp only [List.mem_singleton] at hu; subst hu; rfl) (by unfold maxLen; omega) (by omega) hbase
  refine ⟨v', w', hrun, ⟨zs ++ [r], by simp [h1], by simpa using h4, fun j hj => ?_⟩, h5⟩
  by_cases hjn : j = n
  · have e : (zs ++ [r]).getD j 0 = r := by rw [hjn, ← h1]; simp
    rw [e, hjn]
    exact hr
  · have hlt : j < zs.length := by omega
    have := h3 j (by omega)
    simpa [List.getD, List.getElem?_append_left hlt] using this

theorem wp_append1I {o : Oper} {a : Act} {w : World} {K : Act → World → Prop} {Q : Exit → Act → World → Prop} {base n : Nat} {v : Value} {os : Nat → Int} {nb : Nat} {r : Int} (s x : Operand)
    (ho : o.op = .call { callee := .builtin .append, args := #[s, x], argTypes := #[37, 37] })
    (hs : a.eval s = v) (hx : a.eval x = .slice (some ⟨nb, 0, none⟩) 1 1) (h : OwnI w base v n os) (hbase : base ≤ w.heap.size) (hn : n ≤ 1000)
    (hc : w.cell? ⟨nb, 0, none⟩ = some (.int .i64 r)) (hr : r = os n)
    (hK : ∀ v' w', OwnI w' base v' (n + 1) os → w.grownBy w' v.ownBlock → K (a.put o.dst v') w') : o.wp Try.prog a w K Q := by
  obtain ⟨v', w', hrun, h2, h3⟩ := run_append1I (ty := o.type) h hbase hn hc hr
  unfold Oper.wp execOp
  simp only [ho, resolve, invoke, builtin, Sem.run_bind, Sem.run_pure, Result.andThen_ok, List.map_toArray, List.map_cons, List.map_nil, hs, hx, hrun]
  exact hK v' w' h2 h3

theorem wpList_append1I {ops : Array Oper} {rest : List Oper} {o : Oper} {a : Act} {w : World} {Q : Exit → Act → World → Prop} {base n : Nat} {v : Value} {os : Nat → Int} {nb : Nat} {r : Int} (hgd : o.guard = none) (s x : Operand)
    (ho : o.op = .call { callee := .builtin .append, args := #[s, x], argTypes := #[37, 37] })
    (hs : a.eval s = v) (hx : a.eval x = .slice (some ⟨nb, 0, none⟩) 1 1) (h : OwnI w base v n os) (hbase : base ≤ w.heap.size) (hn : n ≤ 1000)
    (hc : w.cell? ⟨nb, 0, none⟩ = some (.int .i64 r)) (hr : r = os n)
    (hK : ∀ v' w', OwnI w' base v' (n + 1) os → w.grownBy w' v.ownBlock → wpList Try.prog ops Q rest (a.put o.dst v') w') : wpList Try.prog ops Q (o :: rest) a w :=
  wpList_plain hgd fun _ hK' => wp_append1I s x ho hs hx h hbase hn hc hr fun v' w' h2 h3 => hK' _ _ (hK v' w' h2 h3)


/-- a row of int64 whose block lies from lo to hi, and may be written; nil, perhaps -/
structure IRow (w : World) (lo hi : Nat) (ao : Option Addr) (len cap : Nat) (zs : List Int) : Prop where
  row : zs.length = len ∧ len ≤ cap ∧ cap ≤ maxLen
  own : (ao = none ∧ len = 0) ∨ ∃ b, ao = some ⟨b, 0, none⟩ ∧ lo ≤ b ∧ b < hi ∧ b < w.heap.size ∧ (∀ i, w.frozen? ⟨b, i, none⟩ = false) ∧ ∀ i, i < len → w.cell? ⟨b, i, none⟩ = some (.int .i64 (zs.getD i 0))

theorem IRow.mono {w : World} {lo hi lo' hi' len cap : Nat} {ao : Option Addr} {zs : List Int} (h : IRow w lo hi ao len cap zs) (h1 : lo' ≤ lo) (h2 : hi ≤ hi') : IRow w lo' hi' ao len cap zs := by
  refine ⟨h.row, ?_⟩
  rcases h.own with e | ⟨b, e, k1, k2, r⟩
  · exact .inl e
  · exact .inr ⟨b, e, by omega, by omega, r⟩
theorem IRow.only {w w' : World} {l h lo hi len cap : Nat} {ao : Option Addr} {zs : List Int} (hr : IRow w lo hi ao len cap zs) (ho : Only l h w w') (hd : hi ≤ l ∨ h ≤ lo) : IRow w' lo hi ao len cap zs := by
  refine ⟨hr.row, ?_⟩
  rcases hr.own with e | ⟨b, e, k1, k2, k3, k4, k5⟩
  · exact .inl e
  · have hb : w'.heap[b]? = w.heap[b]? := ho.block b k3 (by omega)
    exact .inr ⟨b, e, k1, k2, Nat.lt_of_lt_of_le k3 ho.size, fun i => (World.frozen?_of_block (a := ⟨b, i, none⟩) hb).trans (k4 i), fun i hi => (World.cell?_of_block (a := ⟨b, i, none⟩) hb).trans (k5 i hi)⟩
theorem IRow.below {w w' : World} {lo hi len cap : Nat} {ao : Option Addr} {zs : List Int} (hr : IRow w lo hi ao len cap zs) (ho : Below w.heap.size w w') : IRow w' lo hi ao len cap zs :=
  hr.only (Only.of (lo := hi) (hi := hi) ho) (.inl (Nat.le_refl _))
theorem OwnI.irow {w : World} {base n : Nat} {v : Value} {os : Nat → Int} (h : OwnI w base v n os) : ∃ ao cap zs, v = .slice ao n cap ∧ IRow w base w.heap.size ao n cap zs ∧ ∀ i, i < n → zs.getD i 0 = os i := by
  obtain ⟨zs, h1, h2, h3⟩ := h
  rcases h2.2 with ⟨rfl, rfl⟩ | ⟨g, cap, cur, rfl, hg, hh, hnc, hcm, hcs, htake⟩
  · exact ⟨none, 0, zs, rfl, ⟨⟨h1, Nat.le_refl _, by unfold maxLen; omega⟩, .inl ⟨rfl, rfl⟩⟩, h3⟩
  · refine ⟨_, cap, zs, rfl, ⟨⟨h1, hnc, hcm⟩, .inr ⟨g, rfl, hg, lt_of_block hh, lt_of_block hh, fun i => box_free hh i, fun i hi => ?_⟩⟩, h3⟩
    have hlt : i < zs.length := by omega
    have h4 := h2.cells (g := g) rfl i (.int .i64 (zs.getD i 0)) (by simp [List.getD, hlt])
    by_cases hi0 : i = 0
    · subst hi0
      simpa [Addr.add] using h4
    · simpa [Addr.add, hi0] using h4
def marksI (k : Int) (len : Nat) : List Int := (List.range len).map fun i : Nat => k + (i : Int)
theorem marksI_at {k : Int} {len i : Nat} (h : i < len) : (marksI k len).getD i 0 = k + i := by
  simp [marksI, List.getD, h]
theorem IRow.set {w : World} {b len cap i : Nat} {z : Int} {zs : List Int} {lo hi : Nat} (h : IRow w lo hi (some ⟨b, 0, none⟩) len cap zs) (hi' : i < len) : IRow (w.setCell ⟨b, i, none⟩ (.int .i64 z)) lo hi (some ⟨b, 0, none⟩) len cap (zs.set i z) := by
  obtain ⟨⟨h1, h2, h3⟩, hown⟩ := h
  obtain ⟨b', e, k1, k2, k3, k4, k5⟩ := hown.resolve_left (by simp)
  simp only [Option.some.injEq, Addr.mk.injEq, and_true] at e
  obtain ⟨rfl⟩ := e
  refine ⟨⟨by simpa using h1, h2, h3⟩, .inr ⟨b, rfl, k1, k2, by simpa [World.setCell] using k3, fun j => ?_, fun j hj => ?_⟩⟩
  · have := k4 j
    go_simp
  · have hcj := k5 j hj
    have hlt : j < zs.length := by omega
    by_cases hji : j = i
    · subst hji
      have hs : (zs.set j z).getD j 0 = z := by simp [List.getD, hlt]
      rw [hs]
      go_simp
    · have hs : (zs.set i z).getD j 0 = zs.getD j 0 := by simp [List.getD, Ne.symm hji]
      rw [hs]
      go_simp
theorem markInt64S (ao : Option Addr) (len cap lo hi : Nat) (zs : List Int) (k : Int) (w : World) (h : IRow w lo hi ao len cap zs) (hl : len ≤ 1048576) (k0 : 0 ≤ k) (k1 : k ≤ 1099511627776) : Calls Try.prog 37 #[.slice ao len cap, .int .i64 k] w fun e w' =>
    e = .returned (.int .i64 (k + len)) ∧ IRow w' lo hi ao len cap (marksI k len) ∧ Only lo hi w w' := by
  go_enter Try.func37, Try.ntmps37
  go_wp2
  go_loopw [1, 5] (fun kk i wr => ∃ j : Nat, ∃ ys : List Int, j ≤ len ∧ i = .int .i64 j ∧ kk = .int .i64 (k + j) ∧ IRow wr lo hi ao len cap ys ∧ (∀ i, i < j → ys.getD i 0 = k + i) ∧ Only lo hi w wr) (fun _ i _ => len - (intOf i).toNat)
  case atStart => exact ⟨0, zs, Nat.zero_le _, rfl, by simp, h, fun i hi => absurd hi (Nat.not_lt_zero _), Only.refl _ _ _⟩
  case round =>
    obtain ⟨j, ys, hj, rfl, rfl, hr, hm, ho⟩ := hrel
    by_cases hlt : j < len
    · obtain ⟨b, rfl, k1', k2', k3', k4', k5'⟩ := hr.own.resolve_left (by omega)
      have hcx := k5' j hlt
      have hfx := k4' j
      have hcap : len ≤ cap := hr.row.2.1
      have hcm : cap ≤ 9223372036854775807 := by have := hr.row.2.2; unfold maxLen at this; omega
      have HR := Lib.hid hr
      have HM := Lib.hid hm
      have HO := Lib.hid ho
      clear hr hm ho h k4' k5'
      go_wp2
      go_roundw
      case rel =>
        refine ⟨j + 1, ys.set j (k + j), by omega, rfl, by go_num, HR.out.set hlt, fun i hi => ?_, Only.setCell HO.out k1' k2' _⟩
        have hyl : ys.length = len := HR.out.row.1
        by_cases hij : i = j
        · subst hij
          simp [List.getD, hyl, hlt]
        · have hs : (ys.set j (k + j)).getD i 0 = ys.getD i 0 := by simp [List.getD, Ne.symm hij]
          rw [hs]
          exact HM.out i (by omega)
      case measure => simp [intOf]; omega
    · have hjl : j = len := by omega
      subst hjl
      have HR := Lib.hid hr
      have HM := Lib.hid hm
      have HO := Lib.hid ho
      clear hr hm ho h
      go_wp2
      go_ret
      refine ⟨rfl, ?_, HO.out⟩
      have hyl : ys.length = j := HR.out.row.1
      have : ys = marksI k j := List.ext_getElem (by simp [marksI, hyl]) fun i h1 h2 => by
        have h3 := HM.out i (by omega)
        have h4 := marksI_at (k := k) (len := j) (i := i) (by omega)
        simp only [List.getD, h1, h2, List.getElem?_eq_getElem, Option.getD_some] at h3 h4
        rw [h3, h4]
      rw [← this]
      exact HR.out
theorem heldInt64S (ao : Option Addr) (len cap lo hi : Nat) (k : Int) (w : World) (h : IRow w lo hi ao len cap (marksI k len)) (hl : len ≤ 1048576) (k0 : 0 ≤ k) (k1 : k ≤ 1099511627776) : Calls Try.prog 38 #[.slice ao len cap, .int .i64 k] w fun e w' =>
    e = .returned (.int .i64 (k + len)) ∧ ∃ n, w' = w.drewN n := by
  go_enter Try.func38, Try.ntmps38
  go_wp2
  go_loopw [1, 5] (fun kk i wr => ∃ j : Nat, j ≤ len ∧ i = .int .i64 j ∧ kk = .int .i64 (k + j) ∧ ∃ n, wr = w.drewN n) (fun _ i _ => len - (intOf i).toNat)
  case atStart => exact ⟨0, Nat.zero_le _, rfl, by simp, 0, rfl⟩
  case round =>
    obtain ⟨j, hj, rfl, rfl, n, rfl⟩ := hrel
    by_cases hlt : j < len
    · obtain ⟨b, rfl, k1', k2', k3', k4', k5'⟩ := h.own.resolve_left (by omega)
      have hcx := k5' j hlt
      rw [marksI_at hlt] at hcx
      have hcap : len ≤ cap := h.row.2.1
      have hcm : cap ≤ 9223372036854775807 := by have := h.row.2.2; unfold maxLen at this; omega
      clear h k4' k5'
      go_wp2
      go_roundw
      case rel => exact ⟨j + 1, by omega, rfl, by go_num, n, rfl⟩
      case measure => simp [intOf]; omega
    · have hjl : j = len := by omega
      subst hjl
      clear h
      go_wp2
      go_ret
      exact ⟨rfl, n, rfl⟩
end Go.Proofs.Ytacdnkpadloheaa
