/-
  Pictures that are handed back: rows that may be written, the marks that a law leaves in them, their comparison.
-/
import Derived.Test.YtohpklakhkfebaaOwn
namespace Go.Proofs.Ytohpklakhkfebaa
open Go.RowKit Go.FL Ieee

/-- Only blocks from lo to hi are written, and new ones are made. -/
structure Only (lo hi : Nat) (w w' : World) : Prop where
  os : w'.os = w.os
  tape : w'.tape = w.tape
  output : w'.output = w.output
  size : w.heap.size ≤ w'.heap.size
  block : ∀ k, k < w.heap.size → k < lo ∨ hi ≤ k → w'.heap[k]? = w.heap[k]?

theorem Only.refl (lo hi : Nat) (w : World) : Only lo hi w w := ⟨rfl, rfl, rfl, Nat.le_refl _, fun _ _ _ => rfl⟩
theorem Only.of {lo hi : Nat} {w w' : World} (h : Below w.heap.size w w') : Only lo hi w w' := ⟨h.os, h.tape, h.output, h.size, fun k hk _ => h.block k hk⟩
theorem Only.trans {lo hi : Nat} {a b c : World} (h : Only lo hi a b) (k : Only lo hi b c) : Only lo hi a c :=
  ⟨k.os.trans h.os, k.tape.trans h.tape, k.output.trans h.output, Nat.le_trans h.size k.size, fun i hi' ho => (k.block i (Nat.lt_of_lt_of_le hi' h.size) ho).trans (h.block i hi' ho)⟩
theorem Only.below {lo hi B : Nat} {w w' : World} (h : Only lo hi w w') (h1 : B ≤ lo) (h2 : B ≤ w.heap.size) : Below B w w' :=
  ⟨h.os, h.tape, h.output, h.size, fun k hk => h.block k (Nat.lt_of_lt_of_le hk h2) (.inl (Nat.lt_of_lt_of_le hk h1))⟩
theorem Only.cell {lo hi : Nat} {w w' : World} (h : Only lo hi w w') {p : Addr} (h1 : p.block < w.heap.size) (h2 : p.block < lo ∨ hi ≤ p.block) : w'.cell? p = w.cell? p := World.cell?_of_block (h.block _ h1 h2)
theorem Only.setCell {lo hi : Nat} {a w : World} (h : Only lo hi a w) {p : Addr} (h1 : lo ≤ p.block) (h2 : p.block < hi) (u : Value) : Only lo hi a (w.setCell p u) :=
  h.trans ⟨rfl, rfl, rfl, by simp [World.setCell], fun k _ ho => Below.heap_setCell _ _ _ _ (by omega)⟩

/-- a row whose block lies from lo to hi, and may be written; nil, perhaps -/
structure ORow (w : World) (lo hi : Nat) (ao : Option Addr) (len cap : Nat) (zs : List Nat) : Prop where
  row : IsFRow w ao len cap zs
  own : (ao = none ∧ len = 0) ∨ ∃ b, ao = some ⟨b, 0, none⟩ ∧ lo ≤ b ∧ b < hi ∧ b < w.heap.size ∧ ∀ i, w.frozen? ⟨b, i, none⟩ = false

theorem ORow.mono {w : World} {lo hi lo' hi' len cap : Nat} {ao : Option Addr} {zs : List Nat} (h : ORow w lo hi ao len cap zs) (h1 : lo' ≤ lo) (h2 : hi ≤ hi') : ORow w lo' hi' ao len cap zs := by
  refine ⟨h.row, ?_⟩
  rcases h.own with e | ⟨b, e, k1, k2, r⟩
  · exact .inl e
  · exact .inr ⟨b, e, by omega, by omega, r⟩

theorem ORow.only {w w' : World} {l h lo hi len cap : Nat} {ao : Option Addr} {zs : List Nat} (hr : ORow w lo hi ao len cap zs) (ho : Only l h w w') (hd : hi ≤ l ∨ h ≤ lo) : ORow w' lo hi ao len cap zs := by
  obtain ⟨⟨h1, h2, h3, h4, h5⟩, hown⟩ := hr
  rcases hown with ⟨rfl, rfl⟩ | ⟨b, rfl, k1, k2, k3, k4⟩
  · exact ⟨⟨h1, h2, h3, h4, .inl rfl⟩, .inl ⟨rfl, rfl⟩⟩
  · have hb : w'.heap[b]? = w.heap[b]? := ho.block b k3 (by omega)
    refine ⟨⟨h1, h2, h3, h4, ?_⟩, .inr ⟨b, rfl, k1, k2, Nat.lt_of_lt_of_le k3 ho.size, fun i => (World.frozen?_of_block (a := ⟨b, i, none⟩) hb).trans (k4 i)⟩⟩
    rcases h5 with h5 | ⟨b', off, e, hbl, hc⟩
    · exact .inl h5
    · simp only [Option.some.injEq, Addr.mk.injEq, and_true] at e
      obtain ⟨rfl, rfl⟩ := e
      exact .inr ⟨b, 0, rfl, Nat.lt_of_lt_of_le hbl ho.size, fun i hi => (World.cell?_of_block (a := ⟨b, 0 + i, none⟩) hb).trans (hc i hi)⟩

theorem ORow.below {w w' : World} {lo hi len cap : Nat} {ao : Option Addr} {zs : List Nat} (hr : ORow w lo hi ao len cap zs) (ho : Below w.heap.size w w') : ORow w' lo hi ao len cap zs :=
  hr.only (Only.of (lo := hi) (hi := hi) ho) (.inl (Nat.le_refl _))

theorem OwnF.orow {w : World} {base n : Nat} {v : Value} {os : Nat → Option Nat} (h : OwnF w base v n os) (hn : n ≤ 1000) : ∃ ao cap zs, v = .slice ao n cap ∧ ORow w base w.heap.size ao n cap zs ∧ ∀ i, i < n → Is .f32 (zs.getD i 0) (os i) := by
  obtain ⟨zs, h1, h2, h3⟩ := h
  have hz : ∀ z ∈ zs, z < 4294967296 := by
    intro z hz
    obtain ⟨i, hi, rfl⟩ := List.mem_iff_getElem.1 hz
    have := lt32 (h3 i (by omega))
    simpa [List.getD, hi] using this
  rcases h2.2 with ⟨rfl, rfl⟩ | ⟨g, cap, cur, rfl, hg, hh, hnc, hcm, hcs, htake⟩
  · exact ⟨none, 0, zs, rfl, ⟨⟨h1, Nat.le_refl _, by unfold maxLen; omega, hz, .inl rfl⟩, .inl ⟨rfl, rfl⟩⟩, h3⟩
  · refine ⟨_, cap, zs, rfl, ⟨⟨h1, hnc, hcm, hz, .inr ⟨g, 0, rfl, lt_of_block hh, fun i hi => ?_⟩⟩, .inr ⟨g, rfl, hg, lt_of_block hh, lt_of_block hh, fun i => box_free hh i⟩⟩, h3⟩
    have hlt : i < zs.length := by omega
    have h4 := h2.cells (g := g) rfl i (.float .f32 (zs.getD i 0)) (by simp [List.getD, hlt])
    rw [Nat.zero_add]
    by_cases hi0 : i = 0
    · subst hi0
      simpa [Addr.add] using h4
    · simpa [Addr.add, hi0] using h4

theorem nearest_lt (n : Int) : floatOfInt .f32 n < 4294967296 := by
  have := Format.write_lt single (.number (n < 0) n.natAbs 0)
  rw [show single.width = 32 from by decide] at this
  exact this

theorem nearest_self (n : Int) : (FloatKind.f32.format.order (floatOfInt .f32 n) (floatOfInt .f32 n) != some .eq) = false := by
  have h : rg single (floatOfInt .f32 n) ≤ single.infRung := rg_write single (d := .number (n < 0) n.natAbs 0) (by intro s t e; cases e)
  have := order_key single (by decide) _ _ h h
  rw [show FloatKind.f32.format = single from rfl, this, cmp_eq rfl]
  rfl

/-- what a law's marks are -/
def marks (k : Int) (len : Nat) : List Nat := (List.range len).map fun i : Nat => floatOfInt .f32 (k + (i : Int))

theorem marks_at {k : Int} {len i : Nat} (h : i < len) : (marks k len).getD i 0 = floatOfInt .f32 (k + i) := by
  simp [marks, List.getD, h]

/-- one cell is written -/
theorem ORow.set {w : World} {b len cap i z : Nat} {zs : List Nat} {lo hi : Nat} (h : ORow w lo hi (some ⟨b, 0, none⟩) len cap zs) (hi' : i < len) (hz : z < 4294967296) : ORow (w.setCell ⟨b, i, none⟩ (.float .f32 z)) lo hi (some ⟨b, 0, none⟩) len cap (zs.set i z) := by
  obtain ⟨⟨h1, h2, h3, h4, h5⟩, hown⟩ := h
  obtain ⟨b', e, k1, k2, k3, k4⟩ := hown.resolve_left (by simp)
  simp only [Option.some.injEq, Addr.mk.injEq, and_true] at e
  obtain ⟨rfl⟩ := e
  obtain ⟨b', off, e, hbl, hc⟩ := h5.resolve_left (by omega)
  simp only [Option.some.injEq, Addr.mk.injEq, and_true] at e
  obtain ⟨rfl, rfl⟩ := e
  refine ⟨⟨by simpa using h1, h2, h3, ?_, .inr ⟨b, 0, rfl, by simpa [World.setCell] using hbl, fun j hj => ?_⟩⟩, .inr ⟨b, rfl, k1, k2, by simpa [World.setCell] using k3, fun j => ?_⟩⟩
  · intro y hy
    rcases List.mem_or_eq_of_mem_set hy with hy | rfl
    · exact h4 y hy
    · exact hz
  · have hcj := hc j hj
    have hlt : j < zs.length := by omega
    rw [Nat.zero_add] at hcj ⊢
    by_cases hji : j = i
    · subst hji
      have hs : (zs.set j z).getD j 0 = z := by simp [List.getD, hlt]
      rw [hs]
      go_simp
    · have hs : (zs.set i z).getD j 0 = zs.getD j 0 := by simp [List.getD, Ne.symm hji]
      rw [hs]
      go_simp
  · have := k4 j
    go_simp

theorem markFloat32S (ao : Option Addr) (len cap lo hi : Nat) (zs : List Nat) (k : Int) (w : World) (h : ORow w lo hi ao len cap zs) (hl : len ≤ 1048576) (k0 : 0 ≤ k) (k1 : k ≤ 1099511627776) : Calls Try.prog 26 #[.slice ao len cap, .int .i64 k] w fun e w' =>
    e = .returned (.int .i64 (k + len)) ∧ ORow w' lo hi ao len cap (marks k len) ∧ Only lo hi w w' := by
  go_enter Try.func26, Try.ntmps26
  go_wp2
  go_loopw [1, 5] (fun kk i wr => ∃ j : Nat, ∃ ys : List Nat, j ≤ len ∧ i = .int .i64 j ∧ kk = .int .i64 (k + j) ∧ ORow wr lo hi ao len cap ys ∧ (∀ i, i < j → ys.getD i 0 = floatOfInt .f32 (k + i)) ∧ Only lo hi w wr) (fun _ i _ => len - (intOf i).toNat)
  case atStart => exact ⟨0, zs, Nat.zero_le _, rfl, by simp, h, fun i hi => absurd hi (Nat.not_lt_zero _), Only.refl _ _ _⟩
  case round =>
    obtain ⟨j, ys, hj, rfl, rfl, hr, hm, ho⟩ := hrel
    by_cases hlt : j < len
    · obtain ⟨b, rfl, k1', k2', k3', k4'⟩ := hr.own.resolve_left (by omega)
      obtain ⟨b2, off, e, hbl, hc⟩ := hr.row.2.2.2.2.resolve_left (by omega)
      simp only [Option.some.injEq, Addr.mk.injEq, and_true] at e
      obtain ⟨rfl, rfl⟩ := e
      have hcx := hc j hlt
      rw [Nat.zero_add] at hcx
      have hfx := k4' j
      have hcap : len ≤ cap := hr.row.2.1
      have hcm : cap ≤ 9223372036854775807 := by have := hr.row.2.2.1; unfold maxLen at this; omega
      have HR := Lib.hid hr
      have HM := Lib.hid hm
      have HO := Lib.hid ho
      clear hc hr hm ho h k4'
      go_wp2
      go_roundw
      case rel =>
        refine ⟨j + 1, ys.set j (floatOfInt .f32 (k + j)), by omega, rfl, by go_num, HR.out.set hlt (nearest_lt _), fun i hi => ?_, Only.setCell HO.out k1' k2' _⟩
        have hyl : ys.length = len := HR.out.row.1
        by_cases hij : i = j
        · subst hij
          simp [List.getD, hyl, hlt]
        · have hs : (ys.set j (floatOfInt .f32 (k + j))).getD i 0 = ys.getD i 0 := by simp [List.getD, Ne.symm hij]
          rw [hs]
          exact HM.out i (by omega)
      case measure => simp [intOf]; omega
    · have hjl : j = len := by omega
      subst hjl
      have HR := Lib.hid hr
      have HM := Lib.hid hm
      have HO := Lib.hid ho
      clear hr hm ho h
      go_wp2
      go_ret
      refine ⟨rfl, ?_, HO.out⟩
      have hyl : ys.length = j := HR.out.row.1
      have : ys = marks k j := List.ext_getElem (by simp [marks, hyl]) fun i h1 h2 => by
        have h3 := HM.out i (by omega)
        have h4 := marks_at (k := k) (len := j) (i := i) (by omega)
        simp only [List.getD, h1, h2, List.getElem?_eq_getElem, Option.getD_some] at h3 h4
        rw [h3, h4]
      rw [← this]
      exact HR.out

theorem heldFloat32S (ao : Option Addr) (len cap lo hi : Nat) (k : Int) (w : World) (h : ORow w lo hi ao len cap (marks k len)) (hl : len ≤ 1048576) (k0 : 0 ≤ k) (k1 : k ≤ 1099511627776) : Calls Try.prog 27 #[.slice ao len cap, .int .i64 k] w fun e w' =>
    e = .returned (.int .i64 (k + len)) ∧ ∃ n, w' = w.drewN n := by
  go_enter Try.func27, Try.ntmps27
  go_wp2
  go_loopw [1, 5] (fun kk i wr => ∃ j : Nat, j ≤ len ∧ i = .int .i64 j ∧ kk = .int .i64 (k + j) ∧ ∃ n, wr = w.drewN n) (fun _ i _ => len - (intOf i).toNat)
  case atStart => exact ⟨0, Nat.zero_le _, rfl, by simp, 0, rfl⟩
  case round =>
    obtain ⟨j, hj, rfl, rfl, n, rfl⟩ := hrel
    by_cases hlt : j < len
    · obtain ⟨b, rfl, k1', k2', k3', k4'⟩ := h.own.resolve_left (by omega)
      obtain ⟨b2, off, e, hbl, hc⟩ := h.row.2.2.2.2.resolve_left (by omega)
      simp only [Option.some.injEq, Addr.mk.injEq, and_true] at e
      obtain ⟨rfl, rfl⟩ := e
      have hcx := hc j hlt
      rw [Nat.zero_add, marks_at hlt] at hcx
      have hcap : len ≤ cap := h.row.2.1
      have hcm : cap ≤ 9223372036854775807 := by have := h.row.2.2.1; unfold maxLen at this; omega
      have ho := nearest_self (k + j)
      have HH := Lib.hid h
      clear hc h k4'
      go_wp2
      go_roundw
      case rel => exact ⟨j + 1, by omega, rfl, by go_num, n, rfl⟩
      case measure => simp [intOf]; omega
    · have hjl : j = len := by omega
      subst hjl
      clear h
      go_wp2
      go_ret
      exact ⟨rfl, n, rfl⟩
end Go.Proofs.Ytohpklakhkfebaa
