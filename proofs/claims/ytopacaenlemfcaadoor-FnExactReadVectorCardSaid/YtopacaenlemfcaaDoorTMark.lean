/-
  Rows that are handed back: rows of floats and of int64 that may be written, the marks that a law leaves in them, their comparison.
-/
import Derived.Test.YtopacaenlemfcaaDoorRow
import Derived.Test.YtopacaenlemfcaaDoorText
import Derived.BigQuiet
import Derived.Deep.QuietTactic
namespace Go.Proofs.YtopacaenlemfcaaDoor
open Go.RowKit Go.FL Go.TX Ieee
theorem box_cell {w : World} {b : Nat} {cs : Array Value} {t : TypeId} (h : w.heap[b]? = some (.cells cs t (0, 0))) (i : Nat) : w.cell? ⟨b, i, none⟩ = cs[i]? := by simp [World.cell?, h]
theorem box_free {w : World} {b : Nat} {cs : Array Value} {t : TypeId} (h : w.heap[b]? = some (.cells cs t (0, 0))) (i : Nat) : w.frozen? ⟨b, i, none⟩ = false := by simp [World.frozen?, h]
/-- Only blocks from lo to hi are written, and new ones are made. -/
structure Only (lo hi : Nat) (w w' : World) : Prop where
  os : w'.os = w.os
  tape : w'.tape = w.tape
  output : w'.output = w.output
  size : w.heap.size ≤ w'.heap.size
  block : ∀ k, k < w.heap.size → k < lo ∨ hi ≤ k → w'.heap[k]? = w.heap[k]?

theorem Only.refl (lo hi : Nat) (w : World) : Only lo hi w w := ⟨rfl, rfl, rfl, Nat.le_refl _, fun _ _ _ => rfl⟩
theorem Only.of {lo hi : Nat} {w w' : World} (h : Below w.heap.size w w') : Only lo hi w w' := ⟨h.os, h.tape, h.output, h.size, fun k hk _ => h.block k hk⟩
theorem Only.trans {lo hi : Nat} {a b c : World} (h : Only lo hi a b) (k : Only lo hi b c) : Only lo hi a c :=
  ⟨k.os.trans h.os, k.tape.trans h.tape, k.output.trans h.output, Nat.le_trans h.size k.size, fun i hi' ho => (k.block i (Nat.lt_of_lt_of_le hi' h.size) ho).trans (h.block i hi' ho)⟩
theorem Only.below {lo hi B : Nat} {w w' : World} (h : Only lo hi w w') (h1 : B ≤ lo) (h2 : B ≤ w.heap.size) : Below B w w' :=
  ⟨h.os, h.tape, h.output, h.size, fun k hk => h.block k (Nat.lt_of_lt_of_le hk h2) (.inl (Nat.lt_of_lt_of_le hk h1))⟩
theorem Only.cell {lo hi : Nat} {w w' : World} (h : Only lo hi w w') {p : Addr} (h1 : p.block < w.heap.size) (h2 : p.block < lo ∨ hi ≤ p.block) : w'.cell? p = w.cell? p := World.cell?_of_block (h.block _ h1 h2)
theorem Only.setCell {lo hi : Nat} {a w : World} (h : Only lo hi a w) {p : Addr} (h1 : lo ≤ p.block) (h2 : p.block < hi) (u : Value) : Only lo hi a (w.setCell p u) :=
  h.trans ⟨rfl, rfl, rfl, by simp [World.setCell], fun k _ ho => Below.heap_setCell _ _ _ _ (by omega)⟩

/-- a row whose block lies from lo to hi, and may be written; nil, perhaps -/
structure ORow (w : World) (lo hi : Nat) (ao : Option Addr) (len cap : Nat) (zs : List Nat) : Prop where
  row : IsFRow w ao len cap zs
  own : (ao = none ∧ len = 0) ∨ ∃ b, ao = some ⟨b, 0, none⟩ ∧ lo ≤ b ∧ b < hi ∧ b < w.heap.size ∧ ∀ i, w.frozen? ⟨b, i, none⟩ = false

theorem ORow.mono {w : World} {lo hi lo' hi' len cap : Nat} {ao : Option Addr} {zs : List Nat} (h : ORow w lo hi ao len cap zs) (h1 : lo' ≤ lo) (h2 : hi ≤ hi') : ORow w lo' hi' ao len cap zs := by
  refine ⟨h.row, ?_⟩
  rcases h.own with e | ⟨b, e, k1, k2, r⟩
  · exact .inl e
  · exact .inr ⟨b, e, by omega, by omega, r⟩

theorem ORow.only {w w' : World} {l h lo hi len cap : Nat} {ao : Option Addr} {zs : List Nat} (hr : ORow w lo hi ao len cap zs) (ho : Only l h w w') (hd : hi ≤ l ∨ h ≤ lo) : ORow w' lo hi ao len cap zs := by
  obtain ⟨⟨h1, h2, h3, h4, h5⟩, hown⟩ := hr
  rcases hown with ⟨rfl, rfl⟩ | ⟨b, rfl, k1, k2, k3, k4⟩
  · exact ⟨⟨h1, h2, h3, h4, .inl rfl⟩, .inl ⟨rfl, rfl⟩⟩
  · have hb : w'.heap[b]? = w.heap[b]? := ho.block b k3 (by omega)
    refine ⟨⟨h1, h2, h3, h4, ?_⟩, .inr ⟨b, rfl, k1, k2, Nat.lt_of_lt_of_le k3 ho.size, fun i => (World.frozen?_of_block (a := ⟨b, i, none⟩) hb).trans (k4 i)⟩⟩
    rcases h5 with h5 | ⟨b', off, e, hbl, hc⟩
    · exact .inl h5
    · simp only [Option.some.injEq, Addr.mk.injEq, and_true] at e
      obtain ⟨rfl, rfl⟩ := e
      exact .inr ⟨b, 0, rfl, Nat.lt_of_lt_of_le hbl ho.size, fun i hi => (World.cell?_of_block (a := ⟨b, 0 + i, none⟩) hb).trans (hc i hi)⟩

theorem ORow.below {w w' : World} {lo hi len cap : Nat} {ao : Option Addr} {zs : List Nat} (hr : ORow w lo hi ao len cap zs) (ho : Below w.heap.size w w') : ORow w' lo hi ao len cap zs :=
  hr.only (Only.of (lo := hi) (hi := hi) ho) (.inl (Nat.le_refl _))
theorem OwnL.orow {w : World} {base : Nat} {v : Value} {zs : List Nat} (h : OwnL w base 41 v (zs.map (Value.float .f32))) (hz : ∀ z ∈ zs, z < 4294967296) : ∃ ao cap, v = .slice ao zs.length cap ∧ ORow w base w.heap.size ao zs.length cap zs := by
  have hl : (zs.map (Value.float .f32)).length = zs.length := by simp
  unfold OwnL at h
  rw [hl] at h
  have h2 := h
  rcases h2.2 with ⟨rfl, h0⟩ | ⟨g, cap, cur, rfl, hg, hh, hnc, hcm, hcs, htake⟩
  · have h0' : zs = [] := List.length_eq_zero_iff.1 h0
    subst h0'
    exact ⟨none, 0, rfl, ⟨⟨rfl, Nat.le_refl _, by unfold maxLen; omega, hz, .inl rfl⟩, .inl ⟨rfl, rfl⟩⟩⟩
  · refine ⟨_, cap, rfl, ⟨⟨rfl, hnc, hcm, hz, .inr ⟨g, 0, rfl, lt_of_block hh, fun i hi => ?_⟩⟩, .inr ⟨g, rfl, hg, lt_of_block hh, lt_of_block hh, fun i => box_free hh i⟩⟩⟩
    have h4 := h2.cells (g := g) rfl i (.float .f32 (zs.getD i 0)) (by simp [List.getD, hi])
    rw [Nat.zero_add]
    by_cases hi0 : i = 0
    · subst hi0
      simpa [Addr.add] using h4
    · simpa [Addr.add, hi0] using h4
theorem nearest_lt (n : Int) : floatOfInt .f32 n < 4294967296 := by
  have := Format.write_lt single (.number (n < 0) n.natAbs 0)
  rw [show single.width = 32 from by decide] at this
  exact this

theorem nearest_self (n : Int) : (FloatKind.f32.format.order (floatOfInt .f32 n) (floatOfInt .f32 n) != some .eq) = false := by
  have h : rg single (floatOfInt .f32 n) ≤ single.infRung := rg_write single (d := .number (n < 0) n.natAbs 0) (by intro s t e; cases e)
  have := order_key single (by decide) _ _ h h
  rw [show FloatKind.f32.format = single from rfl, this, cmp_eq rfl]
  rfl

/-- what a law's marks are -/
def marks (k : Int) (len : Nat) : List Nat := (List.range len).map fun i : Nat => floatOfInt .f32 (k + (i : Int))

theorem marks_at {k : Int} {len i : Nat} (h : i < len) : (marks k len).getD i 0 = floatOfInt .f32 (k + i) := by
  simp [marks, List.getD, h]

/-- one cell is written -/
theorem ORow.set {w : World} {b len cap i z : Nat} {zs : List Nat} {lo hi : Nat} (h : ORow w lo hi (some ⟨b, 0, none⟩) len cap zs) (hi' : i < len) (hz : z < 4294967296) : ORow (w.setCell ⟨b, i, none⟩ (.float .f32 z)) lo hi (some ⟨b, 0, none⟩) len cap (zs.set i z) := by
  obtain ⟨⟨h1, h2, h3, h4, h5⟩, hown⟩ := h
  obtain ⟨b', e, k1, k2, k3, k4⟩ := hown.resolve_left (by simp)
  simp only [Option.some.injEq, Addr.mk.injEq, and_true] at e
  obtain ⟨rfl⟩ := e
  obtain ⟨b', off, e, hbl, hc⟩ := h5.resolve_left (by omega)
  simp only [Option.some.injEq, Addr.mk.injEq, and_true] at e
  obtain ⟨rfl, rfl⟩ := e
  refine ⟨⟨by simpa using h1, h2, h3, ?_, .inr ⟨b, 0, rfl, by simpa [World.setCell] using hbl, fun j hj => ?_⟩⟩, .inr ⟨b, rfl, k1, k2, by simpa [World.setCell] using k3, fun j => ?_⟩⟩
  · intro y hy
    rcases List.mem_or_eq_of_mem_set hy with hy | rfl
    · exact h4 y hy
    · exact hz
  · have hcj := hc j hj
    have hlt : j < zs.length := by omega
    rw [Nat.zero_add] at hcj ⊢
    by_cases hji : j = i
    · subst hji
      have hs : (zs.set j z).getD j 0 = z := by simp [List.getD, hlt]
      rw [hs]
      go_simp
    · have hs : (zs.set i z).getD j 0 = zs.getD j 0 := by simp [List.getD, Ne.symm hji]
      rw [hs]
      go_simp
  · have := k4 j
    go_simp

theorem markFloat32S (ao : Option Addr) (len cap lo hi : Nat) (zs : List Nat) (k : Int) (w : World) (h : ORow w lo hi ao len cap zs) (hl : len ≤ 1048576) (k0 : 0 ≤ k) (k1 : k ≤ 1099511627776) : Calls Tryd.prog 12 #[.slice ao len cap, .int .i64 k] w fun e w' =>
    e = .returned (.int .i64 (k + len)) ∧ ORow w' lo hi ao len cap (marks k len) ∧ Only lo hi w w' := by
  go_enter Tryd.func12, Tryd.ntmps12
  go_wp2
  go_loopw [1, 5] (fun kk i wr => ∃ j : Nat, ∃ ys : List Nat, j ≤ len ∧ i = .int .i64 j ∧ kk = .int .i64 (k + j) ∧ ORow wr lo hi ao len cap ys ∧ (∀ i, i < j → ys.getD i 0 = floatOfInt .f32 (k + i)) ∧ Only lo hi w wr) (fun _ i _ => len - (intOf i).toNat)
  case atStart => exact ⟨0, zs, Nat.zero_le _, rfl, by simp, h, fun i hi => absurd hi (Nat.not_lt_zero _), Only.refl _ _ _⟩
  case round =>
    obtain ⟨j, ys, hj, rfl, rfl, hr, hm, ho⟩ := hrel
    by_cases hlt : j < len
    · obtain ⟨b, rfl, k1', k2', k3', k4'⟩ := hr.own.resolve_left (by omega)
      obtain ⟨b2, off, e, hbl, hc⟩ := hr.row.2.2.2.2.resolve_left (by omega)
      simp only [Option.some.injEq, Addr.mk.injEq, and_true] at e
      obtain ⟨rfl, rfl⟩ := e
      have hcx := hc j hlt
      rw [Nat.zero_add] at hcx
      have hfx := k4' j
      have hcap : len ≤ cap := hr.row.2.1
      have hcm : cap ≤ 9223372036854775807 := by have := hr.row.2.2.1; unfold maxLen at this; omega
      have HR := Lib.hid hr
      have HM := Lib.hid hm
      have HO := Lib.hid ho
      clear hc hr hm ho h k4'
      go_wp2
      go_roundw
      case rel =>
        refine ⟨j + 1, ys.set j (floatOfInt .f32 (k + j)), by omega, rfl, by go_num, HR.out.set hlt (nearest_lt _), fun i hi => ?_, Only.setCell HO.out k1' k2' _⟩
        have hyl : ys.length = len := HR.out.row.1
        by_cases hij : i = j
        · subst hij
          simp [List.getD, hyl, hlt]
        · have hs : (ys.set j (floatOfInt .f32 (k + j))).getD i 0 = ys.getD i 0 := by simp [List.getD, Ne.symm hij]
          rw [hs]
          exact HM.out i (by omega)
      case measure => simp [intOf]; omega
    · have hjl : j = len := by omega
      subst hjl
      have HR := Lib.hid hr
      have HM := Lib.hid hm
      have HO := Lib.hid ho
      clear hr hm ho h
      go_wp2
      go_ret
      refine ⟨rfl, ?_, HO.out⟩
      have hyl : ys.length = j := HR.out.row.1
      have : ys = marks k j := List.ext_getElem (by simp [marks, hyl]) fun i h1 h2 => by
        have h3 := HM.out i (by omega)
        have h4 := marks_at (k := k) (len := j) (i := i) (by omega)
        simp only [List.getD, h1, h2, List.getElem?_eq_getElem, Option.getD_some] at h3 h4
        rw [h3, h4]
      rw [← this]
      exact HR.out

theorem heldFloat32S (ao : Option Addr) (len cap lo hi : Nat) (k : Int) (w : World) (h : ORow w lo hi ao len cap (marks k len)) (hl : len ≤ 1048576) (k0 : 0 ≤ k) (k1 : k ≤ 1099511627776) : Calls Tryd.prog 13 #[.slice ao len cap, .int .i64 k] w fun e w' =>
    e = .returned (.int .i64 (k + len)) ∧ ∃ n, w' = w.drewN n := by
  go_enter Tryd.func13, Tryd.ntmps13
  go_wp2
  go_loopw [1, 5] (fun kk i wr => ∃ j : Nat, j ≤ len ∧ i = .int .i64 j ∧ kk = .int .i64 (k + j) ∧ ∃ n, wr = w.drewN n) (fun _ i _ => len - (intOf i).toNat)
  case atStart => exact ⟨0, Nat.zero_le _, rfl, by simp, 0, rfl⟩
  case round =>
    obtain ⟨j, hj, rfl, rfl, n, rfl⟩ := hrel
    by_cases hlt : j < len
    · obtain ⟨b, rfl, k1', k2', k3', k4'⟩ := h.own.resolve_left (by omega)
      obtain ⟨b2, off, e, hbl, hc⟩ := h.row.2.2.2.2.resolve_left (by omega)
      simp only [Option.some.injEq, Addr.mk.injEq, and_true] at e
      obtain ⟨rfl, rfl⟩ := e
      have hcx := hc j hlt
      rw [Nat.zero_add, marks_at hlt] at hcx
      have hcap : len ≤ cap := h.row.2.1
      have hcm : cap ≤ 9223372036854775807 := by have := h.row.2.2.1; unfold maxLen at this; omega
      have ho := nearest_self (k + j)
      have HH := Lib.hid h
      clear hc h k4'
      go_wp2
      go_roundw
      case rel => exact ⟨j + 1, by omega, rfl, by go_num, n, rfl⟩
      case measure => simp [intOf]; omega
    · have hjl : j = len := by omega
      subst hjl
      clear h
      go_wp2
      go_ret
      exact ⟨rfl, n, rfl⟩
set_option maxRecDepth 20000 in
theorem eqF2 (a b : Option Addr) (len cap cap2 : Nat) (zs ys : List Nat) (w : World) (h : IsFRow w a len cap zs) (h2 : IsFRow w b len cap2 ys) (he : ∀ i, i < len → ab .f32 (zs.getD i 0) = ab .f32 (ys.getD i 0)) : Calls Tryd.prog 11 #[.slice a len cap, .slice b len cap2] w (RetB true w) := by
  obtain ⟨hz, hlc, hcm, hzl, hrow⟩ := h
  obtain ⟨-, -, -, -, hrow2⟩ := h2
  unfold maxLen at hcm
  go_enter Tryd.func11, Tryd.ntmps11
  go_wp2
  go_loopw [5] (fun i wr => ∃ k n : Nat, k ≤ len ∧ i = .int .i64 k ∧ wr = w.drewN n) (fun i _ => len - (intOf i).toNat)
  case atStart => exact ⟨0, 0, Nat.zero_le _, rfl, rfl⟩
  case round =>
    obtain ⟨k, m, hk, rfl, rfl⟩ := hrel
    by_cases hlt : k < len
    · obtain ⟨b, off, rfl, hbl, hc⟩ := hrow.resolve_left (by omega)
      obtain ⟨b2, off2, rfl, hbl2, hc2⟩ := hrow2.resolve_left (by omega)
      have hcx := hc k hlt
      have hcy := hc2 k hlt
      have hek := he k hlt
      generalize hzk : zs.getD k 0 = z at hcx hek
      generalize hyk : ys.getD k 0 = z2 at hcy hek
      have HE := Lib.hid hek
      clear hc hc2 hzk hyk hzl hz he hek
      go_wp2_with fail
      refine wp_region_all (by kernel_rfl) (by kernel_rfl) 12 (by kernel_rfl) (fun _ v => ⟨#[.slice (some ⟨b, off, none⟩) len cap, .slice (some ⟨b2, off2, none⟩) len cap2, undef, undef, u4, .int .i64 k, .slice (some ⟨b, off, none⟩) len cap, .int .i64 len, .slice (some ⟨b2, off2, none⟩) len cap2, .int .i64 len, .bool false, .int .i64 k, .slice (some ⟨b, off, none⟩) len cap, .int .i64 len, .bool true, u15, u16, v 0, v 1, v 2, v 3, v 4, v 5, v 6, v 7, v 8, v 9, v 10, v 11], []⟩)
        (fun W => ∃ n, W = w.drewN n)
        (fun j _ s => match j with | 0 => s = .slice (some ⟨b, off, none⟩) len cap | 1 => s = .int .i64 k | 2 => s = .pointer (some ⟨b, off + k, none⟩) | 3 => s = .float .f32 z | 4 => ∃ r, s = .float .f64 r ∧ ab .f64 r = (ab .f32 z).map wide | 5 => s = .slice (some ⟨b2, off2, none⟩) len cap2 | 6 => s = .int .i64 k | 7 => s = .pointer (some ⟨b2, off2 + k, none⟩) | 8 => s = .float .f32 z2 | 9 => ∃ r, s = .float .f64 r ∧ ab .f64 r = (ab .f32 z2).map wide | 10 => s = .bool true | 11 => s = .bool false | _ => True) ?_ ?_ ⟨m + 1, rfl⟩ ?_ ?_
      · intro j W W' v hb
        rcases j with _ | _ | _ | _ | _ | _ | _ | _ | _ | _ | _ | _ | j <;> exact id
      · exact ⟨fun i => [u17, u18, u19, u20, u21, u22, u23, u24, u25, u26, u27, u28].getD i undef, rfl⟩
      · intro i o ho hlt vals W hG hd
        obtain ⟨m', rfl⟩ := hG
        rcases i with _ | _ | _ | _ | _ | _ | _ | _ | _ | _ | _ | _ | i
        · refine wpOp_run ho (by cases Option.some.inj ho; rfl) ?_
          cases Option.some.inj ho
          go_simp
          exact ⟨_, rfl, Below.refl _ _, ⟨_, rfl⟩, rfl⟩
        · refine wpOp_run ho (by cases Option.some.inj ho; rfl) ?_
          cases Option.some.inj ho
          go_simp
          exact ⟨_, rfl, Below.refl _ _, ⟨_, rfl⟩, rfl⟩
        · refine wpOp_run ho (by cases Option.some.inj ho; rfl) ?_
          cases Option.some.inj ho
          have e0 : vals 0 = .slice (some ⟨b, off, none⟩) len cap := hd ⟨0, .data⟩ (by simp) rfl
          have e1 : vals 1 = .int .i64 k := hd ⟨1, .data⟩ (by simp) rfl
          go_simp
          exact ⟨.pointer (some ⟨b, off + k, none⟩), by simp [upd_at, e0, e1], Below.refl _ _, ⟨_, rfl⟩, rfl⟩
        · refine wpOp_run ho (by cases Option.some.inj ho; rfl) ?_
          cases Option.some.inj ho
          have e2 : vals 2 = .pointer (some ⟨b, off + k, none⟩) := hd ⟨2, .data⟩ (by simp) rfl
          go_simp
          exact ⟨.float .f32 z, by simp [upd_at, e2], Below.refl _ _, ⟨_, rfl⟩, rfl⟩
        · refine wpOp_run ho (by cases Option.some.inj ho; rfl) ?_
          cases Option.some.inj ho
          have e3 : vals 3 = .float .f32 z := hd ⟨3, .data⟩ (by simp) rfl
          obtain ⟨r, q, hrun, hr⟩ := run_widen (P := Tryd.prog) 41 52 z (w.drewN m') (by rw [Tryd.underlying41]; rfl) Tryd.underlying52
          have hB := below_drewN (Below.refl (w.drewN m').heap.size (w.drewN m')) q
          go_simp
          exact ⟨.float .f64 r, by simp [upd_at, e3], by simpa using hB, ⟨_, rfl⟩, r, rfl, hr.ab⟩
        · refine wpOp_run ho (by cases Option.some.inj ho; rfl) ?_
          cases Option.some.inj ho
          go_simp
          exact ⟨_, rfl, Below.refl _ _, ⟨_, rfl⟩, rfl⟩
        · refine wpOp_run ho (by cases Option.some.inj ho; rfl) ?_
          cases Option.some.inj ho
          go_simp
          exact ⟨_, rfl, Below.refl _ _, ⟨_, rfl⟩, rfl⟩
        · refine wpOp_run ho (by cases Option.some.inj ho; rfl) ?_
          cases Option.some.inj ho
          have e5 : vals 5 = .slice (some ⟨b2, off2, none⟩) len cap2 := hd ⟨5, .data⟩ (by simp) rfl
          have e6 : vals 6 = .int .i64 k := hd ⟨6, .data⟩ (by simp) rfl
          go_simp
          exact ⟨.pointer (some ⟨b2, off2 + k, none⟩), by simp [upd_at, e5, e6], Below.refl _ _, ⟨_, rfl⟩, rfl⟩
        · refine wpOp_run ho (by cases Option.some.inj ho; rfl) ?_
          cases Option.some.inj ho
          have e7 : vals 7 = .pointer (some ⟨b2, off2 + k, none⟩) := hd ⟨7, .data⟩ (by simp) rfl
          go_simp
          exact ⟨.float .f32 z2, by simp [upd_at, e7], Below.refl _ _, ⟨_, rfl⟩, rfl⟩
        · refine wpOp_run ho (by cases Option.some.inj ho; rfl) ?_
          cases Option.some.inj ho
          have e8 : vals 8 = .float .f32 z2 := hd ⟨8, .data⟩ (by simp) rfl
          obtain ⟨r, q, hrun, hr⟩ := run_widen (P := Tryd.prog) 41 52 z2 (w.drewN m') (by rw [Tryd.underlying41]; rfl) Tryd.underlying52
          have hB := below_drewN (Below.refl (w.drewN m').heap.size (w.drewN m')) q
          go_simp
          exact ⟨.float .f64 r, by simp [upd_at, e8], by simpa using hB, ⟨_, rfl⟩, r, rfl, hr.ab⟩
        · refine wpOp_run ho (by cases Option.some.inj ho; rfl) ?_
          cases Option.some.inj ho
          obtain ⟨r, e4, hr⟩ := (show ∃ r, vals 4 = .float .f64 r ∧ ab .f64 r = (ab .f32 z).map wide from hd ⟨4, .data⟩ (by simp) rfl)
          obtain ⟨s, e9, hs⟩ := (show ∃ r, vals 9 = .float .f64 r ∧ ab .f64 r = (ab .f32 z2).map wide from hd ⟨9, .data⟩ (by simp) rfl)
          have hc := sameFloat r s (w.drewN m') (hr.trans ((congrArg (Option.map wide) HE.out).trans hs.symm))
          go_simp
          refine hc.mono ?_
          rintro e w' ⟨q, rfl, rfl⟩
          have hB := below_drewN (Below.refl (w.drewN m').heap.size (w.drewN m')) q
          go_simp
          exact ⟨.bool true, by simp [upd_at, e4, e9], by simpa using hB, ⟨_, rfl⟩, rfl⟩
        · refine wpOp_run ho (by cases Option.some.inj ho; rfl) ?_
          cases Option.some.inj ho
          have e10 : vals 10 = .bool true := hd ⟨10, .data⟩ (by simp) rfl
          go_simp
          exact ⟨.bool false, by simp [upd_at, e10], Below.refl _ _, ⟨_, rfl⟩, rfl⟩
        · omega
      · intro vals W hG hR
        obtain ⟨m', rfl⟩ := hG
        have h11 : vals 11 = .bool false := hR 11 (by omega)
        simp only [Exit.then, h11]
        go_wp2_with fail
        go_roundw
        case rel => exact ⟨k + 1, _, by omega, rfl, rfl⟩
        case measure => simp [intOf]; omega
    · have hkl : k = len := by omega
      subst hkl
      go_wp2
      go_ret
      exact RetB.mk _ rfl
/-- a row of int64 whose block lies from lo to hi, and may be written; nil, perhaps -/
structure IRow (w : World) (lo hi : Nat) (ao : Option Addr) (len cap : Nat) (zs : List Int) : Prop where
  row : zs.length = len ∧ len ≤ cap ∧ cap ≤ maxLen
  own : (ao = none ∧ len = 0) ∨ ∃ b, ao = some ⟨b, 0, none⟩ ∧ lo ≤ b ∧ b < hi ∧ b < w.heap.size ∧ (∀ i, w.frozen? ⟨b, i, none⟩ = false) ∧ ∀ i, i < len → w.cell? ⟨b, i, none⟩ = some (.int .i64 (zs.getD i 0))

theorem IRow.mono {w : World} {lo hi lo' hi' len cap : Nat} {ao : Option Addr} {zs : List Int} (h : IRow w lo hi ao len cap zs) (h1 : lo' ≤ lo) (h2 : hi ≤ hi') : IRow w lo' hi' ao len cap zs := by
  refine ⟨h.row, ?_⟩
  rcases h.own with e | ⟨b, e, k1, k2, r⟩
  · exact .inl e
  · exact .inr ⟨b, e, by omega, by omega, r⟩
theorem IRow.only {w w' : World} {l h lo hi len cap : Nat} {ao : Option Addr} {zs : List Int} (hr : IRow w lo hi ao len cap zs) (ho : Only l h w w') (hd : hi ≤ l ∨ h ≤ lo) : IRow w' lo hi ao len cap zs := by
  refine ⟨hr.row, ?_⟩
  rcases hr.own with e | ⟨b, e, k1, k2, k3, k4, k5⟩
  · exact .inl e
  · have hb : w'.heap[b]? = w.heap[b]? := ho.block b k3 (by omega)
    exact .inr ⟨b, e, k1, k2, Nat.lt_of_lt_of_le k3 ho.size, fun i => (World.frozen?_of_block (a := ⟨b, i, none⟩) hb).trans (k4 i), fun i hi => (World.cell?_of_block (a := ⟨b, i, none⟩) hb).trans (k5 i hi)⟩
theorem IRow.below {w w' : World} {lo hi len cap : Nat} {ao : Option Addr} {zs : List Int} (hr : IRow w lo hi ao len cap zs) (ho : Below w.heap.size w w') : IRow w' lo hi ao len cap zs :=
  hr.only (Only.of (lo := hi) (hi := hi) ho) (.inl (Nat.le_refl _))
theorem OwnL.irow {w : World} {base : Nat} {v : Value} {zs : List Int} (h : OwnL w base 2 v (zs.map (Value.int .i64))) : ∃ ao cap, v = .slice ao zs.length cap ∧ IRow w base w.heap.size ao zs.length cap zs := by
  have hl : (zs.map (Value.int .i64)).length = zs.length := by simp
  unfold OwnL at h
  rw [hl] at h
  have h2 := h
  rcases h2.2 with ⟨rfl, h0⟩ | ⟨g, cap, cur, rfl, hg, hh, hnc, hcm, hcs, htake⟩
  · have h0' : zs = [] := List.length_eq_zero_iff.1 h0
    subst h0'
    exact ⟨none, 0, rfl, ⟨⟨rfl, Nat.le_refl _, by unfold maxLen; omega⟩, .inl ⟨rfl, rfl⟩⟩⟩
  · refine ⟨_, cap, rfl, ⟨⟨rfl, hnc, hcm⟩, .inr ⟨g, rfl, hg, lt_of_block hh, lt_of_block hh, fun i => box_free hh i, fun i hi => ?_⟩⟩⟩
    have h4 := h2.cells (g := g) rfl i (.int .i64 (zs.getD i 0)) (by simp [List.getD, hi])
    by_cases hi0 : i = 0
    · subst hi0
      simpa [Addr.add] using h4
    · simpa [Addr.add, hi0] using h4
def marksI (k : Int) (len : Nat) : List Int := (List.range len).map fun i : Nat => k + (i : Int)
theorem marksI_at {k : Int} {len i : Nat} (h : i < len) : (marksI k len).getD i 0 = k + i := by
  simp [marksI, List.getD, h]
theorem IRow.set {w : World} {b len cap i : Nat} {z : Int} {zs : List Int} {lo hi : Nat} (h : IRow w lo hi (some ⟨b, 0, none⟩) len cap zs) (hi' : i < len) : IRow (w.setCell ⟨b, i, none⟩ (.int .i64 z)) lo hi (some ⟨b, 0, none⟩) len cap (zs.set i z) := by
  obtain ⟨⟨h1, h2, h3⟩, hown⟩ := h
  obtain ⟨b', e, k1, k2, k3, k4, k5⟩ := hown.resolve_left (by simp)
  simp only [Option.some.injEq, Addr.mk.injEq, and_true] at e
  obtain ⟨rfl⟩ := e
  refine ⟨⟨by simpa using h1, h2, h3⟩, .inr ⟨b, rfl, k1, k2, by simpa [World.setCell] using k3, fun j => ?_, fun j hj => ?_⟩⟩
  · have := k4 j
    go_simp
  · have hcj := k5 j hj
    have hlt : j < zs.length := by omega
    by_cases hji : j = i
    · subst hji
      have hs : (zs.set j z).getD j 0 = z := by simp [List.getD, hlt]
      rw [hs]
      go_simp
    · have hs : (zs.set i z).getD j 0 = zs.getD j 0 := by simp [List.getD, Ne.symm hji]
      rw [hs]
      go_simp
theorem markInt64S (ao : Option Addr) (len cap lo hi : Nat) (zs : List Int) (k : Int) (w : World) (h : IRow w lo hi ao len cap zs) (hl : len ≤ 1048576) (k0 : 0 ≤ k) (k1 : k ≤ 1099511627776) : Calls Tryd.prog 19 #[.slice ao len cap, .int .i64 k] w fun e w' =>
    e = .returned (.int .i64 (k + len)) ∧ IRow w' lo hi ao len cap (marksI k len) ∧ Only lo hi w w' := by
  go_enter Tryd.func19, Tryd.ntmps19
  go_wp2
  go_loopw [1, 5] (fun kk i wr => ∃ j : Nat, ∃ ys : List Int, j ≤ len ∧ i = .int .i64 j ∧ kk = .int .i64 (k + j) ∧ IRow wr lo hi ao len cap ys ∧ (∀ i, i < j → ys.getD i 0 = k + i) ∧ Only lo hi w wr) (fun _ i _ => len - (intOf i).toNat)
  case atStart => exact ⟨0, zs, Nat.zero_le _, rfl, by simp, h, fun i hi => absurd hi (Nat.not_lt_zero _), Only.refl _ _ _⟩
  case round =>
    obtain ⟨j, ys, hj, rfl, rfl, hr, hm, ho⟩ := hrel
    by_cases hlt : j < len
    · obtain ⟨b, rfl, k1', k2', k3', k4', k5'⟩ := hr.own.resolve_left (by omega)
      have hcx := k5' j hlt
      have hfx := k4' j
      have hcap : len ≤ cap := hr.row.2.1
      have hcm : cap ≤ 9223372036854775807 := by have := hr.row.2.2; unfold maxLen at this; omega
      have HR := Lib.hid hr
      have HM := Lib.hid hm
      have HO := Lib.hid ho
      clear hr hm ho h k4' k5'
      go_wp2
      go_roundw
      case rel =>
        refine ⟨j + 1, ys.set j (k + j), by omega, rfl, by go_num, HR.out.set hlt, fun i hi => ?_, Only.setCell HO.out k1' k2' _⟩
        have hyl : ys.length = len := HR.out.row.1
        by_cases hij : i = j
        · subst hij
          simp [List.getD, hyl, hlt]
        · have hs : (ys.set j (k + j)).getD i 0 = ys.getD i 0 := by simp [List.getD, Ne.symm hij]
          rw [hs]
          exact HM.out i (by omega)
      case measure => simp [intOf]; omega
    · have hjl : j = len := by omega
      subst hjl
      have HR := Lib.hid hr
      have HM := Lib.hid hm
      have HO := Lib.hid ho
      clear hr hm ho h
      go_wp2
      go_ret
      refine ⟨rfl, ?_, HO.out⟩
      have hyl : ys.length = j := HR.out.row.1
      have : ys = marksI k j := List.ext_getElem (by simp [marksI, hyl]) fun i h1 h2 => by
        have h3 := HM.out i (by omega)
        have h4 := marksI_at (k := k) (len := j) (i := i) (by omega)
        simp only [List.getD, h1, h2, List.getElem?_eq_getElem, Option.getD_some] at h3 h4
        rw [h3, h4]
      rw [← this]
      exact HR.out
theorem heldInt64S (ao : Option Addr) (len cap lo hi : Nat) (k : Int) (w : World) (h : IRow w lo hi ao len cap (marksI k len)) (hl : len ≤ 1048576) (k0 : 0 ≤ k) (k1 : k ≤ 1099511627776) : Calls Tryd.prog 20 #[.slice ao len cap, .int .i64 k] w fun e w' =>
    e = .returned (.int .i64 (k + len)) ∧ ∃ n, w' = w.drewN n := by
  go_enter Tryd.func20, Tryd.ntmps20
  go_wp2
  go_loopw [1, 5] (fun kk i wr => ∃ j : Nat, j ≤ len ∧ i = .int .i64 j ∧ kk = .int .i64 (k + j) ∧ ∃ n, wr = w.drewN n) (fun _ i _ => len - (intOf i).toNat)
  case atStart => exact ⟨0, Nat.zero_le _, rfl, by simp, 0, rfl⟩
  case round =>
    obtain ⟨j, hj, rfl, rfl, n, rfl⟩ := hrel
    by_cases hlt : j < len
    · obtain ⟨b, rfl, k1', k2', k3', k4', k5'⟩ := h.own.resolve_left (by omega)
      have hcx := k5' j hlt
      rw [marksI_at hlt] at hcx
      have hcap : len ≤ cap := h.row.2.1
      have hcm : cap ≤ 9223372036854775807 := by have := h.row.2.2; unfold maxLen at this; omega
      clear h k4' k5'
      go_wp2
      go_roundw
      case rel => exact ⟨j + 1, by omega, rfl, by go_num, n, rfl⟩
      case measure => simp [intOf]; omega
    · have hjl : j = len := by omega
      subst hjl
      clear h
      go_wp2
      go_ret
      exact ⟨rfl, n, rfl⟩
theorem eqInt64S (a a2 : Option Addr) (len cap cap2 lo hi lo2 hi2 : Nat) (zs ys : List Int) (w : World) (h : IRow w lo hi a len cap zs) (h2 : IRow w lo2 hi2 a2 len cap2 ys) (he : ∀ i, i < len → zs.getD i 0 = ys.getD i 0) : Calls Tryd.prog 18 #[.slice a len cap, .slice a2 len cap2] w fun e w' => e = .returned (.bool true) ∧ Below w.heap.size w w' := by
  have hcap : len ≤ cap := h.row.2.1
  have hcm : cap ≤ 9223372036854775807 := by have := h.row.2.2; unfold maxLen at this; omega
  have hcap2 : len ≤ cap2 := h2.row.2.1
  have hcm2 : cap2 ≤ 9223372036854775807 := by have := h2.row.2.2; unfold maxLen at this; omega
  have H1 := Lib.hid h
  have H2 := Lib.hid h2
  have HE := Lib.hid he
  clear h h2 he
  go_enter Tryd.func18, Tryd.ntmps18
  go_wp2
  go_loopw [5] (fun i wr => ∃ k : Nat, k ≤ len ∧ i = .int .i64 k ∧ Below w.heap.size w wr) (fun i _ => len - (intOf i).toNat)
  case atStart => exact ⟨0, Nat.zero_le _, rfl, Below.refl _ _⟩
  case round =>
    obtain ⟨k, hk, rfl, hb⟩ := hrel
    by_cases hlt : k < len
    · obtain ⟨b, rfl, -, -, k3, -, k5⟩ := H1.out.own.resolve_left (by omega)
      obtain ⟨b2, rfl, -, -, q3, -, q5⟩ := H2.out.own.resolve_left (by omega)
      have hcx := (hb.cell (p := ⟨b, k, none⟩) k3).trans (k5 k hlt)
      have hcy := (hb.cell (p := ⟨b2, k, none⟩) q3).trans (q5 k hlt)
      rw [← HE.out k hlt] at hcy
      generalize zs.getD k 0 = z at hcx hcy
      have HB := Lib.hid hb
      clear hb k5 q5
      go_wp2_with fail
      go_quiet (fail)
      go_wp2_with fail
      go_roundw
      case rel => exact ⟨k + 1, by omega, rfl, below_drewN HB.out _⟩
      case measure => simp [intOf]; omega
    · have HB := Lib.hid hb
      clear hb
      go_wp2_with fail
      go_ret
      exact ⟨rfl, HB.out⟩
end Go.Proofs.YtopacaenlemfcaaDoor
