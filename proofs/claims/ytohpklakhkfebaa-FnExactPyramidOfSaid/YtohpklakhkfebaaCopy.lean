/-
  A picture of its own: the copy of a picture's row.
-/
import Derived.Test.YtohpklakhkfebaaImpl
namespace Go.Proofs.Ytohpklakhkfebaa
open Go.RowKit Go.FL

theorem own_mono {w : World} {base base' e size n : Nat} {v : Value} {xs : List Value} (h : w.ownsRow base e size v n xs) (hb : base' ≤ base) : w.ownsRow base' e size v n xs := by
  refine ⟨h.1, ?_⟩
  rcases h.2 with q | ⟨g, cap, cur, q, hg, r⟩
  · exact .inl q
  · exact .inr ⟨g, cap, cur, q, Nat.le_trans hb hg, r⟩

theorem run_append_copy {w : World} {nb rb off len c : Nat} {zs : List Nat} {ty : TypeId} (hl : zs.length = len) (h1 : 1 ≤ len) (hlen : len ≤ 1000) (hc : ∀ i, i < len → w.cell? ⟨rb, off + i, none⟩ = some (.float .f32 (zs.getD i 0))) :
    ∃ cp w', (Builtin.append_ #[22, 22] ty #[.slice (some ⟨nb, 0, none⟩) 0 0, .slice (some ⟨rb, off, none⟩) len c]).run Try.prog w = .ok (.slice (some ⟨w.heap.size, 0, none⟩) len cp) w' ∧
      w'.ownsRow w.heap.size 45 1 (.slice (some ⟨w.heap.size, 0, none⟩) len cp) len (zs.map (Value.float .f32)) ∧ Below w.heap.size w w' := by
  obtain ⟨i, hi, hz, hs, hby⟩ := infoF4
  have hr := run_append_grow (P := Try.prog) w 22 ty 45 i (.float .f32 0) Try.underlying22 hi hz ⟨nb, 0, none⟩ 0 0 [] (by simp) (fun j v h => by simp at h) ⟨rb, off, none⟩ len c (zs.map (Value.float .f32)) (by simp [hl, hs])
    (fun j v h => by
      have hj : j < len := by
        have := (List.getElem?_eq_some_iff.1 h).1
        simpa [hl] using this
      have hjz : j < zs.length := by omega
      have hv : v = .float .f32 (zs.getD j 0) := by
        simp [hjz] at h
        simp [List.getD, hjz, h]
      rw [hv]
      have := hc j hj
      by_cases hj0 : j = 0
      · subst hj0; simpa [Addr.add] using this
      · simpa [Addr.add, hj0] using this)
    (by omega) (by omega) (growslice_fits (by omega) (by rw [hby]; omega))
  simp only [Nat.zero_add] at hr
  have hge := grownCap_ge w len 0 45
  have hcm : grownCap w len 0 45 ≤ maxLen := grownCap_le_maxLen w len 0 45 (by unfold maxLen; omega)
  refine ⟨_, _, hr, ⟨by simp [hl], .inr ⟨w.heap.size, _, _, rfl, Nat.le_refl _, heap_alloc_new w.drew _, hge, hcm, ?_, ?_⟩⟩, Below.alloc (Below.refl _ _).drew (Nat.le_refl _) _⟩
  · simp [size_zeroCells, hl, Value.cells]
    omega
  · simp [hl]

theorem wp_append_copy {o : Oper} {a : Act} {w : World} {K : Act → World → Prop} {Q : Exit → Act → World → Prop} {nb rb off len c : Nat} {zs : List Nat} (s x : Operand)
    (ho : o.op = .call { callee := .builtin .append, args := #[s, x], argTypes := #[22, 22] })
    (hs : a.eval s = .slice (some ⟨nb, 0, none⟩) 0 0) (hx : a.eval x = .slice (some ⟨rb, off, none⟩) len c) (hl : zs.length = len) (h1 : 1 ≤ len) (hlen : len ≤ 1000) (hc : ∀ i, i < len → w.cell? ⟨rb, off + i, none⟩ = some (.float .f32 (zs.getD i 0)))
    (hK : ∀ cp w', w'.ownsRow w.heap.size 45 1 (.slice (some ⟨w.heap.size, 0, none⟩) len cp) len (zs.map (Value.float .f32)) → Below w.heap.size w w' → K (a.put o.dst (.slice (some ⟨w.heap.size, 0, none⟩) len cp)) w') : o.wp Try.prog a w K Q := by
  obtain ⟨cp, w', hrun, h2, h3⟩ := run_append_copy (nb := nb) (c := c) (ty := o.type) hl h1 hlen hc
  unfold Oper.wp execOp
  simp only [ho, resolve, invoke, builtin, Sem.run_bind, Sem.run_pure, Result.andThen_ok, List.map_toArray, List.map_cons, List.map_nil, hs, hx, hrun]
  exact hK cp w' h2 h3

attribute [local irreducible] Oper.wp in
theorem spec_l02Own (b W H : Nat) (a : Option Addr) (len cap : Nat) (zs : List Nat) (w : World) (c0 : w.cell? ⟨b, 0, none⟩ = some (.int .i64 W)) (c1 : w.cell? ⟨b, 1, none⟩ = some (.int .i64 H)) (c2 : w.cell? ⟨b, 2, none⟩ = some (.slice a len cap)) (h : IsFRow w a len cap zs) (hl1 : 1 ≤ len) (hlen : len ≤ 576) :
    Calls Try.prog 16 #[.pointer (some ⟨b, 0, none⟩)] w (RetQ W H len (fun i => ab .f32 (zs.getD i 0)) w) := by
  have hbw : b < w.heap.size := World.block_lt_of_cell? w _ c0
  have hzn : zs.length = len := h.1
  have hcap : len ≤ cap := h.2.1
  have hcm : cap ≤ 9223372036854775807 := by have := h.2.2.1; unfold maxLen at this; omega
  have HZ := Lib.hid h.2.2.2.1
  obtain ⟨rb, off, rfl, hbl, hrc⟩ := h.2.2.2.2.resolve_left (by omega)
  have HRC := Lib.hid hrc
  clear hrc h
  obtain ⟨OS, HOE0⟩ : ∃ f : Nat → Option Nat, f = (fun i => ab .f32 (zs.getD i 0)) := ⟨_, rfl⟩
  have HOE := Lib.hid HOE0
  clear HOE0
  rw [show (fun i : Nat => ab .f32 (zs.getD i 0)) = OS from HOE.out.symm]
  go_enter Try.func16, Try.ntmps16
  go_wp2_with fail
  refine wp_region_steps (by kernel_rfl) (by kernel_rfl) 15 (by kernel_rfl) (fun _ v => ⟨#[.pointer (some ⟨b, 0, none⟩), undef, .pointer (some ⟨w.heap.size, 0, none⟩), v 0, v 1, v 2, v 3, v 4, v 5, v 6, v 7, v 8, v 9, v 10, v 11, v 12, v 13, v 14], []⟩)
    (fun WW => Below (w.heap.size + 1) (w.alloc (.cells #[.int .i64 0, .int .i64 0, .slice none 0 0] 29)) WW)
    (fun j WW s => match j with | 0 => s = .pointer (some ⟨b, 0, none⟩) | 1 => s = .pointer (some ⟨b, 0, none⟩) | 2 => s = .pointer (some ⟨b, 0, none⟩) | 3 => s = .int .i64 W | 4 => s = .pointer (some ⟨b, 0, none⟩) | 5 => s = .pointer (some ⟨b, 0, none⟩) | 6 => s = .pointer (some ⟨b, 1, none⟩) | 7 => s = .int .i64 H | 8 => ∃ nb, s = .slice (some ⟨nb, 0, none⟩) 0 0 | 9 => s = .pointer (some ⟨b, 0, none⟩) | 10 => s = .pointer (some ⟨b, 0, none⟩) | 11 => s = .pointer (some ⟨b, 2, none⟩) | 12 => s = .slice (some ⟨rb, off, none⟩) len cap | 13 => ∃ ao cp, s = .slice ao len cp ∧ OwnF WW (w.heap.size + 1) (.slice ao len cp) len OS | 14 => ∃ ao cp, s = .agg #[.int .i64 W, .int .i64 H, .slice ao len cp] ∧ OwnF WW (w.heap.size + 1) (.slice ao len cp) len OS | _ => True) ?_ ⟨fun _ => undef, rfl⟩ (Below.refl _ _).drew ?_ ?_
  · intro j WW W2 s hb
    rcases j with _ | _ | _ | _ | _ | _ | _ | _ | _ | _ | _ | _ | _ | _ | _ | j
    · exact id
    · exact id
    · exact id
    · exact id
    · exact id
    · exact id
    · exact id
    · exact id
    · exact id
    · exact id
    · exact id
    · exact id
    · exact id
    · rintro ⟨ao, c, e, ho⟩
      exact ⟨ao, c, e, ho.below hb⟩
    · rintro ⟨ao, c, e, ho⟩
      exact ⟨ao, c, e, ho.below hb⟩
    · exact id
  · intro i o ho hlt2 vals WW hG hd
    rcases i with _ | _ | _ | _ | _ | _ | _ | _ | _ | _ | _ | _ | _ | _ | _ | i
    · refine wpOp_run ho (by cases Option.some.inj ho; rfl) ?_
      cases Option.some.inj ho
      go_simp
      exact ⟨.pointer (some ⟨b, 0, none⟩), by simp [upd_at], Below.refl _ _, hG, rfl⟩
    · refine wpOp_run ho (by cases Option.some.inj ho; rfl) ?_
      cases Option.some.inj ho
      have e0 : vals 0 = .pointer (some ⟨b, 0, none⟩) := hd ⟨0, .data⟩ (by simp) rfl
      go_simp
      exact ⟨.pointer (some ⟨b, 0, none⟩), by simp [upd_at, e0], Below.refl _ _, hG, rfl⟩
    · refine wpOp_run ho (by cases Option.some.inj ho; rfl) ?_
      cases Option.some.inj ho
      have e1 : vals 1 = .pointer (some ⟨b, 0, none⟩) := hd ⟨1, .data⟩ (by simp) rfl
      go_simp
      exact ⟨.pointer (some ⟨b, 0, none⟩), by simp [upd_at, e1], Below.refl _ _, hG, rfl⟩
    · refine wpOp_run ho (by cases Option.some.inj ho; rfl) ?_
      cases Option.some.inj ho
      have e2 : vals 2 = .pointer (some ⟨b, 0, none⟩) := hd ⟨2, .data⟩ (by simp) rfl
      have hcx := (hG.cell (p := ⟨b, 0, none⟩) (show b < _ from by omega)).trans (show _ = some (.int .i64 W) from by go_simp)
      go_simp
      exact ⟨.int .i64 W, by simp [upd_at, e2], Below.refl _ _, hG, rfl⟩
    · refine wpOp_run ho (by cases Option.some.inj ho; rfl) ?_
      cases Option.some.inj ho
      go_simp
      exact ⟨.pointer (some ⟨b, 0, none⟩), by simp [upd_at], Below.refl _ _, hG, rfl⟩
    · refine wpOp_run ho (by cases Option.some.inj ho; rfl) ?_
      cases Option.some.inj ho
      have e4 : vals 4 = .pointer (some ⟨b, 0, none⟩) := hd ⟨4, .data⟩ (by simp) rfl
      go_simp
      exact ⟨.pointer (some ⟨b, 0, none⟩), by simp [upd_at, e4], Below.refl _ _, hG, rfl⟩
    · refine wpOp_run ho (by cases Option.some.inj ho; rfl) ?_
      cases Option.some.inj ho
      have e5 : vals 5 = .pointer (some ⟨b, 0, none⟩) := hd ⟨5, .data⟩ (by simp) rfl
      go_simp
      exact ⟨.pointer (some ⟨b, 1, none⟩), by simp [upd_at, e5], Below.refl _ _, hG, rfl⟩
    · refine wpOp_run ho (by cases Option.some.inj ho; rfl) ?_
      cases Option.some.inj ho
      have e6 : vals 6 = .pointer (some ⟨b, 1, none⟩) := hd ⟨6, .data⟩ (by simp) rfl
      have hcx := (hG.cell (p := ⟨b, 1, none⟩) (show b < _ from by omega)).trans (show _ = some (.int .i64 H) from by go_simp)
      go_simp
      exact ⟨.int .i64 H, by simp [upd_at, e6], Below.refl _ _, hG, rfl⟩
    · refine wpOp_run ho (by cases Option.some.inj ho; rfl) ?_
      cases Option.some.inj ho
      have hB : Below WW.heap.size WW (WW.alloc (.cells #[] 45)) := Below.alloc (Below.refl _ _) (Nat.le_refl _) _
      go_simp
      exact ⟨.slice (some ⟨WW.heap.size, 0, none⟩) 0 0, by simp [upd_at], hB, hG.trans (hB.mono (by have := hG.size; simp at this; omega)), WW.heap.size, rfl⟩
    · refine wpOp_run ho (by cases Option.some.inj ho; rfl) ?_
      cases Option.some.inj ho
      go_simp
      exact ⟨.pointer (some ⟨b, 0, none⟩), by simp [upd_at], Below.refl _ _, hG, rfl⟩
    · refine wpOp_run ho (by cases Option.some.inj ho; rfl) ?_
      cases Option.some.inj ho
      have e9 : vals 9 = .pointer (some ⟨b, 0, none⟩) := hd ⟨9, .data⟩ (by simp) rfl
      go_simp
      exact ⟨.pointer (some ⟨b, 0, none⟩), by simp [upd_at, e9], Below.refl _ _, hG, rfl⟩
    · refine wpOp_run ho (by cases Option.some.inj ho; rfl) ?_
      cases Option.some.inj ho
      have e10 : vals 10 = .pointer (some ⟨b, 0, none⟩) := hd ⟨10, .data⟩ (by simp) rfl
      go_simp
      exact ⟨.pointer (some ⟨b, 2, none⟩), by simp [upd_at, e10], Below.refl _ _, hG, rfl⟩
    · refine wpOp_run ho (by cases Option.some.inj ho; rfl) ?_
      cases Option.some.inj ho
      have e11 : vals 11 = .pointer (some ⟨b, 2, none⟩) := hd ⟨11, .data⟩ (by simp) rfl
      have hcx := (hG.cell (p := ⟨b, 2, none⟩) (show b < _ from by omega)).trans (show _ = some (.slice (some ⟨rb, off, none⟩) len cap) from by go_simp)
      go_simp
      exact ⟨.slice (some ⟨rb, off, none⟩) len cap, by simp [upd_at, e11], Below.refl _ _, hG, rfl⟩
    · refine wpOp_run ho (by cases Option.some.inj ho; rfl) ?_
      cases Option.some.inj ho
      obtain ⟨nb, e8⟩ := (show ∃ nb, vals 8 = .slice (some ⟨nb, 0, none⟩) 0 0 from hd ⟨8, .data⟩ (by simp) rfl)
      have e12 : vals 12 = .slice (some ⟨rb, off, none⟩) len cap := hd ⟨12, .data⟩ (by simp) rfl
      have hsz : w.heap.size + 1 ≤ WW.heap.size := by have := hG.size; simp at this; omega
      have BG : Below w.heap.size w WW := (Below.alloc (Below.refl _ _) (Nat.le_refl _) _).trans (hG.mono (by omega))
      refine wp_append_copy (.tmp 11) (.tmp 15) rfl e8 e12 hzn hl1 (by omega) (fun i hi => (BG.cell (p := ⟨rb, off + i, none⟩) hbl).trans (HRC.out i hi)) ?_
      intro cp w' hown hB
      exact ⟨.slice (some ⟨WW.heap.size, 0, none⟩) len cp, by simp [upd_at, Act.put], hB, hG.trans (hB.mono (by have := hG.size; simp at this; omega)), some ⟨WW.heap.size, 0, none⟩, cp, rfl, zs, hzn, own_mono hown hsz, fun i hi => by rw [HOE.out]; exact is32 (getD_lt HZ.out i)⟩
    · refine wpOp_run ho (by cases Option.some.inj ho; rfl) ?_
      cases Option.some.inj ho
      have e3 : vals 3 = .int .i64 W := hd ⟨3, .data⟩ (by simp) rfl
      have e7 : vals 7 = .int .i64 H := hd ⟨7, .data⟩ (by simp) rfl
      obtain ⟨ao, cp, e13, ho⟩ := (show ∃ ao cp, vals 13 = .slice ao len cp ∧ OwnF WW (w.heap.size + 1) (.slice ao len cp) len OS from hd ⟨13, .data⟩ (by simp) rfl)
      go_simp
      exact ⟨.agg #[.int .i64 W, .int .i64 H, .slice ao len cp], by simp [upd_at, e3, e7, e13], Below.refl _ _, hG, ao, cp, rfl, ho⟩
    · omega
  intro vals w2 hG hR
  obtain ⟨ao, c, e14, ho⟩ := (show ∃ ao cp, vals 14 = .agg #[.int .i64 W, .int .i64 H, .slice ao len cp] ∧ OwnF w2 (w.heap.size + 1) (.slice ao len cp) len OS from hR 14 (by omega))
  refine wpOp_run rfl rfl ?_
  have hz : w2.heap[w.heap.size]? = some (.cells #[.int .i64 0, .int .i64 0, .slice none 0 0] 29 (0, 0)) := (hG.block w.heap.size (by omega)).trans (heap_alloc_new w _)
  have z0 := box_cell hz 0
  have z1 := box_cell hz 1
  have z2 := box_cell hz 2
  have f0 := box_free hz 0
  have f1 := box_free hz 1
  have f2 := box_free hz 2
  have HO := Lib.hid ho
  have HB := Lib.hid ((Below.alloc (Below.refl _ _) (Nat.le_refl _) _).trans (hG.mono (by omega)) : Below w.heap.size w w2)
  clear hR ho hG
  go_simp
  go_wp2_with fail
  have hend := OwnF.setBox (OwnF.setBox (OwnF.setBox (HO.out.mono (base' := w.heap.size) (by omega)) hz 0 (.int .i64 W)) (box_set _ hz) 1 (.int .i64 H)) (box_set _ (box_set _ hz)) 2 (.slice ao len c)
  obtain ⟨ao', cp', zs', e, hro, his⟩ := hend.orow (by omega)
  simp only [Value.slice.injEq, true_and] at e
  obtain ⟨rfl, rfl⟩ := e
  refine bodyPost_ret (v := .agg #[.int .i64 W, .int .i64 H, .slice ao len c]) ?_ rfl ⟨ao, c, zs', rfl, hro, his, Below.setCell (Below.setCell (Below.setCell HB.out (by simp) _) (by simp) _) (by simp) _⟩
  simp [results, Try.results16, go_sem, z0, z1, z2]
end Go.Proofs.Ytohpklakhkfebaa
