/-
  The sum of a list by halves, and its law.
-/
import Derived.Test.YtegonfniagpnkaaRow
namespace Go.Proofs.Ytegonfniagpnkaa
open Go.RowKit Go.FL

def RFp (o : Option Nat) (s : Value) : Prop := ∃ r, s = .float .f32 r ∧ Is .f32 r o

def prs : Nat → List Nat → Option Nat
  | 0, _ => ab .f32 0
  | f + 1, zs => if zs.length = 0 then ab .f32 0 else if zs.length = 1 then ab .f32 (zs.getD 0 0) else
      oop .add .f32 (prs f (zs.take ((zs.length + 1) / 2))) (prs f (zs.drop ((zs.length + 1) / 2)))

theorem getD_lt' {zs : List Nat} (h : ∀ z ∈ zs, z < 4294967296) (k : Nat) : zs.getD k 0 < 4294967296 := by
  rw [List.getD_eq_getElem?_getD]
  cases hk : zs[k]? with
  | none => simp
  | some z => exact h z (List.mem_of_getElem? hk)

theorem IsFRow.head {w : World} {b off len cap : Nat} {zs : List Nat} (k : Nat) (hk : k ≤ len) (h : IsFRow w (some ⟨b, off, none⟩) len cap zs) : IsFRow w (some ⟨b, off, none⟩) k cap (zs.take k) := by
  obtain ⟨h1, h2, h3, h4, h5⟩ := h
  refine ⟨by simp; omega, by omega, h3, fun z hz => h4 z (List.mem_of_mem_take hz), ?_⟩
  by_cases h0 : k = 0
  · exact .inl h0
  · obtain ⟨b', off', e, hb, hc⟩ := h5.resolve_left (by omega)
    refine .inr ⟨b', off', e, hb, fun i hi => ?_⟩
    rw [hc i (by omega)]
    simp [List.getD_eq_getElem?_getD, hi]

theorem IsFRow.tail {w : World} {b off len cap : Nat} {zs : List Nat} (k : Nat) (hk : k < len) (h : IsFRow w (some ⟨b, off, none⟩) len cap zs) : IsFRow w (some ⟨b, off + k, none⟩) (len - k) (cap - k) (zs.drop k) := by
  obtain ⟨h1, h2, h3, h4, h5⟩ := h
  refine ⟨by simp; omega, by omega, by omega, fun z hz => h4 z (List.mem_of_mem_drop hz), ?_⟩
  obtain ⟨b', off', e, hb, hc⟩ := h5.resolve_left (by omega)
  simp only [Option.some.injEq, Addr.mk.injEq, and_true] at e
  obtain ⟨rfl, rfl⟩ := e
  refine .inr ⟨b, off + k, rfl, hb, fun i hi => ?_⟩
  have := hc (k + i) (by omega)
  rw [Nat.add_assoc, this]
  simp [List.getD_eq_getElem?_getD, List.getElem?_drop]

theorem spec_l01SumPairs : ∀ (f : Nat) (a : Option Addr) (len cap : Nat) (zs : List Nat) (w : World), IsFRow w a len cap zs → len ≤ f → len ≤ 1048576 → Calls Try.prog 63 #[.slice a len cap] w (RetF .f32 (prs (f + 1) zs) w)
  | f, a, len, cap, zs, w, h, hf, hm => by
    have ih : ∀ (a : Option Addr) (len cap : Nat) (zs : List Nat) (w : World), IsFRow w a len cap zs → len + 1 ≤ f ∧ len ≤ 1048576 → Calls Try.prog 63 #[.slice a len cap] w (RetF .f32 (prs f zs) w) := by
      intro a' len' cap' zs' w' h' hf'
      obtain ⟨g, rfl⟩ : ∃ g, f = g + 1 := ⟨f - 1, by omega⟩
      exact spec_l01SumPairs g a' len' cap' zs' w' h' (by omega) hf'.2
    have hz := h.1
    have hcap := h.2.1
    have hcm := h.2.2.1
    unfold maxLen at hcm
    unfold prs
    by_cases h0 : len = 0
    · subst h0
      rw [if_pos hz]
      clear ih h
      go_enter Try.func63, Try.ntmps63
      go_wp2
      go_ret
      exact RetF.mk0 (is32 (by omega))
    · obtain ⟨b, off, rfl, hbl, hc⟩ := h.2.2.2.2.resolve_left (by omega)
      rw [if_neg (by omega)]
      by_cases h1 : len = 1
      · subst h1
        rw [if_pos hz]
        have hcx : w.cell? ⟨b, off, none⟩ = some (.float .f32 (zs.getD 0 0)) := by simpa using hc 0 (by omega)
        have lz := getD_lt' h.2.2.2.1 0
        generalize zs.getD 0 0 = z at *
        clear hc ih h
        go_enter Try.func63, Try.ntmps63
        go_wp2
        go_ret
        exact RetF.mk0 (is32 lz)
      · rw [if_neg (by omega), hz]
        obtain ⟨hN, hn⟩ : ∃ hN, hN = (len + 1) / 2 := ⟨_, rfl⟩
        rw [← hn]
        have e : ((len : Int) + 1) / 2 = (hN : Int) := by omega
        have hlo : hN < len := by omega
        have hlo1 : 1 ≤ hN := by omega
        have hlc : hN ≤ cap := by omega
        have hle : hN ≤ len := by omega
        have hcne : ¬ cap = hN := by omega
        have q0 : ((len : Int) == 0) = false := by rw [beq_eq_false_iff_ne]; omega
        have q1 : ((len : Int) == 1) = false := by rw [beq_eq_false_iff_ne]; omega
        clear hn
        have HF := Lib.hid h
        have HI := Lib.hid ih
        clear hc h ih
        go_enter Try.func63, Try.ntmps63
        go_wp2_with fail
        have ih := HI.out
        rw [e]
        clear e
        refine wp_region_steps (by kernel_rfl) (by kernel_rfl) 9 (by kernel_rfl) (fun _ v => ⟨#[.slice (some ⟨b, off, none⟩) len cap, undef, .float .f32 0, .int .i64 len, .int .i64 hN, .slice (some ⟨b, off, none⟩) len cap, .int .i64 len, .int .i64 len, .bool false, .int .i64 len, .bool false, undef, undef, undef, .int .i64 len, .int .i64 (len + 1), .int .i64 hN, v 0, v 1, v 2, v 3, v 4, v 5, v 6, v 7, v 8], []⟩)
          (fun W => ∃ n, W = w.drewN n)
          (fun j _ s => match j with | 0 => s = .slice (some ⟨b, off, none⟩) len cap | 1 => s = .int .i64 hN | 2 => s = .slice (some ⟨b, off, none⟩) hN cap | 3 => RFp (prs f (zs.take hN)) s | 4 => s = .slice (some ⟨b, off, none⟩) len cap | 5 => s = .int .i64 hN | 6 => s = .slice (some ⟨b, off + hN, none⟩) (len - hN) (cap - hN) | 7 => RFp (prs f (zs.drop hN)) s | 8 => RFp (oop .add .f32 (prs f (zs.take hN)) (prs f (zs.drop hN))) s | _ => True) ?_ ?_ ⟨1, rfl⟩ ?_ ?_
        · intro j W W' v hb
          rcases j with _ | _ | _ | _ | _ | _ | _ | _ | _ | j <;> exact id
        · exact ⟨fun i => [undef, undef, undef, undef, undef, undef, undef, undef, undef].getD i undef, rfl⟩
        · intro i o ho hlt vals W hG hd
          obtain ⟨m', rfl⟩ := hG
          rcases i with _ | _ | _ | _ | _ | _ | _ | _ | _ | i
          · refine wpOp_run ho (by cases Option.some.inj ho; rfl) ?_
            cases Option.some.inj ho
            go_simp
            exact ⟨.slice (some ⟨b, off, none⟩) len cap, by simp [upd_at], Below.refl _ _, ⟨_, rfl⟩, rfl⟩
          · refine wpOp_run ho (by cases Option.some.inj ho; rfl) ?_
            cases Option.some.inj ho
            go_simp
            exact ⟨.int .i64 hN, by simp [upd_at], Below.refl _ _, ⟨_, rfl⟩, rfl⟩
          · refine wpOp_run ho (by cases Option.some.inj ho; rfl) ?_
            cases Option.some.inj ho
            have e0 : vals 0 = .slice (some ⟨b, off, none⟩) len cap := hd ⟨0, .data⟩ (by simp) rfl
            have e1 : vals 1 = .int .i64 hN := hd ⟨1, .data⟩ (by simp) rfl
            go_simp
            exact ⟨.slice (some ⟨b, off, none⟩) hN cap, by simp [upd_at, e0, e1], Below.refl _ _, ⟨_, rfl⟩, rfl⟩
          · refine wpOp_run ho (by cases Option.some.inj ho; rfl) ?_
            cases Option.some.inj ho
            have e2 : vals 2 = .slice (some ⟨b, off, none⟩) hN cap := hd ⟨2, .data⟩ (by simp) rfl
            have hc := ih _ _ _ _ (w.drewN m') (IsFRow.below (IsFRow.head hN (by omega) HF.out) (below_drewN (Below.refl _ _) m')) (by omega)
            go_simp
            refine hc.mono ?_
            rintro e w' ⟨r, q, hr, rfl, rfl⟩
            have hB := below_drewN (Below.refl (w.drewN m').heap.size (w.drewN m')) q
            go_simp
            exact ⟨.float .f32 r, by simp [upd_at, e2], by simpa using hB, ⟨_, rfl⟩, r, rfl, hr⟩
          · refine wpOp_run ho (by cases Option.some.inj ho; rfl) ?_
            cases Option.some.inj ho
            go_simp
            exact ⟨.slice (some ⟨b, off, none⟩) len cap, by simp [upd_at], Below.refl _ _, ⟨_, rfl⟩, rfl⟩
          · refine wpOp_run ho (by cases Option.some.inj ho; rfl) ?_
            cases Option.some.inj ho
            go_simp
            exact ⟨.int .i64 hN, by simp [upd_at], Below.refl _ _, ⟨_, rfl⟩, rfl⟩
          · refine wpOp_run ho (by cases Option.some.inj ho; rfl) ?_
            cases Option.some.inj ho
            have e4 : vals 4 = .slice (some ⟨b, off, none⟩) len cap := hd ⟨4, .data⟩ (by simp) rfl
            have e5 : vals 5 = .int .i64 hN := hd ⟨5, .data⟩ (by simp) rfl
            go_simp
            exact ⟨.slice (some ⟨b, off + hN, none⟩) (len - hN) (cap - hN), by simp [upd_at, e4, e5], Below.refl _ _, ⟨_, rfl⟩, rfl⟩
          · refine wpOp_run ho (by cases Option.some.inj ho; rfl) ?_
            cases Option.some.inj ho
            have e6 : vals 6 = .slice (some ⟨b, off + hN, none⟩) (len - hN) (cap - hN) := hd ⟨6, .data⟩ (by simp) rfl
            have hc := ih _ _ _ _ (w.drewN m') (IsFRow.below (IsFRow.tail hN (by omega) HF.out) (below_drewN (Below.refl _ _) m')) (by omega)
            go_simp
            refine hc.mono ?_
            rintro e w' ⟨r, q, hr, rfl, rfl⟩
            have hB := below_drewN (Below.refl (w.drewN m').heap.size (w.drewN m')) q
            go_simp
            exact ⟨.float .f32 r, by simp [upd_at, e6], by simpa using hB, ⟨_, rfl⟩, r, rfl, hr⟩
          · refine wpOp_run ho (by cases Option.some.inj ho; rfl) ?_
            cases Option.some.inj ho
            obtain ⟨r3, e3, k3⟩ := (show RFp (prs f (zs.take hN)) (vals 3) from hd ⟨3, .data⟩ (by simp) rfl)
            obtain ⟨r7, e7, k7⟩ := (show RFp (prs f (zs.drop hN)) (vals 7) from hd ⟨7, .data⟩ (by simp) rfl)
            obtain ⟨r, q, hrun, hr⟩ := run_arith (P := Try.prog) .add rfl 22 .f32 r3 r7 (w.drewN m')
            have hB := below_drewN (Below.refl (w.drewN m').heap.size (w.drewN m')) q
            go_simp
            exact ⟨.float .f32 r, by simp [upd_at, e3, e7], by simpa using hB, ⟨_, rfl⟩, r, rfl, by rw [← k3.ab, ← k7.ab]; exact hr⟩
          · omega
        · intro vals W hG hR
          obtain ⟨m', rfl⟩ := hG
          refine wpOp_run rfl rfl ?_
          obtain ⟨r, e8, k8⟩ := (show RFp (oop .add .f32 (prs f (zs.take hN)) (prs f (zs.drop hN))) (vals 8) from hR 8 (by omega))
          go_simp
          go_wp2_with fail
          go_ret
          exact RetF.mk _ k8
theorem impl_sumPairs : ∀ (f : Nat) (a : Option Addr) (len cap : Nat) (zs : List Nat) (w : World), IsFRow w a len cap zs → len ≤ f → len ≤ 1048576 → Calls Try.prog 64 #[.slice a len cap] w (RetF .f32 (prs (f + 1) zs) w)
  | f, a, len, cap, zs, w, h, hf, hm => by
    have ih : ∀ (a : Option Addr) (len cap : Nat) (zs : List Nat) (w : World), IsFRow w a len cap zs → len + 1 ≤ f ∧ len ≤ 1048576 → Calls Try.prog 64 #[.slice a len cap] w (RetF .f32 (prs f zs) w) := by
      intro a' len' cap' zs' w' h' hf'
      obtain ⟨g, rfl⟩ : ∃ g, f = g + 1 := ⟨f - 1, by omega⟩
      exact impl_sumPairs g a' len' cap' zs' w' h' (by omega) hf'.2
    have hz := h.1
    have hcap := h.2.1
    have hcm := h.2.2.1
    unfold maxLen at hcm
    unfold prs
    by_cases h0 : len = 0
    · subst h0
      rw [if_pos hz]
      clear ih h
      go_enter Try.func64, Try.ntmps64
      go_wp2
      go_ret
      exact RetF.mk0 (is32 (by omega))
    · obtain ⟨b, off, rfl, hbl, hc⟩ := h.2.2.2.2.resolve_left (by omega)
      rw [if_neg (by omega)]
      by_cases h1 : len = 1
      · subst h1
        rw [if_pos hz]
        have hcx : w.cell? ⟨b, off, none⟩ = some (.float .f32 (zs.getD 0 0)) := by simpa using hc 0 (by omega)
        have lz := getD_lt' h.2.2.2.1 0
        generalize zs.getD 0 0 = z at *
        clear hc ih h
        go_enter Try.func64, Try.ntmps64
        go_wp2
        go_ret
        exact RetF.mk0 (is32 lz)
      · rw [if_neg (by omega), hz]
        obtain ⟨hN, hn⟩ : ∃ hN, hN = (len + 1) / 2 := ⟨_, rfl⟩
        rw [← hn]
        have e : ((len : Int) + 1) / 2 = (hN : Int) := by omega
        have hlo : hN < len := by omega
        have hlo1 : 1 ≤ hN := by omega
        have hlc : hN ≤ cap := by omega
        have hle : hN ≤ len := by omega
        have hcne : ¬ cap = hN := by omega
        have q0 : ((len : Int) == 0) = false := by rw [beq_eq_false_iff_ne]; omega
        have q1 : ((len : Int) == 1) = false := by rw [beq_eq_false_iff_ne]; omega
        clear hn
        have HF := Lib.hid h
        have HI := Lib.hid ih
        clear hc h ih
        go_enter Try.func64, Try.ntmps64
        go_wp2_with fail
        have ih := HI.out
        rw [e]
        clear e
        refine wp_region_steps (by kernel_rfl) (by kernel_rfl) 9 (by kernel_rfl) (fun _ v => ⟨#[.slice (some ⟨b, off, none⟩) len cap, undef, .float .f32 0, .int .i64 hN, .slice (some ⟨b, off, none⟩) len cap, .int .i64 len, .bool false, .bool false, .bool false, .bool false, undef, undef, undef, .slice (some ⟨b, off, none⟩) len cap, .int .i64 len, .int .i64 (len + 1), .int .i64 hN, v 0, v 1, v 2, v 3, v 4, v 5, v 6, v 7, v 8], []⟩)
          (fun W => ∃ n, W = w.drewN n)
          (fun j _ s => match j with | 0 => s = .slice (some ⟨b, off, none⟩) len cap | 1 => s = .int .i64 hN | 2 => s = .slice (some ⟨b, off, none⟩) hN cap | 3 => RFp (prs f (zs.take hN)) s | 4 => s = .slice (some ⟨b, off, none⟩) len cap | 5 => s = .int .i64 hN | 6 => s = .slice (some ⟨b, off + hN, none⟩) (len - hN) (cap - hN) | 7 => RFp (prs f (zs.drop hN)) s | 8 => RFp (oop .add .f32 (prs f (zs.take hN)) (prs f (zs.drop hN))) s | _ => True) ?_ ?_ ⟨1, rfl⟩ ?_ ?_
        · intro j W W' v hb
          rcases j with _ | _ | _ | _ | _ | _ | _ | _ | _ | j <;> exact id
        · exact ⟨fun i => [undef, undef, undef, undef, undef, undef, undef, undef, undef].getD i undef, rfl⟩
        · intro i o ho hlt vals W hG hd
          obtain ⟨m', rfl⟩ := hG
          rcases i with _ | _ | _ | _ | _ | _ | _ | _ | _ | i
          · refine wpOp_run ho (by cases Option.some.inj ho; rfl) ?_
            cases Option.some.inj ho
            go_simp
            exact ⟨.slice (some ⟨b, off, none⟩) len cap, by simp [upd_at], Below.refl _ _, ⟨_, rfl⟩, rfl⟩
          · refine wpOp_run ho (by cases Option.some.inj ho; rfl) ?_
            cases Option.some.inj ho
            go_simp
            exact ⟨.int .i64 hN, by simp [upd_at], Below.refl _ _, ⟨_, rfl⟩, rfl⟩
          · refine wpOp_run ho (by cases Option.some.inj ho; rfl) ?_
            cases Option.some.inj ho
            have e0 : vals 0 = .slice (some ⟨b, off, none⟩) len cap := hd ⟨0, .data⟩ (by simp) rfl
            have e1 : vals 1 = .int .i64 hN := hd ⟨1, .data⟩ (by simp) rfl
            go_simp
            exact ⟨.slice (some ⟨b, off, none⟩) hN cap, by simp [upd_at, e0, e1], Below.refl _ _, ⟨_, rfl⟩, rfl⟩
          · refine wpOp_run ho (by cases Option.some.inj ho; rfl) ?_
            cases Option.some.inj ho
            have e2 : vals 2 = .slice (some ⟨b, off, none⟩) hN cap := hd ⟨2, .data⟩ (by simp) rfl
            have hc := ih _ _ _ _ (w.drewN m') (IsFRow.below (IsFRow.head hN (by omega) HF.out) (below_drewN (Below.refl _ _) m')) (by omega)
            go_simp
            refine hc.mono ?_
            rintro e w' ⟨r, q, hr, rfl, rfl⟩
            have hB := below_drewN (Below.refl (w.drewN m').heap.size (w.drewN m')) q
            go_simp
            exact ⟨.float .f32 r, by simp [upd_at, e2], by simpa using hB, ⟨_, rfl⟩, r, rfl, hr⟩
          · refine wpOp_run ho (by cases Option.some.inj ho; rfl) ?_
            cases Option.some.inj ho
            go_simp
            exact ⟨.slice (some ⟨b, off, none⟩) len cap, by simp [upd_at], Below.refl _ _, ⟨_, rfl⟩, rfl⟩
          · refine wpOp_run ho (by cases Option.some.inj ho; rfl) ?_
            cases Option.some.inj ho
            go_simp
            exact ⟨.int .i64 hN, by simp [upd_at], Below.refl _ _, ⟨_, rfl⟩, rfl⟩
          · refine wpOp_run ho (by cases Option.some.inj ho; rfl) ?_
            cases Option.some.inj ho
            have e4 : vals 4 = .slice (some ⟨b, off, none⟩) len cap := hd ⟨4, .data⟩ (by simp) rfl
            have e5 : vals 5 = .int .i64 hN := hd ⟨5, .data⟩ (by simp) rfl
            go_simp
            exact ⟨.slice (some ⟨b, off + hN, none⟩) (len - hN) (cap - hN), by simp [upd_at, e4, e5], Below.refl _ _, ⟨_, rfl⟩, rfl⟩
          · refine wpOp_run ho (by cases Option.some.inj ho; rfl) ?_
            cases Option.some.inj ho
            have e6 : vals 6 = .slice (some ⟨b, off + hN, none⟩) (len - hN) (cap - hN) := hd ⟨6, .data⟩ (by simp) rfl
            have hc := ih _ _ _ _ (w.drewN m') (IsFRow.below (IsFRow.tail hN (by omega) HF.out) (below_drewN (Below.refl _ _) m')) (by omega)
            go_simp
            refine hc.mono ?_
            rintro e w' ⟨r, q, hr, rfl, rfl⟩
            have hB := below_drewN (Below.refl (w.drewN m').heap.size (w.drewN m')) q
            go_simp
            exact ⟨.float .f32 r, by simp [upd_at, e6], by simpa using hB, ⟨_, rfl⟩, r, rfl, hr⟩
          · refine wpOp_run ho (by cases Option.some.inj ho; rfl) ?_
            cases Option.some.inj ho
            obtain ⟨r3, e3, k3⟩ := (show RFp (prs f (zs.take hN)) (vals 3) from hd ⟨3, .data⟩ (by simp) rfl)
            obtain ⟨r7, e7, k7⟩ := (show RFp (prs f (zs.drop hN)) (vals 7) from hd ⟨7, .data⟩ (by simp) rfl)
            obtain ⟨r, q, hrun, hr⟩ := run_arith (P := Try.prog) .add rfl 22 .f32 r3 r7 (w.drewN m')
            have hB := below_drewN (Below.refl (w.drewN m').heap.size (w.drewN m')) q
            go_simp
            exact ⟨.float .f32 r, by simp [upd_at, e3, e7], by simpa using hB, ⟨_, rfl⟩, r, rfl, by rw [← k3.ab, ← k7.ab]; exact hr⟩
          · omega
        · intro vals W hG hR
          obtain ⟨m', rfl⟩ := hG
          refine wpOp_run rfl rfl ?_
          obtain ⟨r, e8, k8⟩ := (show RFp (oop .add .f32 (prs f (zs.take hN)) (prs f (zs.drop hN))) (vals 8) from hR 8 (by omega))
          go_simp
          go_wp2_with fail
          go_ret
          exact RetF.mk _ k8
end Go.Proofs.Ytegonfniagpnkaa
