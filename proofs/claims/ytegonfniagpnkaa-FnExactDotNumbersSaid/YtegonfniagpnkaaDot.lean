/-
  The sum of the products of two lists, and its law.
-/
import Derived.Test.YtegonfniagpnkaaRow
namespace Go.Proofs.Ytegonfniagpnkaa
open Go.RowKit Go.FL

def RF (o : Option Nat) (s : Value) : Prop := ∃ r, s = .float .f32 r ∧ Is .f32 r o

def dotTo (zs ys : List Nat) : Nat → Option Nat
  | 0 => ab .f32 0
  | k + 1 => oop .add .f32 (dotTo zs ys k) (oop .mul .f32 (ab .f32 (zs.getD k 0)) (ab .f32 (ys.getD k 0)))

theorem getD_lt {zs : List Nat} (h : ∀ z ∈ zs, z < 4294967296) (k : Nat) : zs.getD k 0 < 4294967296 := by
  rw [List.getD_eq_getElem?_getD]
  cases hk : zs[k]? with
  | none => simp
  | some z => exact h z (List.mem_of_getElem? hk)

theorem spec_l01Dot (a a2 : Option Addr) (len cap cap2 : Nat) (zs ys : List Nat) (w : World) (h : IsFRow w a len cap zs) (h2 : IsFRow w a2 len cap2 ys) : Calls Try.prog 58 #[.slice a len cap, .slice a2 len cap2] w (RetF .f32 (dotTo zs ys len) w) := by
  obtain ⟨hz, hlc, hcm, hzl, hrow⟩ := h
  obtain ⟨hy, -, -, hyl, hrow2⟩ := h2
  unfold maxLen at hcm
  go_enter Try.func58, Try.ntmps58
  go_wp2
  go_loopw [5, 6] (fun s i wr => ∃ k n r : Nat, k ≤ len ∧ i = .int .i64 k ∧ wr = w.drewN n ∧ s = .float .f32 r ∧ Is .f32 r (dotTo zs ys k)) (fun _ i _ => len - (intOf i).toNat)
  case atStart => exact ⟨0, 0, 0, Nat.zero_le _, rfl, rfl, rfl, is32 (by omega)⟩
  case round =>
    obtain ⟨k, m, s, hk, rfl, rfl, rfl, hs⟩ := hrel
    by_cases hlt : k < len
    · have hlt' := hlt
      obtain ⟨b, off, rfl, hbl, hc⟩ := hrow.resolve_left (by omega)
      obtain ⟨b2, off2, rfl, hbl2, hc2⟩ := hrow2.resolve_left (by omega)
      have hcx := hc k hlt
      have hcy := hc2 k hlt
      have lz := getD_lt hzl k
      have ly := getD_lt hyl k
      generalize hzk : zs.getD k 0 = z at hcx lz
      generalize hyk : ys.getD k 0 = y at hcy ly
      have HS := Lib.hid hs
      have HZ := Lib.hid (And.intro hzk lz)
      have HY := Lib.hid (And.intro hyk ly)
      clear hc hc2 hs hzk hyk hzl hyl hz hy lz ly
      go_wp2_with fail
      refine wp_region_steps (by kernel_rfl) (by kernel_rfl) 11 (by kernel_rfl) (fun _ v => ⟨#[.slice (some ⟨b, off, none⟩) len cap, .slice (some ⟨b2, off2, none⟩) len cap2, undef, undef, .float .f32 0, .float .f32 s, .int .i64 k, .int .i64 k, .slice (some ⟨b, off, none⟩) len cap, .int .i64 len, .bool true, u11, u12, v 0, v 1, v 2, v 3, v 4, v 5, v 6, v 7, v 8, v 9, v 10, undef], []⟩)
        (fun W => ∃ n, W = w.drewN n)
        (fun j _ s => match j with | 0 => RF (dotTo zs ys k) s | 1 => s = .slice (some ⟨b, off, none⟩) len cap | 2 => s = .int .i64 k | 3 => s = .pointer (some ⟨b, off + k, none⟩) | 4 => RF (ab .f32 z) s | 5 => s = .slice (some ⟨b2, off2, none⟩) len cap2 | 6 => s = .int .i64 k | 7 => s = .pointer (some ⟨b2, off2 + k, none⟩) | 8 => RF (ab .f32 y) s | 9 => RF (oop .mul .f32 (ab .f32 z) (ab .f32 y)) s | 10 => RF (oop .add .f32 (dotTo zs ys k) (oop .mul .f32 (ab .f32 z) (ab .f32 y))) s | _ => True) ?_ ?_ ⟨m + 1, rfl⟩ ?_ ?_
      · intro j W W' v hb
        rcases j with _ | _ | _ | _ | _ | _ | _ | _ | _ | _ | _ | j <;> exact id
      · exact ⟨fun i => [u13, u14, u15, u16, u17, u18, u19, u20, u21, u22, u23].getD i undef, rfl⟩
      · intro i o ho hlt vals W hG hd
        obtain ⟨m', rfl⟩ := hG
        rcases i with _ | _ | _ | _ | _ | _ | _ | _ | _ | _ | _ | i
        · refine wpOp_run ho (by cases Option.some.inj ho; rfl) ?_
          cases Option.some.inj ho
          go_simp
          exact ⟨.float .f32 s, by simp [upd_at], Below.refl _ _, ⟨_, rfl⟩, s, rfl, HS.out⟩
        · refine wpOp_run ho (by cases Option.some.inj ho; rfl) ?_
          cases Option.some.inj ho
          go_simp
          exact ⟨.slice (some ⟨b, off, none⟩) len cap, by simp [upd_at], Below.refl _ _, ⟨_, rfl⟩, rfl⟩
        · refine wpOp_run ho (by cases Option.some.inj ho; rfl) ?_
          cases Option.some.inj ho
          go_simp
          exact ⟨.int .i64 k, by simp [upd_at], Below.refl _ _, ⟨_, rfl⟩, rfl⟩
        · refine wpOp_run ho (by cases Option.some.inj ho; rfl) ?_
          cases Option.some.inj ho
          have e1 : vals 1 = .slice (some ⟨b, off, none⟩) len cap := hd ⟨1, .data⟩ (by simp) rfl
          have e2 : vals 2 = .int .i64 k := hd ⟨2, .data⟩ (by simp) rfl
          go_simp
          exact ⟨.pointer (some ⟨b, off + k, none⟩), by simp [upd_at, e1, e2], Below.refl _ _, ⟨_, rfl⟩, rfl⟩
        · refine wpOp_run ho (by cases Option.some.inj ho; rfl) ?_
          cases Option.some.inj ho
          have e3 : vals 3 = .pointer (some ⟨b, off + k, none⟩) := hd ⟨3, .data⟩ (by simp) rfl
          go_simp
          exact ⟨.float .f32 z, by simp [upd_at, e3], Below.refl _ _, ⟨_, rfl⟩, z, rfl, is32 HZ.out.2⟩
        · refine wpOp_run ho (by cases Option.some.inj ho; rfl) ?_
          cases Option.some.inj ho
          go_simp
          exact ⟨.slice (some ⟨b2, off2, none⟩) len cap2, by simp [upd_at], Below.refl _ _, ⟨_, rfl⟩, rfl⟩
        · refine wpOp_run ho (by cases Option.some.inj ho; rfl) ?_
          cases Option.some.inj ho
          go_simp
          exact ⟨.int .i64 k, by simp [upd_at], Below.refl _ _, ⟨_, rfl⟩, rfl⟩
        · refine wpOp_run ho (by cases Option.some.inj ho; rfl) ?_
          cases Option.some.inj ho
          have e5 : vals 5 = .slice (some ⟨b2, off2, none⟩) len cap2 := hd ⟨5, .data⟩ (by simp) rfl
          have e6 : vals 6 = .int .i64 k := hd ⟨6, .data⟩ (by simp) rfl
          go_simp
          exact ⟨.pointer (some ⟨b2, off2 + k, none⟩), by simp [upd_at, e5, e6], Below.refl _ _, ⟨_, rfl⟩, rfl⟩
        · refine wpOp_run ho (by cases Option.some.inj ho; rfl) ?_
          cases Option.some.inj ho
          have e7 : vals 7 = .pointer (some ⟨b2, off2 + k, none⟩) := hd ⟨7, .data⟩ (by simp) rfl
          go_simp
          exact ⟨.float .f32 y, by simp [upd_at, e7], Below.refl _ _, ⟨_, rfl⟩, y, rfl, is32 HY.out.2⟩
        · refine wpOp_run ho (by cases Option.some.inj ho; rfl) ?_
          cases Option.some.inj ho
          obtain ⟨r4, e4, k4⟩ := (show RF (ab .f32 z) (vals 4) from hd ⟨4, .data⟩ (by simp) rfl)
          obtain ⟨r8, e8, k8⟩ := (show RF (ab .f32 y) (vals 8) from hd ⟨8, .data⟩ (by simp) rfl)
          obtain ⟨r, q, hrun, hr⟩ := run_arith (P := Try.prog) .mul rfl 22 .f32 r4 r8 (w.drewN m')
          have hB := below_drewN (Below.refl (w.drewN m').heap.size (w.drewN m')) q
          go_simp
          exact ⟨.float .f32 r, by simp [upd_at, e4, e8], by simpa using hB, ⟨_, rfl⟩, r, rfl, by rw [← k4.ab, ← k8.ab]; exact hr⟩
        · refine wpOp_run ho (by cases Option.some.inj ho; rfl) ?_
          cases Option.some.inj ho
          obtain ⟨r0, e0, k0⟩ := (show RF (dotTo zs ys k) (vals 0) from hd ⟨0, .data⟩ (by simp) rfl)
          obtain ⟨r9, e9, k9⟩ := (show RF (oop .mul .f32 (ab .f32 z) (ab .f32 y)) (vals 9) from hd ⟨9, .data⟩ (by simp) rfl)
          obtain ⟨r, q, hrun, hr⟩ := run_arith (P := Try.prog) .add rfl 22 .f32 r0 r9 (w.drewN m')
          have hB := below_drewN (Below.refl (w.drewN m').heap.size (w.drewN m')) q
          go_simp
          exact ⟨.float .f32 r, by simp [upd_at, e0, e9], by simpa using hB, ⟨_, rfl⟩, r, rfl, by rw [← k0.ab, ← k9.ab]; exact hr⟩
        · omega
      · intro vals W hG hR
        obtain ⟨m', rfl⟩ := hG
        refine wpOp_run rfl rfl ?_
        obtain ⟨r, e10, k10⟩ := (show RF (oop .add .f32 (dotTo zs ys k) (oop .mul .f32 (ab .f32 z) (ab .f32 y))) (vals 10) from hR 10 (by omega))
        go_simp
        go_wp2_with fail
        go_roundw
        case rel => exact ⟨k + 1, _, _, by omega, rfl, rfl, rfl, by show Is .f32 _ (oop .add .f32 (dotTo zs ys k) (oop .mul .f32 (ab .f32 (zs.getD k 0)) (ab .f32 (ys.getD k 0)))); rw [HZ.out.1, HY.out.1]; exact k10⟩
        case measure => simp [intOf]; omega
    · have hkl : k = len := by omega
      subst hkl
      have HS := Lib.hid hs
      clear hs
      go_wp2
      go_ret
      exact RetF.mk _ HS.out
theorem impl_dot (a a2 : Option Addr) (len cap cap2 : Nat) (zs ys : List Nat) (w : World) (h : IsFRow w a len cap zs) (h2 : IsFRow w a2 len cap2 ys) : Calls Try.prog 60 #[.slice a len cap, .slice a2 len cap2] w (RetF .f32 (dotTo zs ys len) w) := by
  obtain ⟨hz, hlc, hcm, hzl, hrow⟩ := h
  obtain ⟨hy, -, -, hyl, hrow2⟩ := h2
  unfold maxLen at hcm
  go_enter Try.func60, Try.ntmps60
  go_wp2
  go_loopw [5, 10] (fun s i wr => ∃ k n r : Nat, k ≤ len ∧ i = .int .i64 k ∧ wr = w.drewN n ∧ s = .float .f32 r ∧ Is .f32 r (dotTo zs ys k)) (fun _ i _ => len - (intOf i).toNat)
  case atStart => exact ⟨0, 0, 0, Nat.zero_le _, rfl, rfl, rfl, is32 (by omega)⟩
  case round =>
    obtain ⟨k, m, s, hk, rfl, rfl, rfl, hs⟩ := hrel
    by_cases hlt : k < len
    · have hlt' := hlt
      obtain ⟨b, off, rfl, hbl, hc⟩ := hrow.resolve_left (by omega)
      obtain ⟨b2, off2, rfl, hbl2, hc2⟩ := hrow2.resolve_left (by omega)
      have hcx := hc k hlt
      have hcy := hc2 k hlt
      have lz := getD_lt hzl k
      have ly := getD_lt hyl k
      generalize hzk : zs.getD k 0 = z at hcx lz
      generalize hyk : ys.getD k 0 = y at hcy ly
      have HS := Lib.hid hs
      have HZ := Lib.hid (And.intro hzk lz)
      have HY := Lib.hid (And.intro hyk ly)
      clear hc hc2 hs hzk hyk hzl hyl hz hy lz ly
      go_wp2_with (refine wpList_arith _ _ _ _ _ rfl rfl _ _ _ rfl rfl rfl ?_; intro r n hr; have er := hr.ab)
      go_roundw
      case rel =>
        refine ⟨k + 1, _, _, by omega, rfl, rfl, rfl, ?_⟩
        show Is .f32 _ (oop .add .f32 (dotTo zs ys k) (oop .mul .f32 (ab .f32 (zs.getD k 0)) (ab .f32 (ys.getD k 0))))
        rw [HZ.out.1, HY.out.1, ← HS.out.ab]
        exact ⟨er.trans (by simp only [*]), hr.lt⟩
      case measure => simp [intOf]; omega
    · have hkl : k = len := by omega
      subst hkl
      have HS := Lib.hid hs
      clear hs
      go_wp2
      go_ret
      exact RetF.mk _ HS.out
theorem spec_DotNumbers (a a2 : Option Addr) (len len2 cap cap2 : Nat) (zs ys : List Nat) (w : World) (h : IsFRow w a len cap zs) (h2 : IsFRow w a2 len2 cap2 ys) : Calls Try.prog 33 #[.slice a len cap, .slice a2 len2 cap2] w (RetFT (if len ≤ 256 ∧ len = len2 then dotTo zs ys len else ab .f32 0) (decide (len ≤ 256 ∧ len = len2)) w) := by
  have H := Lib.hid h
  have H2 := Lib.hid h2
  clear h h2
  by_cases hl : len ≤ 256 ∧ len = len2
  · rw [if_pos hl, decide_eq_true hl]
    obtain ⟨hl, rfl⟩ := hl
    have hd : decide ((len : Int) ≤ 256) = true := by simp; omega
    go_enter Try.func33, Try.ntmps33
    go_wp2_with (first | (go_at_call 57; refine (spec_l01Few _ _ _ _).mono ?_; rintro e w' ⟨rfl, rfl⟩) | (go_at_call 58; refine (spec_l01Dot _ _ _ _ _ zs ys _ H.out H2.out).mono ?_; rintro e w' ⟨r, n, hr, rfl, rfl⟩))
    go_ret2
    exact ⟨_, _, hr, rfl, rfl⟩
  · rw [if_neg hl, decide_eq_false hl]
    by_cases h3 : len ≤ 256
    · have hd : decide ((len : Int) ≤ 256) = true := by simp; omega
      have hne : ¬ (len : Int) = len2 := by omega
      go_enter Try.func33, Try.ntmps33
      go_wp2_with (first | (go_at_call 57; refine (spec_l01Few _ _ _ _).mono ?_; rintro e w' ⟨rfl, rfl⟩))
      go_ret2
      exact ⟨0, 0, is32 (by omega), rfl, rfl⟩
    · have hd : decide ((len : Int) ≤ 256) = false := by simp; omega
      go_enter Try.func33, Try.ntmps33
      go_wp2_with (first | (go_at_call 57; refine (spec_l01Few _ _ _ _).mono ?_; rintro e w' ⟨rfl, rfl⟩))
      go_ret2
      exact ⟨0, 0, is32 (by omega), rfl, rfl⟩
theorem impl_DotNumbers (a a2 : Option Addr) (len len2 cap cap2 : Nat) (zs ys : List Nat) (w : World) (h : IsFRow w a len cap zs) (h2 : IsFRow w a2 len2 cap2 ys) : Calls Try.prog 35 #[.slice a len cap, .slice a2 len2 cap2] w (RetFT (if len ≤ 256 ∧ len = len2 then dotTo zs ys len else ab .f32 0) (decide (len ≤ 256 ∧ len = len2)) w) := by
  have H := Lib.hid h
  have H2 := Lib.hid h2
  clear h h2
  by_cases hl : len ≤ 256 ∧ len = len2
  · rw [if_pos hl, decide_eq_true hl]
    obtain ⟨hl, rfl⟩ := hl
    have hd : decide ((len : Int) ≤ 256) = true := by simp; omega
    go_enter Try.func35, Try.ntmps35
    go_wp2_with (first | (go_at_call 59; refine (impl_listOk _ _ _ _).mono ?_; rintro e w' ⟨rfl, rfl⟩) | (go_at_call 60; refine (impl_dot _ _ _ _ _ zs ys _ H.out H2.out).mono ?_; rintro e w' ⟨r, n, hr, rfl, rfl⟩))
    go_ret2
    exact ⟨_, _, hr, rfl, rfl⟩
  · rw [if_neg hl, decide_eq_false hl]
    by_cases h3 : len ≤ 256
    · have hd : decide ((len : Int) ≤ 256) = true := by simp; omega
      have hne : ¬ (len : Int) = len2 := by omega
      go_enter Try.func35, Try.ntmps35
      go_wp2_with (first | (go_at_call 59; refine (impl_listOk _ _ _ _).mono ?_; rintro e w' ⟨rfl, rfl⟩))
      go_ret2
      exact ⟨0, 0, is32 (by omega), rfl, rfl⟩
    · have hd : decide ((len : Int) ≤ 256) = false := by simp; omega
      go_enter Try.func35, Try.ntmps35
      go_wp2_with (first | (go_at_call 59; refine (impl_listOk _ _ _ _).mono ?_; rintro e w' ⟨rfl, rfl⟩))
      go_ret2
      exact ⟨0, 0, is32 (by omega), rfl, rfl⟩
theorem FnExactDotNumbers_walk (a : Option Addr) (len cap : Nat) (zs : List Nat) (a2 : Option Addr) (len2 cap2 : Nat) (ys : List Nat) (w : World) (h0 : IsFRow w a len cap zs) (h1 : IsFRow w a2 len2 cap2 ys) : Calls Try.prog 11 #[.slice a len cap, .slice a2 len2 cap2] w fun e w' => e = .returned (.bool true) ∧ Below w.heap.size w w' := by
  by_cases hl0 : len ≤ 1048576
  case neg =>
    go_enter Try.func11, Try.ntmps11
    go_wp2
    go_ret
    exact ⟨rfl, Below.refl _ _⟩
  by_cases hl1 : len2 ≤ 1048576
  case neg =>
    go_enter Try.func11, Try.ntmps11
    go_wp2
    go_ret
    exact ⟨rfl, Below.refl _ _⟩
  have H0 := Lib.hid h0
  have H1 := Lib.hid h1
  clear h0 h1
  have B := Lib.hid (Below.refl w.heap.size w)
  go_enter Try.func11, Try.ntmps11
  go_wp2_with fail
  refine (toFloat32S a len cap zs _ H0.out hl0).mono ?_
  rintro e v1 ⟨rfl, f, c0, -⟩
  have c := c0
  replace H0 := Lib.hid (IsFRow.below H0.out c)
  replace H1 := Lib.hid (IsFRow.below H1.out c)
  replace B := Lib.hid (B.out.trans (c.mono B.out.size))
  have F0 := Lib.hid f
  clear f c c0
  go_wp2_with fail
  refine (toFloat32S a2 len2 cap2 ys _ H1.out hl1).mono ?_
  rintro e v2 ⟨rfl, f, c0, -⟩
  have c := c0
  replace H0 := Lib.hid (IsFRow.below H0.out c)
  replace H1 := Lib.hid (IsFRow.below H1.out c)
  replace F0 := Lib.hid (IsFRow.below F0.out c)
  replace B := Lib.hid (B.out.trans (c.mono B.out.size))
  have F1 := Lib.hid f
  clear f c c0
  go_wp2_with fail
  refine (spec_DotNumbers _ _ _ _ _ _ zs ys _ F0.out F1.out).mono ?_
  rintro e w' ⟨r1, n1, hr, rfl, rfl⟩
  have E1 := Lib.hid hr.ab
  clear hr
  go_wp2_with fail
  clear F0 F1
  refine (toFloat32S a len cap zs _ (IsFRow.below H0.out (below_drewN (Below.refl _ _) _)) hl0).mono ?_
  rintro e v3 ⟨rfl, f, c0, -⟩
  have c := (below_drewN (Below.refl _ _) _).trans c0
  replace H0 := Lib.hid (IsFRow.below H0.out c)
  replace H1 := Lib.hid (IsFRow.below H1.out c)
  replace B := Lib.hid (B.out.trans (c.mono B.out.size))
  have X0 := Lib.hid f
  clear f c c0
  go_wp2_with fail
  refine (toFloat32S a2 len2 cap2 ys _ H1.out hl1).mono ?_
  rintro e v4 ⟨rfl, f, c0, -⟩
  have c := c0
  replace H0 := Lib.hid (IsFRow.below H0.out c)
  replace H1 := Lib.hid (IsFRow.below H1.out c)
  replace X0 := Lib.hid (IsFRow.below X0.out c)
  replace B := Lib.hid (B.out.trans (c.mono B.out.size))
  have X1 := Lib.hid f
  clear f c c0
  go_wp2_with fail
  refine (impl_DotNumbers _ _ _ _ _ _ zs ys _ X0.out X1.out).mono ?_
  rintro e w' ⟨r2, n2, hr, rfl, rfl⟩
  have E2 := Lib.hid hr.ab
  clear hr
  go_wp2_with (first | (refine wpList_widen _ _ _ rfl rfl _ rfl (by rw [Try.underlying22]; rfl) Try.underlying34 ?_; intro r n hr; have er := hr.ab) | (go_at_call 22; refine (sameFloat _ _ _ ?_).mono ?_; (simp only [*]; rw [E1.out, E2.out]); rintro e w' ⟨n, rfl, rfl⟩))
  refine (toFloat32S a len cap zs _ (IsFRow.below H0.out (below_drewN (Below.refl _ _) _)) hl0).mono ?_
  rintro e v5 ⟨rfl, f, c0, -⟩
  have c := (below_drewN (Below.refl _ _) _).trans c0
  replace H0 := Lib.hid (IsFRow.below H0.out c)
  replace H1 := Lib.hid (IsFRow.below H1.out c)
  replace X0 := Lib.hid (IsFRow.below X0.out c)
  replace X1 := Lib.hid (IsFRow.below X1.out c)
  replace B := Lib.hid (B.out.trans (c.mono B.out.size))
  have Y0 := Lib.hid f
  clear f c c0
  go_wp2_with fail
  refine (eqFloat32S _ _ len _ _ zs _ X0.out Y0.out).mono ?_
  rintro e w' ⟨q0, rfl, rfl⟩
  go_wp2_with fail
  refine (toFloat32S a2 len2 cap2 ys _ (IsFRow.below H1.out (below_drewN (Below.refl _ _) _)) hl1).mono ?_
  rintro e v6 ⟨rfl, f, c0, -⟩
  have c := (below_drewN (Below.refl _ _) _).trans c0
  replace H0 := Lib.hid (IsFRow.below H0.out c)
  replace H1 := Lib.hid (IsFRow.below H1.out c)
  replace X0 := Lib.hid (IsFRow.below X0.out c)
  replace X1 := Lib.hid (IsFRow.below X1.out c)
  replace Y0 := Lib.hid (IsFRow.below Y0.out c)
  replace B := Lib.hid (B.out.trans (c.mono B.out.size))
  have Y1 := Lib.hid f
  clear f c c0
  go_wp2_with fail
  refine (eqFloat32S _ _ len2 _ _ ys _ X1.out Y1.out).mono ?_
  rintro e w' ⟨q1, rfl, rfl⟩
  go_wp2_with fail
  go_ret
  exact ⟨rfl, below_drewN B.out _⟩
end Go.Proofs.Ytegonfniagpnkaa
