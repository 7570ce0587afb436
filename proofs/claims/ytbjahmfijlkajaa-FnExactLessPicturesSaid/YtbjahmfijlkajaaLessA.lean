/-
  The difference of two pictures: the walks.
-/
import Derived.Test.YtbjahmfijlkajaaTwo
namespace Go.Proofs.Ytbjahmfijlkajaa
open Go.RowKit Go.FL
def Typ (w : World) (ao : Option Addr) : Prop := ∀ b, ao = some b → ∃ cur, w.heap[b.block]? = some (.cells cur 31 (0, 0))
theorem Typ.below {w w' : World} {ao : Option Addr} (h : Typ w ao) (hb : Below w.heap.size w w') : Typ w' ao := by
  intro b e
  obtain ⟨cur, hc⟩ := h b e
  exact ⟨cur, (hb.block _ (lt_of_block hc)).trans hc⟩
theorem Typ.set {w : World} {ao : Option Addr} {g : Nat} {cs : Array Value} (h : Typ w ao) (hg : w.heap[g]? = some (.cells cs 27 (0, 0))) (i : Nat) (u : Value) : Typ (w.setCell ⟨g, i, none⟩ u) ao := by
  intro b e
  obtain ⟨cur, hc⟩ := h b e
  refine ⟨cur, (Below.heap_setCell w ⟨g, i, none⟩ u b.block ?_).trans hc⟩
  intro hbg
  rw [hbg] at hc
  rw [hc] at hg
  simp at hg
theorem OwnF.typ {w : World} {base n cap : Nat} {ao : Option Addr} {os : Nat → Option Nat} (h : OwnF w base (.slice ao n cap) n os) : Typ w ao := by
  intro b e
  subst e
  obtain ⟨zs, h1, h2, h3⟩ := h
  rcases h2.2 with ⟨e, -⟩ | ⟨g, cp, cur, e, -, hh, -⟩
  · simp at e
  · simp only [Value.slice.injEq, Option.some.injEq] at e
    rw [e.1]
    exact ⟨cur, hh⟩
/-- a picture, whether there is one, and of what type its row's block is -/
def RetT (x y : Int) (n : Nat) (ok : Bool) (os : Nat → Option Nat) (w : World) (e : Ending) (w' : World) : Prop :=
  ∃ ao cap zs, e = .returned (.tuple #[.agg #[.int .i64 x, .int .i64 y, .slice ao n cap], .bool ok]) ∧ ORow w' w.heap.size w'.heap.size ao n cap zs ∧ (∀ i, i < n → Is .f32 (zs.getD i 0) (os i)) ∧ Typ w' ao ∧ Below w.heap.size w w'
theorem RetT.none {w w' : World} {e : Ending} (os : Nat → Option Nat) (he : e = .returned (.tuple #[.agg #[.int .i64 0, .int .i64 0, .slice none 0 0], .bool false])) (hb : Below w.heap.size w w') : RetT 0 0 0 false os w e w' :=
  ⟨Option.none, 0, [], he, ORow.nil _ _ _, fun _ hi => absurd hi (Nat.not_lt_zero _), fun _ h => by simp at h, hb⟩
theorem RetT.congr {x y : Int} {n : Nat} {ok : Bool} {os os' : Nat → Option Nat} {w w' : World} {e : Ending} (h : RetT x y n ok os w e w') (ho : ∀ i, i < n → os i = os' i) : RetT x y n ok os' w e w' := by
  obtain ⟨ao, cap, zs, h1, h2, h3, h5, h4⟩ := h
  exact ⟨ao, cap, zs, h1, h2, fun i hi => by rw [← ho i hi]; exact h3 i hi, h5, h4⟩
theorem OwnF.rett {w w' : World} {x y : Int} {v : Value} {n : Nat} {os : Nat → Option Nat} (h : OwnF w' w.heap.size v n os) (hn : n ≤ 1000) (hb : Below w.heap.size w w') : RetT x y n true os w (.returned (.tuple #[.agg #[.int .i64 x, .int .i64 y, v], .bool true])) w' := by
  have h0 := h
  obtain ⟨ao, cap, zs, rfl, h1, h2⟩ := h.orow hn
  exact ⟨ao, cap, zs, rfl, h1, h2, h0.typ, hb⟩
attribute [local irreducible] Oper.wp in
theorem spec_LessPictures_ok (W H : Nat) (a a2 : Option Addr) (len cap cap2 : Nat) (zs ys : List Nat) (w : World) (h : IsFRow w a len cap zs) (h2 : IsFRow w a2 len cap2 ys) (hl1 : 1 ≤ len) (hl2 : len ≤ 576) (hp : pairB W H W H len len = true) :
    Calls Try.prog 30 #[.agg #[.int .i64 W, .int .i64 H, .slice a len cap], .agg #[.int .i64 W, .int .i64 H, .slice a2 len cap2]] w (RetT W H len true (fun (x : Nat) => oop .sub .f32 (ab .f32 (zs.getD x 0)) (ab .f32 (ys.getD x 0))) w) := by
  have hcap : len ≤ cap := h.2.1
  have hcm : cap ≤ 9223372036854775807 := by have := h.2.2.1; unfold maxLen at this; omega
  have hcap2 : len ≤ cap2 := h2.2.1
  have hcm2 : cap2 ≤ 9223372036854775807 := by have := h2.2.2.1; unfold maxLen at this; omega
  obtain ⟨rb, off, rfl, hbl, hrc⟩ := h.2.2.2.2.resolve_left (by omega)
  obtain ⟨rb2, off2, rfl, hbl2, hrc2⟩ := h2.2.2.2.2.resolve_left (by omega)
  have HRC := Lib.hid hrc
  have HRC2 := Lib.hid hrc2
  clear hrc hrc2 h h2
  obtain ⟨OS, HOE0⟩ : ∃ f : Nat → Option Nat, f = (fun (x : Nat) => oop .sub .f32 (ab .f32 (zs.getD x 0)) (ab .f32 (ys.getD x 0))) := ⟨_, rfl⟩
  have HOE := Lib.hid HOE0
  clear HOE0
  rw [show (fun (x : Nat) => oop .sub .f32 (ab .f32 (zs.getD x 0)) (ab .f32 (ys.getD x 0))) = OS from HOE.out.symm]
  go_enter Try.func30, Try.ntmps30
  go_wp2_with fail
  have hq := spec_l02Two w.heap.size (w.heap.size + 1) W H W H (some ⟨rb, off, none⟩) (some ⟨rb2, off2, none⟩) len len cap cap2 (((w.alloc (.cells #[.int .i64 W, .int .i64 H, .slice (some ⟨rb, off, none⟩) len cap] 27)).alloc (.cells #[.int .i64 W, .int .i64 H, .slice (some ⟨rb2, off2, none⟩) len cap2] 27)).alloc (.cells #[.int .i64 0, .int .i64 0, .slice none 0 0] 27)) (by go_simp) (by go_simp) (by go_simp) (by go_simp) (by go_simp) (by go_simp)
  rw [hp] at hq
  refine hq.mono ?_
  clear hq hp
  rintro e w1 hq
  obtain ⟨rfl, BZ⟩ := RetB.below hq
  clear hq
  have BZ := BZ.mono (show w.heap.size + 3 ≤ _ by simp)
  have hs1 : w.heap.size + 3 ≤ w1.heap.size := by have := BZ.size; simp at this; omega
  have k00 : w1.cell? ⟨w.heap.size, 0, none⟩ = some (.int .i64 W) := (BZ.cell (p := ⟨w.heap.size, 0, none⟩) (by first | (simp; done) | (simp; omega))).trans (by go_simp)
  have k01 : w1.cell? ⟨w.heap.size, 1, none⟩ = some (.int .i64 H) := (BZ.cell (p := ⟨w.heap.size, 1, none⟩) (by first | (simp; done) | (simp; omega))).trans (by go_simp)
  have k02 : w1.cell? ⟨w.heap.size, 2, none⟩ = some (.slice (some ⟨rb, off, none⟩) len cap) := (BZ.cell (p := ⟨w.heap.size, 2, none⟩) (by first | (simp; done) | (simp; omega))).trans (by go_simp)
  have k10 : w1.cell? ⟨w.heap.size + 1, 0, none⟩ = some (.int .i64 W) := (BZ.cell (p := ⟨w.heap.size + 1, 0, none⟩) (by first | (simp; done) | (simp; omega))).trans (by go_simp)
  have k11 : w1.cell? ⟨w.heap.size + 1, 1, none⟩ = some (.int .i64 H) := (BZ.cell (p := ⟨w.heap.size + 1, 1, none⟩) (by first | (simp; done) | (simp; omega))).trans (by go_simp)
  have k12 : w1.cell? ⟨w.heap.size + 1, 2, none⟩ = some (.slice (some ⟨rb2, off2, none⟩) len cap2) := (BZ.cell (p := ⟨w.heap.size + 1, 2, none⟩) (by first | (simp; done) | (simp; omega))).trans (by go_simp)
  go_wp2_with fail
  refine (spec_l02New W H _ OS).mono ?_
  rintro e w2 ⟨nb, rfl, ho2, b2⟩
  have BB := Below.trans BZ (b2.mono hs1)
  have hs2 : w.heap.size + 3 ≤ w2.heap.size := by have := b2.size; omega
  have HO2 := Lib.hid ho2
  have HBB := Lib.hid BB
  clear ho2 b2 BZ BB k00 k01 k02 k10 k11 k12
  go_wp2_with fail
  go_loopw [7] (fun i wr => ∃ x : Nat, ∃ v, x ≤ len ∧ i = .int .i64 x ∧ wr.heap[w2.heap.size]? = some (.cells #[.int .i64 W, .int .i64 H, v] 27 (0, 0)) ∧ OwnF wr (w.heap.size + 3) v x OS ∧ Below (w.heap.size + 3) (((w.alloc (.cells #[.int .i64 W, .int .i64 H, .slice (some ⟨rb, off, none⟩) len cap] 27)).alloc (.cells #[.int .i64 W, .int .i64 H, .slice (some ⟨rb2, off2, none⟩) len cap2] 27)).alloc (.cells #[.int .i64 0, .int .i64 0, .slice none 0 0] 27)) wr) (fun i _ => len - (intOf i).toNat)
  case atStart => exact ⟨0, _, by omega, rfl, heap_alloc_new w2 _, OwnF.mono (HO2.out.below (Below.alloc (Below.refl _ _) (Nat.le_refl _) _)) (by first | (simp; done) | (simp; omega) | omega), Below.alloc HBB.out hs2 _⟩
  case round =>
    obtain ⟨x, v, hx, rfl, hbx, ho, hb⟩ := hrel
    obtain ⟨ao, cp, rfl⟩ := ho.shape
    have k00 : wr.cell? ⟨w.heap.size, 0, none⟩ = some (.int .i64 W) := (hb.cell (p := ⟨w.heap.size, 0, none⟩) (by first | (simp; done) | (simp; omega))).trans (by go_simp)
    have k01 : wr.cell? ⟨w.heap.size, 1, none⟩ = some (.int .i64 H) := (hb.cell (p := ⟨w.heap.size, 1, none⟩) (by first | (simp; done) | (simp; omega))).trans (by go_simp)
    have k02 : wr.cell? ⟨w.heap.size, 2, none⟩ = some (.slice (some ⟨rb, off, none⟩) len cap) := (hb.cell (p := ⟨w.heap.size, 2, none⟩) (by first | (simp; done) | (simp; omega))).trans (by go_simp)
    have k10 : wr.cell? ⟨w.heap.size + 1, 0, none⟩ = some (.int .i64 W) := (hb.cell (p := ⟨w.heap.size + 1, 0, none⟩) (by first | (simp; done) | (simp; omega))).trans (by go_simp)
    have k11 : wr.cell? ⟨w.heap.size + 1, 1, none⟩ = some (.int .i64 H) := (hb.cell (p := ⟨w.heap.size + 1, 1, none⟩) (by first | (simp; done) | (simp; omega))).trans (by go_simp)
    have k12 : wr.cell? ⟨w.heap.size + 1, 2, none⟩ = some (.slice (some ⟨rb2, off2, none⟩) len cap2) := (hb.cell (p := ⟨w.heap.size + 1, 2, none⟩) (by first | (simp; done) | (simp; omega))).trans (by go_simp)
    have HO := Lib.hid ho
    have HB := Lib.hid hb
    have HX := Lib.hid hbx
    clear ho hb hbx
    by_cases hlx : x < len
    · have hn : x ≤ 1000 := by omega
      obtain ⟨z, hzx⟩ : ∃ z, zs.getD x 0 = z := ⟨_, rfl⟩
      obtain ⟨z2, hyx⟩ : ∃ z2, ys.getD x 0 = z2 := ⟨_, rfl⟩
      have HOS : RowKit.Hid (OS x = oop .sub .f32 (ab .f32 z) (ab .f32 z2)) := Lib.hid (by rw [HOE.out, ← hzx, ← hyx])
      have hrx := HRC.out x hlx
      have hry := HRC2.out x hlx
      rw [hzx] at hrx
      rw [hyx] at hry
      have HZ1 := Lib.hid hrx
      have HZ2 := Lib.hid hry
      clear hrx hzx hry hyx
      go_wp2_with fail
      refine wp_region_own (by kernel_rfl) (by kernel_rfl) 16 (by kernel_rfl) 14 (fun _ v => ⟨#[Value.agg #[Value.int IntKind.i64 (W : Int), Value.int IntKind.i64 (H : Int), Value.slice (some ⟨rb, off, none⟩) len cap], Value.agg #[Value.int IntKind.i64 (W : Int), Value.int IntKind.i64 (H : Int), Value.slice (some ⟨rb2, off2, none⟩) len cap2], Value.pointer (some ⟨w.heap.size, 0, none⟩), Value.pointer (some ⟨w.heap.size + 1, 0, none⟩), Value.pointer (some ⟨w.heap.size + 1 + 1, 0, none⟩), Value.bool false, Value.pointer (some ⟨w2.heap.size, 0, none⟩), Value.int IntKind.i64 (x : Int), Value.bool true, Value.bool false, undef, Value.pointer (some ⟨w.heap.size, 0, none⟩), Value.int IntKind.i64 (W : Int), Value.pointer (some ⟨w.heap.size, 1, none⟩), Value.int IntKind.i64 (H : Int), Value.agg #[Value.int IntKind.i64 (W : Int), Value.int IntKind.i64 (H : Int), Value.slice (some ⟨nb, 0, none⟩) 0 0], Value.int IntKind.i64 (x : Int), Value.pointer (some ⟨w.heap.size, 2, none⟩), Value.slice (some ⟨rb, off, none⟩) len cap, Value.int IntKind.i64 (len : Int), Value.bool true, u21, u22, v 0, v 1, v 2, v 3, v 4, v 5, v 6, v 7, v 8, v 9, v 10, v 11, v 12, v 13, v 14, v 15, undef], []⟩) (fun d WW => Below (w.heap.size + 3) (((w.alloc (.cells #[.int .i64 W, .int .i64 H, .slice (some ⟨rb, off, none⟩) len cap] 27)).alloc (.cells #[.int .i64 W, .int .i64 H, .slice (some ⟨rb2, off2, none⟩) len cap2] 27)).alloc (.cells #[.int .i64 0, .int .i64 0, .slice none 0 0] 27)) WW ∧ wr.heap.size ≤ WW.heap.size ∧ WW.heap[w2.heap.size]? = some (.cells #[.int .i64 W, .int .i64 H, .slice ao x cp] 27 (0, 0)) ∧ (d = false → OwnF WW (w.heap.size + 3) (.slice ao x cp) x OS))
        (fun j WW s => match j with | 0 => s = .pointer (some ⟨w2.heap.size, 2, none⟩) | 1 => s = .slice ao x cp | 2 => s = .pointer (some ⟨w.heap.size, 2, none⟩) | 3 => s = .slice (some ⟨rb, off, none⟩) len cap | 4 => s = .int .i64 x | 5 => s = .pointer (some ⟨rb, off + x, none⟩) | 6 => s = .float .f32 z | 7 => s = .pointer (some ⟨w.heap.size + 1, 2, none⟩) | 8 => s = .slice (some ⟨rb2, off2, none⟩) len cap2 | 9 => s = .int .i64 x | 10 => s = .pointer (some ⟨rb2, off2 + x, none⟩) | 11 => s = .float .f32 z2 | 12 => ∃ r, s = .float .f32 r ∧ Is .f32 r (oop .sub .f32 (ab .f32 (z)) (ab .f32 (z2))) | 13 => ∃ nb, s = .slice (some ⟨nb, 0, none⟩) 1 1 ∧ ∃ r, Is .f32 r (oop .sub .f32 (ab .f32 (z)) (ab .f32 (z2))) ∧ wr.heap.size ≤ nb ∧ nb < WW.heap.size ∧ WW.cell? ⟨nb, 0, none⟩ = some (.float .f32 r) | 14 => OwnF WW (w.heap.size + 3) s (x + 1) OS | 15 => s = .pointer (some ⟨w2.heap.size, 2, none⟩) | _ => True) ?_ ⟨fun i => [u23, u24, u25, u26, u27, u28, u29, u30, u31, u32, u33, u34, u35, u36, u37, u38].getD i undef, rfl⟩ ⟨HB.out.drew, Nat.le_refl _, HX.out, fun _ => HO.out.below (Below.refl _ _).drew⟩ ?_ ?_ (by omega) ?_
      · intro j WW W2 s hb
        rcases j with _ | _ | _ | _ | _ | _ | _ | _ | _ | _ | _ | _ | _ | _ | _ | _ | j
        · exact id
        · exact id
        · exact id
        · exact id
        · exact id
        · exact id
        · exact id
        · exact id
        · exact id
        · exact id
        · exact id
        · exact id
        · exact id
        · rintro ⟨nb, e, r, hr, h1, h2, hc⟩
          exact ⟨nb, e, r, hr, h1, Nat.lt_of_lt_of_le h2 hb.size, (hb.cell (p := ⟨nb, 0, none⟩) h2).trans hc⟩
        · exact fun h => h.below hb
        · exact id
        · exact id
      · intro i o ho hlt2 hne d vals WW hG hd
        rcases i with _ | _ | _ | _ | _ | _ | _ | _ | _ | _ | _ | _ | _ | _ | _ | _ | i
        · refine wpOp_run ho (by cases Option.some.inj ho; rfl) ?_
          cases Option.some.inj ho
          go_simp
          exact ⟨.pointer (some ⟨w2.heap.size, 2, none⟩), by simp [upd_at], Below.refl _ _, hG, rfl⟩
        · refine wpOp_run ho (by cases Option.some.inj ho; rfl) ?_
          cases Option.some.inj ho
          have e0 : vals 0 = .pointer (some ⟨w2.heap.size, 2, none⟩) := hd ⟨0, .data⟩ (by simp) rfl
          have hcx := (box_cell hG.2.2.1 2)
          go_simp
          exact ⟨.slice ao x cp, by simp [upd_at, e0], Below.refl _ _, hG, rfl⟩
        · refine wpOp_run ho (by cases Option.some.inj ho; rfl) ?_
          cases Option.some.inj ho
          go_simp
          exact ⟨.pointer (some ⟨w.heap.size, 2, none⟩), by simp [upd_at], Below.refl _ _, hG, rfl⟩
        · refine wpOp_run ho (by cases Option.some.inj ho; rfl) ?_
          cases Option.some.inj ho
          have e2 : vals 2 = .pointer (some ⟨w.heap.size, 2, none⟩) := hd ⟨2, .data⟩ (by simp) rfl
          have hcx := (hG.1.cell (p := ⟨w.heap.size, 2, none⟩) (by first | (simp; done) | (simp; omega))).trans (show _ = some (.slice (some ⟨rb, off, none⟩) len cap) from by go_simp)
          go_simp
          exact ⟨.slice (some ⟨rb, off, none⟩) len cap, by simp [upd_at, e2], Below.refl _ _, hG, rfl⟩
        · refine wpOp_run ho (by cases Option.some.inj ho; rfl) ?_
          cases Option.some.inj ho
          go_simp
          exact ⟨.int .i64 x, by simp [upd_at], Below.refl _ _, hG, rfl⟩
        · refine wpOp_run ho (by cases Option.some.inj ho; rfl) ?_
          cases Option.some.inj ho
          have e3 : vals 3 = .slice (some ⟨rb, off, none⟩) len cap := hd ⟨3, .data⟩ (by simp) rfl
          have e4 : vals 4 = .int .i64 x := hd ⟨4, .data⟩ (by simp) rfl
          go_simp
          exact ⟨.pointer (some ⟨rb, off + x, none⟩), by simp [upd_at, e3, e4], Below.refl _ _, hG, rfl⟩
        · refine wpOp_run ho (by cases Option.some.inj ho; rfl) ?_
          cases Option.some.inj ho
          have e5 : vals 5 = .pointer (some ⟨rb, off + x, none⟩) := hd ⟨5, .data⟩ (by simp) rfl
          have BG : Below w.heap.size w WW := (Below.alloc (Below.alloc (Below.alloc (Below.refl _ _) (Nat.le_refl _) _) (by simp) _) (by simp; try omega) _).trans (hG.1.mono (by omega))
          have hcx := (BG.cell (p := ⟨rb, off + x, none⟩) hbl).trans HZ1.out
          go_simp
          exact ⟨.float .f32 z, by simp [upd_at, e5], Below.refl _ _, hG, rfl⟩
        · refine wpOp_run ho (by cases Option.some.inj ho; rfl) ?_
          cases Option.some.inj ho
          go_simp
          exact ⟨.pointer (some ⟨w.heap.size + 1, 2, none⟩), by simp [upd_at], Below.refl _ _, hG, rfl⟩
        · refine wpOp_run ho (by cases Option.some.inj ho; rfl) ?_
          cases Option.some.inj ho
          have e7 : vals 7 = .pointer (some ⟨w.heap.size + 1, 2, none⟩) := hd ⟨7, .data⟩ (by simp) rfl
          have hcx := (hG.1.cell (p := ⟨w.heap.size + 1, 2, none⟩) (by first | (simp; done) | (simp; omega))).trans (show _ = some (.slice (some ⟨rb2, off2, none⟩) len cap2) from by go_simp)
          go_simp
          exact ⟨.slice (some ⟨rb2, off2, none⟩) len cap2, by simp [upd_at, e7], Below.refl _ _, hG, rfl⟩
        · refine wpOp_run ho (by cases Option.some.inj ho; rfl) ?_
          cases Option.some.inj ho
          go_simp
          exact ⟨.int .i64 x, by simp [upd_at], Below.refl _ _, hG, rfl⟩
        · refine wpOp_run ho (by cases Option.some.inj ho; rfl) ?_
          cases Option.some.inj ho
          have e8 : vals 8 = .slice (some ⟨rb2, off2, none⟩) len cap2 := hd ⟨8, .data⟩ (by simp) rfl
          have e9 : vals 9 = .int .i64 x := hd ⟨9, .data⟩ (by simp) rfl
          go_simp
          exact ⟨.pointer (some ⟨rb2, off2 + x, none⟩), by simp [upd_at, e8, e9], Below.refl _ _, hG, rfl⟩
        · refine wpOp_run ho (by cases Option.some.inj ho; rfl) ?_
          cases Option.some.inj ho
          have e10 : vals 10 = .pointer (some ⟨rb2, off2 + x, none⟩) := hd ⟨10, .data⟩ (by simp) rfl
          have BG : Below w.heap.size w WW := (Below.alloc (Below.alloc (Below.alloc (Below.refl _ _) (Nat.le_refl _) _) (by simp) _) (by simp; try omega) _).trans (hG.1.mono (by omega))
          have hcx := (BG.cell (p := ⟨rb2, off2 + x, none⟩) hbl2).trans HZ2.out
          go_simp
          exact ⟨.float .f32 z2, by simp [upd_at, e10], Below.refl _ _, hG, rfl⟩
        · refine wpOp_run ho (by cases Option.some.inj ho; rfl) ?_
          cases Option.some.inj ho
          have e6 : vals 6 = .float .f32 z := hd ⟨6, .data⟩ (by simp) rfl
          have e11 : vals 11 = .float .f32 z2 := hd ⟨11, .data⟩ (by simp) rfl
          obtain ⟨r, q, hrun, hr⟩ := run_arith (P := Try.prog) .sub rfl 31 .f32 (z) (z2) WW
          have hB := below_drewN (Below.refl WW.heap.size WW) q
          go_simp
          exact ⟨.float .f32 r, by simp [upd_at, e6, e11], by simpa using hB, ⟨hG.1.trans (hB.mono (by have := hG.1.size; simp at this; omega)), Nat.le_trans hG.2.1 hB.size, (hB.block _ (lt_of_block hG.2.2.1)).trans hG.2.2.1, fun e => (hG.2.2.2 e).below hB⟩, r, rfl, by exact hr⟩
        · refine wpOp_run ho (by cases Option.some.inj ho; rfl) ?_
          cases Option.some.inj ho
          obtain ⟨r12, e12, k12⟩ := (show ∃ r, vals 12 = .float .f32 r ∧ Is .f32 r (oop .sub .f32 (ab .f32 (z)) (ab .f32 (z2))) from hd ⟨12, .data⟩ (by simp) rfl)
          have hB : Below WW.heap.size WW (WW.alloc (.cells #[.float .f32 r12] 31)) := Below.alloc (Below.refl _ _) (Nat.le_refl _) _
          go_simp
          exact ⟨.slice (some ⟨WW.heap.size, 0, none⟩) 1 1, by simp [upd_at, e12], hB, ⟨hG.1.trans (hB.mono (by have := hG.1.size; simp at this; omega)), Nat.le_trans hG.2.1 hB.size, (hB.block _ (lt_of_block hG.2.2.1)).trans hG.2.2.1, fun e => (hG.2.2.2 e).below hB⟩, WW.heap.size, rfl, r12, (show Is .f32 r12 (oop .sub .f32 (ab .f32 (z)) (ab .f32 (z2))) from k12), hG.2.1, by simp, by go_simp⟩
        · exact absurd rfl hne
        · refine wpOp_run ho (by cases Option.some.inj ho; rfl) ?_
          cases Option.some.inj ho
          go_simp
          exact ⟨.pointer (some ⟨w2.heap.size, 2, none⟩), by simp [upd_at], Below.refl _ _, hG, rfl⟩
        · omega
      · intro o ho _ vals WW hG hd
        refine wpOp_run ho (by cases Option.some.inj ho; rfl) ?_
        cases Option.some.inj ho
        have e1 : vals 1 = .slice ao x cp := hd ⟨1, .data⟩ (by simp) rfl
        obtain ⟨nb, e6, r, hr, h1, h2, hc⟩ := (show ∃ nb, vals 13 = .slice (some ⟨nb, 0, none⟩) 1 1 ∧ ∃ r, Is .f32 r (oop .sub .f32 (ab .f32 (z)) (ab .f32 (z2))) ∧ wr.heap.size ≤ nb ∧ nb < WW.heap.size ∧ WW.cell? ⟨nb, 0, none⟩ = some (.float .f32 r) from hd ⟨13, .data⟩ (by simp) rfl)
        have hv := hG.2.2.2 rfl
        refine wp_append1 (.tmp 24) (.tmp 36) rfl e1 e6 hv (by have := hG.1.size; simp at this; omega) hn hc (by rw [HOS.out]; exact hr) ?_
        intro v' w' h7 hgr
        have hB := hv.grown (by have := hG.1.size; simp at this; omega) hgr
        refine ⟨v', by simp [upd_at, Act.put], ⟨hG.1.trans hB, Nat.le_trans hG.2.1 hgr.size, (hgr.block _ (lt_of_block hG.2.2.1) (own_ne_box hv hG.2.2.1).symm).trans hG.2.2.1, fun e => by cases e⟩, h7, ?_⟩
        intro j s hj hs
        rcases j with _ | _ | _ | _ | _ | _ | _ | _ | _ | _ | _ | _ | _ | _ | _ | _ | j
        · exact hs
        · exact hs
        · exact hs
        · exact hs
        · exact hs
        · exact hs
        · exact hs
        · exact hs
        · exact hs
        · exact hs
        · exact hs
        · exact hs
        · exact hs
        · obtain ⟨nb, e, r, hr, h1, h2, hc⟩ := hs
          exact ⟨nb, e, r, hr, h1, Nat.lt_of_lt_of_le h2 hgr.size, hgr.cell hc fun e => by have := (HO.out.lt nb e.symm).2; omega⟩
        · exact absurd rfl hj
        · exact hs
        · exact hs
      · intro vals WW hG hR
        refine wpOp_run rfl rfl ?_
        have h7 : OwnF WW (w.heap.size + 3) (vals 14) (x + 1) OS := hR 14 (by omega)
        have e8 : vals 15 = .pointer (some ⟨w2.heap.size, 2, none⟩) := hR 15 (by omega)
        have hcx := (box_cell hG.2.2.1 2)
        have hfx := (box_free hG.2.2.1 2)
        clear hR
        obtain ⟨a7, c7, e7⟩ := h7.shape
        rw [e7] at h7
        go_simp
        go_wp2_with fail
        go_roundw
        case rel => exact ⟨x + 1, .slice a7 (x + 1) c7, by omega, rfl, box_set (i := 2) (.slice a7 (x + 1) c7) hG.2.2.1, h7.setBox hG.2.2.1 _ _, Below.setCell hG.1 (by omega) _⟩
        case measure => simp [intOf]; omega
    · obtain rfl : len = x := by omega
      have hz : wr.heap[w.heap.size + 2]? = some (.cells #[.int .i64 0, .int .i64 0, .slice none 0 0] 27 (0, 0)) := (HB.out.block (w.heap.size + 2) (by omega)).trans (by have h := heap_alloc_new ((w.alloc (.cells #[.int .i64 W, .int .i64 H, .slice (some ⟨rb, off, none⟩) len cap] 27)).alloc (.cells #[.int .i64 W, .int .i64 H, .slice (some ⟨rb2, off2, none⟩) len cap2] 27)) (.cells #[.int .i64 0, .int .i64 0, .slice none 0 0] 27); rw [show ((w.alloc (.cells #[.int .i64 W, .int .i64 H, .slice (some ⟨rb, off, none⟩) len cap] 27)).alloc (.cells #[.int .i64 W, .int .i64 H, .slice (some ⟨rb2, off2, none⟩) len cap2] 27)).heap.size = w.heap.size + 2 from by simp] at h; exact h)
      have z0 := box_cell hz 0
      have z1 := box_cell hz 1
      have z2 := box_cell hz 2
      have f0 := box_free hz 0
      have f1 := box_free hz 1
      have f2 := box_free hz 2
      have c0 := box_cell HX.out 0
      have c1 := box_cell HX.out 1
      have c2 := box_cell HX.out 2
      go_wp2_with fail
      have BW : Below w.heap.size w wr := (Below.alloc (Below.alloc (Below.alloc (Below.refl _ _) (Nat.le_refl _) _) (by simp) _) (by simp; try omega) _).trans (HB.out.mono (by omega))
      have hend := OwnF.setBox (OwnF.setBox (OwnF.setBox (HO.out.mono (base' := w.heap.size) (by omega)) hz 0 (.int .i64 W)) (box_set _ hz) 1 (.int .i64 H)) (box_set _ (box_set _ hz)) 2 (.slice ao len cp)
      have hty := hend.typ
      obtain ⟨ao', cp', zs', e, hro, his⟩ := hend.orow (by omega)
      simp only [Value.slice.injEq, true_and] at e
      obtain ⟨rfl, rfl⟩ := e
      refine bodyPost_ret (v := .tuple #[.agg #[.int .i64 W, .int .i64 H, .slice ao len cp], .bool true]) ?_ rfl ⟨ao, cp, zs', rfl, hro, his, hty, ?_⟩
      · simp [results, Try.results30, go_sem, z0, z1, z2]
      · exact Below.setCell (Below.setCell (Below.setCell BW (by first | (simp; done) | (simp; omega)) _) (by first | (simp; done) | (simp; omega)) _) (by first | (simp; done) | (simp; omega)) _
theorem impl_remade_okT (W H : Nat) (a : Option Addr) (len cp : Nat) (k : Nat) (cap : Array Value) (os : Nat → Nat → Option Nat) (w : World) (hvb : validB W H len = true) (hW : W ≤ 24) (hH : H ≤ 24)
    (hk : ∀ args W', (callFunc k args).run Try.prog W' = .ok (.enter k args) W')
    (hf : ∀ x y : Nat, x < W → y < H → ∀ w', Below w.heap.size w w' → Calls Try.prog k (#[.int .i64 x, .int .i64 y] ++ cap) w' (RetF .f32 (os x y) w')) :
    Calls Try.prog 55 #[.agg #[.int .i64 W, .int .i64 H, .slice a len cp], .func (.func k) #[] cap] w (RetT W H (H * W) true (osXY W os) w) := by
  have HF := Lib.hid hf
  have HK := Lib.hid hk
  clear hf hk
  have hn : H * W ≤ 1000 := Nat.le_trans (Nat.mul_le_mul hH hW) (by omega)
  go_enter Try.func55, Try.ntmps55
  go_wp2_with fail
  have hq := impl_ValidPicture W H a len cp ((w.alloc (.cells #[.int .i64 W, .int .i64 H, .slice a len cp] 27)).alloc (.cells #[.int .i64 0, .int .i64 0, .slice none 0 0] 27))
  rw [hvb] at hq
  refine hq.mono ?_
  clear hq
  rintro e w1 ⟨rfl, b1⟩
  have b1 := b1.mono (show w.heap.size + 2 ≤ _ by simp)
  have hs1 : w.heap.size + 2 ≤ w1.heap.size := by have := b1.size; simp at this; omega
  have k0 : w1.cell? ⟨w.heap.size, 0, none⟩ = some (.int .i64 W) := (b1.cell (p := ⟨w.heap.size, 0, none⟩) (by simp)).trans (by go_simp)
  have k1 : w1.cell? ⟨w.heap.size, 1, none⟩ = some (.int .i64 H) := (b1.cell (p := ⟨w.heap.size, 1, none⟩) (by simp)).trans (by go_simp)
  have D := Lib.hid b1
  clear b1
  go_wp2_with fail
  have BW : Below w.heap.size w w1 := (Below.alloc (Below.alloc (Below.refl _ _) (Nat.le_refl _) _) (by simp) _).trans (D.out.mono (by omega))
  refine (impl_made W H hW hH k cap os w1 HK.out (fun x y hx hy w' hb => HF.out x y hx hy w' (BW.trans (hb.mono (by omega))))).mono ?_
  rintro e w2 ⟨v, rfl, ho, b2⟩
  obtain ⟨ao, c2, rfl⟩ := ho.shape
  have D2 := D.out.trans (b2.mono hs1)
  have hz : w2.heap[w.heap.size + 1]? = some (.cells #[.int .i64 0, .int .i64 0, .slice none 0 0] 27 (0, 0)) := (D2.block (w.heap.size + 1) (by omega)).trans (by have h := heap_alloc_new (w.alloc (.cells #[.int .i64 W, .int .i64 H, .slice a len cp] 27)) (.cells #[.int .i64 0, .int .i64 0, .slice none 0 0] 27); rw [show (w.alloc (.cells #[.int .i64 W, .int .i64 H, .slice a len cp] 27)).heap.size = w.heap.size + 1 from by simp] at h; exact h)
  have z0 := box_cell hz 0
  have z1 := box_cell hz 1
  have z2 := box_cell hz 2
  have f0 := box_free hz 0
  have f1 := box_free hz 1
  have f2 := box_free hz 2
  have HO := Lib.hid ho
  have BW2 : Below w.heap.size w w2 := BW.trans (b2.mono (by omega))
  have HB := Lib.hid BW2
  clear ho b2 D2 BW2
  go_wp2_with fail
  refine bodyPost_ret (v := .tuple #[.agg #[.int .i64 W, .int .i64 H, .slice ao (H * W) c2], .bool true]) ?_ rfl (OwnF.rett (OwnF.setBox (OwnF.setBox (OwnF.setBox (HO.out.mono (by omega)) hz _ _) (box_set _ hz) _ _) (box_set _ (box_set _ hz)) _ _) hn (Below.setCell (Below.setCell (Below.setCell HB.out (by simp) _) (by simp) _) (by simp) _))
  simp [results, Try.results55, go_sem, z0, z1, z2]

theorem spec_LessPictures_bad (x y x1 y1 : Int) (a a2 : Option Addr) (len len2 cap cap2 : Nat) (os : Nat → Option Nat) (w : World) (hp : pairB x y x1 y1 len len2 = false) : Calls Try.prog 30 #[.agg #[.int .i64 x, .int .i64 y, .slice a len cap], .agg #[.int .i64 x1, .int .i64 y1, .slice a2 len2 cap2]] w (RetT 0 0 0 false os w) := by
  go_enter Try.func30, Try.ntmps30
  go_wp2_with fail
  have hq := spec_l02Two w.heap.size (w.heap.size + 1) x y x1 y1 a a2 len len2 cap cap2 (((w.alloc (.cells #[.int .i64 x, .int .i64 y, .slice a len cap] 27)).alloc (.cells #[.int .i64 x1, .int .i64 y1, .slice a2 len2 cap2] 27)).alloc (.cells #[.int .i64 0, .int .i64 0, .slice none 0 0] 27)) (by go_simp) (by go_simp) (by go_simp) (by go_simp) (by go_simp) (by go_simp)
  rw [hp] at hq
  refine hq.mono ?_
  clear hq hp
  rintro e w1 hq
  obtain ⟨rfl, b1⟩ := RetB.below hq
  clear hq
  have hz : w1.heap[w.heap.size + 2]? = some (.cells #[.int .i64 0, .int .i64 0, .slice none 0 0] 27 (0, 0)) := (b1.block (w.heap.size + 2) (by first | (simp; done) | (simp; omega) | omega)).trans (by have h := heap_alloc_new ((w.alloc (.cells #[.int .i64 x, .int .i64 y, .slice a len cap] 27)).alloc (.cells #[.int .i64 x1, .int .i64 y1, .slice a2 len2 cap2] 27)) (.cells #[.int .i64 0, .int .i64 0, .slice none 0 0] 27); rw [show ((w.alloc (.cells #[.int .i64 x, .int .i64 y, .slice a len cap] 27)).alloc (.cells #[.int .i64 x1, .int .i64 y1, .slice a2 len2 cap2] 27)).heap.size = w.heap.size + 2 from by simp] at h; exact h)
  have z0 := box_cell hz 0
  have z1 := box_cell hz 1
  have z2 := box_cell hz 2
  have f0 := box_free hz 0
  have f1 := box_free hz 1
  have f2 := box_free hz 2
  go_wp2_with fail
  refine bodyPost_ret (v := .tuple #[.agg #[.int .i64 0, .int .i64 0, .slice none 0 0], .bool false]) ?_ rfl (RetT.none os rfl (by repeat (first | exact Below.refl _ _ | refine Below.setCell ?_ (by first | (simp; done) | (simp; omega)) _ | refine Below.trans ?_ (Below.mono (by assumption) (by first | (simp; done) | (simp; omega))) | refine Below.alloc ?_ (by first | (simp; done) | (simp; omega)) _ | refine Below.alloc ?_ (Nat.le_refl _) _ | refine below_drewN ?_ _)))
  simp [results, Try.results30, go_sem, z0, z1, z2]
theorem impl_LessPictures_bad (x y x1 y1 : Int) (a a2 : Option Addr) (len len2 cap cap2 : Nat) (os : Nat → Option Nat) (w : World) (hp : pairB x y x1 y1 len len2 = false) : Calls Try.prog 31 #[.agg #[.int .i64 x, .int .i64 y, .slice a len cap], .agg #[.int .i64 x1, .int .i64 y1, .slice a2 len2 cap2]] w (RetT 0 0 0 false os w) := by
  go_enter Try.func31, Try.ntmps31
  go_wp2_with fail
  have hq := impl_pairOk x y x1 y1 a a2 len len2 cap cap2 (((w.alloc (.cells #[.int .i64 x, .int .i64 y, .slice a len cap] 27)).alloc (.cells #[.int .i64 x1, .int .i64 y1, .slice a2 len2 cap2] 27)).alloc (.cells #[.int .i64 0, .int .i64 0, .slice none 0 0] 27))
  rw [hp] at hq
  refine hq.mono ?_
  clear hq hp
  rintro e w1 ⟨rfl, b1⟩
  have hz : w1.heap[w.heap.size + 2]? = some (.cells #[.int .i64 0, .int .i64 0, .slice none 0 0] 27 (0, 0)) := (b1.block (w.heap.size + 2) (by first | (simp; done) | (simp; omega) | omega)).trans (by have h := heap_alloc_new ((w.alloc (.cells #[.int .i64 x, .int .i64 y, .slice a len cap] 27)).alloc (.cells #[.int .i64 x1, .int .i64 y1, .slice a2 len2 cap2] 27)) (.cells #[.int .i64 0, .int .i64 0, .slice none 0 0] 27); rw [show ((w.alloc (.cells #[.int .i64 x, .int .i64 y, .slice a len cap] 27)).alloc (.cells #[.int .i64 x1, .int .i64 y1, .slice a2 len2 cap2] 27)).heap.size = w.heap.size + 2 from by simp] at h; exact h)
  have z0 := box_cell hz 0
  have z1 := box_cell hz 1
  have z2 := box_cell hz 2
  have f0 := box_free hz 0
  have f1 := box_free hz 1
  have f2 := box_free hz 2
  go_wp2_with fail
  refine bodyPost_ret (v := .tuple #[.agg #[.int .i64 0, .int .i64 0, .slice none 0 0], .bool false]) ?_ rfl (RetT.none os rfl (by repeat (first | exact Below.refl _ _ | refine Below.setCell ?_ (by first | (simp; done) | (simp; omega)) _ | refine Below.trans ?_ (Below.mono (by assumption) (by first | (simp; done) | (simp; omega))) | refine Below.alloc ?_ (by first | (simp; done) | (simp; omega)) _ | refine Below.alloc ?_ (Nat.le_refl _) _ | refine below_drewN ?_ _)))
  simp [results, Try.results31, go_sem, z0, z1, z2]
theorem Less_clos (b b1 W H : Nat) (a a2 : Option Addr) (len cap cap2 : Nat) (zs ys : List Nat) (w : World) (c00 : w.cell? ⟨b, 0, none⟩ = some (.int .i64 W)) (c01 : w.cell? ⟨b, 1, none⟩ = some (.int .i64 H)) (c02 : w.cell? ⟨b, 2, none⟩ = some (.slice a len cap)) (c10 : w.cell? ⟨b1, 0, none⟩ = some (.int .i64 W)) (c11 : w.cell? ⟨b1, 1, none⟩ = some (.int .i64 H)) (c12 : w.cell? ⟨b1, 2, none⟩ = some (.slice a2 len cap2)) (hr : IsFRow w a len cap zs) (hr2 : IsFRow w a2 len cap2 ys) (hl : len = W * H) (hW : 1 ≤ W ∧ W ≤ 24) (hH : 1 ≤ H ∧ H ≤ 24) (x y : Nat) :
    Calls Try.prog 58 #[.int .i64 x, .int .i64 y, .pointer (some ⟨b, 0, none⟩), .pointer (some ⟨b1, 0, none⟩)] w (RetF .f32 ((fun (x y : Nat) => oop .sub .f32 (ab .f32 (grey zs W H x y)) (ab .f32 (grey ys W H x y))) x y) w) := by
  have hq0 := impl_about b W H x y a len cap zs w c00 c01 c02 hr hl hW hH
  have hq1 : ∀ q, Calls Try.prog 57 #[.pointer (some ⟨b1, 0, none⟩), .int .i64 x, .int .i64 y] (w.drewN q) (RetX (grey ys W H x y) (w.drewN q)) := fun q => impl_about b1 W H x y a2 len cap2 ys (w.drewN q) (by go_simp) (by go_simp) (by go_simp) (IsFRow.below hr2 (below_drewN (Below.refl _ _) _)) hl hW hH
  have HQ0 := Lib.hid hq0
  have HQ1 := Lib.hid hq1
  clear hr hr2 hl hW hH hq0 hq1
  go_enter Try.func58, Try.ntmps58
  go_wp2_with fail
  refine HQ0.out.mono ?_
  rintro e w' ⟨q, rfl, rfl⟩
  go_wp2_with fail
  refine (HQ1.out q).mono ?_
  rintro e w' ⟨q2, rfl, rfl⟩
  go_wp2_with (first | ((fail_if_success (have := g1)); refine wpList_arith _ _ _ _ _ rfl rfl _ _ _ rfl rfl rfl ?_; intro r1 n1 g1))
  go_ret
  exact RetF.mk _ g1
theorem impl_LessPictures_ok (W H : Nat) (a a2 : Option Addr) (len cap cap2 : Nat) (zs ys : List Nat) (w : World) (h : IsFRow w a len cap zs) (h2 : IsFRow w a2 len cap2 ys) (hl : len = W * H) (hW : 1 ≤ W ∧ W ≤ 24) (hH : 1 ≤ H ∧ H ≤ 24) (hvb : validB W H len = true) (hp : pairB W H W H len len = true) :
    Calls Try.prog 31 #[.agg #[.int .i64 W, .int .i64 H, .slice a len cap], .agg #[.int .i64 W, .int .i64 H, .slice a2 len cap2]] w (RetT W H (H * W) true (osXY W (fun (x y : Nat) => oop .sub .f32 (ab .f32 (grey zs W H x y)) (ab .f32 (grey ys W H x y)))) w) := by
  have HR := Lib.hid h
  have HR2 := Lib.hid h2
  have HL := Lib.hid hl
  clear h h2 hl
  have hmf : ∀ (fn : Fn) (first cap : Array Value) (w : World), (Instr.makeFunc fn first cap).run Try.prog w = .ok (.func fn first cap) w := fun _ _ _ _ => rfl
  have BA : Below w.heap.size w (((w.alloc (.cells #[.int .i64 W, .int .i64 H, .slice a len cap] 27)).alloc (.cells #[.int .i64 W, .int .i64 H, .slice a2 len cap2] 27)).alloc (.cells #[.int .i64 0, .int .i64 0, .slice none 0 0] 27)) := (by repeat (first | exact Below.refl _ _ | refine Below.setCell ?_ (by first | (simp; done) | (simp; omega)) _ | refine Below.trans ?_ (Below.mono (by assumption) (by first | (simp; done) | (simp; omega))) | refine Below.alloc ?_ (by first | (simp; done) | (simp; omega)) _ | refine Below.alloc ?_ (Nat.le_refl _) _ | refine below_drewN ?_ _))
  go_enter Try.func31, Try.ntmps31
  go_wp2_with fail
  have hq := impl_pairOk W H W H a a2 len len cap cap2 (((w.alloc (.cells #[.int .i64 W, .int .i64 H, .slice a len cap] 27)).alloc (.cells #[.int .i64 W, .int .i64 H, .slice a2 len cap2] 27)).alloc (.cells #[.int .i64 0, .int .i64 0, .slice none 0 0] 27))
  rw [hp] at hq
  refine hq.mono ?_
  clear hq hp
  rintro e w1 ⟨rfl, b1⟩
  have b1 := b1.mono (show w.heap.size + 3 ≤ _ by simp)
  have hs1 : w.heap.size + 3 ≤ w1.heap.size := by have := b1.size; simp at this; omega
  have k00 : w1.cell? ⟨w.heap.size, 0, none⟩ = some (.int .i64 W) := (b1.cell (p := ⟨w.heap.size, 0, none⟩) (by first | (simp; done) | (simp; omega))).trans (by go_simp)
  have k01 : w1.cell? ⟨w.heap.size, 1, none⟩ = some (.int .i64 H) := (b1.cell (p := ⟨w.heap.size, 1, none⟩) (by first | (simp; done) | (simp; omega))).trans (by go_simp)
  have k02 : w1.cell? ⟨w.heap.size, 2, none⟩ = some (.slice a len cap) := (b1.cell (p := ⟨w.heap.size, 2, none⟩) (by first | (simp; done) | (simp; omega))).trans (by go_simp)
  have k10 : w1.cell? ⟨w.heap.size + 1, 0, none⟩ = some (.int .i64 W) := (b1.cell (p := ⟨w.heap.size + 1, 0, none⟩) (by first | (simp; done) | (simp; omega))).trans (by go_simp)
  have k11 : w1.cell? ⟨w.heap.size + 1, 1, none⟩ = some (.int .i64 H) := (b1.cell (p := ⟨w.heap.size + 1, 1, none⟩) (by first | (simp; done) | (simp; omega))).trans (by go_simp)
  have k12 : w1.cell? ⟨w.heap.size + 1, 2, none⟩ = some (.slice a2 len cap2) := (b1.cell (p := ⟨w.heap.size + 1, 2, none⟩) (by first | (simp; done) | (simp; omega))).trans (by go_simp)
  have BW := BA.trans (b1.mono (by omega))
  have D := Lib.hid b1
  clear b1 BA
  go_wp2_with fail
  have hk : ∀ args W', (callFunc 58 args).run Try.prog W' = .ok (.enter 58 args) W' := fun args W' => by go_simp
  have hf : ∀ x y : Nat, x < W → y < H → ∀ w', Below w1.heap.size w1 w' → Calls Try.prog 58 (#[.int .i64 x, .int .i64 y] ++ #[.pointer (some ⟨w.heap.size, 0, none⟩), .pointer (some ⟨w.heap.size + 1, 0, none⟩)]) w' (RetF .f32 ((fun (x y : Nat) => oop .sub .f32 (ab .f32 (grey zs W H x y)) (ab .f32 (grey ys W H x y))) x y) w') := by
    intro x y hx hy w' hb
    have q0 : w.heap.size < w1.heap.size := by omega
    have q1 : w.heap.size + 1 < w1.heap.size := by omega
    exact Less_clos w.heap.size (w.heap.size + 1) W H a a2 len cap cap2 zs ys w' ((hb.cell (p := ⟨w.heap.size, 0, none⟩) q0).trans k00) ((hb.cell (p := ⟨w.heap.size, 1, none⟩) q0).trans k01) ((hb.cell (p := ⟨w.heap.size, 2, none⟩) q0).trans k02) ((hb.cell (p := ⟨w.heap.size + 1, 0, none⟩) q1).trans k10) ((hb.cell (p := ⟨w.heap.size + 1, 1, none⟩) q1).trans k11) ((hb.cell (p := ⟨w.heap.size + 1, 2, none⟩) q1).trans k12) (IsFRow.below HR.out (BW.trans (hb.mono (by omega)))) (IsFRow.below HR2.out (BW.trans (hb.mono (by omega)))) HL.out hW hH x y
  have hq := impl_remade_okT W H a len cap 58 #[.pointer (some ⟨w.heap.size, 0, none⟩), .pointer (some ⟨w.heap.size + 1, 0, none⟩)] (fun (x y : Nat) => oop .sub .f32 (ab .f32 (grey zs W H x y)) (ab .f32 (grey ys W H x y))) w1 hvb hW.2 hH.2 hk hf
  refine hq.mono ?_
  clear hq hf hk hvb hW hH
  rintro e w2 ⟨ao, cp, zs', rfl, ho, his, hty, b2⟩
  have D2 := D.out.trans (b2.mono hs1)
  have hz : w2.heap[w.heap.size + 2]? = some (.cells #[.int .i64 0, .int .i64 0, .slice none 0 0] 27 (0, 0)) := (D2.block (w.heap.size + 2) (by first | (simp; done) | (simp; omega) | omega)).trans (by have h := heap_alloc_new ((w.alloc (.cells #[.int .i64 W, .int .i64 H, .slice a len cap] 27)).alloc (.cells #[.int .i64 W, .int .i64 H, .slice a2 len cap2] 27)) (.cells #[.int .i64 0, .int .i64 0, .slice none 0 0] 27); rw [show ((w.alloc (.cells #[.int .i64 W, .int .i64 H, .slice a len cap] 27)).alloc (.cells #[.int .i64 W, .int .i64 H, .slice a2 len cap2] 27)).heap.size = w.heap.size + 2 from by simp] at h; exact h)
  have z0 := box_cell hz 0
  have z1 := box_cell hz 1
  have z2 := box_cell hz 2
  have f0 := box_free hz 0
  have f1 := box_free hz 1
  have f2 := box_free hz 2
  have HO := Lib.hid (ho.mono (lo' := w.heap.size + 3) (hi' := w2.heap.size) hs1 (Nat.le_refl _))
  have HI := Lib.hid his
  have HT := Lib.hid (Typ.set (Typ.set (Typ.set hty hz 0 (.int .i64 W)) (box_set _ hz) 1 (.int .i64 H)) (box_set _ (box_set _ hz)) 2 (.slice ao (H * W) cp))
  have HB := Lib.hid (BW.trans (b2.mono (by omega)))
  clear ho his hty b2 D2 BW
  go_wp2_with fail
  refine bodyPost_ret (v := .tuple #[.agg #[.int .i64 W, .int .i64 H, .slice ao (H * W) cp], .bool true]) ?_ rfl ⟨ao, cp, zs', rfl, ORow.mono (ORow.setBox (ORow.setBox (ORow.setBox HO.out (by omega) _ _) (by omega) _ _) (by omega) _ _) (by omega) (by simp), HI.out, HT.out, Below.setCell (Below.setCell (Below.setCell HB.out (by first | (simp; done) | (simp; omega)) _) (by first | (simp; done) | (simp; omega)) _) (by first | (simp; done) | (simp; omega)) _⟩
  simp [results, Try.results31, go_sem, z0, z1, z2]

theorem LessPictures_pair (x y x1 y1 : Int) (len len2 : Nat) (zs ys : List Nat) : ∃ (x' y' : Int) (n : Nat) (ok : Bool) (os : Nat → Option Nat), n ≤ 1000 ∧
  (∀ W a cap a2 cap2, IsFRow W a len cap zs → IsFRow W a2 len2 cap2 ys → Calls Try.prog 30 #[.agg #[.int .i64 x, .int .i64 y, .slice a len cap], .agg #[.int .i64 x1, .int .i64 y1, .slice a2 len2 cap2]] W (RetT x' y' n ok os W)) ∧
  (∀ W a cap a2 cap2, IsFRow W a len cap zs → IsFRow W a2 len2 cap2 ys → Calls Try.prog 31 #[.agg #[.int .i64 x, .int .i64 y, .slice a len cap], .agg #[.int .i64 x1, .int .i64 y1, .slice a2 len2 cap2]] W (RetT x' y' n ok os W)) := by
  cases hp : pairB x y x1 y1 len len2 with
  | false => exact ⟨0, 0, 0, false, fun _ => none, by omega, fun W a cap a2 cap2 _ _ => spec_LessPictures_bad x y x1 y1 a a2 len len2 cap cap2 _ W hp, fun W a cap a2 cap2 _ _ => impl_LessPictures_bad x y x1 y1 a a2 len len2 cap cap2 _ W hp⟩
  | true =>
    have hp0 := hp
    unfold pairB at hp0
    rw [Bool.and_eq_true, Bool.and_eq_true, Bool.and_eq_true, beq_iff_eq, beq_iff_eq] at hp0
    obtain ⟨⟨⟨v1, v2⟩, rfl⟩, rfl⟩ := hp0
    obtain ⟨X, Y, rfl, rfl, hl, hW, hH⟩ := valid_nat v1
    obtain ⟨X2, Y2, e1, e2, hl2, -, -⟩ := valid_nat v2
    have e1' := Int.ofNat.inj e1
    have e2' := Int.ofNat.inj e2
    have hle : len2 = len := by rw [hl, hl2, ← e1', ← e2']
    clear e1 e2 e1' e2' hl2
    subst hle
    have h1 : 1 ≤ len2 := by rw [hl]; exact Nat.mul_pos hW.1 hH.1
    have h2 : len2 ≤ 576 := by rw [hl]; exact Nat.mul_le_mul hW.2 hH.2
    refine ⟨X, Y, len2, true, fun (x : Nat) => oop .sub .f32 (ab .f32 (zs.getD x 0)) (ab .f32 (ys.getD x 0)), by omega, fun W a cap a2 cap2 h h' => spec_LessPictures_ok X Y a a2 len2 cap cap2 zs ys W h h' h1 h2 hp, fun W a cap a2 cap2 h h' => (impl_LessPictures_ok X Y a a2 len2 cap cap2 zs ys W h h' hl hW hH v1 hp).mono fun e w' hr => (show RetT X Y len2 true _ W e w' from by rw [hl, Nat.mul_comm X Y]; exact hr).congr (fun i hi => ?_)⟩
    rw [hl] at hi
    have hx : i % X < X := Nat.mod_lt _ (by omega)
    have hy : i / X < Y := Nat.div_lt_of_lt_mul (by omega)
    show oop .sub .f32 (ab .f32 (grey zs X Y ((i % X : Nat) : Int) ((i / X : Nat) : Int))) (ab .f32 (grey ys X Y ((i % X : Nat) : Int) ((i / X : Nat) : Int))) = _
    rw [grey_at hx hy, grey_at hx hy, Nat.mod_add_div]
end Go.Proofs.Ytbjahmfijlkajaa
