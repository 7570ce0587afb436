/-
  Pictures that are made cell by cell: what hands them back.
-/
import Derived.Test.YtohpklakhkfebaaAt
namespace Go.Proofs.Ytohpklakhkfebaa
open Go.RowKit Go.FL

theorem RetP.congr {x y : Int} {n : Nat} {ok : Bool} {os os' : Nat → Option Nat} {w w' : World} {e : Ending} (h : RetP x y n ok os w e w') (ho : ∀ i, i < n → os i = os' i) : RetP x y n ok os' w e w' := by
  obtain ⟨ao, cap, zs, h1, h2, h3, h4⟩ := h
  exact ⟨ao, cap, zs, h1, h2, fun i hi => by rw [← ho i hi]; exact h3 i hi, h4⟩

theorem ORow.nil (w : World) (lo hi : Nat) : ORow w lo hi none 0 0 [] := ⟨⟨rfl, Nat.le_refl _, by unfold maxLen; omega, by simp, .inl rfl⟩, .inl ⟨rfl, rfl⟩⟩

theorem RetP.none {w w' : World} {e : Ending} (os : Nat → Option Nat) (he : e = .returned (.tuple #[.agg #[.int .i64 0, .int .i64 0, .slice none 0 0], .bool false])) (hb : Below w.heap.size w w') : RetP 0 0 0 false os w e w' :=
  ⟨Option.none, 0, [], he, ORow.nil _ _ _, fun _ hi => absurd hi (Nat.not_lt_zero _), hb⟩

/-- a picture that is made -/
theorem OwnF.retp {w w' : World} {x y : Int} {v : Value} {n : Nat} {os : Nat → Option Nat} (h : OwnF w' w.heap.size v n os) (hn : n ≤ 1000) (hb : Below w.heap.size w w') : RetP x y n true os w (.returned (.tuple #[.agg #[.int .i64 x, .int .i64 y, v], .bool true])) w' := by
  obtain ⟨ao, cap, zs, rfl, h1, h2⟩ := h.orow hn
  exact ⟨ao, cap, zs, rfl, h1, h2, hb⟩
theorem impl_remade_bad (x y : Int) (a : Option Addr) (len cap : Nat) (f : Value) (os : Nat → Option Nat) (w : World) (hvb : validB x y len = false) : Calls Try.prog 21 #[.agg #[.int .i64 x, .int .i64 y, .slice a len cap], f] w (RetP 0 0 0 false os w) := by
  go_enter Try.func21, Try.ntmps21
  go_wp2_with fail
  have hq := impl_ValidPicture x y a len cap ((w.alloc (.cells #[.int .i64 x, .int .i64 y, .slice a len cap] 29)).alloc (.cells #[.int .i64 0, .int .i64 0, .slice none 0 0] 29))
  rw [hvb] at hq
  refine hq.mono ?_
  rintro e w1 ⟨rfl, b1⟩
  have hz : w1.heap[w.heap.size + 1]? = some (.cells #[.int .i64 0, .int .i64 0, .slice none 0 0] 29 (0, 0)) := (b1.block (w.heap.size + 1) (by simp)).trans (by have h := heap_alloc_new (w.alloc (.cells #[.int .i64 x, .int .i64 y, .slice a len cap] 29)) (.cells #[.int .i64 0, .int .i64 0, .slice none 0 0] 29); rw [show (w.alloc (.cells #[.int .i64 x, .int .i64 y, .slice a len cap] 29)).heap.size = w.heap.size + 1 from by simp] at h; exact h)
  have z0 := box_cell hz 0
  have z1 := box_cell hz 1
  have z2 := box_cell hz 2
  have f0 := box_free hz 0
  have f1 := box_free hz 1
  have f2 := box_free hz 2
  go_wp2_with fail
  refine bodyPost_ret (v := .tuple #[.agg #[.int .i64 0, .int .i64 0, .slice none 0 0], .bool false]) ?_ rfl (RetP.none os rfl (by repeat (first | exact Below.refl _ _ | refine Below.setCell ?_ (by first | (simp; done) | (simp; omega)) _ | refine Below.trans ?_ (Below.mono (by assumption) (by first | (simp; done) | (simp; omega))) | refine Below.alloc ?_ (by first | (simp; done) | (simp; omega)) _ | refine Below.alloc ?_ (Nat.le_refl _) _ | refine below_drewN ?_ _)))
  simp [results, Try.results21, go_sem, z0, z1, z2]

theorem impl_remade_ok (W H : Nat) (a : Option Addr) (len cp : Nat) (k : Nat) (cap : Array Value) (os : Nat → Nat → Option Nat) (w : World) (hvb : validB W H len = true) (hW : W ≤ 24) (hH : H ≤ 24)
    (hk : ∀ args W', (callFunc k args).run Try.prog W' = .ok (.enter k args) W')
    (hf : ∀ x y : Nat, x < W → y < H → ∀ w', Below w.heap.size w w' → Calls Try.prog k (#[.int .i64 x, .int .i64 y] ++ cap) w' (RetF .f32 (os x y) w')) :
    Calls Try.prog 21 #[.agg #[.int .i64 W, .int .i64 H, .slice a len cp], .func (.func k) #[] cap] w (RetP W H (H * W) true (osXY W os) w) := by
  have HF := Lib.hid hf
  have HK := Lib.hid hk
  clear hf hk
  have hn : H * W ≤ 1000 := Nat.le_trans (Nat.mul_le_mul hH hW) (by omega)
  go_enter Try.func21, Try.ntmps21
  go_wp2_with fail
  have hq := impl_ValidPicture W H a len cp ((w.alloc (.cells #[.int .i64 W, .int .i64 H, .slice a len cp] 29)).alloc (.cells #[.int .i64 0, .int .i64 0, .slice none 0 0] 29))
  rw [hvb] at hq
  refine hq.mono ?_
  clear hq
  rintro e w1 ⟨rfl, b1⟩
  have b1 := b1.mono (show w.heap.size + 2 ≤ _ by simp)
  have hs1 : w.heap.size + 2 ≤ w1.heap.size := by have := b1.size; simp at this; omega
  have k0 : w1.cell? ⟨w.heap.size, 0, none⟩ = some (.int .i64 W) := (b1.cell (p := ⟨w.heap.size, 0, none⟩) (by simp)).trans (by go_simp)
  have k1 : w1.cell? ⟨w.heap.size, 1, none⟩ = some (.int .i64 H) := (b1.cell (p := ⟨w.heap.size, 1, none⟩) (by simp)).trans (by go_simp)
  have D := Lib.hid b1
  clear b1
  go_wp2_with fail
  have BW : Below w.heap.size w w1 := (Below.alloc (Below.alloc (Below.refl _ _) (Nat.le_refl _) _) (by simp) _).trans (D.out.mono (by omega))
  refine (impl_made W H hW hH k cap os w1 HK.out (fun x y hx hy w' hb => HF.out x y hx hy w' (BW.trans (hb.mono (by omega))))).mono ?_
  rintro e w2 ⟨v, rfl, ho, b2⟩
  obtain ⟨ao, c2, rfl⟩ := ho.shape
  have D2 := D.out.trans (b2.mono hs1)
  have hz : w2.heap[w.heap.size + 1]? = some (.cells #[.int .i64 0, .int .i64 0, .slice none 0 0] 29 (0, 0)) := (D2.block (w.heap.size + 1) (by omega)).trans (by have h := heap_alloc_new (w.alloc (.cells #[.int .i64 W, .int .i64 H, .slice a len cp] 29)) (.cells #[.int .i64 0, .int .i64 0, .slice none 0 0] 29); rw [show (w.alloc (.cells #[.int .i64 W, .int .i64 H, .slice a len cp] 29)).heap.size = w.heap.size + 1 from by simp] at h; exact h)
  have z0 := box_cell hz 0
  have z1 := box_cell hz 1
  have z2 := box_cell hz 2
  have f0 := box_free hz 0
  have f1 := box_free hz 1
  have f2 := box_free hz 2
  have HO := Lib.hid ho
  have BW2 : Below w.heap.size w w2 := BW.trans (b2.mono (by omega))
  have HB := Lib.hid BW2
  clear ho b2 D2 BW2
  go_wp2_with fail
  refine bodyPost_ret (v := .tuple #[.agg #[.int .i64 W, .int .i64 H, .slice ao (H * W) c2], .bool true]) ?_ rfl (OwnF.retp (OwnF.setBox (OwnF.setBox (OwnF.setBox (HO.out.mono (by omega)) hz _ _) (box_set _ hz) _ _) (box_set _ (box_set _ hz)) _ _) hn (Below.setCell (Below.setCell (Below.setCell HB.out (by simp) _) (by simp) _) (by simp) _))
  simp [results, Try.results21, go_sem, z0, z1, z2]

theorem new_box (w : World) (a b c x y z : Value) : ((((w.alloc (.cells #[a, b, c] 29)).setCell ⟨w.heap.size, 0, none⟩ x).setCell ⟨w.heap.size, 1, none⟩ y).setCell ⟨w.heap.size, 2, none⟩ z).heap[w.heap.size]? = some (.cells #[x, y, z] 29 (0, 0)) :=
  box_set (cs := #[x, y, c]) z (box_set (cs := #[x, b, c]) y (box_set (cs := #[a, b, c]) x (heap_alloc_new w _)))
theorem own_newbox {w : World} {base n : Nat} {v : Value} {os : Nat → Option Nat} (h : OwnF w base v n os) (a b c x y z : Value) :
    OwnF ((((w.alloc (.cells #[a, b, c] 29)).setCell ⟨w.heap.size, 0, none⟩ x).setCell ⟨w.heap.size, 1, none⟩ y).setCell ⟨w.heap.size, 2, none⟩ z) base v n os :=
  OwnF.setBox (OwnF.setBox (OwnF.setBox (h.below (Below.alloc (Below.refl _ _) (Nat.le_refl _) _)) (heap_alloc_new w _) _ _) (box_set _ (heap_alloc_new w _)) _ _) (box_set _ (box_set _ (heap_alloc_new w _))) _ _

theorem RetB.below {b : Bool} {w w' : World} {e : Ending} (h : RetB b w e w') : e = .returned (.bool b) ∧ Below w.heap.size w w' := by
  obtain ⟨n, rfl, rfl⟩ := h
  exact ⟨rfl, below_drewN (Below.refl _ _) n⟩

theorem grey_lt {zs : List Nat} (h : ∀ z ∈ zs, z < 4294967296) (W H : Nat) (n m : Int) : grey zs W H n m < 4294967296 := by
  unfold grey
  generalize cl n W + W * cl m H = i
  by_cases hi : i < zs.length
  · have : zs.getD i 0 = zs[i] := by simp [List.getD, hi]
    rw [this]; exact h _ (List.getElem_mem hi)
  · have : zs.getD i 0 = 0 := by simp [List.getD, Nat.le_of_not_lt hi]
    rw [this]; omega
theorem getD_lt {zs : List Nat} (h : ∀ z ∈ zs, z < 4294967296) (i : Nat) : zs.getD i 0 < 4294967296 := by
  by_cases hi : i < zs.length
  · have : zs.getD i 0 = zs[i] := by simp [List.getD, hi]
    rw [this]; exact h _ (List.getElem_mem hi)
  · have : zs.getD i 0 = 0 := by simp [List.getD, Nat.le_of_not_lt hi]
    rw [this]; omega
theorem spec_l02New (W H : Nat) (w : World) (os : Nat → Option Nat) : Calls Try.prog 29 #[.int .i64 W, .int .i64 H] w fun e w' =>
    ∃ nb, e = .returned (.agg #[.int .i64 W, .int .i64 H, .slice (some ⟨nb, 0, none⟩) 0 0]) ∧ OwnF w' w.heap.size (.slice (some ⟨nb, 0, none⟩) 0 0) 0 os ∧ Below w.heap.size w w' := by
  go_enter Try.func29, Try.ntmps29
  go_wp2
  refine bodyPost_ret (v := .agg #[.int .i64 W, .int .i64 H, .slice (some ⟨w.heap.size + 1, 0, none⟩) 0 0]) ?_ rfl ⟨w.heap.size + 1, rfl, ⟨[], rfl, ?_, fun _ hi => absurd hi (Nat.not_lt_zero _)⟩, (by repeat (first | exact Below.refl _ _ | refine Below.setCell ?_ (by first | (simp; done) | (simp; omega)) _ | refine Below.trans ?_ (Below.mono (by assumption) (by first | (simp; done) | (simp; omega))) | refine Below.alloc ?_ (by first | (simp; done) | (simp; omega)) _ | refine Below.alloc ?_ (Nat.le_refl _) _ | refine below_drewN ?_ _))⟩
  · simp [results, Try.results29, go_sem]
  · have h := World.ownsRow_made (w.alloc (.cells #[.int .i64 W, .int .i64 H, .slice (some ⟨w.heap.size + 1, 0, none⟩) 0 0] 29)) (base := w.heap.size) (e := 45) (size := 1) #[] 0 (by simp) (by unfold maxLen; omega) rfl
    simpa using h

/-- a picture -/
def RetQ (x y : Int) (n : Nat) (os : Nat → Option Nat) (w : World) (e : Ending) (w' : World) : Prop :=
  ∃ ao cap zs, e = .returned (.agg #[.int .i64 x, .int .i64 y, .slice ao n cap]) ∧ ORow w' w.heap.size w'.heap.size ao n cap zs ∧ (∀ i, i < n → Is .f32 (zs.getD i 0) (os i)) ∧ Below w.heap.size w w'

theorem ORow.setBox {w : World} {lo hi len cap b : Nat} {ao : Option Addr} {zs : List Nat} (h : ORow w lo hi ao len cap zs) (hb : b < lo) (i : Nat) (u : Value) : ORow (w.setCell ⟨b, i, none⟩ u) lo hi ao len cap zs :=
  h.only (Only.setCell (Only.refl b (b + 1) w) (Nat.le_refl _) (Nat.lt_succ_self _) u) (.inr hb)
theorem valid_nat {x y : Int} {len : Nat} (h : validB x y len = true) : ∃ X Y : Nat, x = X ∧ y = Y ∧ len = X * Y ∧ (1 ≤ X ∧ X ≤ 24) ∧ (1 ≤ Y ∧ Y ≤ 24) := by
  unfold validB at h
  rw [Bool.and_eq_true, beq_iff_eq] at h
  obtain ⟨h1, h2, h3, h4, -, -⟩ := sizeB_bounds h.1
  obtain ⟨X, rfl⟩ := Int.eq_ofNat_of_zero_le (show 0 ≤ x by omega)
  obtain ⟨Y, rfl⟩ := Int.eq_ofNat_of_zero_le (show 0 ≤ y by omega)
  refine ⟨X, Y, rfl, rfl, ?_, by omega, by omega⟩
  have := h.2
  have h5 : ((len : Nat) : Int) = ((X * Y : Nat) : Int) := by rw [this]; simp
  exact Int.ofNat.inj h5

theorem At3.below {W W' : World} {g : Nat} {a b c : Value} (h : At3 W g a b c) (hb : Below W.heap.size W W') (hg : g < W.heap.size) : At3 W' g a b c :=
  ⟨(hb.cell (p := ⟨g, 0, none⟩) hg).trans h.1, (hb.cell (p := ⟨g, 1, none⟩) hg).trans h.2.1, (hb.cell (p := ⟨g, 2, none⟩) hg).trans h.2.2⟩
theorem At3.only {W W' : World} {g lo hi : Nat} {a b c : Value} (h : At3 W g a b c) (hb : Only lo hi W W') (hg : g < W.heap.size) (hd : g < lo ∨ hi ≤ g) : At3 W' g a b c :=
  ⟨(hb.cell (p := ⟨g, 0, none⟩) hg hd).trans h.1, (hb.cell (p := ⟨g, 1, none⟩) hg hd).trans h.2.1, (hb.cell (p := ⟨g, 2, none⟩) hg hd).trans h.2.2⟩
end Go.Proofs.Ytohpklakhkfebaa
