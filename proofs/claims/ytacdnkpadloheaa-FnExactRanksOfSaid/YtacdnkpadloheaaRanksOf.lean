/-
  RanksOf: both walks, that they agree, and the law's walk.
-/
import Derived.Test.YtacdnkpadloheaaRank
namespace Go.Proofs.Ytacdnkpadloheaa
open Go.RowKit Go.FL

def osI (W : Nat) (os : Nat → Nat → Int) (i : Nat) : Int := os (i % W) (i / W)
theorem osI_at {W x y : Nat} {os : Nat → Nat → Int} (h : x < W) : osI W os (y * W + x) = os x y := by
  have hw : 0 < W := by omega
  unfold osI
  rw [Nat.mul_comm y W, Nat.mul_add_mod, Nat.mod_eq_of_lt h, Nat.mul_add_div hw, Nat.div_eq_of_lt h, Nat.add_zero]
theorem own_stepI {wr Wp w' WZ : World} {base n : Nat} {v : Value} {os : Nat → Int} (h : OwnI wr base v n os) (BP : Below wr.heap.size wr Wp) (hg : Wp.grownBy w' v.ownBlock) (HB : Below base WZ wr) (hb : base ≤ WZ.heap.size) : Below base WZ w' := by
  have h2 := h.below BP
  have hs := Nat.le_trans hb HB.size
  exact HB.trans ((BP.mono hs).trans (h2.grown (Nat.le_trans hs BP.size) hg))
theorem OwnI.new (w : World) (os : Nat → Int) : OwnI (w.alloc (.cells #[] 2)) w.heap.size (.slice (some ⟨w.heap.size, 0, none⟩) 0 0) 0 os :=
  ⟨[], rfl, by have h := World.ownsRow_made w (base := w.heap.size) (e := 2) (size := 1) #[] 0 (by simp) (by unfold maxLen; omega) rfl; simpa using h, fun _ hi => absurd hi (Nat.not_lt_zero _)⟩
/-- a row of int64 and a bool -/
def RetI (n : Nat) (ok : Bool) (os : Nat → Int) (w : World) (e : Ending) (w' : World) : Prop :=
  ∃ ao cap zs, e = .returned (.tuple #[.slice ao n cap, .bool ok]) ∧ IRow w' w.heap.size w'.heap.size ao n cap zs ∧ (∀ i, i < n → zs.getD i 0 = os i) ∧ Below w.heap.size w w'
theorem RetI.none {w w' : World} (os : Nat → Int) (hb : Below w.heap.size w w') : RetI 0 false os w (.returned (.tuple #[.slice Option.none 0 0, .bool false])) w' :=
  ⟨Option.none, 0, [], rfl, ⟨⟨rfl, Nat.le_refl _, by unfold maxLen; omega⟩, .inl ⟨rfl, rfl⟩⟩, fun _ hi => absurd hi (Nat.not_lt_zero _), hb⟩

theorem spec_l02Ranks (b : Nat) (W H : Nat) (a : Option Addr) (len cap : Nat) (zs : List Nat) (rc : Int) (w : World) (c0 : w.cell? ⟨b, 0, none⟩ = some (.int .i64 W)) (c1 : w.cell? ⟨b, 1, none⟩ = some (.int .i64 H)) (c2 : w.cell? ⟨b, 2, none⟩ = some (.slice a len cap)) (h : IsFRow w a len cap zs) (hl : len = W * H) (hW : 1 ≤ W ∧ W ≤ 24) (hH : 1 ≤ H ∧ H ≤ 24) (hb1 : 1 ≤ rc) (hb2 : rc ≤ 2) :
    Calls Try.prog 78 #[.pointer (some ⟨b, 0, none⟩), .int .i64 rc] w fun e w' => ∃ v, e = .returned v ∧ OwnI w' w.heap.size v (H * W) (osI W (fun (x y : Nat) => rAll zs W H x y rc (2 * rc + 1).toNat)) ∧ Below w.heap.size w w' := by
  have hbw : b < w.heap.size := World.block_lt_of_cell? w _ c0
  have HH := Lib.hid h
  have HL := Lib.hid hl
  have HW := Lib.hid hW
  have HHH := Lib.hid hH
  obtain ⟨hW1, hW2⟩ := hW
  obtain ⟨hH1, hH2⟩ := hH
  clear h hl
  obtain ⟨OS, HOE0⟩ : ∃ f : Nat → Nat → Int, f = (fun (x y : Nat) => rAll zs W H x y rc (2 * rc + 1).toNat) := ⟨_, rfl⟩
  have HOE := Lib.hid HOE0
  clear HOE0
  rw [show (fun (x y : Nat) => rAll zs W H x y rc (2 * rc + 1).toNat) = OS from HOE.out.symm]
  go_enter Try.func78, Try.ntmps78
  go_wp2_with fail
  go_loopw [5, 6] (fun v i wr => ∃ y : Nat, y ≤ H ∧ i = .int .i64 y ∧ OwnI wr (w.heap.size) v (y * W) (osI W OS) ∧ Below (w.heap.size) w wr) (fun _ i _ => H - (intOf i).toNat)
  case atStart => exact ⟨0, by omega, rfl, (OwnI.new w _).congr (by simp) (fun _ _ => rfl), Below.alloc (Below.refl _ _) (Nat.le_refl _) _⟩
  case round =>
    obtain ⟨y, hy, rfl, ho, hb⟩ := hrel
    obtain ⟨ao, cp, rfl⟩ := ho.shape
    have k0 := (hb.cell (p := ⟨b, 0, none⟩) (by omega)).trans c0
    have k1 := (hb.cell (p := ⟨b, 1, none⟩) (by omega)).trans c1
    have k2 := (hb.cell (p := ⟨b, 2, none⟩) (by omega)).trans c2
    have HO := Lib.hid ho
    have HB := Lib.hid hb
    clear ho hb
    by_cases hlt : y < H
    · go_wp2_with fail
      go_loopw [5, 7] (fun v i wr => ∃ x : Nat, x ≤ W ∧ i = .int .i64 x ∧ OwnI wr (w.heap.size) v (y * W + x) (osI W OS) ∧ Below (w.heap.size) w wr) (fun _ i _ => W - (intOf i).toNat)
      case atStart => exact ⟨0, by omega, rfl, HO.out, HB.out⟩
      case round =>
        clear HO HB k0 k1 k2
        obtain ⟨x, hx, rfl, ho, hb⟩ := hrel
        obtain ⟨ao, cp, rfl⟩ := ho.shape
        have k0 := (hb.cell (p := ⟨b, 0, none⟩) (by omega)).trans c0
        have k1 := (hb.cell (p := ⟨b, 1, none⟩) (by omega)).trans c1
        have k2 := (hb.cell (p := ⟨b, 2, none⟩) (by omega)).trans c2
        have hsz : w.heap.size ≤ wr.heap.size := hb.size
        have HO := Lib.hid ho
        have HB := Lib.hid hb
        clear ho hb
        by_cases hlx : x < W
        · have hn : y * W + x ≤ 1000 := by
            have h1 : y * W ≤ 24 * 24 := Nat.mul_le_mul (by omega) (by omega)
            omega
          have HOS : RowKit.Hid (osI W OS (y * W + x) = _) := Lib.hid ((osI_at (os := OS) hlx).trans (congrFun (congrFun HOE.out x) y))
          go_wp2_with (first | (go_at_call 87; refine (spec_l02Rank b W H a len cap zs rc x y _ (by go_simp) (by go_simp) (by go_simp) (IsFRow.below HH.out (HB.out.trans (by repeat (first | exact Below.refl _ _ | refine Below.setCell ?_ (by first | (simp; done) | (simp; omega)) _ | refine Below.trans ?_ (Below.mono (by assumption) (by first | (simp; done) | (simp; omega))) | refine Below.alloc ?_ (by first | (simp; done) | (simp; omega)) _ | refine Below.alloc ?_ (Nat.le_refl _) _ | refine below_drewN ?_ _)))) HL.out HW.out HHH.out hb1 hb2 (by omega) (by omega)).mono ?_; rintro e w' ⟨q, rfl, rfl⟩) | (at_builtin; refine wpList_append1I rfl (.tmp 25) (.tmp 31) rfl rfl rfl (HO.out.below (by repeat (first | exact Below.refl _ _ | refine Below.setCell ?_ (by first | (simp; done) | (simp; omega)) _ | refine Below.trans ?_ (Below.mono (by assumption) (by first | (simp; done) | (simp; omega))) | refine Below.alloc ?_ (by first | (simp; done) | (simp; omega)) _ | refine Below.alloc ?_ (Nat.le_refl _) _ | refine below_drewN ?_ _))) (by first | omega | (simp; done) | (simp; omega)) hn (by go_simp; rfl) (by rw [HOS.out]) ?_; intro v' w' h7 hgr; have hbn := own_stepI HO.out (by repeat (first | exact Below.refl _ _ | refine Below.setCell ?_ (by first | (simp; done) | (simp; omega)) _ | refine Below.trans ?_ (Below.mono (by assumption) (by first | (simp; done) | (simp; omega))) | refine Below.alloc ?_ (by first | (simp; done) | (simp; omega)) _ | refine Below.alloc ?_ (Nat.le_refl _) _ | refine below_drewN ?_ _)) hgr HB.out (by first | (simp; done) | (simp; omega) | omega)))
          go_roundw
          case rel => exact ⟨x + 1, by omega, rfl, h7, hbn⟩
          case measure => simp [intOf]; omega
        · have hxe : x = W := by omega
          go_wp2_with fail
          go_roundw
          case rel => exact ⟨y + 1, by omega, rfl, HO.out.congr (by rw [hxe, Nat.succ_mul]) (fun _ _ => rfl), HB.out⟩
          case measure => simp [intOf]; omega
    · obtain rfl : H = y := by omega
      go_wp2_with fail
      go_ret
      exact ⟨_, rfl, HO.out, HB.out⟩

theorem spec_RanksOf_ok (W H : Nat) (a : Option Addr) (len cap : Nat) (zs : List Nat) (rc : Int) (w : World) (h : IsFRow w a len cap zs) (hl : len = W * H) (hW : 1 ≤ W ∧ W ≤ 24) (hH : 1 ≤ H ∧ H ≤ 24) (hvb : validB W H len = true) (hb1 : 1 ≤ rc) (hb2 : rc ≤ 2) :
    Calls Try.prog 34 #[.agg #[.int .i64 W, .int .i64 H, .slice a len cap], .int .i64 rc] w (RetI (H * W) true (osI W (fun (x y : Nat) => rAll zs W H x y rc (2 * rc + 1).toNat)) w) := by
  have HH := Lib.hid h
  have HL := Lib.hid hl
  clear h hl
  go_enter Try.func34, Try.ntmps34
  go_wp2_with fail
  have hq := spec_l02Is w.heap.size W H a len cap (w.alloc (.cells #[.int .i64 W, .int .i64 H, .slice a len cap] 26)) (by go_simp) (by go_simp) (by go_simp)
  rw [hvb] at hq
  refine hq.mono ?_
  clear hq
  rintro e w1 hq
  obtain ⟨rfl, b1⟩ := RetB.below hq
  clear hq hvb
  have k0 : w1.cell? ⟨w.heap.size, 0, none⟩ = some (.int .i64 W) := (b1.cell (p := ⟨w.heap.size, 0, none⟩) (by simp)).trans (by go_simp)
  have k1 : w1.cell? ⟨w.heap.size, 1, none⟩ = some (.int .i64 H) := (b1.cell (p := ⟨w.heap.size, 1, none⟩) (by simp)).trans (by go_simp)
  have k2 : w1.cell? ⟨w.heap.size, 2, none⟩ = some (.slice a len cap) := (b1.cell (p := ⟨w.heap.size, 2, none⟩) (by simp)).trans (by go_simp)
  have BW : Below w.heap.size w w1 := (by repeat (first | exact Below.refl _ _ | refine Below.setCell ?_ (by first | (simp; done) | (simp; omega)) _ | refine Below.trans ?_ (Below.mono (by assumption) (by first | (simp; done) | (simp; omega))) | refine Below.alloc ?_ (by first | (simp; done) | (simp; omega)) _ | refine Below.alloc ?_ (Nat.le_refl _) _ | refine below_drewN ?_ _))
  go_wp2_with (first | (go_at_call 63; refine (spec_l00In _ _ _ _).mono ?_; rintro e w' ⟨rfl, rfl⟩) | fail)
  refine (spec_l02Ranks w.heap.size W H a len cap zs rc w1 k0 k1 k2 (IsFRow.below HH.out BW) HL.out hW hH hb1 hb2).mono ?_
  rintro e w2 ⟨v, rfl, ho, b2⟩
  obtain ⟨ao, cp, zs', rfl, hr, hz⟩ := ho.irow
  have HR := Lib.hid hr
  have HZ := Lib.hid hz
  have HB := Lib.hid (BW.trans (b2.mono BW.size))
  have hs := BW.size
  clear ho hr hz
  go_wp2_with fail
  refine bodyPost_ret (v := .tuple #[.slice ao (H * W) cp, .bool true]) ?_ rfl ⟨_, _, zs', rfl, HR.out.mono hs (Nat.le_refl _), HZ.out, HB.out⟩
  simp [results, Try.results34, go_sem]

theorem spec_RanksOf_bad (x y : Int) (a : Option Addr) (len cap : Nat) (rc : Int) (os : Nat → Int) (w : World) (hvb : validB x y len = false) :
    Calls Try.prog 34 #[.agg #[.int .i64 x, .int .i64 y, .slice a len cap], .int .i64 rc] w (RetI 0 false os w) := by
  go_enter Try.func34, Try.ntmps34
  go_wp2_with fail
  have hq := spec_l02Is w.heap.size x y a len cap (w.alloc (.cells #[.int .i64 x, .int .i64 y, .slice a len cap] 26)) (by go_simp) (by go_simp) (by go_simp)
  rw [hvb] at hq
  refine hq.mono ?_
  clear hq
  rintro e w1 hq
  obtain ⟨rfl, b1⟩ := RetB.below hq
  clear hq hvb
  go_wp2_with fail
  refine bodyPost_ret (v := .tuple #[.slice none 0 0, .bool false]) ?_ rfl (RetI.none os (by repeat (first | exact Below.refl _ _ | refine Below.setCell ?_ (by first | (simp; done) | (simp; omega)) _ | refine Below.trans ?_ (Below.mono (by assumption) (by first | (simp; done) | (simp; omega))) | refine Below.alloc ?_ (by first | (simp; done) | (simp; omega)) _ | refine Below.alloc ?_ (Nat.le_refl _) _ | refine below_drewN ?_ _)))
  simp [results, Try.results34, go_sem]
theorem spec_RanksOf_bad2 (x y : Int) (a : Option Addr) (len cap : Nat) (rc : Int) (os : Nat → Int) (w : World) (hvb : validB x y len = true) (hrg : (decide (1 ≤ rc) && decide (rc ≤ 2)) = false) :
    Calls Try.prog 34 #[.agg #[.int .i64 x, .int .i64 y, .slice a len cap], .int .i64 rc] w (RetI 0 false os w) := by
  go_enter Try.func34, Try.ntmps34
  go_wp2_with fail
  have hq := spec_l02Is w.heap.size x y a len cap (w.alloc (.cells #[.int .i64 x, .int .i64 y, .slice a len cap] 26)) (by go_simp) (by go_simp) (by go_simp)
  rw [hvb] at hq
  refine hq.mono ?_
  clear hq
  rintro e w1 hq
  obtain ⟨rfl, b1⟩ := RetB.below hq
  clear hq hvb
  go_wp2_with (first | (go_at_call 63; refine (spec_l00In _ _ _ _).mono ?_; rintro e w' ⟨rfl, rfl⟩) | fail)
  refine bodyPost_ret (v := .tuple #[.slice none 0 0, .bool false]) ?_ rfl (RetI.none os (by repeat (first | exact Below.refl _ _ | refine Below.setCell ?_ (by first | (simp; done) | (simp; omega)) _ | refine Below.trans ?_ (Below.mono (by assumption) (by first | (simp; done) | (simp; omega))) | refine Below.alloc ?_ (by first | (simp; done) | (simp; omega)) _ | refine Below.alloc ?_ (Nat.le_refl _) _ | refine below_drewN ?_ _)))
  simp [results, Try.results34, go_sem]

theorem impl_RanksOf_ok (W H : Nat) (a : Option Addr) (len cap : Nat) (zs : List Nat) (rc : Int) (w : World) (h : IsFRow w a len cap zs) (hl : len = W * H) (hW : 1 ≤ W ∧ W ≤ 24) (hH : 1 ≤ H ∧ H ≤ 24) (hvb : validB W H len = true) (hb1 : 1 ≤ rc) (hb2 : rc ≤ 2) :
    Calls Try.prog 35 #[.agg #[.int .i64 W, .int .i64 H, .slice a len cap], .int .i64 rc] w (RetI (H * W) true (osI W (fun (x y : Nat) => rAll zs W H x y rc (2 * rc + 1).toNat)) w) := by
  have HH := Lib.hid h
  have HL := Lib.hid hl
  have HW := Lib.hid hW
  have HHH := Lib.hid hH
  obtain ⟨hW1, hW2⟩ := hW
  obtain ⟨hH1, hH2⟩ := hH
  clear h hl
  obtain ⟨OS, HOE0⟩ : ∃ f : Nat → Nat → Int, f = (fun (x y : Nat) => rAll zs W H x y rc (2 * rc + 1).toNat) := ⟨_, rfl⟩
  have HOE := Lib.hid HOE0
  clear HOE0
  rw [show (fun (x y : Nat) => rAll zs W H x y rc (2 * rc + 1).toNat) = OS from HOE.out.symm]
  go_enter Try.func35, Try.ntmps35
  go_wp2_with fail
  have hq := impl_ValidPicture W H a len cap (w.alloc (.cells #[.int .i64 W, .int .i64 H, .slice a len cap] 26))
  rw [hvb] at hq
  refine hq.mono ?_
  clear hq
  rintro e w1 ⟨rfl, b1⟩
  clear hvb
  have c0 : w1.cell? ⟨w.heap.size, 0, none⟩ = some (.int .i64 W) := (b1.cell (p := ⟨w.heap.size, 0, none⟩) (by simp)).trans (by go_simp)
  have c1 : w1.cell? ⟨w.heap.size, 1, none⟩ = some (.int .i64 H) := (b1.cell (p := ⟨w.heap.size, 1, none⟩) (by simp)).trans (by go_simp)
  have c2 : w1.cell? ⟨w.heap.size, 2, none⟩ = some (.slice a len cap) := (b1.cell (p := ⟨w.heap.size, 2, none⟩) (by simp)).trans (by go_simp)
  have hsw : w.heap.size < w1.heap.size := by have := b1.size; simp at this; omega
  have BW : Below w.heap.size w w1 := (by repeat (first | exact Below.refl _ _ | refine Below.setCell ?_ (by first | (simp; done) | (simp; omega)) _ | refine Below.trans ?_ (Below.mono (by assumption) (by first | (simp; done) | (simp; omega))) | refine Below.alloc ?_ (by first | (simp; done) | (simp; omega)) _ | refine Below.alloc ?_ (Nat.le_refl _) _ | refine below_drewN ?_ _))
  clear b1
  go_wp2_with (first | (go_at_call 65; refine (impl_in _ _ _ _).mono ?_; rintro e w' ⟨rfl, rfl⟩) | fail)
  go_loopw [6, 20] (fun v i wr => ∃ y : Nat, y ≤ H ∧ i = .int .i64 y ∧ OwnI wr (w1.heap.size) v (y * W) (osI W OS) ∧ Below (w1.heap.size) w1 wr) (fun _ i _ => H - (intOf i).toNat)
  case atStart => exact ⟨0, by omega, rfl, (OwnI.new w1 _).congr (by simp) (fun _ _ => rfl), Below.alloc (Below.refl _ _) (Nat.le_refl _) _⟩
  case round =>
    obtain ⟨y, hy, rfl, ho, hb⟩ := hrel
    obtain ⟨ao, cp, rfl⟩ := ho.shape
    have k0 := (hb.cell (p := ⟨w.heap.size, 0, none⟩) (by omega)).trans c0
    have k1 := (hb.cell (p := ⟨w.heap.size, 1, none⟩) (by omega)).trans c1
    have k2 := (hb.cell (p := ⟨w.heap.size, 2, none⟩) (by omega)).trans c2
    have HO := Lib.hid ho
    have HB := Lib.hid hb
    clear ho hb
    by_cases hlt : y < H
    · go_wp2_with fail
      go_loopw [6, 25] (fun v i wr => ∃ x : Nat, x ≤ W ∧ i = .int .i64 x ∧ OwnI wr (w1.heap.size) v (y * W + x) (osI W OS) ∧ Below (w1.heap.size) w1 wr) (fun _ i _ => W - (intOf i).toNat)
      case atStart => exact ⟨0, by omega, rfl, HO.out, HB.out⟩
      case round =>
        clear HO HB k0 k1 k2
        obtain ⟨x, hx, rfl, ho, hb⟩ := hrel
        obtain ⟨ao, cp, rfl⟩ := ho.shape
        have k0 := (hb.cell (p := ⟨w.heap.size, 0, none⟩) (by omega)).trans c0
        have k1 := (hb.cell (p := ⟨w.heap.size, 1, none⟩) (by omega)).trans c1
        have k2 := (hb.cell (p := ⟨w.heap.size, 2, none⟩) (by omega)).trans c2
        have hsz : w1.heap.size ≤ wr.heap.size := hb.size
        have HO := Lib.hid ho
        have HB := Lib.hid hb
        clear ho hb
        by_cases hlx : x < W
        · have hn : y * W + x ≤ 1000 := by
            have h1 : y * W ≤ 24 * 24 := Nat.mul_le_mul (by omega) (by omega)
            omega
          have HOS : RowKit.Hid (osI W OS (y * W + x) = _) := Lib.hid ((osI_at (os := OS) hlx).trans (congrFun (congrFun HOE.out x) y))
          go_wp2_with (first | (go_at_call 79; refine (impl_rank w.heap.size W H a len cap zs rc x y _ (by go_simp) (by go_simp) (by go_simp) (IsFRow.below HH.out (BW.trans ((HB.out.trans (by repeat (first | exact Below.refl _ _ | refine Below.setCell ?_ (by first | (simp; done) | (simp; omega)) _ | refine Below.trans ?_ (Below.mono (by assumption) (by first | (simp; done) | (simp; omega))) | refine Below.alloc ?_ (by first | (simp; done) | (simp; omega)) _ | refine Below.alloc ?_ (Nat.le_refl _) _ | refine below_drewN ?_ _))).mono (by omega)))) HL.out HW.out HHH.out hb1 hb2 (by omega) (by omega)).mono ?_; rintro e w' ⟨q, rfl, rfl⟩) | (at_builtin; refine wpList_append1I rfl (.tmp 28) (.tmp 33) rfl rfl rfl (HO.out.below (by repeat (first | exact Below.refl _ _ | refine Below.setCell ?_ (by first | (simp; done) | (simp; omega)) _ | refine Below.trans ?_ (Below.mono (by assumption) (by first | (simp; done) | (simp; omega))) | refine Below.alloc ?_ (by first | (simp; done) | (simp; omega)) _ | refine Below.alloc ?_ (Nat.le_refl _) _ | refine below_drewN ?_ _))) (by first | omega | (simp; done) | (simp; omega)) hn (by go_simp; rfl) (by rw [HOS.out]) ?_; intro v' w' h7 hgr; have hbn := own_stepI HO.out (by repeat (first | exact Below.refl _ _ | refine Below.setCell ?_ (by first | (simp; done) | (simp; omega)) _ | refine Below.trans ?_ (Below.mono (by assumption) (by first | (simp; done) | (simp; omega))) | refine Below.alloc ?_ (by first | (simp; done) | (simp; omega)) _ | refine Below.alloc ?_ (Nat.le_refl _) _ | refine below_drewN ?_ _)) hgr HB.out (by first | (simp; done) | (simp; omega) | omega)))
          go_roundw
          case rel => exact ⟨x + 1, by omega, rfl, h7, hbn⟩
          case measure => simp [intOf]; omega
        · have hxe : x = W := by omega
          go_wp2_with fail
          go_roundw
          case rel => exact ⟨y + 1, by omega, rfl, HO.out.congr (by rw [hxe, Nat.succ_mul]) (fun _ _ => rfl), HB.out⟩
          case measure => simp [intOf]; omega
    · obtain rfl : H = y := by omega
      go_wp2_with fail
      obtain ⟨ao', cp', zs', e, hr, hz⟩ := HO.out.irow
      simp only [Value.slice.injEq, true_and] at e
      obtain ⟨rfl, rfl⟩ := e
      have hs := BW.size
      refine bodyPost_ret (v := .tuple #[.slice ao (H * W) cp, .bool true]) ?_ rfl ⟨_, _, zs', rfl, hr.mono hs (Nat.le_refl _), hz, BW.trans (HB.out.mono hs)⟩
      simp [results, Try.results35, go_sem]

theorem impl_RanksOf_bad (x y : Int) (a : Option Addr) (len cap : Nat) (rc : Int) (os : Nat → Int) (w : World) (hvb : validB x y len = false) :
    Calls Try.prog 35 #[.agg #[.int .i64 x, .int .i64 y, .slice a len cap], .int .i64 rc] w (RetI 0 false os w) := by
  go_enter Try.func35, Try.ntmps35
  go_wp2_with fail
  have hq := impl_ValidPicture x y a len cap (w.alloc (.cells #[.int .i64 x, .int .i64 y, .slice a len cap] 26))
  rw [hvb] at hq
  refine hq.mono ?_
  clear hq
  rintro e w1 ⟨rfl, b1⟩
  go_wp2_with fail
  refine bodyPost_ret (v := .tuple #[.slice none 0 0, .bool false]) ?_ rfl (RetI.none os (by repeat (first | exact Below.refl _ _ | refine Below.setCell ?_ (by first | (simp; done) | (simp; omega)) _ | refine Below.trans ?_ (Below.mono (by assumption) (by first | (simp; done) | (simp; omega))) | refine Below.alloc ?_ (by first | (simp; done) | (simp; omega)) _ | refine Below.alloc ?_ (Nat.le_refl _) _ | refine below_drewN ?_ _)))
  simp [results, Try.results35, go_sem]
theorem impl_RanksOf_bad2 (x y : Int) (a : Option Addr) (len cap : Nat) (rc : Int) (os : Nat → Int) (w : World) (hvb : validB x y len = true) (hrg : (decide (1 ≤ rc) && decide (rc ≤ 2)) = false) :
    Calls Try.prog 35 #[.agg #[.int .i64 x, .int .i64 y, .slice a len cap], .int .i64 rc] w (RetI 0 false os w) := by
  go_enter Try.func35, Try.ntmps35
  go_wp2_with fail
  have hq := impl_ValidPicture x y a len cap (w.alloc (.cells #[.int .i64 x, .int .i64 y, .slice a len cap] 26))
  rw [hvb] at hq
  refine hq.mono ?_
  clear hq
  rintro e w1 ⟨rfl, b1⟩
  go_wp2_with (first | (go_at_call 65; refine (impl_in _ _ _ _).mono ?_; rintro e w' ⟨rfl, rfl⟩) | fail)
  refine bodyPost_ret (v := .tuple #[.slice none 0 0, .bool false]) ?_ rfl (RetI.none os (by repeat (first | exact Below.refl _ _ | refine Below.setCell ?_ (by first | (simp; done) | (simp; omega)) _ | refine Below.trans ?_ (Below.mono (by assumption) (by first | (simp; done) | (simp; omega))) | refine Below.alloc ?_ (by first | (simp; done) | (simp; omega)) _ | refine Below.alloc ?_ (Nat.le_refl _) _ | refine below_drewN ?_ _)))
  simp [results, Try.results35, go_sem]

theorem RanksOf_pair (x y : Int) (len : Nat) (zs : List Nat) (rc : Int) : ∃ (n : Nat) (ok : Bool) (os : Nat → Int), n ≤ 1000 ∧
  (∀ W b cp, IsFRow W b len cp zs → Calls Try.prog 34 #[.agg #[.int .i64 x, .int .i64 y, .slice b len cp], .int .i64 rc] W (RetI n ok os W)) ∧
  (∀ W b cp, IsFRow W b len cp zs → Calls Try.prog 35 #[.agg #[.int .i64 x, .int .i64 y, .slice b len cp], .int .i64 rc] W (RetI n ok os W)) := by
  cases hvb : validB x y len with
  | false => exact ⟨0, false, fun _ => 0, by omega, fun W b cp _ => spec_RanksOf_bad x y b len cp rc _ W hvb, fun W b cp _ => impl_RanksOf_bad x y b len cp rc _ W hvb⟩
  | true =>
    by_cases hb : 1 ≤ rc ∧ rc ≤ 2
    · obtain ⟨X, Y, rfl, rfl, hl, hW, hH⟩ := valid_nat hvb
      have hn : Y * X ≤ 1000 := Nat.le_trans (Nat.mul_le_mul hH.2 hW.2) (by omega)
      exact ⟨Y * X, true, _, hn, fun W b cp h => spec_RanksOf_ok X Y b len cp zs rc W h hl hW hH hvb hb.1 hb.2, fun W b cp h => impl_RanksOf_ok X Y b len cp zs rc W h hl hW hH hvb hb.1 hb.2⟩
    · have hrg : (decide (1 ≤ rc) && decide (rc ≤ 2)) = false := by rw [Bool.and_eq_false_iff]; simp only [decide_eq_false_iff_not]; omega
      exact ⟨0, false, fun _ => 0, by omega, fun W b cp _ => spec_RanksOf_bad2 x y b len cp rc _ W hvb hrg, fun W b cp _ => impl_RanksOf_bad2 x y b len cp rc _ W hvb hrg⟩
attribute [local irreducible] Oper.wp in
theorem FnExactRanksOf_walk (x y : Int) (a : Option Addr) (len cap : Nat) (zs : List Nat) (rc : Int) (w : World) (h : PicOk w x y a len cap zs) (_ : (Lit.int .i64 rc).wf = true) :
    Calls Try.prog 11 #[.agg #[.int .i64 x, .int .i64 y, .slice a len cap], .int .i64 rc] w fun e w' => e = .returned (.bool true) ∧ Below w.heap.size w w' := by
  obtain ⟨hx, hy, hrow⟩ := h
  obtain ⟨n, ok, os, hn, hs, hi⟩ := RanksOf_pair x y len zs rc
  clear hx hy
  have hcl : len ≤ 9223372036854775807 := by have h1 := hrow.2.1; have h2 := hrow.2.2.1; unfold maxLen at h2; omega
  have H := Lib.hid hrow
  have HS := Lib.hid hs
  have HI := Lib.hid hi
  clear hrow hs hi
  by_cases hl : (len : Int) ≤ 1048576
  case neg =>
    go_enter Try.func11, Try.ntmps11
    go_wp2_with fail
    refine (szPicture_no x y a len cap 1048576 _ hcl (by omega) (by omega)).mono ?_
    rintro e w1 ⟨rfl, hb⟩
    go_wp2_with fail
    go_ret
    exact ⟨rfl, (by repeat (first | exact Below.refl _ _ | refine Below.setCell ?_ (by first | (simp; done) | (simp; omega)) _ | refine Below.trans ?_ (Below.mono (by assumption) (by first | (simp; done) | (simp; omega))) | refine Below.alloc ?_ (by first | (simp; done) | (simp; omega)) _ | refine Below.alloc ?_ (Nat.le_refl _) _ | refine below_drewN ?_ _))⟩
  have hl' : len ≤ 1048576 := by omega
  go_enter Try.func11, Try.ntmps11
  go_wp2_with fail
  refine (szPicture_ok x y a len cap 1048576 _ hl (by omega)).mono ?_
  rintro e w1 ⟨rfl, b1⟩
  have t1 : w.heap.size + 1 ≤ w1.heap.size := by have := b1.size; simp at this; omega
  have EE : RowKit.Hid (Below w.heap.size w w1) := Lib.hid ((by repeat (first | exact Below.refl _ _ | refine Below.setCell ?_ (by first | (simp; done) | (simp; omega)) _ | refine Below.trans ?_ (Below.mono (by assumption) (by first | (simp; done) | (simp; omega))) | refine Below.alloc ?_ (by first | (simp; done) | (simp; omega)) _ | refine Below.alloc ?_ (Nat.le_refl _) _ | refine below_drewN ?_ _)))
  have K0 : RowKit.Hid (At3 w1 w.heap.size (.int .i64 x) (.int .i64 y) (.slice a len cap)) := Lib.hid ⟨(b1.cell (p := ⟨w.heap.size, 0, none⟩) (by simp)).trans (by go_simp), (b1.cell (p := ⟨w.heap.size, 1, none⟩) (by simp)).trans (by go_simp), (b1.cell (p := ⟨w.heap.size, 2, none⟩) (by simp)).trans (by go_simp)⟩
  clear b1
  obtain ⟨c00, c01, c02⟩ := K0.out
  go_wp2_with fail
  clear c00 c01 c02
  refine (toPicture_own x y a len cap zs _ (IsFRow.below H.out EE.out) hl').mono ?_
  rintro e w2 ⟨g2, rfl, r2, b2⟩
  have R2 := Lib.hid r2
  clear r2
  have t2 : w1.heap.size ≤ w2.heap.size := b2.size
  have BB : Below w1.heap.size w1 w2 := (by repeat (first | exact Below.refl _ _ | refine Below.setCell ?_ (by first | (simp; done) | (simp; omega)) _ | refine Below.trans ?_ (Below.mono (by assumption) (by first | (simp; done) | (simp; omega))) | refine Below.alloc ?_ (by first | (simp; done) | (simp; omega)) _ | refine Below.alloc ?_ (Nat.le_refl _) _ | refine below_drewN ?_ _))
  replace EE := Lib.hid (EE.out.trans (BB.mono (by omega)))
  replace K0 := Lib.hid (At3.below K0.out BB (by omega))
  clear BB b2
  go_wp2_with fail
  refine (HS.out _ _ _ R2.out.row).mono ?_
  rintro e w3 ⟨ao3, cp3, zs3, rfl, r3, i3, b3⟩
  have R3 := Lib.hid r3
  have I3 := Lib.hid i3
  clear r3 i3 R2
  have t3 : w2.heap.size ≤ w3.heap.size := b3.size
  have BB : Below w2.heap.size w2 w3 := (by repeat (first | exact Below.refl _ _ | refine Below.setCell ?_ (by first | (simp; done) | (simp; omega)) _ | refine Below.trans ?_ (Below.mono (by assumption) (by first | (simp; done) | (simp; omega))) | refine Below.alloc ?_ (by first | (simp; done) | (simp; omega)) _ | refine Below.alloc ?_ (Nat.le_refl _) _ | refine below_drewN ?_ _))
  replace EE := Lib.hid (EE.out.trans (BB.mono (by omega)))
  replace K0 := Lib.hid (At3.below K0.out BB (by omega))
  clear BB b3
  obtain ⟨c00, c01, c02⟩ := K0.out
  go_wp2_with fail
  clear c00 c01 c02
  refine (toPicture_own x y a len cap zs _ (IsFRow.below H.out EE.out) hl').mono ?_
  rintro e w4 ⟨g4, rfl, r4, b4⟩
  have R4 := Lib.hid r4
  clear r4
  have t4 : w3.heap.size ≤ w4.heap.size := b4.size
  have BB : Below w3.heap.size w3 w4 := (by repeat (first | exact Below.refl _ _ | refine Below.setCell ?_ (by first | (simp; done) | (simp; omega)) _ | refine Below.trans ?_ (Below.mono (by assumption) (by first | (simp; done) | (simp; omega))) | refine Below.alloc ?_ (by first | (simp; done) | (simp; omega)) _ | refine Below.alloc ?_ (Nat.le_refl _) _ | refine below_drewN ?_ _))
  replace EE := Lib.hid (EE.out.trans (BB.mono (by omega)))
  replace K0 := Lib.hid (At3.below K0.out BB (by omega))
  replace R3 := Lib.hid (R3.out.below BB)
  clear BB b4
  go_wp2_with fail
  refine (HI.out _ _ _ (R4.out.below (by repeat (first | exact Below.refl _ _ | refine Below.setCell ?_ (by first | (simp; done) | (simp; omega)) _ | refine Below.trans ?_ (Below.mono (by assumption) (by first | (simp; done) | (simp; omega))) | refine Below.alloc ?_ (by first | (simp; done) | (simp; omega)) _ | refine Below.alloc ?_ (Nat.le_refl _) _ | refine below_drewN ?_ _))).row).mono ?_
  rintro e w5 ⟨ao5, cp5, zs5, rfl, r5, i5, b5⟩
  have R5 := Lib.hid (r5.mono (lo' := w4.heap.size + 1) (hi' := w5.heap.size) (by simp) (Nat.le_refl _))
  have I5 := Lib.hid i5
  clear r5 i5
  have t5 : w4.heap.size + 1 ≤ w5.heap.size := by have := b5.size; simp at this; omega
  have BB : Below w4.heap.size w4 w5 := (by repeat (first | exact Below.refl _ _ | refine Below.setCell ?_ (by first | (simp; done) | (simp; omega)) _ | refine Below.trans ?_ (Below.mono (by assumption) (by first | (simp; done) | (simp; omega))) | refine Below.alloc ?_ (by first | (simp; done) | (simp; omega)) _ | refine Below.alloc ?_ (Nat.le_refl _) _ | refine below_drewN ?_ _))
  replace EE := Lib.hid (EE.out.trans (BB.mono (by omega)))
  replace K0 := Lib.hid (At3.below K0.out BB (by omega))
  replace R3 := Lib.hid (R3.out.below BB)
  replace R4 := Lib.hid (R4.out.below BB)
  have K8 : RowKit.Hid (At3 w5 w4.heap.size (.int .i64 x) (.int .i64 y) (.slice (some ⟨g4, 0, none⟩) len len)) := Lib.hid ⟨(b5.cell (p := ⟨w4.heap.size, 0, none⟩) (by simp)).trans (by go_simp), (b5.cell (p := ⟨w4.heap.size, 1, none⟩) (by simp)).trans (by go_simp), (b5.cell (p := ⟨w4.heap.size, 2, none⟩) (by simp)).trans (by go_simp)⟩
  clear BB b5
  go_wp2_with fail
  refine (eqInt64S _ _ n _ _ _ _ _ _ zs5 zs3 _ R5.out R3.out (fun i hi => (I5.out i hi).trans (I3.out i hi).symm)).mono ?_
  rintro e w6 ⟨rfl, b6⟩
  have t6 : w5.heap.size ≤ w6.heap.size := b6.size
  have BB : Below w5.heap.size w5 w6 := (by repeat (first | exact Below.refl _ _ | refine Below.setCell ?_ (by first | (simp; done) | (simp; omega)) _ | refine Below.trans ?_ (Below.mono (by assumption) (by first | (simp; done) | (simp; omega))) | refine Below.alloc ?_ (by first | (simp; done) | (simp; omega)) _ | refine Below.alloc ?_ (Nat.le_refl _) _ | refine below_drewN ?_ _))
  replace EE := Lib.hid (EE.out.trans (BB.mono (by omega)))
  replace K0 := Lib.hid (At3.below K0.out BB (by omega))
  replace K8 := Lib.hid (At3.below K8.out BB (by omega))
  replace R3 := Lib.hid (R3.out.below BB)
  replace R4 := Lib.hid (R4.out.below BB)
  replace R5 := Lib.hid (R5.out.below BB)
  clear BB b6
  go_wp2_with fail
  refine wp_region_all (by kernel_rfl) (by kernel_rfl) 5 (by kernel_rfl) (fun _ v => ⟨#[.agg #[.int .i64 x, .int .i64 y, .slice a len cap], .int .i64 rc, .pointer (some ⟨w.heap.size, 0, none⟩), undef, .bool false, .int .i64 (1048576 - (len : Int)), .slice ao3 n cp3, .bool ok, .pointer (some ⟨w4.heap.size, 0, none⟩), .slice ao5 n cp5, .bool ok, undef, undef, undef, undef, undef, .agg #[.int .i64 x, .int .i64 y, .slice a len cap], .int .i64 1048576, .int .i64 (1048576 - (len : Int)), .int .i64 (1048576 - (len : Int)), .bool (decide ((1048576 - (len : Int)) < 0)), .tuple #[.slice ao3 n cp3, .bool ok], .agg #[.int .i64 x, .int .i64 y, .slice a len cap], .agg #[.int .i64 x, .int .i64 y, .slice (some ⟨g2, 0, none⟩) len len], .int .i64 rc, .tuple #[.slice ao3 n cp3, .bool ok], .slice ao3 n cp3, .bool ok, .agg #[.int .i64 x, .int .i64 y, .slice a len cap], .agg #[.int .i64 x, .int .i64 y, .slice (some ⟨g4, 0, none⟩) len len], .tuple #[.slice ao5 n cp5, .bool ok], .agg #[.int .i64 x, .int .i64 y, .slice (some ⟨g4, 0, none⟩) len len], .int .i64 rc, .tuple #[.slice ao5 n cp5, .bool ok], .slice ao5 n cp5, .bool ok, .slice ao5 n cp5, .slice ao3 n cp3, .bool true, .bool false, .bool false, .bool ok, .bool ok, .bool false, .bool false, v 0, v 1, v 2, v 3, v 4, undef, undef, undef, undef, undef, undef, undef, undef, undef, undef, undef, undef, undef, undef, undef, undef, undef, undef, undef, undef, undef, undef, undef, undef, undef, undef, undef, undef, undef, undef, undef, undef, undef, undef, undef, undef, undef, undef, undef, undef, undef, undef, undef, undef, undef, undef, undef, undef, undef, undef, undef], []⟩)
    (fun W => Below w6.heap.size w6 W)
    (fun j W s => match j with | 0 => s = .agg #[.int .i64 x, .int .i64 y, .slice (some ⟨g4, 0, none⟩) len len] | 1 => s = .agg #[.int .i64 x, .int .i64 y, .slice a len cap] | 2 => ∃ g, s = .agg #[.int .i64 x, .int .i64 y, .slice (some ⟨g, 0, none⟩) len len] ∧ IsFRow W (some ⟨g, 0, none⟩) len len zs | 3 => s = .bool true | 4 => s = .bool false | _ => True) ?_ ?_ (Below.refl _ _).drew ?_ ?_
  · intro j W W' v hb
    rcases j with _ | _ | _ | _ | _ | j
    · exact id
    · exact id
    · rintro ⟨g, e, f⟩
      exact ⟨g, e, IsFRow.below f hb⟩
    · exact id
    · exact id
    · exact id
  · exact ⟨fun _ => undef, rfl⟩
  · intro i o ho hlt vals W hG hd
    rcases i with _ | _ | _ | _ | _ | i
    · refine wpOp_run ho (by cases Option.some.inj ho; rfl) ?_
      cases Option.some.inj ho
      obtain ⟨c0, c1, c2⟩ := At3.below K8.out hG (by omega)
      go_simp
      exact ⟨_, rfl, Below.refl _ _, hG, rfl⟩
    · refine wpOp_run ho (by cases Option.some.inj ho; rfl) ?_
      cases Option.some.inj ho
      obtain ⟨c0, c1, c2⟩ := At3.below K0.out hG (by omega)
      go_simp
      exact ⟨_, rfl, Below.refl _ _, hG, rfl⟩
    · refine wpOp_run ho (by cases Option.some.inj ho; rfl) ?_
      cases Option.some.inj ho
      have hc := toPicture x y a len cap zs W (IsFRow.below H.out (EE.out.trans (hG.mono EE.out.size))) hl'
      rw [← (show vals 1 = .agg #[.int .i64 x, .int .i64 y, .slice a len cap] from hd ⟨1, .data⟩ (by simp) rfl)] at hc
      go_simp
      refine hc.mono ?_
      rintro e w' ⟨g, rfl, f, hb⟩
      exact ⟨_, rfl, hb, hG.trans (hb.mono hG.size), g, rfl, f⟩
    · refine wpOp_run ho (by cases Option.some.inj ho; rfl) ?_
      cases Option.some.inj ho
      obtain ⟨g, e2, f⟩ := (show ∃ g, vals 2 = .agg #[.int .i64 x, .int .i64 y, .slice (some ⟨g, 0, none⟩) len len] ∧ IsFRow W (some ⟨g, 0, none⟩) len len zs from hd ⟨2, .data⟩ (by simp) rfl)
      have hc := eqPicture x y _ _ len len len zs W (R4.out.below hG).row f
      rw [← e2, ← (show vals 0 = .agg #[.int .i64 x, .int .i64 y, .slice (some ⟨g4, 0, none⟩) len len] from hd ⟨0, .data⟩ (by simp) rfl)] at hc
      clear e2 f
      go_simp
      refine hc.mono ?_
      rintro e w' ⟨rfl, hb⟩
      exact ⟨_, rfl, hb, hG.trans (hb.mono hG.size), rfl⟩
    · refine wpOp_run ho (by cases Option.some.inj ho; rfl) ?_
      cases Option.some.inj ho
      have e3 : vals 3 = .bool true := hd ⟨3, .data⟩ (by simp) rfl
      go_simp
      exact ⟨.bool false, by simp [upd_at, e3], Below.refl _ _, hG, rfl⟩
    · omega
  · intro vals w7 b7 hR
    have e4 : vals 4 = .bool false := hR 4 (by omega)
    simp only [Exit.then, e4]
    clear hR
    have t7 : w6.heap.size ≤ w7.heap.size := b7.size
    have BB : Below w6.heap.size w6 w7 := (by repeat (first | exact Below.refl _ _ | refine Below.setCell ?_ (by first | (simp; done) | (simp; omega)) _ | refine Below.trans ?_ (Below.mono (by assumption) (by first | (simp; done) | (simp; omega))) | refine Below.alloc ?_ (by first | (simp; done) | (simp; omega)) _ | refine Below.alloc ?_ (Nat.le_refl _) _ | refine below_drewN ?_ _))
    replace EE := Lib.hid (EE.out.trans (BB.mono (by omega)))
    replace K0 := Lib.hid (At3.below K0.out BB (by omega))
    replace K8 := Lib.hid (At3.below K8.out BB (by omega))
    replace R3 := Lib.hid (R3.out.below BB)
    replace R4 := Lib.hid (R4.out.below BB)
    replace R5 := Lib.hid (R5.out.below BB)
    clear BB b7
    obtain ⟨c80, c81, c82⟩ := K8.out
    go_wp2_with fail
    clear c80 c81 c82
    refine (markPicture x y _ len len _ _ zs 1 _ R4.out hl' (by omega) (by omega)).mono ?_
    rintro e w8 ⟨rfl, r8, b8⟩
    clear r8
    clear R4
    have t8 : w7.heap.size ≤ w8.heap.size := b8.size
    replace EE := Lib.hid (EE.out.trans (b8.below (by omega) (by omega)))
    replace K0 := Lib.hid (At3.only K0.out b8 (by omega) (by omega))
    replace K8 := Lib.hid (At3.only K8.out b8 (by omega) (by omega))
    replace R3 := Lib.hid (R3.out.only b8 (by omega))
    replace R5 := Lib.hid (R5.out.only b8 (by omega))
    clear b8
    go_wp2_with fail
    refine (eqInt64S _ _ n _ _ _ _ _ _ zs5 zs3 _ R5.out R3.out (fun i hi => (I5.out i hi).trans (I3.out i hi).symm)).mono ?_
    rintro e w9 ⟨rfl, b9⟩
    have t9 : w8.heap.size ≤ w9.heap.size := b9.size
    have BB : Below w8.heap.size w8 w9 := (by repeat (first | exact Below.refl _ _ | refine Below.setCell ?_ (by first | (simp; done) | (simp; omega)) _ | refine Below.trans ?_ (Below.mono (by assumption) (by first | (simp; done) | (simp; omega))) | refine Below.alloc ?_ (by first | (simp; done) | (simp; omega)) _ | refine Below.alloc ?_ (Nat.le_refl _) _ | refine below_drewN ?_ _))
    replace EE := Lib.hid (EE.out.trans (BB.mono (by omega)))
    replace K0 := Lib.hid (At3.below K0.out BB (by omega))
    replace K8 := Lib.hid (At3.below K8.out BB (by omega))
    replace R3 := Lib.hid (R3.out.below BB)
    replace R5 := Lib.hid (R5.out.below BB)
    clear BB b9
    go_wp2_with fail
    refine (markInt64S _ n _ _ _ zs5 1 _ R5.out (by omega) (by omega) (by omega)).mono ?_
    rintro e w10 ⟨rfl, r10, b10⟩
    have R10 := Lib.hid r10
    clear r10 R5
    have t10 : w9.heap.size ≤ w10.heap.size := b10.size
    replace EE := Lib.hid (EE.out.trans (b10.below (by omega) (by omega)))
    replace K0 := Lib.hid (At3.only K0.out b10 (by omega) (by omega))
    replace K8 := Lib.hid (At3.only K8.out b10 (by omega) (by omega))
    replace R3 := Lib.hid (R3.out.only b10 (by omega))
    clear b10
    go_wp2_with fail
    refine (heldInt64S _ n _ _ _ 1 _ R10.out (by omega) (by omega) (by omega)).mono ?_
    rintro e w11 ⟨rfl, q11, hq11⟩
    have b11 : Below w10.heap.size w10 w11 := by rw [hq11]; exact below_drewN (Below.refl _ _) q11
    clear hq11
    have t11 : w10.heap.size ≤ w11.heap.size := b11.size
    have BB : Below w10.heap.size w10 w11 := (by repeat (first | exact Below.refl _ _ | refine Below.setCell ?_ (by first | (simp; done) | (simp; omega)) _ | refine Below.trans ?_ (Below.mono (by assumption) (by first | (simp; done) | (simp; omega))) | refine Below.alloc ?_ (by first | (simp; done) | (simp; omega)) _ | refine Below.alloc ?_ (Nat.le_refl _) _ | refine below_drewN ?_ _))
    replace EE := Lib.hid (EE.out.trans (BB.mono (by omega)))
    replace K0 := Lib.hid (At3.below K0.out BB (by omega))
    replace K8 := Lib.hid (At3.below K8.out BB (by omega))
    replace R3 := Lib.hid (R3.out.below BB)
    replace R10 := Lib.hid (R10.out.below BB)
    clear BB b11
    obtain ⟨c00, c01, c02⟩ := K0.out
    go_wp2_with fail
    clear c00 c01 c02
    refine (toPicture_own x y a len cap zs _ (IsFRow.below H.out EE.out) hl').mono ?_
    rintro e w12 ⟨g12, rfl, r12, b12⟩
    have R12 := Lib.hid r12
    clear r12
    have t12 : w11.heap.size ≤ w12.heap.size := b12.size
    have BB : Below w11.heap.size w11 w12 := (by repeat (first | exact Below.refl _ _ | refine Below.setCell ?_ (by first | (simp; done) | (simp; omega)) _ | refine Below.trans ?_ (Below.mono (by assumption) (by first | (simp; done) | (simp; omega))) | refine Below.alloc ?_ (by first | (simp; done) | (simp; omega)) _ | refine Below.alloc ?_ (Nat.le_refl _) _ | refine below_drewN ?_ _))
    replace EE := Lib.hid (EE.out.trans (BB.mono (by omega)))
    replace K0 := Lib.hid (At3.below K0.out BB (by omega))
    replace K8 := Lib.hid (At3.below K8.out BB (by omega))
    replace R3 := Lib.hid (R3.out.below BB)
    replace R10 := Lib.hid (R10.out.below BB)
    clear BB b12
    go_wp2_with fail
    refine (HI.out _ _ _ R12.out.row).mono ?_
    rintro e w13 ⟨ao13, cp13, zs13, rfl, r13, i13, b13⟩
    have R13 := Lib.hid r13
    have I13 := Lib.hid i13
    clear r13 i13 R12
    have t13 : w12.heap.size ≤ w13.heap.size := b13.size
    have BB : Below w12.heap.size w12 w13 := (by repeat (first | exact Below.refl _ _ | refine Below.setCell ?_ (by first | (simp; done) | (simp; omega)) _ | refine Below.trans ?_ (Below.mono (by assumption) (by first | (simp; done) | (simp; omega))) | refine Below.alloc ?_ (by first | (simp; done) | (simp; omega)) _ | refine Below.alloc ?_ (Nat.le_refl _) _ | refine below_drewN ?_ _))
    replace EE := Lib.hid (EE.out.trans (BB.mono (by omega)))
    replace K0 := Lib.hid (At3.below K0.out BB (by omega))
    replace K8 := Lib.hid (At3.below K8.out BB (by omega))
    replace R3 := Lib.hid (R3.out.below BB)
    replace R10 := Lib.hid (R10.out.below BB)
    clear BB b13
    go_wp2_with fail
    refine (eqInt64S _ _ n _ _ _ _ _ _ zs13 zs3 _ R13.out R3.out (fun i hi => (I13.out i hi).trans (I3.out i hi).symm)).mono ?_
    rintro e w14 ⟨rfl, b14⟩
    have t14 : w13.heap.size ≤ w14.heap.size := b14.size
    have BB : Below w13.heap.size w13 w14 := (by repeat (first | exact Below.refl _ _ | refine Below.setCell ?_ (by first | (simp; done) | (simp; omega)) _ | refine Below.trans ?_ (Below.mono (by assumption) (by first | (simp; done) | (simp; omega))) | refine Below.alloc ?_ (by first | (simp; done) | (simp; omega)) _ | refine Below.alloc ?_ (Nat.le_refl _) _ | refine below_drewN ?_ _))
    replace EE := Lib.hid (EE.out.trans (BB.mono (by omega)))
    replace K0 := Lib.hid (At3.below K0.out BB (by omega))
    replace K8 := Lib.hid (At3.below K8.out BB (by omega))
    replace R3 := Lib.hid (R3.out.below BB)
    replace R10 := Lib.hid (R10.out.below BB)
    replace R13 := Lib.hid (R13.out.below BB)
    clear BB b14
    go_wp2_with fail
    refine (heldInt64S _ n _ _ _ 1 _ R10.out (by omega) (by omega) (by omega)).mono ?_
    rintro e w15 ⟨rfl, q15, hq15⟩
    have b15 : Below w14.heap.size w14 w15 := by rw [hq15]; exact below_drewN (Below.refl _ _) q15
    clear hq15
    have t15 : w14.heap.size ≤ w15.heap.size := b15.size
    have BB : Below w14.heap.size w14 w15 := (by repeat (first | exact Below.refl _ _ | refine Below.setCell ?_ (by first | (simp; done) | (simp; omega)) _ | refine Below.trans ?_ (Below.mono (by assumption) (by first | (simp; done) | (simp; omega))) | refine Below.alloc ?_ (by first | (simp; done) | (simp; omega)) _ | refine Below.alloc ?_ (Nat.le_refl _) _ | refine below_drewN ?_ _))
    replace EE := Lib.hid (EE.out.trans (BB.mono (by omega)))
    replace K0 := Lib.hid (At3.below K0.out BB (by omega))
    replace K8 := Lib.hid (At3.below K8.out BB (by omega))
    replace R3 := Lib.hid (R3.out.below BB)
    replace R10 := Lib.hid (R10.out.below BB)
    replace R13 := Lib.hid (R13.out.below BB)
    clear BB b15
    go_wp2_with fail
    go_ret
    exact ⟨rfl, EE.out⟩
end Go.Proofs.Ytacdnkpadloheaa
