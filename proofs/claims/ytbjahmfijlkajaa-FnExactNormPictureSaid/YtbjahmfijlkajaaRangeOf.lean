/-
  RangeOf of a picture: the specification's walk, the program's walk, that they agree, and the law's walk.
-/
import Derived.Test.YtbjahmfijlkajaaImpl
namespace Go.Proofs.Ytbjahmfijlkajaa
open Go.RowKit Go.FL
/-- whether a word is no number -/
def nanB (z : Nat) : Bool := FloatKind.f32.format.order z z != some .eq
def ltB (z l : Nat) : Bool := FloatKind.f32.format.order z l == some .lt
def gtB (z l : Nat) : Bool := FloatKind.f32.format.order z l == some .gt
/-- the least and the greatest of the first k numbers, and whether there are any -/
def rng (zs : List Nat) : Nat → Nat × Nat × Bool
  | 0 => (0, 0, false)
  | k + 1 =>
    let p := rng zs k
    let z := zs.getD k 0
    if nanB z then p else (if !p.2.2 || ltB z p.1 then z else p.1, if !p.2.2 || gtB z p.2.1 then z else p.2.1, true)

theorem rng_none (zs : List Nat) (k : Nat) (h : (rng zs k).2.2 = false) : rng zs k = (0, 0, false) := by
  induction k with
  | zero => rfl
  | succ k ih =>
    by_cases hn : nanB (zs.getD k 0) = true
    · have e : rng zs (k + 1) = rng zs k := by rw [rng]; simp only [hn, if_true]
      rw [e] at h ⊢
      exact ih h
    · have e : (rng zs (k + 1)).2.2 = true := by rw [rng]; simp only [hn]; rfl
      rw [e] at h
      cases h
/-- two floats and whether they are any -/
def RetR (l h : Nat) (ok : Bool) (w : World) (e : Ending) (w' : World) : Prop := e = .returned (.tuple #[.float .f32 l, .float .f32 h, .bool ok]) ∧ Below w.heap.size w w'

set_option maxHeartbeats 1000000 in
theorem spec_l02Range (b : Nat) (a : Option Addr) (len cap : Nat) (zs : List Nat) (w : World) (c2 : w.cell? ⟨b, 2, none⟩ = some (.slice a len cap)) (hr : IsFRow w a len cap zs) :
    Calls Try.prog 52 #[.pointer (some ⟨b, 0, none⟩)] w fun e w' => ∃ n, e = .returned (.tuple #[.float .f32 (rng zs len).1, .float .f32 (rng zs len).2.1, .bool (rng zs len).2.2]) ∧ w' = w.drewN n := by
  obtain ⟨hz, hlc, hcm, hzl, hrow⟩ := hr
  unfold maxLen at hcm
  go_enter Try.func52, Try.ntmps52
  go_wp2
  go_loopw [5, 6, 7, 8] (fun l h s i wr => ∃ k n : Nat, k ≤ len ∧ i = .int .i64 k ∧ wr = w.drewN n ∧ l = .float .f32 (rng zs k).1 ∧ h = .float .f32 (rng zs k).2.1 ∧ s = .bool (rng zs k).2.2) (fun _ _ _ i _ => len - (intOf i).toNat)
  case atStart => exact ⟨0, 0, Nat.zero_le _, rfl, rfl, rfl, rfl, rfl⟩
  case round =>
    obtain ⟨k, m, hk, rfl, rfl, rfl, rfl, rfl⟩ := hrel
    by_cases hlt : k < len
    · obtain ⟨b', off, rfl, hbl, hc⟩ := hrow.resolve_left (by omega)
      have hcx := hc k hlt
      have hst : rng zs (k + 1) = (let p := rng zs k; let z := zs.getD k 0; if nanB z then p else (if !p.2.2 || ltB z p.1 then z else p.1, if !p.2.2 || gtB z p.2.1 then z else p.2.1, true)) := rfl
      generalize zs.getD k 0 = z at hcx hst
      generalize rng zs k = p at hst
      obtain ⟨l, h, f⟩ := p
      simp only at hst
      have HC := Lib.hid hc
      clear hc
      cases hn : nanB z with
      | true =>
        rw [hn] at hst
        simp only [if_true] at hst
        have HST := Lib.hid hst
        unfold nanB at hn
        clear hst
        simp only
        go_wp2
        go_roundw
        case rel => exact ⟨k + 1, _, by omega, rfl, rfl, by rw [HST.out], by rw [HST.out], by rw [HST.out]⟩
        case measure => simp [intOf]; omega
      | false =>
        rw [hn] at hst
        unfold nanB at hn
        cases f with
        | false =>
          simp at hst
          have HST := Lib.hid hst
          clear hst
          simp only
          go_wp2
          go_roundw
          case rel => exact ⟨k + 1, _, by omega, rfl, rfl, by rw [HST.out], by rw [HST.out], by rw [HST.out]⟩
          case measure => simp [intOf]; omega
        | true =>
          cases h1 : ltB z l <;> cases h2 : gtB z h <;> rw [h1, h2] at hst <;> simp at hst
          all_goals
            have HST := Lib.hid hst
            clear hst
            unfold ltB at h1
            unfold gtB at h2
            simp only
            go_wp2
            go_roundw
            case rel => exact ⟨k + 1, _, by omega, rfl, rfl, by rw [HST.out], by rw [HST.out], by rw [HST.out]⟩
            case measure => simp [intOf]; omega
    · have hkl : k = len := by omega
      subst hkl
      go_wp2
      go_ret3
      exact ⟨_, rfl, rfl⟩

theorem impl_isNumber (z : Nat) (w : World) : Calls Try.prog 54 #[.float .f32 z] w fun e w' => e = .returned (.bool (!(nanB z))) ∧ w = w' := by
  unfold nanB
  go_enter Try.func54, Try.ntmps54
  go_wp2
  go_ret
  exact ⟨rfl, rfl⟩

set_option maxHeartbeats 1000000 in
theorem impl_rangeOf (a : Option Addr) (len cap : Nat) (zs : List Nat) (w : World) (hr : IsFRow w a len cap zs) :
    Calls Try.prog 53 #[.slice a len cap, .func (.func 54) #[] #[]] w fun e w' => ∃ n, e = .returned (.tuple #[.float .f32 (rng zs len).1, .float .f32 (rng zs len).2.1, .bool (rng zs len).2.2]) ∧ w' = w.drewN n := by
  obtain ⟨hz, hlc, hcm, hzl, hrow⟩ := hr
  unfold maxLen at hcm
  go_enter Try.func53, Try.ntmps53
  go_wp2
  go_loopw [7, 8, 9, 14] (fun l h s i wr => ∃ k n : Nat, k ≤ len ∧ i = .int .i64 k ∧ wr = w.drewN n ∧ l = .float .f32 (rng zs k).1 ∧ h = .float .f32 (rng zs k).2.1 ∧ s = .bool (rng zs k).2.2) (fun _ _ _ i _ => len - (intOf i).toNat)
  case atStart => exact ⟨0, 0, Nat.zero_le _, rfl, rfl, rfl, rfl, rfl⟩
  case round =>
    obtain ⟨k, m, hk, rfl, rfl, rfl, rfl, rfl⟩ := hrel
    by_cases hlt : k < len
    · obtain ⟨b', off, rfl, hbl, hc⟩ := hrow.resolve_left (by omega)
      have hcx := hc k hlt
      have hst : rng zs (k + 1) = (let p := rng zs k; let z := zs.getD k 0; if nanB z then p else (if !p.2.2 || ltB z p.1 then z else p.1, if !p.2.2 || gtB z p.2.1 then z else p.2.1, true)) := rfl
      generalize zs.getD k 0 = z at hcx hst
      generalize rng zs k = p at hst
      obtain ⟨l, h, f⟩ := p
      simp only at hst
      have HC := Lib.hid hc
      clear hc
      cases hn : nanB z with
      | true =>
        rw [hn] at hst
        simp only [if_true] at hst
        have HST := Lib.hid hst
        unfold nanB at hn
        clear hst
        simp only
        go_wp2_with (first | (go_at_call 54; refine (impl_isNumber _ _).mono ?_; unfold nanB; rintro e w' ⟨rfl, rfl⟩))
        go_roundw
        case rel => exact ⟨k + 1, _, by omega, rfl, rfl, by rw [HST.out], by rw [HST.out], by rw [HST.out]⟩
        case measure => simp [intOf]; omega
      | false =>
        rw [hn] at hst
        unfold nanB at hn
        cases f with
        | false =>
          simp at hst
          have HST := Lib.hid hst
          clear hst
          simp only
          go_wp2_with (first | (go_at_call 54; refine (impl_isNumber _ _).mono ?_; unfold nanB; rintro e w' ⟨rfl, rfl⟩))
          go_roundw
          case rel => exact ⟨k + 1, _, by omega, rfl, rfl, by rw [HST.out], by rw [HST.out], by rw [HST.out]⟩
          case measure => simp [intOf]; omega
        | true =>
          cases h1 : ltB z l <;> cases h2 : gtB z h <;> rw [h1, h2] at hst <;> simp at hst
          all_goals
            have HST := Lib.hid hst
            clear hst
            unfold ltB at h1
            unfold gtB at h2
            simp only
            go_wp2_with (first | (go_at_call 54; refine (impl_isNumber _ _).mono ?_; unfold nanB; rintro e w' ⟨rfl, rfl⟩))
            go_roundw
            case rel => exact ⟨k + 1, _, by omega, rfl, rfl, by rw [HST.out], by rw [HST.out], by rw [HST.out]⟩
            case measure => simp [intOf]; omega
    · have hkl : k = len := by omega
      subst hkl
      go_wp2
      go_ret3
      exact ⟨_, rfl, rfl⟩

theorem spec_RangeOf_true (x y : Int) (a : Option Addr) (len cap : Nat) (zs : List Nat) (w : World) (h : IsFRow w a len cap zs) (hvb : validB x y len = true) : Calls Try.prog 25 #[.agg #[.int .i64 x, .int .i64 y, .slice a len cap]] w (RetR (rng zs len).1 (rng zs len).2.1 (rng zs len).2.2 w) := by
  have HR := Lib.hid h
  clear h
  cases hf : (rng zs len).2.2 with
  | false =>
    have he := rng_none zs len hf
    rw [he]
    go_enter Try.func25, Try.ntmps25
    go_wp2_with fail
    have hq := spec_l02Is w.heap.size x y a len cap (w.alloc (.cells #[.int .i64 x, .int .i64 y, .slice a len cap] 27)) (by go_simp) (by go_simp) (by go_simp)
    rw [hvb] at hq
    refine hq.mono ?_
    clear hq hvb
    rintro e w1 hq
    obtain ⟨rfl, b1⟩ := RetB.below hq
    clear hq
    have k0 : w1.cell? ⟨w.heap.size, 0, none⟩ = some (.int .i64 x) := (b1.cell (p := ⟨w.heap.size, 0, none⟩) (by simp)).trans (by go_simp)
    have k1 : w1.cell? ⟨w.heap.size, 1, none⟩ = some (.int .i64 y) := (b1.cell (p := ⟨w.heap.size, 1, none⟩) (by simp)).trans (by go_simp)
    have k2 : w1.cell? ⟨w.heap.size, 2, none⟩ = some (.slice a len cap) := (b1.cell (p := ⟨w.heap.size, 2, none⟩) (by simp)).trans (by go_simp)
    have BW : Below w.heap.size w w1 := (Below.alloc (Below.refl _ _) (Nat.le_refl _) _).trans (b1.mono (by simp))
    have HB := Lib.hid BW
    clear b1 BW
    go_wp2_with fail
    have hq := spec_l02Range w.heap.size a len cap zs w1 k2 (IsFRow.below HR.out HB.out)
    rw [he] at hq
    refine hq.mono ?_
    clear hq he hf
    rintro e w2 ⟨n, rfl, rfl⟩
    go_wp2_with fail
    go_ret3
    exact ⟨rfl, HB.out.trans ((below_drewN (Below.refl _ _) n).mono HB.out.size)⟩
  | true =>
    go_enter Try.func25, Try.ntmps25
    go_wp2_with fail
    have hq := spec_l02Is w.heap.size x y a len cap (w.alloc (.cells #[.int .i64 x, .int .i64 y, .slice a len cap] 27)) (by go_simp) (by go_simp) (by go_simp)
    rw [hvb] at hq
    refine hq.mono ?_
    clear hq hvb
    rintro e w1 hq
    obtain ⟨rfl, b1⟩ := RetB.below hq
    clear hq
    have k0 : w1.cell? ⟨w.heap.size, 0, none⟩ = some (.int .i64 x) := (b1.cell (p := ⟨w.heap.size, 0, none⟩) (by simp)).trans (by go_simp)
    have k1 : w1.cell? ⟨w.heap.size, 1, none⟩ = some (.int .i64 y) := (b1.cell (p := ⟨w.heap.size, 1, none⟩) (by simp)).trans (by go_simp)
    have k2 : w1.cell? ⟨w.heap.size, 2, none⟩ = some (.slice a len cap) := (b1.cell (p := ⟨w.heap.size, 2, none⟩) (by simp)).trans (by go_simp)
    have BW : Below w.heap.size w w1 := (Below.alloc (Below.refl _ _) (Nat.le_refl _) _).trans (b1.mono (by simp))
    have HB := Lib.hid BW
    clear b1 BW
    go_wp2_with fail
    have hq := spec_l02Range w.heap.size a len cap zs w1 k2 (IsFRow.below HR.out HB.out)
    rw [hf] at hq
    refine hq.mono ?_
    clear hq hf
    rintro e w2 ⟨n, rfl, rfl⟩
    go_wp2_with fail
    go_ret3
    exact ⟨rfl, HB.out.trans ((below_drewN (Below.refl _ _) n).mono HB.out.size)⟩

theorem impl_RangeOf_true (x y : Int) (a : Option Addr) (len cap : Nat) (zs : List Nat) (w : World) (h : IsFRow w a len cap zs) (hvb : validB x y len = true) : Calls Try.prog 26 #[.agg #[.int .i64 x, .int .i64 y, .slice a len cap]] w (RetR (rng zs len).1 (rng zs len).2.1 (rng zs len).2.2 w) := by
  have HR := Lib.hid h
  clear h
  go_enter Try.func26, Try.ntmps26
  go_wp2_with fail
  have hq := impl_ValidPicture x y a len cap (w.alloc (.cells #[.int .i64 x, .int .i64 y, .slice a len cap] 27))
  rw [hvb] at hq
  refine hq.mono ?_
  clear hq hvb
  rintro e w1 ⟨rfl, b1⟩
  have k0 : w1.cell? ⟨w.heap.size, 0, none⟩ = some (.int .i64 x) := (b1.cell (p := ⟨w.heap.size, 0, none⟩) (by simp)).trans (by go_simp)
  have k1 : w1.cell? ⟨w.heap.size, 1, none⟩ = some (.int .i64 y) := (b1.cell (p := ⟨w.heap.size, 1, none⟩) (by simp)).trans (by go_simp)
  have k2 : w1.cell? ⟨w.heap.size, 2, none⟩ = some (.slice a len cap) := (b1.cell (p := ⟨w.heap.size, 2, none⟩) (by simp)).trans (by go_simp)
  have BW : Below w.heap.size w w1 := (Below.alloc (Below.refl _ _) (Nat.le_refl _) _).trans (b1.mono (by simp))
  have HB := Lib.hid BW
  clear b1 BW
  go_wp2_with fail
  refine (impl_rangeOf a len cap zs w1 (IsFRow.below HR.out HB.out)).mono ?_
  rintro e w2 ⟨n, rfl, rfl⟩
  go_wp2_with fail
  go_ret3
  exact ⟨rfl, HB.out.trans ((below_drewN (Below.refl _ _) n).mono HB.out.size)⟩

theorem spec_RangeOf_false (x y : Int) (a : Option Addr) (len cap : Nat) (zs : List Nat) (w : World) (h : IsFRow w a len cap zs) (hvb : validB x y len = false) : Calls Try.prog 25 #[.agg #[.int .i64 x, .int .i64 y, .slice a len cap]] w (RetR 0 0 false w) := by
  have HR := Lib.hid h
  clear h
  go_enter Try.func25, Try.ntmps25
  go_wp2_with fail
  have hq := spec_l02Is w.heap.size x y a len cap (w.alloc (.cells #[.int .i64 x, .int .i64 y, .slice a len cap] 27)) (by go_simp) (by go_simp) (by go_simp)
  rw [hvb] at hq
  refine hq.mono ?_
  clear hq hvb
  rintro e w1 hq
  obtain ⟨rfl, b1⟩ := RetB.below hq
  clear hq
  have k0 : w1.cell? ⟨w.heap.size, 0, none⟩ = some (.int .i64 x) := (b1.cell (p := ⟨w.heap.size, 0, none⟩) (by simp)).trans (by go_simp)
  have k1 : w1.cell? ⟨w.heap.size, 1, none⟩ = some (.int .i64 y) := (b1.cell (p := ⟨w.heap.size, 1, none⟩) (by simp)).trans (by go_simp)
  have k2 : w1.cell? ⟨w.heap.size, 2, none⟩ = some (.slice a len cap) := (b1.cell (p := ⟨w.heap.size, 2, none⟩) (by simp)).trans (by go_simp)
  have BW : Below w.heap.size w w1 := (Below.alloc (Below.refl _ _) (Nat.le_refl _) _).trans (b1.mono (by simp))
  have HB := Lib.hid BW
  clear b1 BW
  go_wp2_with fail
  go_ret3
  exact ⟨rfl, HB.out⟩

theorem impl_RangeOf_false (x y : Int) (a : Option Addr) (len cap : Nat) (zs : List Nat) (w : World) (h : IsFRow w a len cap zs) (hvb : validB x y len = false) : Calls Try.prog 26 #[.agg #[.int .i64 x, .int .i64 y, .slice a len cap]] w (RetR 0 0 false w) := by
  have HR := Lib.hid h
  clear h
  go_enter Try.func26, Try.ntmps26
  go_wp2_with fail
  have hq := impl_ValidPicture x y a len cap (w.alloc (.cells #[.int .i64 x, .int .i64 y, .slice a len cap] 27))
  rw [hvb] at hq
  refine hq.mono ?_
  clear hq hvb
  rintro e w1 ⟨rfl, b1⟩
  have k0 : w1.cell? ⟨w.heap.size, 0, none⟩ = some (.int .i64 x) := (b1.cell (p := ⟨w.heap.size, 0, none⟩) (by simp)).trans (by go_simp)
  have k1 : w1.cell? ⟨w.heap.size, 1, none⟩ = some (.int .i64 y) := (b1.cell (p := ⟨w.heap.size, 1, none⟩) (by simp)).trans (by go_simp)
  have k2 : w1.cell? ⟨w.heap.size, 2, none⟩ = some (.slice a len cap) := (b1.cell (p := ⟨w.heap.size, 2, none⟩) (by simp)).trans (by go_simp)
  have BW : Below w.heap.size w w1 := (Below.alloc (Below.refl _ _) (Nat.le_refl _) _).trans (b1.mono (by simp))
  have HB := Lib.hid BW
  clear b1 BW
  go_wp2_with fail
  go_ret3
  exact ⟨rfl, HB.out⟩

theorem RangeOf_pair (x y : Int) (len : Nat) (zs : List Nat) : ∃ (l h : Nat) (ok : Bool),
  (∀ W b cp, IsFRow W b len cp zs → Calls Try.prog 25 #[.agg #[.int .i64 x, .int .i64 y, .slice b len cp]] W (RetR l h ok W)) ∧
  (∀ W b cp, IsFRow W b len cp zs → Calls Try.prog 26 #[.agg #[.int .i64 x, .int .i64 y, .slice b len cp]] W (RetR l h ok W)) := by
  cases hvb : validB x y len with
  | false => exact ⟨0, 0, false, fun W b cp h => spec_RangeOf_false x y b len cp zs W h hvb, fun W b cp h => impl_RangeOf_false x y b len cp zs W h hvb⟩
  | true => exact ⟨_, _, _, fun W b cp h => spec_RangeOf_true x y b len cp zs W h hvb, fun W b cp h => impl_RangeOf_true x y b len cp zs W h hvb⟩
attribute [local irreducible] Oper.wp in
theorem FnExactRangeOf_walk (x y : Int) (a : Option Addr) (len cap : Nat) (zs : List Nat)  (w : World) (h : PicOk w x y a len cap zs)  :
    Calls Try.prog 7 #[.agg #[.int .i64 x, .int .i64 y, .slice a len cap]] w fun e w' => e = .returned (.bool true) ∧ Below w.heap.size w w' := by
  obtain ⟨hx, hy, hrow⟩ := h
  obtain ⟨l', h', ok, hs, hi⟩ := RangeOf_pair x y len zs
  clear hx hy
  have hcl : len ≤ 9223372036854775807 := by have h1 := hrow.2.1; have h2 := hrow.2.2.1; unfold maxLen at h2; omega
  have H := Lib.hid hrow
  have HS := Lib.hid hs
  have HI := Lib.hid hi
  clear hrow hs hi
  by_cases hl : (len : Int) ≤ 1048576
  case neg =>
    go_enter Try.func7, Try.ntmps7
    go_wp2_with fail
    refine (szPicture_no x y a len cap 1048576 _ hcl (by omega) (by omega)).mono ?_
    rintro e w1 ⟨rfl, hb⟩
    go_wp2_with fail
    go_ret
    exact ⟨rfl, (by repeat (first | exact Below.refl _ _ | refine Below.setCell ?_ (by first | (simp; done) | (simp; omega)) _ | refine Below.trans ?_ (Below.mono (by assumption) (by first | (simp; done) | (simp; omega))) | refine Below.alloc ?_ (by first | (simp; done) | (simp; omega)) _ | refine Below.alloc ?_ (Nat.le_refl _) _ | refine below_drewN ?_ _))⟩
  have hl' : len ≤ 1048576 := by omega
  go_enter Try.func7, Try.ntmps7
  go_wp2_with fail
  refine (szPicture_ok x y a len cap 1048576 _ hl (by omega)).mono ?_
  rintro e w1 ⟨rfl, b1⟩
  have t1 : w.heap.size + 1 ≤ w1.heap.size := by have := b1.size; simp at this; omega
  have EE : RowKit.Hid (Below w.heap.size w w1) := Lib.hid ((by repeat (first | exact Below.refl _ _ | refine Below.setCell ?_ (by first | (simp; done) | (simp; omega)) _ | refine Below.trans ?_ (Below.mono (by assumption) (by first | (simp; done) | (simp; omega))) | refine Below.alloc ?_ (by first | (simp; done) | (simp; omega)) _ | refine Below.alloc ?_ (Nat.le_refl _) _ | refine below_drewN ?_ _)))
  have K0 : RowKit.Hid (At3 w1 w.heap.size (.int .i64 x) (.int .i64 y) (.slice a len cap)) := Lib.hid ⟨(b1.cell (p := ⟨w.heap.size, 0, none⟩) (by simp)).trans (by go_simp), (b1.cell (p := ⟨w.heap.size, 1, none⟩) (by simp)).trans (by go_simp), (b1.cell (p := ⟨w.heap.size, 2, none⟩) (by simp)).trans (by go_simp)⟩
  clear b1
  obtain ⟨c00, c01, c02⟩ := K0.out
  go_wp2_with fail
  clear c00 c01 c02
  refine (toPicture_own x y a len cap zs _ (IsFRow.below H.out EE.out) hl').mono ?_
  rintro e w2 ⟨g2, rfl, r2, b2⟩
  have R2 := Lib.hid r2
  clear r2
  have t2 : w1.heap.size ≤ w2.heap.size := b2.size
  have BB : Below w1.heap.size w1 w2 := (by repeat (first | exact Below.refl _ _ | refine Below.setCell ?_ (by first | (simp; done) | (simp; omega)) _ | refine Below.trans ?_ (Below.mono (by assumption) (by first | (simp; done) | (simp; omega))) | refine Below.alloc ?_ (by first | (simp; done) | (simp; omega)) _ | refine Below.alloc ?_ (Nat.le_refl _) _ | refine below_drewN ?_ _))
  replace EE := Lib.hid (EE.out.trans (BB.mono (by omega)))
  replace K0 := Lib.hid (At3.below K0.out BB (by omega))
  clear BB b2
  go_wp2_with fail
  refine (HS.out _ _ _ R2.out.row).mono ?_
  rintro e w3 ⟨rfl, b3⟩
  clear R2
  have t3 : w2.heap.size ≤ w3.heap.size := b3.size
  have BB : Below w2.heap.size w2 w3 := (by repeat (first | exact Below.refl _ _ | refine Below.setCell ?_ (by first | (simp; done) | (simp; omega)) _ | refine Below.trans ?_ (Below.mono (by assumption) (by first | (simp; done) | (simp; omega))) | refine Below.alloc ?_ (by first | (simp; done) | (simp; omega)) _ | refine Below.alloc ?_ (Nat.le_refl _) _ | refine below_drewN ?_ _))
  replace EE := Lib.hid (EE.out.trans (BB.mono (by omega)))
  replace K0 := Lib.hid (At3.below K0.out BB (by omega))
  clear BB b3
  obtain ⟨c00, c01, c02⟩ := K0.out
  go_wp2_with fail
  clear c00 c01 c02
  refine (toPicture_own x y a len cap zs _ (IsFRow.below H.out EE.out) hl').mono ?_
  rintro e w4 ⟨g4, rfl, r4, b4⟩
  have R4 := Lib.hid r4
  clear r4
  have t4 : w3.heap.size ≤ w4.heap.size := b4.size
  have BB : Below w3.heap.size w3 w4 := (by repeat (first | exact Below.refl _ _ | refine Below.setCell ?_ (by first | (simp; done) | (simp; omega)) _ | refine Below.trans ?_ (Below.mono (by assumption) (by first | (simp; done) | (simp; omega))) | refine Below.alloc ?_ (by first | (simp; done) | (simp; omega)) _ | refine Below.alloc ?_ (Nat.le_refl _) _ | refine below_drewN ?_ _))
  replace EE := Lib.hid (EE.out.trans (BB.mono (by omega)))
  replace K0 := Lib.hid (At3.below K0.out BB (by omega))
  clear BB b4
  go_wp2_with fail
  refine (HI.out _ _ _ (R4.out.below (by repeat (first | exact Below.refl _ _ | refine Below.setCell ?_ (by first | (simp; done) | (simp; omega)) _ | refine Below.trans ?_ (Below.mono (by assumption) (by first | (simp; done) | (simp; omega))) | refine Below.alloc ?_ (by first | (simp; done) | (simp; omega)) _ | refine Below.alloc ?_ (Nat.le_refl _) _ | refine below_drewN ?_ _))).row).mono ?_
  rintro e w6 ⟨rfl, b6⟩
  have t6 : w4.heap.size + 1 ≤ w6.heap.size := by have := b6.size; simp at this; omega
  have BB : Below w4.heap.size w4 w6 := (by repeat (first | exact Below.refl _ _ | refine Below.setCell ?_ (by first | (simp; done) | (simp; omega)) _ | refine Below.trans ?_ (Below.mono (by assumption) (by first | (simp; done) | (simp; omega))) | refine Below.alloc ?_ (by first | (simp; done) | (simp; omega)) _ | refine Below.alloc ?_ (Nat.le_refl _) _ | refine below_drewN ?_ _))
  replace EE := Lib.hid (EE.out.trans (BB.mono (by omega)))
  replace K0 := Lib.hid (At3.below K0.out BB (by omega))
  replace R4 := Lib.hid (R4.out.below BB)
  have K10 : RowKit.Hid (At3 w6 w4.heap.size (.int .i64 x) (.int .i64 y) (.slice (some ⟨g4, 0, none⟩) len len)) := Lib.hid ⟨(b6.cell (p := ⟨w4.heap.size, 0, none⟩) (by simp)).trans (by go_simp), (b6.cell (p := ⟨w4.heap.size, 1, none⟩) (by simp)).trans (by go_simp), (b6.cell (p := ⟨w4.heap.size, 2, none⟩) (by simp)).trans (by go_simp)⟩
  clear BB b6
  go_wp2_with (first | ((fail_if_success (have := f1)); refine wpList_widen _ _ _ rfl rfl _ rfl (by rw [Try.underlying31]; rfl) Try.underlying43 ?_; intro s1 m1 f1; have fe1 := f1.ab) | ((fail_if_success (have := f2)); refine wpList_widen _ _ _ rfl rfl _ rfl (by rw [Try.underlying31]; rfl) Try.underlying43 ?_; intro s2 m2 f2; have fe2 := f2.ab) | ((fail_if_success (have := f3)); refine wpList_widen _ _ _ rfl rfl _ rfl (by rw [Try.underlying31]; rfl) Try.underlying43 ?_; intro s3 m3 f3; have fe3 := f3.ab) | ((fail_if_success (have := f4)); refine wpList_widen _ _ _ rfl rfl _ rfl (by rw [Try.underlying31]; rfl) Try.underlying43 ?_; intro s4 m4 f4; have fe4 := f4.ab) | (go_at_call 27; refine (sameFloat _ _ _ ?_).mono ?_; (simp only [*]); rintro e w' ⟨n, rfl, rfl⟩))
  refine wp_region_all (by kernel_rfl) (by kernel_rfl) 5 (by kernel_rfl) (fun _ v => ⟨#[Value.agg #[Value.int IntKind.i64 x, Value.int IntKind.i64 y, Value.slice a len cap], Value.pointer (some ⟨w.heap.size, 0, none⟩), Value.bool false, Value.int IntKind.i64 (1048576 - (len : Int)), Value.float FloatKind.f32 l', Value.float FloatKind.f32 h', Value.bool ok, Value.pointer (some ⟨w4.heap.size, 0, none⟩), Value.float FloatKind.f32 l', Value.float FloatKind.f32 h', Value.bool ok, Value.agg #[Value.int IntKind.i64 x, Value.int IntKind.i64 y, Value.slice a len cap], Value.int IntKind.i64 1048576, Value.int IntKind.i64 (1048576 - (len : Int)), Value.int IntKind.i64 (1048576 - (len : Int)), Value.bool (decide (1048576 - (len : Int) < 0)), Value.tuple #[Value.float FloatKind.f32 l', Value.float FloatKind.f32 h', Value.bool ok], Value.agg #[Value.int IntKind.i64 x, Value.int IntKind.i64 y, Value.slice a len cap], Value.agg #[Value.int IntKind.i64 x, Value.int IntKind.i64 y, Value.slice (some ⟨g2, 0, none⟩) len len], Value.tuple #[Value.float FloatKind.f32 l', Value.float FloatKind.f32 h', Value.bool ok], Value.float FloatKind.f32 l', Value.float FloatKind.f32 h', Value.bool ok, Value.agg #[Value.int IntKind.i64 x, Value.int IntKind.i64 y, Value.slice a len cap], Value.agg #[Value.int IntKind.i64 x, Value.int IntKind.i64 y, Value.slice (some ⟨g4, 0, none⟩) len len], Value.tuple #[Value.float FloatKind.f32 l', Value.float FloatKind.f32 h', Value.bool ok], Value.agg #[Value.int IntKind.i64 x, Value.int IntKind.i64 y, Value.slice (some ⟨g4, 0, none⟩) len len], Value.tuple #[Value.float FloatKind.f32 l', Value.float FloatKind.f32 h', Value.bool ok], Value.float FloatKind.f32 l', Value.float FloatKind.f32 h', Value.bool ok, Value.float FloatKind.f32 l', Value.float FloatKind.f64 s1, Value.float FloatKind.f32 l', Value.float FloatKind.f64 s2, Value.bool true, Value.bool false, Value.bool false, Value.float FloatKind.f32 h', Value.float FloatKind.f64 s3, Value.float FloatKind.f32 h', Value.float FloatKind.f64 s4, Value.bool true, Value.bool false, Value.bool false, Value.bool false, Value.bool ok, Value.bool ok, Value.bool false, Value.bool false, v 0, v 1, v 2, v 3, v 4], []⟩)
    (fun W => Below w6.heap.size w6 W)
    (fun j W s => match j with | 0 => s = .agg #[.int .i64 x, .int .i64 y, .slice (some ⟨g4, 0, none⟩) len len] | 1 => s = .agg #[.int .i64 x, .int .i64 y, .slice a len cap] | 2 => ∃ g, s = .agg #[.int .i64 x, .int .i64 y, .slice (some ⟨g, 0, none⟩) len len] ∧ IsFRow W (some ⟨g, 0, none⟩) len len zs | 3 => s = .bool true | 4 => s = .bool false | _ => True) ?_ ?_ (below_drewN (Below.refl _ _) _).drew ?_ ?_
  · intro j W W' v hb
    rcases j with _ | _ | _ | _ | _ | j
    · exact id
    · exact id
    · rintro ⟨g, e, f⟩
      exact ⟨g, e, IsFRow.below f hb⟩
    · exact id
    · exact id
    · exact id
  · exact ⟨fun _ => undef, rfl⟩
  · intro i o ho hlt vals W hG hd
    rcases i with _ | _ | _ | _ | _ | i
    · refine wpOp_run ho (by cases Option.some.inj ho; rfl) ?_
      cases Option.some.inj ho
      obtain ⟨c0, c1, c2⟩ := At3.below K10.out hG (by omega)
      go_simp
      exact ⟨_, rfl, Below.refl _ _, hG, rfl⟩
    · refine wpOp_run ho (by cases Option.some.inj ho; rfl) ?_
      cases Option.some.inj ho
      obtain ⟨c0, c1, c2⟩ := At3.below K0.out hG (by omega)
      go_simp
      exact ⟨_, rfl, Below.refl _ _, hG, rfl⟩
    · refine wpOp_run ho (by cases Option.some.inj ho; rfl) ?_
      cases Option.some.inj ho
      have hc := toPicture x y a len cap zs W (IsFRow.below H.out (EE.out.trans (hG.mono EE.out.size))) hl'
      rw [← (show vals 1 = .agg #[.int .i64 x, .int .i64 y, .slice a len cap] from hd ⟨1, .data⟩ (by simp) rfl)] at hc
      go_simp
      refine hc.mono ?_
      rintro e w' ⟨g, rfl, f, hb⟩
      exact ⟨_, rfl, hb, hG.trans (hb.mono hG.size), g, rfl, f⟩
    · refine wpOp_run ho (by cases Option.some.inj ho; rfl) ?_
      cases Option.some.inj ho
      obtain ⟨g, e2, f⟩ := (show ∃ g, vals 2 = .agg #[.int .i64 x, .int .i64 y, .slice (some ⟨g, 0, none⟩) len len] ∧ IsFRow W (some ⟨g, 0, none⟩) len len zs from hd ⟨2, .data⟩ (by simp) rfl)
      have hc := eqPicture x y _ _ len len len zs W (R4.out.below hG).row f
      rw [← e2, ← (show vals 0 = .agg #[.int .i64 x, .int .i64 y, .slice (some ⟨g4, 0, none⟩) len len] from hd ⟨0, .data⟩ (by simp) rfl)] at hc
      clear e2 f
      go_simp
      refine hc.mono ?_
      rintro e w' ⟨rfl, hb⟩
      exact ⟨_, rfl, hb, hG.trans (hb.mono hG.size), rfl⟩
    · refine wpOp_run ho (by cases Option.some.inj ho; rfl) ?_
      cases Option.some.inj ho
      have e3 : vals 3 = .bool true := hd ⟨3, .data⟩ (by simp) rfl
      go_simp
      exact ⟨.bool false, by simp [upd_at, e3], Below.refl _ _, hG, rfl⟩
    · omega
  · intro vals w7 b7 hR
    have e4 : vals 4 = .bool false := hR 4 (by omega)
    simp only [Exit.then, e4]
    clear hR
    go_wp2_with fail
    go_ret
    exact ⟨rfl, EE.out.trans (b7.mono EE.out.size)⟩
end Go.Proofs.Ytbjahmfijlkajaa
