/-
  Rows of pictures: what lies in them, the marks that a law leaves there, their comparison.
-/
import Derived.Test.YtohpklakhkfebaaImpl
namespace Go.Proofs.Ytohpklakhkfebaa
open Go.RowKit Go.FL
/-- a picture's data: its sizes, its row's block, length, capacity and numbers -/
structure PD where
  W : Nat
  H : Nat
  g : Nat
  len : Nat
  cap : Nat
  zs : List Nat

/-- a row of pictures in block b; all of it lies from lo to hi, and no two parts share a block -/
structure PRow (w : World) (lo hi b n cap : Nat) (ds : List PD) : Prop where
  len : ds.length = n ∧ n ≤ cap ∧ cap ≤ maxLen
  out : lo ≤ b ∧ b < hi ∧ b < w.heap.size ∧ ∀ i, w.frozen? ⟨b, i, none⟩ = false
  cell : ∀ (i : Nat) (d : PD), ds[i]? = some d → w.cell? ⟨b, i * 3, none⟩ = some (.int .i64 d.W) ∧ w.cell? ⟨b, i * 3 + 1, none⟩ = some (.int .i64 d.H) ∧ w.cell? ⟨b, i * 3 + 2, none⟩ = some (.slice (some ⟨d.g, 0, none⟩) d.len d.cap)
  inn : ∀ (i : Nat) (d : PD), ds[i]? = some d → lo ≤ d.g ∧ d.g < hi ∧ d.len ≤ 576 ∧ d.g ≠ b ∧ ORow w d.g (d.g + 1) (some ⟨d.g, 0, none⟩) d.len d.cap d.zs
  nod : ∀ (i j : Nat) (d e : PD), ds[i]? = some d → ds[j]? = some e → i ≠ j → d.g ≠ e.g

theorem ORow.block {w w' : World} {g len cap : Nat} {zs : List Nat} (h : ORow w g (g + 1) (some ⟨g, 0, none⟩) len cap zs) (hb : w'.heap[g]? = w.heap[g]?) (hs : w.heap.size ≤ w'.heap.size) : ORow w' g (g + 1) (some ⟨g, 0, none⟩) len cap zs := by
  obtain ⟨⟨h1, h2, h3, h4, h5⟩, hown⟩ := h
  obtain ⟨b, e, k1, k2, k3, k4⟩ := hown.resolve_left (by simp)
  simp only [Option.some.injEq, Addr.mk.injEq, and_true] at e
  obtain ⟨rfl⟩ := e
  refine ⟨⟨h1, h2, h3, h4, ?_⟩, .inr ⟨g, rfl, k1, k2, Nat.lt_of_lt_of_le k3 hs, fun i => (World.frozen?_of_block (a := ⟨g, i, none⟩) hb).trans (k4 i)⟩⟩
  rcases h5 with h5 | ⟨b', off, e, hbl, hc⟩
  · exact .inl h5
  · simp only [Option.some.injEq, Addr.mk.injEq, and_true] at e
    obtain ⟨rfl, rfl⟩ := e
    exact .inr ⟨g, 0, rfl, Nat.lt_of_lt_of_le hbl hs, fun i hi => (World.cell?_of_block (a := ⟨g, 0 + i, none⟩) hb).trans (hc i hi)⟩
theorem PRow.only {w w' : World} {l h lo hi b n cap : Nat} {ds : List PD} (hr : PRow w lo hi b n cap ds) (ho : Only l h w w') (hd : hi ≤ l ∨ h ≤ lo) : PRow w' lo hi b n cap ds := by
  obtain ⟨o1, o2, o3, o4⟩ := hr.out
  have hb : w'.heap[b]? = w.heap[b]? := ho.block b o3 (by omega)
  refine ⟨hr.len, ⟨o1, o2, Nat.lt_of_lt_of_le o3 ho.size, fun i => (World.frozen?_of_block (a := ⟨b, i, none⟩) hb).trans (o4 i)⟩, fun i d hi => ?_, fun i d hi => ?_, hr.nod⟩
  · obtain ⟨c0, c1, c2⟩ := hr.cell i d hi
    exact ⟨(World.cell?_of_block (a := ⟨b, i * 3, none⟩) hb).trans c0, (World.cell?_of_block (a := ⟨b, i * 3 + 1, none⟩) hb).trans c1, (World.cell?_of_block (a := ⟨b, i * 3 + 2, none⟩) hb).trans c2⟩
  · obtain ⟨k1, k2, k3, k4, k5⟩ := hr.inn i d hi
    exact ⟨k1, k2, k3, k4, k5.only ho (by omega)⟩
theorem PRow.below {w w' : World} {lo hi b n cap : Nat} {ds : List PD} (hr : PRow w lo hi b n cap ds) (ho : Below w.heap.size w w') : PRow w' lo hi b n cap ds :=
  hr.only (Only.of (lo := hi) (hi := hi) ho) (.inl (Nat.le_refl _))
theorem PRow.mono {w : World} {lo hi lo' hi' b n cap : Nat} {ds : List PD} (h : PRow w lo hi b n cap ds) (h1 : lo' ≤ lo) (h2 : hi ≤ hi') : PRow w lo' hi' b n cap ds := by
  obtain ⟨o1, o2, o3, o4⟩ := h.out
  refine ⟨h.len, ⟨by omega, by omega, o3, o4⟩, h.cell, fun i d hi => ?_, h.nod⟩
  obtain ⟨k1, k2, k3, k4, k5⟩ := h.inn i d hi
  exact ⟨by omega, by omega, k3, k4, k5⟩
theorem PRow.upd {w w' : World} {lo hi b n cap i : Nat} {ds : List PD} {d d' : PD} (h : PRow w lo hi b n cap ds) (hd : ds[i]? = some d) (e1 : d'.g = d.g) (e2 : d'.len = d.len) (e3 : d'.cap = d.cap)
    (hsz : w.heap.size ≤ w'.heap.size) (hfr : ∀ j, w'.frozen? ⟨b, j, none⟩ = false)
    (c0 : w'.cell? ⟨b, i * 3, none⟩ = some (.int .i64 d'.W)) (c1 : w'.cell? ⟨b, i * 3 + 1, none⟩ = some (.int .i64 d'.H))
    (cx : ∀ j, j ≠ i * 3 → j ≠ i * 3 + 1 → w'.cell? ⟨b, j, none⟩ = w.cell? ⟨b, j, none⟩)
    (bx : ∀ c, c < w.heap.size → c ≠ b → c ≠ d.g → w'.heap[c]? = w.heap[c]?)
    (ho : ORow w' d.g (d.g + 1) (some ⟨d.g, 0, none⟩) d.len d.cap d'.zs) : PRow w' lo hi b n cap (ds.set i d') := by
  obtain ⟨o1, o2, o3, o4⟩ := h.out
  have hil : i < ds.length := (List.getElem?_eq_some_iff.1 hd).1
  have at_ : ∀ (j : Nat) (e : PD), (ds.set i d')[j]? = some e → (j = i ∧ e = d') ∨ (j ≠ i ∧ ds[j]? = some e) := by
    intro j e he
    by_cases hj : j = i
    · subst hj
      rw [List.getElem?_set_self hil] at he
      exact .inl ⟨rfl, (Option.some.inj he).symm⟩
    · rw [List.getElem?_set_ne (fun e => hj e.symm)] at he
      exact .inr ⟨hj, he⟩
  refine ⟨by simpa using h.len, ⟨o1, o2, Nat.lt_of_lt_of_le o3 hsz, hfr⟩, fun j e he => ?_, fun j e he => ?_, fun j k e f he hf hjk => ?_⟩
  · rcases at_ j e he with ⟨rfl, rfl⟩ | ⟨hj, he⟩
    · refine ⟨c0, c1, ?_⟩
      rw [cx _ (by omega) (by omega), (h.cell j d hd).2.2, e1, e2, e3]
    · obtain ⟨k0, k1, k2⟩ := h.cell j e he
      exact ⟨(cx _ (by omega) (by omega)).trans k0, (cx _ (by omega) (by omega)).trans k1, (cx _ (by omega) (by omega)).trans k2⟩
  · rcases at_ j e he with ⟨rfl, rfl⟩ | ⟨hj, he⟩
    · obtain ⟨k1, k2, k3, k4, k5⟩ := h.inn j d hd
      rw [e1, e2, e3]
      exact ⟨k1, k2, k3, k4, ho⟩
    · obtain ⟨k1, k2, k3, k4, k5⟩ := h.inn j e he
      have hne := h.nod j i e d he hd hj
      obtain ⟨b', eb, -, -, k6, -⟩ := k5.own.resolve_left (by simp)
      simp only [Option.some.injEq, Addr.mk.injEq, and_true] at eb
      obtain ⟨rfl⟩ := eb
      exact ⟨k1, k2, k3, k4, k5.block (bx _ k6 k4 hne) hsz⟩
  · have hg : ∀ (j : Nat) (e : PD), (ds.set i d')[j]? = some e → ∃ e0 : PD, ds[j]? = some e0 ∧ e0.g = e.g := by
      intro j e he
      rcases at_ j e he with ⟨rfl, rfl⟩ | ⟨hj, he⟩
      · exact ⟨d, hd, e1.symm⟩
      · exact ⟨e, he, rfl⟩
    obtain ⟨e0, he0, h1⟩ := hg j e he
    obtain ⟨f0, hf0, h2⟩ := hg k f hf
    rw [← h1, ← h2]
    exact h.nod j k e0 f0 he0 hf0 hjk
theorem Only.widen {l h lo hi : Nat} {w w' : World} (ho : Only l h w w') (h1 : lo ≤ l) (h2 : h ≤ hi) : Only lo hi w w' := ⟨ho.os, ho.tape, ho.output, ho.size, fun k hk hd => ho.block k hk (by omega)⟩

/-- a row of pictures; nil, perhaps -/
def PV (w : World) (lo hi : Nat) (ao : Option Addr) (n cap : Nat) (ds : List PD) : Prop := (ao = none ∧ n = 0 ∧ cap = 0 ∧ ds = []) ∨ ∃ b, ao = some ⟨b, 0, none⟩ ∧ PRow w lo hi b n cap ds
theorem PV.only {w w' : World} {l h lo hi n cap : Nat} {ao : Option Addr} {ds : List PD} (hr : PV w lo hi ao n cap ds) (ho : Only l h w w') (hd : hi ≤ l ∨ h ≤ lo) : PV w' lo hi ao n cap ds := by
  rcases hr with hr | ⟨b, e, hr⟩
  · exact .inl hr
  · exact .inr ⟨b, e, hr.only ho hd⟩
theorem PV.below {w w' : World} {lo hi n cap : Nat} {ao : Option Addr} {ds : List PD} (hr : PV w lo hi ao n cap ds) (ho : Below w.heap.size w w') : PV w' lo hi ao n cap ds :=
  hr.only (Only.of (lo := hi) (hi := hi) ho) (.inl (Nat.le_refl _))
theorem PV.len {w : World} {lo hi n cap : Nat} {ao : Option Addr} {ds : List PD} (hr : PV w lo hi ao n cap ds) : ds.length = n := by
  rcases hr with ⟨-, rfl, -, rfl⟩ | ⟨b, e, hr⟩
  · rfl
  · exact hr.len.1

/-- what the marks make of a picture -/
def updP (k : Nat) (d : PD) : PD := { d with W := k, H := k + 1, zs := marks ((k + 2 : Nat) : Int) d.len }
def mkP : Nat → List PD → List PD
  | _, [] => []
  | k, d :: r => updP k d :: mkP (k + 2 + d.len) r
def totP : Nat → List PD → Nat
  | k, [] => k
  | k, d :: r => totP (k + 2 + d.len) r
theorem totP_snoc (k : Nat) (a : List PD) (d : PD) : totP k (a ++ [d]) = totP k a + 2 + d.len := by
  induction a generalizing k with
  | nil => rfl
  | cons e r ih => exact ih _
theorem mkP_snoc (k : Nat) (a : List PD) (d : PD) : mkP k (a ++ [d]) = mkP k a ++ [updP (totP k a) d] := by
  induction a generalizing k with
  | nil => rfl
  | cons e r ih => rw [List.cons_append, mkP, ih]; rfl
theorem mkP_len (k : Nat) (a : List PD) : (mkP k a).length = a.length := by
  induction a generalizing k with
  | nil => rfl
  | cons e r ih => rw [mkP, List.length_cons, ih]; rfl
theorem mkP_at {ds : List PD} {i : Nat} {d : PD} (k : Nat) (h : ds[i]? = some d) : (mkP k ds)[i]? = some (updP (totP k (ds.take i)) d) := by
  induction ds generalizing i k with
  | nil => simp at h
  | cons e r ih =>
    rcases i with _ | i
    · simp at h; subst h; rfl
    · rw [mkP, List.getElem?_cons_succ]
      exact ih _ (by simpa using h)
theorem totP_le (k : Nat) (ds : List PD) (h : ∀ (i : Nat) (d : PD), ds[i]? = some d → d.len ≤ 576) (i : Nat) : k ≤ totP k (ds.take i) ∧ totP k (ds.take i) ≤ k + 578 * i := by
  induction i with
  | zero => exact ⟨Nat.le_refl _, Nat.le_refl _⟩
  | succ i ih =>
    cases hd : ds[i]? with
    | none =>
      have hl : ds.length ≤ i := by simpa using hd
      rw [List.take_of_length_le hl] at ih
      rw [List.take_of_length_le (by omega)]
      omega
    | some d =>
      have hdl := h i d hd
      have : ds.take (i + 1) = ds.take i ++ [d] := by
        obtain ⟨hi, rfl⟩ := List.getElem?_eq_some_iff.1 hd
        exact List.take_succ_eq_append_getElem hi
      rw [this, totP_snoc]
      omega
/-- the row when i pictures are marked -/
def stP (k : Nat) (ds : List PD) (i : Nat) : List PD := mkP k (ds.take i) ++ ds.drop i
theorem stP_zero (k : Nat) (ds : List PD) : stP k ds 0 = ds := by simp [stP, mkP]
theorem stP_full (k : Nat) (ds : List PD) : stP k ds ds.length = mkP k ds := by simp [stP]
theorem stP_at {ds : List PD} {i : Nat} {d : PD} (k : Nat) (h : ds[i]? = some d) : (stP k ds i)[i]? = some d := by
  have hi := (List.getElem?_eq_some_iff.1 h).1
  have hl : (mkP k (ds.take i)).length = i := by rw [mkP_len]; simp; omega
  unfold stP
  rw [List.getElem?_append_right (by omega), hl, Nat.sub_self, List.getElem?_drop]
  simpa using h
theorem stP_step {ds : List PD} {i : Nat} {d : PD} (k : Nat) (h : ds[i]? = some d) : stP k ds (i + 1) = (stP k ds i).set i (updP (totP k (ds.take i)) d) := by
  have hi := (List.getElem?_eq_some_iff.1 h).1
  have hl : (mkP k (ds.take i)).length = i := by rw [mkP_len]; simp; omega
  have ht : ds.take (i + 1) = ds.take i ++ [d] := by
    obtain ⟨hi, rfl⟩ := List.getElem?_eq_some_iff.1 h
    exact List.take_succ_eq_append_getElem hi
  have hdr : ds.drop i = d :: ds.drop (i + 1) := by
    obtain ⟨hi, rfl⟩ := List.getElem?_eq_some_iff.1 h
    exact List.drop_eq_getElem_cons hi
  unfold stP
  rw [ht, mkP_snoc, hdr, List.set_append_right _ _ (by omega), hl, Nat.sub_self, List.set_cons_zero]
  simp

theorem markPictureS (ao : Option Addr) (n cap lo hi : Nat) (ds : List PD) (k : Nat) (w : World) (h : PV w lo hi ao n cap ds) (hn : n ≤ 5) (k1 : k ≤ 1000) : Calls Try.prog 11 #[.slice ao n cap, .int .i64 k] w fun e w' =>
    e = .returned (.int .i64 (totP k ds : Nat)) ∧ PV w' lo hi ao n cap (mkP k ds) ∧ Only lo hi w w' := by
  rcases h with ⟨rfl, rfl, rfl, rfl⟩ | ⟨b, rfl, h⟩
  · go_enter Try.func11, Try.ntmps11
    go_wp2
    go_loopw [1, 5] (fun kk i wr => i = .int .i64 0 ∧ kk = .int .i64 k ∧ wr = w) (fun _ i _ => 0)
    case atStart => exact ⟨rfl, rfl, rfl⟩
    case round =>
      obtain ⟨rfl, rfl, rfl⟩ := hrel
      go_wp2
      go_ret
      exact ⟨rfl, .inl ⟨rfl, rfl, rfl, rfl⟩, Only.refl _ _ _⟩
  · have hcap : n ≤ cap := h.len.2.1
    have hcm : cap ≤ 9223372036854775807 := by have := h.len.2.2; unfold maxLen at this; omega
    have hle := totP_le k ds (fun i d hd => (h.inn i d hd).2.2.1)
    have HLE := Lib.hid hle
    have HDL := Lib.hid h.len.1
    obtain ⟨o1, o2, o3, -⟩ := h.out
    have H := Lib.hid h
    clear h hle
    go_enter Try.func11, Try.ntmps11
    go_wp2
    go_loopw [1, 5] (fun kk i wr => ∃ j : Nat, j ≤ n ∧ i = .int .i64 j ∧ kk = .int .i64 (totP k (ds.take j) : Nat) ∧ RowKit.Hid (PRow wr lo hi b n cap (stP k ds j)) ∧ RowKit.Hid (Only lo hi w wr)) (fun _ i _ => n - (intOf i).toNat)
    case atStart => exact ⟨0, by omega, rfl, rfl, Lib.hid (by rw [stP_zero]; exact H.out), Lib.hid (Only.refl _ _ _)⟩
    case round =>
      obtain ⟨j, hj, rfl, rfl, hp, ho⟩ := hrel
      by_cases hlt : j < n
      · obtain ⟨d, hd⟩ : ∃ d, ds[j]? = some d := ⟨_, List.getElem?_eq_getElem (by rw [HDL.out]; exact hlt)⟩
        have hst := stP_at k hd
        obtain ⟨-, -, p3, p4⟩ := hp.out.out
        obtain ⟨c0, c1, c2⟩ := hp.out.cell j d hst
        obtain ⟨q1, q2, q3, q4, q5⟩ := hp.out.inn j d hst
        have hT := HLE.out j
        have HTS : RowKit.Hid (totP k (ds.take (j + 1)) = totP k (ds.take j) + 2 + d.len) := Lib.hid (by
          obtain ⟨hi, rfl⟩ := List.getElem?_eq_some_iff.1 hd
          rw [List.take_succ_eq_append_getElem hi, totP_snoc])
        have HSS := Lib.hid (stP_step k hd)
        have HST := Lib.hid hst
        generalize totP k (ds.take j) = T at hT HTS HSS
        have f0 := p4 (j * 3)
        have f1 := p4 (j * 3 + 1)
        have P4 := Lib.hid p4
        have Q5 := Lib.hid q5
        clear hd hst p4 q5
        go_wp2_with fail
        refine (markFloat32S (some ⟨d.g, 0, none⟩) d.len d.cap d.g (d.g + 1) d.zs ((T : Int) + 1 + 1) _ ((Q5.out.block ?_ (by simp [World.setCell]))) (by omega) (by omega) (by omega)).mono ?_
        · rw [Below.heap_setCell _ _ _ _ (by exact q4), Below.heap_setCell _ _ _ _ (by exact q4)]
        rintro e w2 ⟨rfl, r2, o2'⟩
        have hsz : wr.heap.size ≤ w2.heap.size := by have := o2'.size; simpa [World.setCell] using this
        have R2 := Lib.hid r2
        have O2 := Lib.hid o2'
        clear r2 o2'
        go_wp2_with fail
        go_roundw
        case rel =>
          refine ⟨j + 1, by omega, by go_num, by rw [HTS.out]; simp only [Value.int.injEq, true_and]; push_cast; omega, Lib.hid ?_, Lib.hid ?_⟩
          · have hbb : w2.heap[b]? = ((wr.setCell ⟨b, j * 3, none⟩ (.int .i64 T)).setCell ⟨b, j * 3 + 1, none⟩ (.int .i64 (T + 1))).heap[b]? := O2.out.block b (by simp [World.setCell]; omega) (by omega)
            have hcb : ∀ i, w2.cell? ⟨b, i, none⟩ = ((wr.setCell ⟨b, j * 3, none⟩ (.int .i64 T)).setCell ⟨b, j * 3 + 1, none⟩ (.int .i64 (T + 1))).cell? ⟨b, i, none⟩ := fun i => World.cell?_of_block (a := ⟨b, i, none⟩) hbb
            have hfb : ∀ i, w2.frozen? ⟨b, i, none⟩ = false := fun i => (World.frozen?_of_block (a := ⟨b, i, none⟩) hbb).trans (by have := P4.out i; go_simp)
            rw [HSS.out]
            refine hp.out.upd HST.out rfl rfl rfl hsz hfb ?_ ?_ (fun i h1 h2 => ?_) (fun c h1 h2 h3 => ?_) ?_
            · rw [hcb]; go_simp; rfl
            · rw [hcb]; go_simp; rfl
            · rw [hcb, World.cell?_setCell_other _ _ _ _ (by intro e; injection e with _ e2; exact h2 e2.symm), World.cell?_setCell_other _ _ _ _ (by intro e; injection e with _ e2; exact h1 e2.symm)]
            · rw [O2.out.block c (by simpa [World.setCell] using h1) (by omega), Below.heap_setCell _ _ _ _ (by exact h2), Below.heap_setCell _ _ _ _ (by exact h2)]
            · exact R2.out
          · exact (Only.setCell (Only.setCell ho.out (by exact o1) (by exact o2) _) (by exact o1) (by exact o2) _).trans (O2.out.widen (by omega) (by omega))
        case measure => simp [intOf]; omega
      · obtain rfl : j = n := by omega
        have hp2 := hp.out
        have htl : ds.take j = ds := List.take_of_length_le (by rw [HDL.out]; exact Nat.le_refl _)
        have hsf : stP k ds j = mkP k ds := by rw [← HDL.out, stP_full]
        rw [hsf] at hp2
        rw [htl]
        have HP2 := Lib.hid hp2
        clear hp2 htl hsf
        go_wp2_with fail
        go_ret
        exact ⟨rfl, .inr ⟨b, rfl, HP2.out⟩, ho.out⟩

theorem heldPictureS (ao : Option Addr) (n cap lo hi : Nat) (ds : List PD) (k : Nat) (w : World) (h : PV w lo hi ao n cap (mkP k ds)) (hn : n ≤ 5) (k1 : k ≤ 1000) : Calls Try.prog 12 #[.slice ao n cap, .int .i64 k] w fun e w' =>
    e = .returned (.int .i64 (totP k ds : Nat)) ∧ Below w.heap.size w w' := by
  have hdl : ds.length = n := by rw [← h.len, mkP_len]
  rcases h with ⟨rfl, rfl, rfl, h0⟩ | ⟨b, rfl, h⟩
  · obtain rfl : ds = [] := List.length_eq_zero_iff.1 hdl
    go_enter Try.func12, Try.ntmps12
    go_wp2
    go_loopw [1, 5] (fun kk i wr => i = .int .i64 0 ∧ kk = .int .i64 k ∧ wr = w) (fun _ i _ => 0)
    case atStart => exact ⟨rfl, rfl, rfl⟩
    case round =>
      obtain ⟨rfl, rfl, rfl⟩ := hrel
      go_wp2
      go_ret
      exact ⟨rfl, Below.refl _ _⟩
  · have hcap : n ≤ cap := h.len.2.1
    have hcm : cap ≤ 9223372036854775807 := by have := h.len.2.2; unfold maxLen at this; omega
    have hle := totP_le k ds (fun i d hd => (h.inn i _ (mkP_at k hd)).2.2.1)
    have HLE := Lib.hid hle
    have HDL := Lib.hid hdl
    have H := Lib.hid h
    clear h hle hdl
    go_enter Try.func12, Try.ntmps12
    go_wp2
    go_loopw [1, 5] (fun kk i wr => ∃ j : Nat, j ≤ n ∧ i = .int .i64 j ∧ kk = .int .i64 (totP k (ds.take j) : Nat) ∧ Below w.heap.size w wr) (fun _ i _ => n - (intOf i).toNat)
    case atStart => exact ⟨0, by omega, rfl, rfl, Below.refl _ _⟩
    case round =>
      obtain ⟨j, hj, rfl, rfl, hb⟩ := hrel
      by_cases hlt : j < n
      · obtain ⟨d, hd⟩ : ∃ d, ds[j]? = some d := ⟨_, List.getElem?_eq_getElem (by rw [HDL.out]; exact hlt)⟩
        have hst := mkP_at k hd
        have hP := H.out.below hb
        obtain ⟨c0, c1, c2⟩ := hP.cell j _ hst
        obtain ⟨q1, q2, q3, q4, q5⟩ := hP.inn j _ hst
        have hT := HLE.out j
        have HTS : RowKit.Hid (totP k (ds.take (j + 1)) = totP k (ds.take j) + 2 + d.len) := Lib.hid (by
          obtain ⟨hi, rfl⟩ := List.getElem?_eq_some_iff.1 hd
          rw [List.take_succ_eq_append_getElem hi, totP_snoc])
        generalize totP k (ds.take j) = T at hT HTS c0 c1 c2 q5 hst q1 q2 q3 q4
        simp only [updP] at c0 c1 c2 q5 q3
        rw [show (((T + 1 : Nat)) : Int) = (T : Int) + 1 by push_cast; rfl] at c1
        rw [show (((T + 2 : Nat)) : Int) = (T : Int) + 1 + 1 by push_cast; omega] at q5
        have HB := Lib.hid hb
        have Q5 := Lib.hid q5
        have t0 : ((T : Int) != (T : Int)) = false := by simp
        have t1 : ((T : Int) + 1 != (T : Int) + 1) = false := by simp
        clear hd hst hb hP q5 q1 q2 q4
        go_wp2_with fail
        refine (heldFloat32S (some ⟨d.g, 0, none⟩) d.len d.cap d.g (d.g + 1) ((T : Int) + 1 + 1) _ Q5.out (by omega) (by omega) (by omega)).mono ?_
        rintro e w2 ⟨rfl, q, rfl⟩
        go_wp2_with fail
        go_roundw
        case rel => exact ⟨j + 1, by omega, by go_num, by rw [HTS.out]; simp only [Value.int.injEq, true_and]; push_cast; omega, below_drewN HB.out q⟩
        case measure => simp [intOf]; omega
      · obtain rfl : j = n := by omega
        have htl : ds.take j = ds := List.take_of_length_le (by rw [HDL.out]; exact Nat.le_refl _)
        rw [htl]
        have HB := Lib.hid hb
        clear htl hb
        go_wp2_with fail
        go_ret
        exact ⟨rfl, HB.out⟩
end Go.Proofs.Ytohpklakhkfebaa
