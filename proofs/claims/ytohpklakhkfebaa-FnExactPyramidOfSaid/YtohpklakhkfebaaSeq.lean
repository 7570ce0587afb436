/-
  An append of one float in the order of the text.
-/
import Derived.Test.YtohpklakhkfebaaOwn
namespace Go.Proofs.Ytohpklakhkfebaa
open Go.RowKit Go.FL

theorem wpList_append1 {ops : Array Oper} {rest : List Oper} {o : Oper} {a : Act} {w : World} {Q : Exit → Act → World → Prop} {base n : Nat} {v : Value} {os : Nat → Option Nat} {nb : Nat} {r : Nat} (hgd : o.guard = none) (s x : Operand)
    (ho : o.op = .call { callee := .builtin .append, args := #[s, x], argTypes := #[22, 22] })
    (hs : a.eval s = v) (hx : a.eval x = .slice (some ⟨nb, 0, none⟩) 1 1) (h : OwnF w base v n os) (hbase : base ≤ w.heap.size) (hn : n ≤ 1000)
    (hc : w.cell? ⟨nb, 0, none⟩ = some (.float .f32 r)) (hr : Is .f32 r (os n))
    (hK : ∀ v' w', OwnF w' base v' (n + 1) os → w.grownBy w' v.ownBlock → wpList Try.prog ops Q rest (a.put o.dst v') w') : wpList Try.prog ops Q (o :: rest) a w :=
  wpList_plain hgd fun _ hK' => wp_append1 s x ho hs hx h hbase hn hc hr fun v' w' h2 h3 => hK' _ _ (hK v' w' h2 h3)

theorem own_step {wr Wp w' WZ : World} {base B n : Nat} {v : Value} {os : Nat → Option Nat} {cs : Array Value} (h : OwnF wr base v n os) (BP : Below wr.heap.size wr Wp) (hg : Wp.grownBy w' v.ownBlock)
    (hbx : wr.heap[B]? = some (.cells cs 29 (0, 0))) (HB : Below base WZ wr) (hb : base ≤ WZ.heap.size) : w'.heap[B]? = some (.cells cs 29 (0, 0)) ∧ Below base WZ w' := by
  have h2 := h.below BP
  have hb2 := (BP.block _ (lt_of_block hbx)).trans hbx
  have hs := Nat.le_trans hb HB.size
  exact ⟨(hg.block _ (lt_of_block hb2) (own_ne_box h2 hb2).symm).trans hb2, HB.trans ((BP.mono hs).trans (h2.grown (Nat.le_trans hs BP.size) hg))⟩
end Go.Proofs.Ytohpklakhkfebaa
