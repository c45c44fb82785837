/- Small laws on memory, more. -/
import Derived.Test.YtalfbldkdlanoaaDoorMem
namespace Go.Proofs.YtalfbldkdlanoaaDoor
open Go.RowKit
theorem dcell {w w' : World} {p : Addr} {v : Value} (d : Drawn w w') (h : w.cell? p = some v) : w'.cell? p = some v := by obtain ⟨n, rfl⟩ := d; exact h
section
variable {P : Program} {ops : Array Oper} {rest : List Oper} {o : Oper} {a : Act} {Q : Exit → Act → World → Prop}
/-- append(s, x), one element: x's own block is number g. -/
theorem law_push {t e : TypeId} {z : Value} (hT : SliceT P t e z) (w : World) (hg : o.guard = none) (s x : Operand) (hop : o.op = .call { callee := .builtin .append, args := #[s, x], argTypes := #[t, t] })
    (B : Nat) (v : Value) (xs : List Value) (hs : a.eval s = v) (hown : Own e w B v xs) (u : Value) (g : Nat) (hx : a.eval x = .slice (some ⟨g, 0, none⟩) 1 1) (hgs : g = w.heap.size) (hu : u.oneCell' = true) (hn : xs.length < 1099511627776) (hB : B ≤ w.heap.size)
    (hK : ∀ v' w', Own e w' B v' (xs ++ [u]) → w.grownBy w' v.ownBlock → wpList P ops Q rest (a.put o.dst v') w') : wpList P ops Q (o :: rest) a (w.alloc (.cells #[u] e)) := by
  subst hgs
  exact law_append1 hT w hg s x hop B v xs hs hown u hx hu hn hB hK
end
end Go.Proofs.YtalfbldkdlanoaaDoor
