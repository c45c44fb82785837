/- One element appended inside a region that draws. -/
import Derived.Test.YtccohcdgcpcbjaaDoorMem3
import Derived.Deep.RegionHeld3
namespace Go.Proofs.YtccohcdgcpcbjaaDoor
open Go.RowKit
variable {P : Program}
theorem step_push {ops : Array Oper} {o : Oper} {a : Act} {K : Act → World → Prop} {Q : Exit → Act → World → Prop} {E : Prop}
    {t e : TypeId} {z : Value} (hT : SliceT P t e z) (W : World) (hg : o.guard = none) (s x : Operand) (hop : o.op = .call { callee := .builtin .append, args := #[s, x], argTypes := #[t, t] })
    (B : Nat) (v : Value) (xs : List Value) (hs : a.eval s = v) (hown : Own e W B v xs) (u : Value) (g : Nat) (hx : a.eval x = .slice (some ⟨g, 0, none⟩) 1 1) (hgs : g = W.heap.size) (hu : u.oneCell' = true) (hn : xs.length < 1099511627776) (hB : B ≤ W.heap.size)
    (hK : ∀ v' w', Own e w' B v' (xs ++ [u]) → W.grownBy w' v.ownBlock → K (a.put o.dst v') w') :
    if Region.wanted o (yielded ops a.tmps) = true then Oper.wp P o a (W.alloc (.cells #[u] e)) K Q else E := by
  have hw : Region.wanted o (yielded ops a.tmps) = true := by simp [Region.wanted, hg]
  rw [if_pos hw]
  subst hgs
  obtain ⟨ht, bytes, hby, hi0, hz⟩ := hT
  obtain ⟨i, hi, hz0, hz1, hz2⟩ := info_parts hi0
  refine wp_append_own (W.alloc (.cells #[u] e)) s x t hop B e i z 1 bytes ht hi hz0 hz1 hz2 (by rw [hz]; rfl) (by decide) v xs.length xs hs (World.ownsRow.alloc hown _) ⟨W.heap.size, 0, none⟩ 1 1 [u] hx (by simp) (fun j y hj => ?_) (fun y hy => ?_) (by unfold maxLen; omega) ?_ (by simp; omega) fun v' w' h1 h2 _ => hK v' w' (by simpa [Own] using h1) ?_
  · have hj0 : j = 0 := by
      rcases Nat.eq_zero_or_pos j with h | h
      · exact h
      · rw [List.getElem?_eq_none (by simp; omega)] at hj; cases hj
    subst hj0
    have : u = y := by simpa using hj
    subst this
    simp [Addr.add]
  · simp at hy; subst hy; exact hu
  · exact Nat.le_trans (Nat.mul_le_mul_left _ hby) (by omega)
  · exact ⟨h2.os, h2.tape, h2.output, Nat.le_trans (by simp) h2.size, fun k hk hne => (h2.block k (by simp; omega) hne).trans (Below.heap_alloc W _ k hk)⟩
end Go.Proofs.YtccohcdgcpcbjaaDoor
