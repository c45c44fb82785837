/- Regions that draw, whose callees only lay blocks of their own: walked once, in the text's order. -/
import Derived.Test.YtccohcdgcpcbjaaDoorMem3
namespace Go.Proofs.YtccohcdgcpcbjaaDoor
open Go.RowKit
/-- A world that stands behind W: W's blocks are as they were. -/
structure Bel (W : World) where
  w : World
  h : Below W.heap.size W w
instance (W : World) : Inhabited (Bel W) := ⟨⟨W, Below.refl _ _⟩⟩
theorem wp_quiet_b {P : Program} {id : Nat} {Q : Exit → Act → World → Prop} {a : Act} {W : World} {l : List Oper} (hm : P.follows .mixedOrders = true) (hB : Region.lexB .any l.toArray = true)
    (h : wpQuiet P l.toArray (fun w' => ∃ p : Bel W, w' = p.w) (fun a' => ∀ w', (∃ p : Bel W, w' = p.w) → Q .normal a' w') l a) : (Code.region id l.toArray true).wp P Q a W :=
  wp_region_quiet (C := fun w' => ∃ p : Bel W, w' = p.w) hm hB ⟨⟨{ W with drawn := W.drawn + 1 }, (Below.refl _ _).drew⟩, rfl⟩ (by simpa using h)
theorem qb {P : Program} {f : FuncId} {args : Array Value} {W : World} {p : Bel W} {v : Value}
    (h : Calls P f args p.w fun e w' => e = .returned v ∧ Below p.w.heap.size p.w w') : Calls P f args p.w fun e w'' => e = .returned v ∧ ∃ p' : Bel W, w'' = p'.w :=
  h.mono fun _ w' ⟨he, hb⟩ => ⟨he, ⟨w', p.h.trans (hb.mono p.h.size)⟩, rfl⟩
theorem qbs {P : Program} {f : FuncId} {args : Array Value} {W : World} {p : Bel W} {v : Value}
    (h : Calls P f args p.w fun e w' => e = .returned v ∧ p.w = w') : Calls P f args p.w fun e w'' => e = .returned v ∧ ∃ p' : Bel W, w'' = p'.w :=
  h.mono fun _ _ ⟨he, hb⟩ => ⟨he, p, hb.symm⟩
theorem qbd {P : Program} {f : FuncId} {args : Array Value} {W : World} {p : Bel W} {v : Value}
    (h : Calls P f args p.w fun e w' => e = .returned v ∧ Drawn p.w w') : Calls P f args p.w fun e w'' => e = .returned v ∧ ∃ p' : Bel W, w'' = p'.w :=
  h.mono fun _ w' ⟨he, hb⟩ => ⟨he, ⟨w', p.h.trans (hb.below _)⟩, rfl⟩
theorem Drawn.bel {a b : World} (h : Drawn a b) : Below a.heap.size a b := h.below _
theorem Rd.bel {α : Type} {f : α → Value} {W : World} {a : Option Addr} {zs : List α} (h : Rd f W a zs) (p : Bel W) : Rd f p.w a zs := h.below p.h (Nat.le_refl _)
theorem RdM.bel {W : World} {a : Option Addr} {rs : List Row} (h : RdM W a rs) (p : Bel W) : RdM p.w a rs := h.below p.h (Nat.le_refl _)
theorem Rd.take {α : Type} {f : α → Value} {w : World} {a : Option Addr} {zs : List α} (h : Rd f w a zs) (k : Nat) : Rd f w a (zs.take k) := by
  intro i hi
  have hi' : i < zs.length := by simp at hi; omega
  obtain ⟨b, o, h1, h2⟩ := h i hi'
  exact ⟨b, o, h1, by rw [h2, List.getElem_take]⟩
theorem bon {w0 W W' : World} (h : Below w0.heap.size w0 W) (hb : Below W.heap.size W W') : Below w0.heap.size w0 W' := h.trans (hb.mono h.size)
end Go.Proofs.YtccohcdgcpcbjaaDoor
