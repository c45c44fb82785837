/- Small laws on memory, more. · What the written walks of the exact laws ask for. -/
import Derived.Test.YtccohcdgcpcbjaaDoorMem
import Derived.Test.YtccohcdgcpcbjaaDoorGr
namespace Go.Proofs.YtccohcdgcpcbjaaDoor
open Go.RowKit
section
theorem dcell {w w' : World} {p : Addr} {v : Value} (d : Drawn w w') (h : w.cell? p = some v) : w'.cell? p = some v := by obtain ⟨n, rfl⟩ := d; exact h
section
variable {P : Program} {ops : Array Oper} {rest : List Oper} {o : Oper} {a : Act} {Q : Exit → Act → World → Prop}
/-- append(s, x), one element: x's own block is number g. -/
theorem law_push {t e : TypeId} {z : Value} (hT : SliceT P t e z) (w : World) (hg : o.guard = none) (s x : Operand) (hop : o.op = .call { callee := .builtin .append, args := #[s, x], argTypes := #[t, t] })
    (B : Nat) (v : Value) (xs : List Value) (hs : a.eval s = v) (hown : Own e w B v xs) (u : Value) (g : Nat) (hx : a.eval x = .slice (some ⟨g, 0, none⟩) 1 1) (hgs : g = w.heap.size) (hu : u.oneCell' = true) (hn : xs.length < 1099511627776) (hB : B ≤ w.heap.size)
    (hK : ∀ v' w', Own e w' B v' (xs ++ [u]) → w.grownBy w' v.ownBlock → wpList P ops Q rest (a.put o.dst v') w') : wpList P ops Q (o :: rest) a (w.alloc (.cells #[u] e)) := by
  subst hgs
  exact law_append1 hT w hg s x hop B v xs hs hown u hx hu hn hB hK
end
end
section
theorem cellK {S : Nat → Prop} {w w' : World} {p : Addr} {v : Value} (hk : Kept S w w') (hc : w.cell? p = some v) (hn : ¬ S p.block) : w'.cell? p = some v :=
  (World.cell?_of_block (w := w) (hk.block p.block (World.block_lt_of_cell? _ _ hc) hn)).trans hc
theorem ownL_rd {e : TypeId} {w : World} {B n c : Nat} {a : Option Addr} {zs : List Int} (h : Own e w B (.slice a n c) (zs.map (Value.int .i64))) : Rd (Value.int .i64) w a zs := by
  obtain ⟨a', c', h1, h2, _⟩ := h.rd
  obtain ⟨rfl, _, rfl⟩ := slice_inj h1
  exact h2
theorem ownL_blocks {e : TypeId} {w : World} {B : Nat} {v : Value} {xs : List Value} (h : Own e w B v xs) : ∀ g, v.ownBlock = some g → B ≤ g ∧ g < w.heap.size := fun g hg => ⟨h.ge g hg, h.lt g hg⟩
theorem blocks_ge {v : Value} {rs : List Row} {B B' T : Nat} (h : blocksIn v rs (fun g => B ≤ g ∧ g < T)) (hB : B' ≤ B) : blocksIn v rs (fun g => B' ≤ g ∧ g < T) := h.mono fun _ hg => ⟨Nat.le_trans hB hg.1, hg.2⟩
theorem blocksL_ge {v : Value} {B B' T : Nat} (h : ∀ g, v.ownBlock = some g → B ≤ g ∧ g < T) (hB : B' ≤ B) : ∀ g, v.ownBlock = some g → B' ≤ g ∧ g < T := fun g hg => ⟨Nat.le_trans hB (h g hg).1, (h g hg).2⟩
def SmallZ (z : List (List Int)) : Prop := z.length ≤ 1048576 ∧ ∀ r ∈ z, r.length ≤ 1048576
theorem small_of {rs : List Row} {z : List (List Int)} (h : nums rs = z) (hs : SmallZ z) : Small rs := by
  subst h
  refine ⟨by have := hs.1; simpa [nums] using this, fun r hr => hs.2 r.z (List.mem_map_of_mem hr)⟩
theorem small_len {rs : List Row} (h : Small rs) : rs.length ≤ 1099511627776 := Nat.le_trans h.1 (by decide)
theorem total_le (rs : List Row) (m : Nat) (h : ∀ r ∈ rs, r.z.length ≤ m) : total rs ≤ rs.length * m := by
  induction rs with
  | nil => simp [total]
  | cons r rs ih =>
    have h1 := h r (by simp)
    have h2 := ih (fun q hq => h q (by simp [hq]))
    simp only [total, List.length_cons, Nat.add_mul]
    omega
theorem small_total {rs : List Row} (h : Small rs) : total rs ≤ 1099511627776 := by
  have h1 := total_le rs 1048576 h.2
  have h2 := Nat.mul_le_mul_right 1048576 h.1
  omega
theorem held1_n (a : Option Addr) (n c : Nat) (k : Int) (w : World) (hr : Rd (Value.int .i64) w a (upFrom k n)) (hn : n ≤ 1099511627776) (h0 : 0 ≤ k) (h1 : k ≤ 4398046511104) :
    Calls Tryd.prog 15 #[.slice a n c, .int .i64 k] w fun e w' => e = .returned (.int .i64 (k + n)) ∧ w = w' := by
  have := held1_any a (upFrom k n) n c k w rfl hr hn h0 h1
  rwa [upFrom_length] at this
end
end Go.Proofs.YtccohcdgcpcbjaaDoor
