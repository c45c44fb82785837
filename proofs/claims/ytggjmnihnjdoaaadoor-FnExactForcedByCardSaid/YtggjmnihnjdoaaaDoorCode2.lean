/- CodeOf: both. · CodeOf: the program's. -/
import Derived.Test.YtggjmnihnjdoaaaDoorNets
namespace Go.Proofs.YtggjmnihnjdoaaaDoor
open Go.RowKit
section
/-- The flags of v's pairs (u, v), u below k. -/
def codeRow (g : List (List Int)) (v k : Nat) : List Int := (List.range k).map fun u : Nat => if (v : Int) ∈ row g (u : Int) then 1 else 0
def codeTo (g : List (List Int)) (k : Nat) : List Int := (List.range k).flatMap fun v => codeRow g v v
theorem codeRow_succ (g : List (List Int)) (v k : Nat) : codeRow g v (k + 1) = codeRow g v k ++ [if (v : Int) ∈ row g (k : Int) then 1 else 0] := by simp [codeRow, List.range_succ]
theorem codeTo_succ (g : List (List Int)) (k : Nat) : codeTo g (k + 1) = codeTo g k ++ codeRow g k k := by simp [codeTo, List.range_succ]
theorem codeRow_len (g : List (List Int)) (v k : Nat) : (codeRow g v k).length = k := by simp [codeRow]
theorem codeTo_len (g : List (List Int)) : ∀ k, k ≤ 16 → (codeTo g k).length ≤ 16 * k
  | 0, _ => by simp [codeTo]
  | k + 1, h => by
    have := codeTo_len g k (by omega)
    rw [codeTo_succ, List.length_append, codeRow_len]
    omega
noncomputable def codeOr (g : List (List Int)) : List Int := if GOk g then codeTo g g.length else []
theorem codeOr_len (g : List (List Int)) : (codeOr g).length ≤ 1048576 := by
  unfold codeOr
  split
  · rename_i h
    have := codeTo_len g g.length h.le
    have := h.le
    omega
  · simp
theorem l1Flag_any (b : Bool) (w : World) : Calls Tryd.prog 175 #[.bool b] w fun e w' => e = .returned (.int .i64 (if b then 1 else 0)) ∧ w = w' := by
  cases b
  · go_enter Tryd.func175, Tryd.ntmps175
    go_wp2
    go_ret
    exact ⟨rfl, rfl⟩
  · go_enter Tryd.func175, Tryd.ntmps175
    go_wp2
    go_ret
    exact ⟨rfl, rfl⟩
theorem bonL {B : Nat} {w0 W W' : World} (h : Below B w0 W) (hb : Below W.heap.size W W') (hB : B ≤ w0.heap.size) : Below B w0 W' := h.trans (hb.mono (Nat.le_trans hB h.size))
end
section
/-- A set as a value. -/
def netF (l : List Int) : Value := .int .u32 (maskL l : Nat)
theorem row_mask_lt {g : List (List Int)} (h : GOk g) (v : Nat) (hv : v < g.length) : maskL (row g (v : Int)) < 2 ^ 16 :=
  maskL_lt _ 16 fun x hx => by
    have := gok_range h (u := (v : Int)) (by omega) (by omega) hx
    have := h.le
    omega
theorem row_mask_bit {g : List (List Int)} (h : GOk g) (v u : Nat) (hv : v < g.length) : (maskL (row g (v : Int))).testBit u = decide ((u : Int) ∈ row g (v : Int)) :=
  testBit_maskL _ _ fun x hx => (gok_range h (u := (v : Int)) (by omega) (by omega) hx).1
end
end Go.Proofs.YtggjmnihnjdoaaaDoor
