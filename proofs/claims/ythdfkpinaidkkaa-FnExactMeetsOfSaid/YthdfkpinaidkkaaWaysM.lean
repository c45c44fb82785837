/- Plain facts on links: how many links have a name. -/
import Derived.Test.YthdfkpinaidkkaaSet
namespace Go.Proofs.Ythdfkpinaidkkaa
def deg (ls : List (List Int)) (v : Int) : Nat := (ls.filter fun l => decide (v ∈ l)).length
theorem deg_nil (v : Int) : deg [] v = 0 := rfl
theorem deg_snoc (ls : List (List Int)) (l : List Int) (v : Int) : deg (ls ++ [l]) v = deg ls v + if v ∈ l then 1 else 0 := by
  unfold deg
  rw [List.filter_append, List.length_append]
  by_cases h : v ∈ l <;> simp [h]
theorem deg_le (ls : List (List Int)) (v : Int) : deg ls v ≤ ls.length := List.length_filter_le _ _
theorem deg_take (ls : List (List Int)) (k : Nat) (h : k < ls.length) (v : Int) : deg (ls.take (k + 1)) v = deg (ls.take k) v + if v ∈ ls[k] then 1 else 0 := by
  rw [List.take_succ_eq_append_getElem h, deg_snoc]
structure FormP (n : Nat) (ls : List (List Int)) : Prop where
  one : 1 ≤ n
  le : n ≤ 16
  few : ls.length ≤ 16
  row : ∀ l ∈ ls, l.length = 2 ∧ Inc n l
noncomputable instance (n : Nat) (ls : List (List Int)) : Decidable (FormP n ls) := Classical.propDecidable _
structure WaysP (n : Nat) (ls : List (List Int)) : Prop where
  form : FormP n ls
  two : ∀ v : Nat, v < n → deg ls v ≤ 2
noncomputable instance (n : Nat) (ls : List (List Int)) : Decidable (WaysP n ls) := Classical.propDecidable _
/-- The degrees, in order. -/
def degs (n : Nat) (ls : List (List Int)) : List Int := (List.range n).map fun v : Nat => ((deg ls v : Nat) : Int)
theorem degs_length (n : Nat) (ls : List (List Int)) : (degs n ls).length = n := by simp [degs]
theorem degs_get (n : Nat) (ls : List (List Int)) (i : Nat) (h : i < (degs n ls).length) : (degs n ls)[i] = ((deg ls i : Nat) : Int) := by simp [degs]
theorem degs_nil (n : Nat) : degs n [] = List.replicate n 0 := by
  apply List.ext_getElem
  · simp [degs]
  · intro i h1 h2; simp [degs, deg]
theorem degs_step (n : Nat) (ls : List (List Int)) (x y : Nat) (hxy : x < y) :
    ((degs n ls).set x (((deg ls x : Nat) : Int) + 1)).set y (((deg ls y : Nat) : Int) + 1) = degs n (ls ++ [[(x : Int), (y : Int)]]) := by
  apply List.ext_getElem
  · simp [degs]
  · intro i h1 h2
    rw [degs_get, deg_snoc, List.getElem_set, List.getElem_set]
    split
    · rename_i h; subst h; simp
    · split
      · rename_i h h'; subst h'; simp
      · rename_i h h'
        rw [degs_get, if_neg]
        · simp
        · simp; omega
end Go.Proofs.Ythdfkpinaidkkaa
