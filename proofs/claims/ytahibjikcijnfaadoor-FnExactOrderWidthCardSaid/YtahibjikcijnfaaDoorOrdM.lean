/- An order of the vertices: plain. -/
import Derived.Test.YtahibjikcijnfaaDoorMask
import Derived.Test.YtahibjikcijnfaaDoorGOk
namespace Go.Proofs.YtahibjikcijnfaaDoor
/-- zs has each of its numbers once, all from 0 to n - 1. -/
def Ord (n : Nat) (zs : List Int) : Prop := (∀ x ∈ zs, 0 ≤ x ∧ x < (n : Int)) ∧ zs.Nodup
instance (n : Nat) (zs : List Int) : Decidable (Ord n zs) := by unfold Ord; infer_instance
theorem ord_take {n : Nat} {zs : List Int} (h : Ord n zs) (k : Nat) : Ord n (zs.take k) := ⟨fun x hx => h.1 x (List.mem_of_mem_take hx), h.2.sublist (List.take_sublist k zs)⟩
theorem ord_succ {n : Nat} {zs : List Int} {k : Nat} (hk : k < zs.length) (h : Ord n (zs.take k)) (h1 : 0 ≤ zs[k] ∧ zs[k] < (n : Int)) (h2 : zs[k] ∉ zs.take k) : Ord n (zs.take (k + 1)) := by
  rw [List.take_succ_eq_append_getElem hk]
  refine ⟨fun x hx => ?_, ?_⟩
  · rcases List.mem_append.1 hx with h3 | h3
    · exact h.1 x h3
    · simp at h3; subst h3; exact h1
  · rw [List.nodup_append]
    refine ⟨h.2, by simp, ?_⟩
    intro x hx y hy e
    simp at hy; subst hy; subst e
    exact h2 hx
theorem ord_inv {n : Nat} {zs : List Int} {k : Nat} (hk : k < zs.length) (h : Ord n zs) : (0 ≤ zs[k] ∧ zs[k] < (n : Int)) ∧ zs[k] ∉ zs.take k := by
  refine ⟨h.1 _ (List.getElem_mem hk), fun hm => ?_⟩
  have h2 := (ord_take h (k + 1)).2
  rw [List.take_succ_eq_append_getElem hk, List.nodup_append] at h2
  exact h2.2.2 _ hm _ (by simp) rfl
/-- Sorted, such a list rises. -/
theorem ord_sorted (n : Nat) (zs : List Int) : Inc n (zs.mergeSort fun x y => decide (x ≤ y)) ↔ Ord n zs := by
  have hp : (zs.mergeSort fun x y => decide (x ≤ y)).Perm zs := List.mergeSort_perm _ _
  have hs : (zs.mergeSort fun x y => decide (x ≤ y)).Pairwise (fun x y => decide (x ≤ y) = true) := List.pairwise_mergeSort (fun a b c h1 h2 => by simp at *; omega) (fun a b => by simp; omega) zs
  constructor
  · intro h
    refine ⟨fun x hx => h.1 x (hp.mem_iff.2 hx), hp.nodup_iff.1 (h.2.imp fun {a b} hab => by omega)⟩
  · intro h
    refine ⟨fun x hx => h.1 x (hp.mem_iff.1 hx), ?_⟩
    have hn : (zs.mergeSort fun x y => decide (x ≤ y)).Nodup := hp.nodup_iff.2 h.2
    exact List.Pairwise.imp₂ (fun {a b} h1 h2 => by simp at h1; omega) hs hn
/-- order is an order of the graph's vertices. -/
def OrdP (g : List (List Int)) (zs : List Int) : Prop := GOk g ∧ zs.length = g.length ∧ Ord g.length zs
noncomputable instance (g : List (List Int)) (zs : List Int) : Decidable (OrdP g zs) := Classical.propDecidable _
theorem ordP_iff {g : List (List Int)} {zs : List Int} {n : Nat} (hn : g.length = n) (hg : GOk g) (hl : zs.length = n) : OrdP g zs ↔ Ord n zs := by
  subst hn
  exact ⟨fun h => h.2.2, fun h => ⟨hg, hl, h⟩⟩
end Go.Proofs.YtahibjikcijnfaaDoor
