/- FnForced, plain: the class of the opposite arrow, the sense of a class. -/
import Derived.Test.YtggjmnihnjdoaaaDoorFbI
import Derived.Test.YtggjmnihnjdoaaaDoorEdges
namespace Go.Proofs.YtggjmnihnjdoaaaDoor
open Go.RowKit
section
attribute [local irreducible] frL bq addAll bqE keyL
theorem opp_oppF {x : Nat} (h : x < 256) : opp (opp x) = x := by unfold opp cod; omega
theorem edA_oppF {n : Nat} {A : List Nat} (h : GA n A) {x : Nat} (hx : edA A x = true) : edA A (opp x) = true := by
  have h1 := opp_dm (edA_256 h hx)
  unfold edA at hx ⊢
  rw [h1.1, h1.2, h.sym]
  exact hx
theorem class_opp {n : Nat} {A : List Nat} (h : GA n A) {x : Nat} (hx : edA A x = true) : ∀ p ∈ keyL (bqE A x), opp p ∈ keyL (bqE A (opp x)) := by
  have K := isK_of h hx
  have K' := isK_of h (edA_oppF h hx)
  exact K.conn (fun p => opp p ∈ keyL (bqE A (opp x))) K'.seed (fun p y hp hy hP hf => K'.closed (opp p) hP (opp y) (frB_opp h (K.edge p hp) hf))
theorem class_le {n : Nat} {A : List Nat} (h : GA n A) {x : Nat} (hx : edA A x = true) : (keyL (bqE A x)).length ≤ (keyL (bqE A (opp x))).length := by
  have K := isK_of h hx
  have hs := keyL_sorted (bqE A x)
  have hnd : ((keyL (bqE A x)).map opp).Nodup := by
    unfold List.Nodup
    rw [List.pairwise_map]
    refine List.Pairwise.imp_of_mem (fun {a b} h2 h3 h1 e => ?_) hs
    have e2 := congrArg opp e
    rw [opp_oppF (K.lt _ h2), opp_oppF (K.lt _ h3)] at e2
    omega
  have h1 := hnd.length_le_of_subset (l₂ := keyL (bqE A (opp x))) (fun y hy => by
    obtain ⟨p, hp, rfl⟩ := List.mem_map.1 hy
    exact class_opp h hx p hp)
  rwa [List.length_map] at h1
theorem class_len {n : Nat} {A : List Nat} (h : GA n A) {x : Nat} (hx : edA A x = true) : (keyL (bqE A x)).length = (keyL (bqE A (opp x))).length := by
  have h1 := class_le h hx
  have h2 := class_le h (edA_oppF h hx)
  rw [opp_oppF (edA_256 h hx)] at h2
  omega
theorem class_sense {n : Nat} {A H : List Nat} (h : GA n A) (ho : OriOk n A H) {x : Nat} (hx : edA A x = true) : ∀ p ∈ keyL (bqE A x), edA H p = edA H x := by
  have K := isK_of h hx
  exact K.conn (fun p => edA H p = edA H x) rfl (fun p y hp hy hP hf => by rw [← ho.force p y (K.edge p hp) hf]; exact hP)
theorem edge_shapeF {n : Nat} {A : List Nat} (h : GA n A) {e : List Int} (he : e ∈ edgesL (A.map mems)) : ∃ u v : Nat, e = [(u : Int), (v : Int)] ∧ u < n ∧ v < n ∧ bt A u v = true := by
  unfold edgesL at he
  rw [List.mem_flatMap] at he
  obtain ⟨u, hu, he⟩ := he
  rw [List.mem_range, List.length_map, h.len] at hu
  unfold rowEdges at he
  rw [List.mem_map] at he
  obtain ⟨v, hv, rfl⟩ := he
  rw [List.mem_filter, h.row hu, mems_mem (by have := h.in2 u; have := h.le; have : 2 ^ n ≤ 65536 := Nat.pow_le_pow_right (n := 2) (i := n) (j := 16) (by decide) h.le; omega)] at hv
  obtain ⟨i, hi, hb⟩ := hv.1
  obtain rfl : v = (i : Int) := by omega
  exact ⟨u, i, rfl, hu, (h.lt hb).2, hb⟩
theorem edgeP_ga {n : Nat} {A : List Nat} (h : GA n A) {u v : Nat} (hu : u < n) (hb : bt A u v = true) : EdgeP (A.map mems) (u : Int) (v : Int) := by
  refine ⟨⟨h.gok, by omega, by rw [List.length_map, h.len]; omega⟩, ?_⟩
  rw [h.row hu, mems_mem (by have := h.in2 u; have := h.le; have : 2 ^ n ≤ 65536 := Nat.pow_le_pow_right (n := 2) (i := n) (j := 16) (by decide) h.le; omega)]
  exact ⟨v, rfl, hb⟩
theorem class_pos {n : Nat} {A : List Nat} (h : GA n A) {x : Nat} (hx : edA A x = true) : 0 < (keyL (bqE A x)).length := by
  have K := isK_of h hx
  exact List.length_pos_of_mem K.seed
/-- What the two calls answer at an edge of the list. -/
theorem forced_edge {n : Nat} {A : List Nat} (h : GA n A) {u v : Nat} (hu : u < n) (hv : v < n) (hb : bt A u v = true) : forcedR (A.map mems) u v = (keyL (bqE A (cod u v))).map prI ∧ forcedR (A.map mems) v u = (keyL (bqE A (opp (cod u v)))).map prI ∧ edA A (cod u v) = true := by
  have h16 := h.le
  have hb2 : bt A v u = true := by rw [h.sym]; exact hb
  refine ⟨?_, ?_, by rw [edA_cod (by omega)]; exact hb⟩
  · unfold forcedR
    rw [if_pos (edgeP_ga h hu hb), h.masks, Int.toNat_natCast, Int.toNat_natCast]
  · unfold forcedR
    rw [if_pos (edgeP_ga h hv hb2), h.masks, Int.toNat_natCast, Int.toNat_natCast, opp_cod (by omega)]
end
end Go.Proofs.YtggjmnihnjdoaaaDoor
