/- From a row's reading of an argument to what the walks ask of it. -/
import Derived.Test.YtccohcdgcpcbjaaDoorMem
import Derived.Deep.Matrix
import Derived.ProofKit
import Derived.OpenShut
import Derived.Lib.SmallJoins
namespace Go.Proofs.YtccohcdgcpcbjaaDoor
open Go.ChangeShapes Go.WideShapes Go.ChangeAt Go.RowKit Go.Deep Go.Joins
section
variable {H : Type} {enc : TypeId × Value → H} {P : Program} {w : World} {base : Nat} {held : Bool}
theorem open_rowsF {t e q fuel : Nat} {cs : List Value} {x : DataW H × List MemPlace} (ht : P.underlying t = some (.slice e)) (he : P.underlying e = some (.slice q)) (hq : P.underlying q = some (.int .i64))
    (ce : P.cellsOf e = 1) (cq : P.cellsOf q = 1) (h : DataW.trod enc P w base (fun _ => true) held fuel t cs = some x) :
    ∃ a rs c, cs = [.slice a rs.length c] ∧ RdM w a rs ∧ rs.length ≤ c ∧ c ≤ maxLen ∧ (a = none → c = 0) := by
  rcases open_int_rows ht he hq ce cq h with ⟨hcs, _⟩ | ⟨a, len, cap, A, L, C, Z, hcs, _, hl, hm, _, hrows⟩
  · exact ⟨none, [], 0, hcs, ⟨fun i h => absurd h (Nat.not_lt_zero i), fun r hr => by cases hr⟩, Nat.le_refl _, Nat.zero_le _, fun _ => rfl⟩
  · have hzl : ∀ r, r < cap → ((Z r).take (L r)).length = L r := fun r hr => by
      have := hrows r hr
      rw [List.length_take, this.2.2.2.1]; omega
    refine ⟨some a, (List.range len).map fun r => ⟨A r, (Z r).take (L r), C r⟩, cap, by simpa using hcs, ⟨?_, ?_⟩, by simpa using hl, hm, fun h => by cases h⟩
    · intro i hi
      have hi' : i < len := by simpa using hi
      obtain ⟨hc, _⟩ := hrows i (by omega)
      obtain ⟨b, o, s⟩ := a
      have hs : s = none := by
        have h0 := (hrows 0 (by omega)).1
        simpa [Addr.add] using World.cell?_spot h0
      subst hs
      refine ⟨b, o, rfl, ?_⟩
      have e1 : (⟨b, o, none⟩ : Addr).add i = ⟨b, o + i, none⟩ := by unfold Addr.add; split <;> simp_all
      rw [e1] at hc
      rw [hc]
      simp only [List.getElem_map, List.getElem_range, Row.val, hzl i (by omega)]
    · intro r hr
      obtain ⟨i, hi, rfl⟩ := List.mem_map.1 hr
      have hi' : i < len := List.mem_range.1 hi
      obtain ⟨_, h1, h2, h3, _, h5, h6⟩ := hrows i (by omega)
      refine ⟨?_, by rw [hzl i (by omega)]; exact h1, h2, h5⟩
      intro k hk
      have hk' : k < L i := by rw [← hzl i (by omega)]; exact hk
      cases hA : A i with
      | none => have := h5 hA; omega
      | some a' =>
        obtain ⟨_, h7⟩ := h6 a' hA
        obtain ⟨b, o, s⟩ := a'
        have hs : s = none := by simpa [Addr.add] using World.cell?_spot (h7 0 (by omega))
        subst hs
        refine ⟨b, o, rfl, ?_⟩
        have e1 : (⟨b, o, none⟩ : Addr).add k = ⟨b, o + k, none⟩ := by unfold Addr.add; split <;> simp_all
        have hc := h7 k (by omega)
        rw [e1] at hc
        rw [hc]
        have : k < (Z i).length := by omega
        simp [List.getElem_take, List.getElem?_eq_getElem this]
theorem open_listF {t e fuel : Nat} {cs : List Value} {x : DataW H × List MemPlace} (ht : P.underlying t = some (.slice e)) (he : P.underlying e = some (.int .i64)) (ce : P.cellsOf e = 1)
    (h : DataW.trod enc P w base (fun _ => true) held fuel t cs = some x) :
    ∃ a zs c, cs = [.slice a zs.length c] ∧ Rd (Value.int .i64) w a zs ∧ zs.length ≤ c ∧ c ≤ maxLen ∧ (a = none → c = 0) := by
  rcases open_ints ht he ce h with ⟨hcs, _⟩ | ⟨a, len, cap, zs, hcs, _, hl, hm, hz, _, hcell, _⟩
  · exact ⟨none, [], 0, hcs, Rd.nil _ _ _, Nat.le_refl _, Nat.zero_le _, fun _ => rfl⟩
  · simp only [if_true] at hz
    have hzl : (zs.take len).length = len := by rw [List.length_take]; omega
    refine ⟨some a, zs.take len, cap, by rw [hzl]; exact hcs, ?_, by rw [hzl]; exact hl, hm, fun h => by cases h⟩
    intro i hi
    have hi' : i < len := by omega
    obtain ⟨b, o, s⟩ := a
    have hs : s = none := by simpa [Addr.add] using World.cell?_spot (hcell 0 (by omega))
    subst hs
    refine ⟨b, o, rfl, ?_⟩
    have e1 : (⟨b, o, none⟩ : Addr).add i = ⟨b, o + i, none⟩ := by unfold Addr.add; split <;> simp_all
    have hc := hcell i (by omega)
    rw [e1] at hc
    rw [hc]
    have : i < zs.length := by omega
    simp [List.getElem_take, List.getElem?_eq_getElem this]
/-- A struct of one field of one cell, by value. -/
theorem open_agg1 {r : Reach} {b0 : Nat} {t : TypeId} {f0 : Field} {v : Value} {d : DataW H} {p : List MemPlace} {spare : Nat → Bool} (hs : P.underlying t = some (.struct #[f0])) (hone : oneCellFields P #[f0] = true) (hC : P.cellsOf t = 1)
    (hv : Value.okWide P w r b0 t v) (h : DataW.Trod enc P w base spare held t v d p) :
    ∃ (v0 : Value) (y0 : DataW H × List MemPlace) (n : Nat), v = .agg #[v0] ∧ DataW.trod enc P w base spare held n f0.type [v0] = some y0 := by
  obtain ⟨cs, rfl, hsz⟩ := okWide_struct hs hv
  obtain ⟨c0, rfl⟩ : ∃ c0, cs = #[c0] := Array.size_eq_one_iff.1 (hsz.trans hC)
  obtain ⟨fuel, hf⟩ := h
  obtain ⟨y0, n, hx, _, h0⟩ := trod_struct1 hs hf
  obtain ⟨o0, k0⟩ := hone_of hone 0 f0 rfl
  exact ⟨c0, y0, n, rfl, by simpa [Value.cells, o0, k0] using h0⟩
end
set_option maxRecDepth 100000
theorem laidOut : laidOutB Tryd.prog = true := by kernel_rfl
theorem cellsI64 : Tryd.prog.cellsOf 2 = 1 := by kernel_rfl
theorem cellsSI64 : Tryd.prog.cellsOf 30 = 1 := by kernel_rfl
section
variable {H : Type} {enc : TypeId × Value → H} {w : World} {base b0 : Nat} {held : Bool} {r : Reach}
theorem open_SS {v : Value} {d : DataW H} {p : List MemPlace} (hv : Value.okWide Tryd.prog w r b0 22 v) (h : DataW.Trod enc Tryd.prog w base (fun _ => true) held 22 v d p) :
    ∃ a rs c, v = .slice a rs.length c ∧ RdM w a rs ∧ rs.length ≤ c ∧ c ≤ maxLen ∧ (a = none → c = 0) := by
  obtain ⟨a0, len, cap, rfl⟩ := okWide_slice Tryd.underlying22 hv
  obtain ⟨fuel, hf⟩ := h
  obtain ⟨a, rs, c, h1, h2⟩ := open_rowsF Tryd.underlying22 Tryd.underlying30 Tryd.underlying2 cellsSI64 cellsI64 hf
  exact ⟨a, rs, c, by simpa [Value.cells] using h1, h2⟩
theorem open_S {v : Value} {d : DataW H} {p : List MemPlace} (hv : Value.okWide Tryd.prog w r b0 30 v) (h : DataW.Trod enc Tryd.prog w base (fun _ => true) held 30 v d p) :
    ∃ a zs c, v = .slice a zs.length c ∧ Rd (Value.int .i64) w a zs ∧ zs.length ≤ c ∧ c ≤ maxLen ∧ (a = none → c = 0) := by
  obtain ⟨a0, len, cap, rfl⟩ := okWide_slice Tryd.underlying30 hv
  obtain ⟨fuel, hf⟩ := h
  obtain ⟨a, zs, c, h1, h2⟩ := open_listF Tryd.underlying30 Tryd.underlying2 cellsI64 hf
  exact ⟨a, zs, c, by simpa [Value.cells] using h1, h2⟩
end
end Go.Proofs.YtccohcdgcpcbjaaDoor
