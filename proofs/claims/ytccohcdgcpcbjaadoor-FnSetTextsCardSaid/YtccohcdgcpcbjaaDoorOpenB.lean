/- A list of bytes, as the row hands it in. -/
import Derived.Test.YtccohcdgcpcbjaaDoorOpen
import Derived.Test.YtccohcdgcpcbjaaDoorMem3
namespace Go.Proofs.YtccohcdgcpcbjaaDoor
open Go.RowKit
section
open Go.ChangeShapes Go.WideShapes Go.ChangeAt Go.RowKit Go.Deep Go.Joins
section
variable {H : Type} {enc : TypeId × Value → H} {P : Program} {w : World} {base : Nat} {held : Bool}
theorem open_bytesF {t e fuel : Nat} {cs : List Value} {x : DataW H × List MemPlace} (ht : P.underlying t = some (.slice e)) (he : P.underlying e = some (.int .u8)) (ce : P.cellsOf e = 1)
    (h : DataW.trod enc P w base (fun _ => true) held fuel t cs = some x) :
    ∃ a zs c, cs = [.slice a zs.length c] ∧ Rd (Value.int .u8) w a zs ∧ zs.length ≤ c ∧ c ≤ maxLen ∧ (a = none → c = 0) ∧ ∀ z ∈ zs, 0 ≤ z ∧ z < 256 := by
  rcases open_ints ht he ce h with ⟨hcs, _⟩ | ⟨a, len, cap, zs, hcs, _, hl, hm, hz, _, hcell, hwf⟩
  · exact ⟨none, [], 0, hcs, Rd.nil _ _ _, Nat.le_refl _, Nat.zero_le _, fun _ => rfl, fun z hz => by cases hz⟩
  · simp only [if_true] at hz
    have hzl : (zs.take len).length = len := by rw [List.length_take]; omega
    refine ⟨some a, zs.take len, cap, by rw [hzl]; exact hcs, ?_, by rw [hzl]; exact hl, hm, (fun h => by cases h), fun z hz' => ?_⟩
    · intro i hi
      have hi' : i < len := by omega
      obtain ⟨b, o, s⟩ := a
      have hs : s = none := by simpa [Addr.add] using World.cell?_spot (hcell 0 (by omega))
      subst hs
      refine ⟨b, o, rfl, ?_⟩
      have e1 : (⟨b, o, none⟩ : Addr).add i = ⟨b, o + i, none⟩ := by unfold Addr.add; split <;> simp_all
      have hc := hcell i (by omega)
      rw [e1] at hc
      rw [hc]
      have : i < zs.length := by omega
      simp [List.getElem_take, List.getElem?_eq_getElem this]
    · have h1 := hwf z (List.mem_of_mem_take hz')
      simp [Lit.wf] at h1
      have e1 : IntKind.u8.min = 0 := by decide
      have e2 : IntKind.u8.max = 255 := by decide
      rw [e1, e2] at h1
      omega
end
set_option maxRecDepth 100000
section
variable {H : Type} {enc : TypeId × Value → H} {w : World} {base b0 : Nat} {held : Bool} {r : Reach}
theorem open_B {v : Value} {d : DataW H} {p : List MemPlace} (hv : Value.okWide Tryd.prog w r b0 35 v) (h : DataW.Trod enc Tryd.prog w base (fun _ => true) held 35 v d p) :
    ∃ a zs c, v = .slice a zs.length c ∧ Rd (Value.int .u8) w a zs ∧ zs.length ≤ c ∧ c ≤ maxLen ∧ (a = none → c = 0) ∧ ∀ z ∈ zs, 0 ≤ z ∧ z < 256 := by
  obtain ⟨a0, len, cap, rfl⟩ := okWide_slice Tryd.underlying35 hv
  obtain ⟨fuel, hf⟩ := h
  obtain ⟨a, zs, c, h1, h2⟩ := open_bytesF Tryd.underlying35 Tryd.underlying5 (by kernel_rfl) hf
  exact ⟨a, zs, c, by simpa [Value.cells] using h1, h2⟩
end
end
end Go.Proofs.YtccohcdgcpcbjaaDoor
