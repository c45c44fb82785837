/- What the row's condition on the table gives a walk. -/
import Derived.Test.YtdncmloajajiaaaDoorRows
import Derived.Test.YtdncmloajajiaaaDoorTab
import Derived.ProofKit
import Derived.LaidMore
import Derived.OpenShut
import Derived.Stop.Joined
namespace Go.Proofs.YtdncmloajajiaaaDoor
open Go.RowKit
theorem tabList {H : Type} : (Rows.laid_math_bits_deBruijn32tab : DataW H) = .agg (Lib.deBruijn32tab.map fun n : Nat => DataW.lit (.int .u8 (n : Int))) := rfl
theorem tabOk_of {L : List (String × DataW Unit)} {W : World} (name : String) (hL : L = [(name, Rows.laid_math_bits_deBruijn32tab)]) (hg : Tryd.prog.globalNamed name = some 0) (h : laidMetH Tryd.prog L W) : TabOk W := by
  subst hL
  rw [MakeChecks.laidMetH_plain _ _ _ rfl] at h
  obtain ⟨ps, ⟨g0, t0, cs0, f0, p0, q0, hg0, ht0, hv0, hd0, _, _⟩, _, _⟩ := h
  obtain rfl := Option.some.inj (hg.symm.trans hg0)
  have tT : (Tryd.prog.globals[0]?).map (·.type) = some 111 := by kernel_rfl
  obtain rfl := Option.some.inj (tT.symm.trans ht0)
  obtain ⟨xs, m1, rfl, hx1, hlen, hn3, hel⟩ := DataW.trod_array Tryd.underlying111 hd0
  have c5 : Tryd.prog.cellsOf 5 = 1 := by kernel_rfl
  intro i hi
  have h1 := hel i hi
  rw [c5, Nat.mul_one, List.getElem?_eq_getElem (by omega)] at h1
  obtain ⟨k, e1, e2, _⟩ := DataW.trod_int Tryd.underlying5 h1
  rw [tabList] at hx1
  have hx2 := congrArg Prod.fst hx1
  simp only [DataW.agg.injEq] at hx2
  have hx3 := congrArg (fun l => l[i]?) hx2
  simp only [List.getElem?_map] at hx3
  rw [List.getElem?_eq_getElem (show i < xs.length by omega), e2] at hx3
  have hi2 : i < Lib.deBruijn32tab.length := by simpa [Lib.deBruijn32tab] using hi
  rw [List.getElem?_eq_getElem hi2] at hx3
  have hk : ((Lib.deBruijn32tab[i] : Nat) : Int) = k := by simpa using hx3
  have hc := World.var?_cell hg0 hv0 i
  rw [List.getD_eq_getElem?_getD, List.getElem?_eq_getElem hi2]
  simp only [Option.getD_some]
  rw [hk, hc]
  have h0 := congrArg (fun l => l[0]?) e1
  simpa using h0
end Go.Proofs.YtdncmloajajiaaaDoor
