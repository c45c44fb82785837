/- What the row's condition on strconv's variables gives a walk. -/
import Derived.Test.YtccohcdgcpcbjaaDoorRows
import Derived.Test.YtccohcdgcpcbjaaDoorRead
import Derived.ProofKit
import Derived.LaidMore
import Derived.LaidSub
import Derived.OpenShut
import Derived.Stop.Joined
import Derived.Stop.LaidErr
namespace Go.Proofs.YtccohcdgcpcbjaaDoor
open Go.RowKit
theorem laid_one {L : List (String × DataW Unit)} {W : World} (n : String) (D : DataW Unit) (h : laidMetH Tryd.prog L W) (hL : L.filter (fun x => x.1 == n) = [(n, D)]) (hp : D.handleName?.isNone = true) : laidMet Tryd.prog [(n, D)] W := by
  have h1 := h.filter (fun x => x.1 == n)
  rw [hL, MakeChecks.laidMetH_plain _ _ _ (by simpa using hp)] at h1
  exact h1
theorem heap_of_var {w : World} {name : String} {g : Nat} {cs : Array Value} (hg : Tryd.prog.globalNamed name = some g) (h : w.var? Tryd.prog name = some cs) : ∃ e z, w.heap[g]? = some (.cells cs e z) := by
  unfold World.var? at h
  rw [hg] at h
  simp only [Option.bind_some] at h
  split at h
  · rename_i cs' e z hh
    injection h with h
    subst h
    exact ⟨e, z, hh⟩
  · cases h
theorem iface_laid {n nm : String} {d : DataW Unit} {r : List (String × DataW Unit)} {W : World} {g : Nat} {ti : TypeId} {ms : Array (String × TypeId)}
    (h : laidMet Tryd.prog ((n, .iface nm d) :: r) W) (hg : Tryd.prog.globalNamed n = some g) (ht : (Tryd.prog.globals[g]?).map (·.type) = some ti) (hi : Tryd.prog.underlying ti = some (.interface ms)) :
    ∃ u v e z, W.heap[g]? = some (.cells #[.iface u v] e z) := by
  obtain ⟨ps, ⟨g0, t0, cs0, f0, p0, q0, hg0, ht0, hv0, hd0, _, e0⟩, _, hrows⟩ := h
  obtain rfl := Option.some.inj (hg.symm.trans hg0)
  obtain rfl := Option.some.inj (ht.symm.trans ht0)
  obtain ⟨l0⟩ := cs0
  obtain ⟨f1, u, v, hl, hn, h1⟩ := iface_of_trod hi hd0
  have hl2 : l0 = [.iface u v] := hl
  subst hl2
  obtain ⟨e, z, hh⟩ := heap_of_var hg hv0
  exact ⟨u, v, e, z, hh⟩
theorem numOk_of {L : List (String × DataW Unit)} {W : World} (h : laidMetH Tryd.prog L W) (hS : L.filter (fun x => x.1 == "strconv.ErrSyntax") = [("strconv.ErrSyntax", Rows.laid_strconv_ErrSyntax)]) (hR : L.filter (fun x => x.1 == "strconv.ErrRange") = [("strconv.ErrRange", Rows.laid_strconv_ErrRange)]) (hP : L.filter (fun x => x.1 == pow10Name) = [(pow10Name, Rows.laid_internal_strconv_uint64pow10)]) : NumOk W := by
  refine ⟨?_, ?_, ?_⟩
  · exact iface_laid (laid_one _ _ h hS rfl) (by kernel_rfl) (by kernel_rfl) Tryd.underlying71
  · exact iface_laid (laid_one _ _ h hR rfl) (by kernel_rfl) (by kernel_rfl) Tryd.underlying71
  · have h1 : laidMet Tryd.prog [(pow10Name, Go.Lib.tabData .u64 Go.Lib.pow10Tab)] W := laid_one _ _ h hP rfl
    have h2 := Go.Lib.tabIs_of_head (g := 3) (t := 126) (e := 104) (n := 20) (by kernel_rfl) (by kernel_rfl) Tryd.underlying126 Tryd.underlying104 (by kernel_rfl) (by kernel_rfl) h1
    exact heap_of_var (by kernel_rfl) h2
end Go.Proofs.YtccohcdgcpcbjaaDoor
