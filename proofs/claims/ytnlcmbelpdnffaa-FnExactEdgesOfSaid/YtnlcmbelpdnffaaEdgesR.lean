/- EdgesOf, as the law's walk asks for it. -/
import Derived.Test.YtnlcmbelpdnffaaMany
import Derived.Test.YtnlcmbelpdnffaaMem3
namespace Go.Proofs.Ytnlcmbelpdnffaa
open Go.RowKit
theorem specEdgesOf_r (a : Option Addr) (rs : List Row) (c : Nat) (w : World) (r : List (List Int)) (h : edgesOr (nums rs) = r) (hr : RdM w a rs) (hn : Small rs) :
    Calls Try.prog 43 #[.agg #[.slice a rs.length c]] w (RetOwnM 45 2 r w) := by subst h; exact specEdgesOf_any a rs c w hr hn
theorem implEdgesOf_r (a : Option Addr) (rs : List Row) (c : Nat) (w : World) (r : List (List Int)) (h : edgesOr (nums rs) = r) (hr : RdM w a rs) (hn : Small rs) :
    Calls Try.prog 44 #[.agg #[.slice a rs.length c]] w (RetOwnM 45 2 r w) := by subst h; exact implEdgesOf_any a rs c w hr hn
theorem edgesOr_small (g : List (List Int)) : SmallZ (edgesOr g) := by
  refine ⟨Nat.le_trans (edgesOr_len g) (by decide), fun r hr => ?_⟩
  unfold edgesOr at hr
  split at hr
  · unfold edgesL rowEdges at hr
    simp at hr
    obtain ⟨_, _, _, _, rfl⟩ := hr
    simp
  · simp at hr
end Go.Proofs.Ytnlcmbelpdnffaa
