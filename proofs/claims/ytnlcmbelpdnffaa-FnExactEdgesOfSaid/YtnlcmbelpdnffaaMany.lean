/- ManyEdges: the reference's and the program's. -/
import Derived.Test.YtnlcmbelpdnffaaEdges
namespace Go.Proofs.Ytnlcmbelpdnffaa
open Go.RowKit
noncomputable def manyOf (g : List (List Int)) : Int := (edgesOr g).length
theorem edgesOr_len (g : List (List Int)) : (edgesOr g).length ≤ 256 := by
  unfold edgesOr
  split
  · rename_i h
    have h1 := edgesTo_len g g.length (fun v hv => gok_row_len h v hv)
    have := h.le
    show (edgesTo g g.length).length ≤ 256
    omega
  · simp
set_option maxHeartbeats 1000000 in
theorem specManyEdges_b (a : Option Addr) (rs : List Row) (c : Nat) (w : World) (x : Int) (hx : manyOf (nums rs) = x) (hr : RdM w a rs) (hn : Small rs) :
    Calls Try.prog 39 #[.agg #[.slice a rs.length c]] w fun e w' => e = .returned (.int .i64 x) ∧ Below w.heap.size w w' := by
  have HR := hid hr; have HX := hid hx; clear hr hx
  have B0 := hid (alloc_below w (.cells #[.slice a rs.length c] 41))
  have hc0 : (w.alloc (.cells #[.slice a rs.length c] 41)).cell? ⟨w.heap.size, 0, none⟩ = some (.slice a rs.length c) := by simp [go_sem]
  have HL := hid (edgesOr_len (nums rs))
  by_cases hg : GOk (nums rs)
  · have h1 := hid (show decide (GOk (nums rs)) = true by simpa using hg)
    have HG := hid hg; clear hg
    have HE := hid (show edgesOr (nums rs) = edgesL (nums rs) by unfold edgesOr; rw [if_pos HG.out])
    go_enter Try.func39, Try.ntmps39
    go_wp2_with fail
    refine (specGraphOk_b a rs c _ true h1.out (HR.out.below B0.out (Nat.le_refl _)) hn).mono ?_
    rintro e w1 ⟨rfl, hb⟩
    have hc1 := cellB hb hc0 (Nat.le_refl _)
    have B1 := hid (B0.out.trans (hb.mono (by simp))); clear hb hc0
    go_wp2_with fail
    refine (l1Edges_any a rs c _ HG.out (HR.out.below B1.out (Nat.le_refl _))).mono ?_
    rintro e w2 ⟨v, qs, rfl, hq, ho, hb⟩
    have HQ := hid hq; have HB := hid hb; clear hq hb hc1
    obtain ⟨a2, c2, rfl, _⟩ := ho.rd
    have HL2 := hid (show qs.length = (edgesOr (nums rs)).length by rw [HE.out, ← HQ.out, nums_length])
    have hl3 : qs.length ≤ 256 := by rw [HL2.out]; exact HL.out
    go_wp2
    go_ret
    exact ⟨ret_int (by rw [← HX.out]; unfold manyOf; rw [← HL2.out]), B1.out.trans (HB.out.mono B1.out.size)⟩
  · have h1 := hid (show decide (GOk (nums rs)) = false by simpa using hg)
    have HE := hid (show edgesOr (nums rs) = [] by unfold edgesOr; rw [if_neg hg])
    clear hg
    go_enter Try.func39, Try.ntmps39
    go_wp2_with fail
    refine (specGraphOk_b a rs c _ false h1.out (HR.out.below B0.out (Nat.le_refl _)) hn).mono ?_
    rintro e w1 ⟨rfl, hb⟩
    have B1 := hid (B0.out.trans (hb.mono (by simp))); clear hb hc0
    go_wp2
    go_ret
    exact ⟨ret_int (by rw [← HX.out]; unfold manyOf; rw [HE.out]; rfl), B1.out⟩
set_option maxHeartbeats 1000000 in
theorem implManyEdges_b (a : Option Addr) (rs : List Row) (c : Nat) (w : World) (x : Int) (hx : manyOf (nums rs) = x) (hr : RdM w a rs) (hn : Small rs) :
    Calls Try.prog 40 #[.agg #[.slice a rs.length c]] w fun e w' => e = .returned (.int .i64 x) ∧ Below w.heap.size w w' := by
  have HR := hid hr; have HX := hid hx; clear hr hx
  have B0 := hid (alloc_below w (.cells #[.slice a rs.length c] 41))
  have HL := hid (edgesOr_len (nums rs))
  go_enter Try.func40, Try.ntmps40
  go_wp2_with fail
  refine (implEdgesOf_any a rs c _ (HR.out.below B0.out (Nat.le_refl _)) hn).mono ?_
  rintro e w2 ⟨v, qs, rfl, hq, ho, hb⟩
  have HQ := hid hq; have HB := hid hb; clear hq hb
  obtain ⟨a2, c2, rfl, _⟩ := ho.rd
  have HL2 := hid (show qs.length = (edgesOr (nums rs)).length by rw [← HQ.out, nums_length])
  have hl3 : qs.length ≤ 256 := by rw [HL2.out]; exact HL.out
  go_wp2
  go_ret
  exact ⟨ret_int (by rw [← HX.out]; unfold manyOf; rw [← HL2.out]), B0.out.trans (HB.out.mono B0.out.size)⟩
end Go.Proofs.Ytnlcmbelpdnffaa
