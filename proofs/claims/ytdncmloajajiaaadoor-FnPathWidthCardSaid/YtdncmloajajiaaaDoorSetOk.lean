/- SetOk, EdgeIn and the small functions on one vertex. -/
import Derived.Test.YtdncmloajajiaaaDoorGOk
namespace Go.Proofs.YtdncmloajajiaaaDoor
open Go.RowKit

def SetP (g : List (List Int)) (s : List Int) : Prop := GOk g ∧ Inc g.length s
noncomputable instance (g : List (List Int)) (s : List Int) : Decidable (SetP g s) := Classical.propDecidable _
def VertP (g : List (List Int)) (v : Int) : Prop := GOk g ∧ 0 ≤ v ∧ v < g.length
noncomputable instance (g : List (List Int)) (v : Int) : Decidable (VertP g v) := Classical.propDecidable _
def EdgeP (g : List (List Int)) (u v : Int) : Prop := VertP g u ∧ v ∈ row g u
noncomputable instance (g : List (List Int)) (u v : Int) : Decidable (EdgeP g u v) := Classical.propDecidable _
theorem row_mem {g : List (List Int)} (h : GOk g) {u v : Int} (h0 : 0 ≤ u) (hu : u < g.length) (hv : v ∈ row g u) : 0 ≤ v ∧ v < g.length := by
  obtain ⟨m, rfl⟩ := Int.eq_ofNat_of_zero_le h0
  exact (h.inc m (by omega)).1 v hv
theorem dec_t {p : Prop} [Decidable p] {b : Bool} (h : decide p = b) (hp : p) : true = b := by rw [← h]; simp [hp]
theorem dec_f {p : Prop} [Decidable p] {b : Bool} (h : decide p = b) (hp : ¬ p) : false = b := by rw [← h]; simp [hp]

set_option maxHeartbeats 1000000 in
theorem l1There_b (a : Option Addr) (rs : List Row) (c : Nat) (v : Int) (w : World) (b : Bool) (hb : decide (0 ≤ v ∧ v < rs.length) = b) (hn : rs.length ≤ 1048576) :
    Calls Tryd.prog 43 #[.agg #[.slice a rs.length c], .int .i64 v] w fun e w' => e = .returned (.bool b) ∧ Below w.heap.size w w' := by
  have HB := hid hb; clear hb
  have B0 := hid (alloc_below w (.cells #[.slice a rs.length c] 29))
  go_enter Tryd.func43, Tryd.ntmps43
  go_wp2_with fail
  refine (l1Size_any a rs c _ hn).mono ?_
  rintro e w2 ⟨rfl, hb⟩
  have B2 := hid (B0.out.trans (hb.mono (by simp))); clear hb
  have h2 : decide (0 ≤ v ∧ v ≤ (rs.length : Int) - 1) = b := by rw [← HB.out]; congr 1; apply propext; omega
  have H2 := hid h2; clear h2
  go_wp2_with (go_at_call 66; refine (l1In_b _ _ _ _ _ H2.out).mono ?_; rintro e w' ⟨rfl, rfl⟩)
  go_ret
  exact ⟨rfl, B2.out⟩
set_option maxHeartbeats 1000000 in
theorem l1Edge_b (a : Option Addr) (rs : List Row) (c : Nat) (u v : Int) (w : World) (b : Bool) (h0 : 0 ≤ u) (h1 : u < rs.length) (hb : decide (v ∈ row (nums rs) u) = b) (hr : RdM w a rs) (hn : Small rs) :
    Calls Tryd.prog 44 #[.agg #[.slice a rs.length c], .int .i64 u, .int .i64 v] w fun e w' => e = .returned (.bool b) ∧ Below w.heap.size w w' := by
  obtain ⟨m, rfl⟩ := Int.eq_ofNat_of_zero_le h0
  have hm : m < rs.length := by omega
  have B0 := hid (alloc_below w (.cells #[.slice a rs.length c] 29))
  obtain ⟨b', o, rfl, hc, hok⟩ := (hr.below B0.out (Nat.le_refl _)).at m hm
  rw [row_rs rs m hm] at hb
  have hz := Nat.le_trans (hn.2 _ (List.getElem_mem hm)) (show 1048576 ≤ 16777216 by decide)
  have HB := hid hb; have HK := hid hok.1; have HR := hid hr; clear hb hok hr
  generalize rs[m] = r at *
  go_enter Tryd.func44, Tryd.ntmps44
  go_wp2_with (go_at_call 70; refine (l1Has_b _ _ _ _ _ _ HB.out HK.out hz).mono ?_; rintro e w' ⟨rfl, rfl⟩)
  go_ret
  exact ⟨rfl, B0.out⟩
set_option maxHeartbeats 1000000 in
theorem isVertex_b (a : Option Addr) (rs : List Row) (c : Nat) (v : Int) (w : World) (b : Bool) (hb : decide (VertP (nums rs) v) = b) (hr : RdM w a rs) (hn : Small rs) :
    Calls Tryd.prog 45 #[.agg #[.slice a rs.length c], .int .i64 v] w fun e w' => e = .returned (.bool b) ∧ Below w.heap.size w w' := by
  have HR := hid hr; have HB := hid hb; clear hr hb
  have hn1 := hn.1
  have B0 := hid (alloc_below w (.cells #[.slice a rs.length c] 29))
  have hc0 : (w.alloc (.cells #[.slice a rs.length c] 29)).cell? ⟨w.heap.size, 0, none⟩ = some (.slice a rs.length c) := by simp [go_sem]
  by_cases hg : GOk (nums rs)
  · have h1 := hid (show decide (GOk (nums rs)) = true by simpa using hg)
    have HG := hid hg; clear hg
    have h2 : decide (0 ≤ v ∧ v ≤ (rs.length : Int) - 1) = b := by
      rw [← HB.out]; unfold VertP; simp only [HG.out, true_and, nums_length]; congr 1; apply propext; omega
    have H2 := hid h2; clear h2
    go_enter Tryd.func45, Tryd.ntmps45
    go_wp2_with fail
    refine (implGraphOk_b a rs c _ true h1.out (HR.out.below B0.out (Nat.le_refl _)) hn).mono ?_
    rintro e w1 ⟨rfl, hb⟩
    have hc1 := cellB hb hc0 (Nat.le_refl _)
    have B1 := hid (B0.out.trans (hb.mono (by simp))); clear hb hc0
    go_wp2_with (go_at_call 82; refine (inRange_b _ _ _ _ _ H2.out).mono ?_; rintro e w' ⟨rfl, rfl⟩)
    go_ret
    exact ⟨rfl, B1.out⟩
  · have h1 := hid (show decide (GOk (nums rs)) = false by simpa using hg)
    have HG := hid hg; clear hg
    go_enter Tryd.func45, Tryd.ntmps45
    go_wp2_with fail
    refine (implGraphOk_b a rs c _ false h1.out (HR.out.below B0.out (Nat.le_refl _)) hn).mono ?_
    rintro e w1 ⟨rfl, hb⟩
    have B1 := hid (B0.out.trans (hb.mono (by simp))); clear hb hc0
    go_wp2
    go_ret
    exact ⟨ret_bool (dec_f HB.out fun h => HG.out h.1), B1.out⟩
end Go.Proofs.YtdncmloajajiaaaDoor
