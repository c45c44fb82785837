/- SetOk, EdgeIn and the small functions on one vertex. -/
import Derived.Test.YtccohcdgcpcbjaaDoorGOk
namespace Go.Proofs.YtccohcdgcpcbjaaDoor
open Go.RowKit

def SetP (g : List (List Int)) (s : List Int) : Prop := GOk g ∧ Inc g.length s
noncomputable instance (g : List (List Int)) (s : List Int) : Decidable (SetP g s) := Classical.propDecidable _
def VertP (g : List (List Int)) (v : Int) : Prop := GOk g ∧ 0 ≤ v ∧ v < g.length
noncomputable instance (g : List (List Int)) (v : Int) : Decidable (VertP g v) := Classical.propDecidable _
def EdgeP (g : List (List Int)) (u v : Int) : Prop := VertP g u ∧ v ∈ row g u
noncomputable instance (g : List (List Int)) (u v : Int) : Decidable (EdgeP g u v) := Classical.propDecidable _
theorem row_mem {g : List (List Int)} (h : GOk g) {u v : Int} (h0 : 0 ≤ u) (hu : u < g.length) (hv : v ∈ row g u) : 0 ≤ v ∧ v < g.length := by
  obtain ⟨m, rfl⟩ := Int.eq_ofNat_of_zero_le h0
  exact (h.inc m (by omega)).1 v hv
theorem dec_t {p : Prop} [Decidable p] {b : Bool} (h : decide p = b) (hp : p) : true = b := by rw [← h]; simp [hp]
theorem dec_f {p : Prop} [Decidable p] {b : Bool} (h : decide p = b) (hp : ¬ p) : false = b := by rw [← h]; simp [hp]

set_option maxHeartbeats 1000000 in
theorem l1Edge_b (a : Option Addr) (rs : List Row) (c : Nat) (u v : Int) (w : World) (b : Bool) (h0 : 0 ≤ u) (h1 : u < rs.length) (hb : decide (v ∈ row (nums rs) u) = b) (hr : RdM w a rs) (hn : Small rs) :
    Calls Tryd.prog 48 #[.agg #[.slice a rs.length c], .int .i64 u, .int .i64 v] w fun e w' => e = .returned (.bool b) ∧ Below w.heap.size w w' := by
  obtain ⟨m, rfl⟩ := Int.eq_ofNat_of_zero_le h0
  have hm : m < rs.length := by omega
  have B0 := hid (alloc_below w (.cells #[.slice a rs.length c] 24))
  obtain ⟨b', o, rfl, hc, hok⟩ := (hr.below B0.out (Nat.le_refl _)).at m hm
  rw [row_rs rs m hm] at hb
  have hz := Nat.le_trans (hn.2 _ (List.getElem_mem hm)) (show 1048576 ≤ 16777216 by decide)
  have HB := hid hb; have HK := hid hok.1; have HR := hid hr; clear hb hok hr
  generalize rs[m] = r at *
  go_enter Tryd.func48, Tryd.ntmps48
  go_wp2_with (go_at_call 46; refine (l1Has_b _ _ _ _ _ _ HB.out HK.out hz).mono ?_; rintro e w' ⟨rfl, rfl⟩)
  go_ret
  exact ⟨rfl, B0.out⟩
end Go.Proofs.YtccohcdgcpcbjaaDoor
