/- CliqueOk: both. -/
import Derived.Test.YtlnhfafnhclolaaDoorMiss
import Derived.Test.YtlnhfafnhclolaaDoorMissS
namespace Go.Proofs.YtlnhfafnhclolaaDoor
open Go.RowKit
def CliqueP (g : List (List Int)) (s : List Int) : Prop := SetP g s ∧ missL g s = 0
noncomputable instance (g : List (List Int)) (s : List Int) : Decidable (CliqueP g s) := Classical.propDecidable _
theorem SetP.len {g : List (List Int)} {s : List Int} (h : SetP g s) : s.length ≤ 16 := by
  have h1 := nodup_le s g.length (List.Pairwise.imp (fun h => by omega) h.2.2) (fun v hv => h.2.1 v hv)
  have := h.1.le; omega
set_option maxHeartbeats 4000000 in
theorem l8Clique_b (a : Option Addr) (rs : List Row) (c : Nat) (a' : Option Addr) (zs : List Int) (c' : Nat) (w : World) (b : Bool) (hb : decide (missL (nums rs) zs = 0) = b) (hr : RdM w a rs) (hn : Small rs) (hz : Rd (Value.int .i64) w a' zs) (hm : zs.length ≤ 16) (hin : ∀ v ∈ zs, 0 ≤ v ∧ v < rs.length) :
    Calls Tryd.prog 51 #[.agg #[.slice a rs.length c], .slice a' zs.length c'] w fun e w' => e = .returned (.bool b) ∧ Below w.heap.size w w' := by
  have RA := hid hr; have RZ := hid hz; have HB := hid hb; clear hr hz hb
  obtain ⟨w0, hw0⟩ : ∃ w0, w0 = (w.alloc (.cells #[.slice a rs.length c] 28)) := ⟨_, rfl⟩
  have B0 := hid (show Below w.heap.size w w0 by rw [hw0]; exact ((Below.refl _ _).alloc (Nat.le_refl _) _))
  have c0 : w0.cell? ⟨w.heap.size, 0, none⟩ = some (.slice a rs.length c) := by rw [hw0]; simp [go_sem]
  replace RA := hid (RA.out.below B0.out (Nat.le_refl _))
  replace RZ := hid (RZ.out.below B0.out (Nat.le_refl _))
  have HW := hid hw0; clear hw0
  have HFIN := hid (show ((missL (nums rs) zs : Int) == 0) = b by
    rw [← HB.out, Bool.eq_iff_iff, beq_iff_eq, decide_eq_true_iff]; omega)
  go_enter Tryd.func51, Tryd.ntmps51
  go_wp2_with fail
  rw [← HW.out]
  go_wp2_with fail
  refine (l7Missing_any a rs c a' zs c' _ RA.out hn RZ.out hm hin).mono ?_
  rintro e w1 ⟨rfl, hb⟩
  replace RA := hid (RA.out.below hb (Nat.le_refl _))
  replace RZ := hid (RZ.out.below hb (Nat.le_refl _))
  replace B0 := hid (bon B0.out hb)
  replace c0 := cellB hb c0 (Nat.le_refl _)
  clear hb
  generalize missL (nums rs) zs = M at *
  go_wp2
  go_ret
  exact ⟨ret_bool (by rw [← HFIN.out]), B0.out⟩
set_option maxHeartbeats 4000000 in
theorem specCliqueOk_b (a : Option Addr) (rs : List Row) (c : Nat) (a' : Option Addr) (zs : List Int) (c' : Nat) (w : World) (b : Bool) (hb : decide (CliqueP (nums rs) zs) = b) (hr : RdM w a rs) (hn : Small rs) (hz : Rd (Value.int .i64) w a' zs) (hm : zs.length ≤ 1048576) :
    Calls Tryd.prog 16 #[.agg #[.slice a rs.length c], .slice a' zs.length c'] w fun e w' => e = .returned (.bool b) ∧ Below w.heap.size w w' := by
  have RA := hid hr; have RZ := hid hz; have HB := hid hb; clear hr hz hb
  obtain ⟨w0, hw0⟩ : ∃ w0, w0 = (w.alloc (.cells #[.slice a rs.length c] 28)) := ⟨_, rfl⟩
  have B0 := hid (show Below w.heap.size w w0 by rw [hw0]; exact ((Below.refl _ _).alloc (Nat.le_refl _) _))
  have c0 : w0.cell? ⟨w.heap.size, 0, none⟩ = some (.slice a rs.length c) := by rw [hw0]; simp [go_sem]
  replace RA := hid (RA.out.below B0.out (Nat.le_refl _))
  replace RZ := hid (RZ.out.below B0.out (Nat.le_refl _))
  have HW := hid hw0; clear hw0
  by_cases hs : SetP (nums rs) zs
  · have h1 := hid (show decide (SetP (nums rs) zs) = true by simpa using hs)
    have h2 := hid (show decide (missL (nums rs) zs = 0) = b by
      rw [← HB.out]; unfold CliqueP; simp [hs])
    have HI := hid (show ∀ v ∈ zs, 0 ≤ v ∧ v < rs.length from fun v hv => by have := hs.2.1 v hv; rwa [nums_length] at this)
    have h16 := hs.len
    clear hs
    go_enter Tryd.func16, Tryd.ntmps16
    go_wp2_with fail
    rw [← HW.out]
    go_wp2_with fail
    refine (specSetOk_b a rs c a' zs c' _ _ h1.out RA.out hn RZ.out hm).mono ?_
    rintro e w1 ⟨rfl, hb⟩
    replace RA := hid (RA.out.below hb (Nat.le_refl _))
    replace RZ := hid (RZ.out.below hb (Nat.le_refl _))
    replace B0 := hid (bon B0.out hb)
    replace c0 := cellB hb c0 (Nat.le_refl _)
    clear hb
    go_wp2_with fail
    refine (l8Clique_b a rs c a' zs c' _ _ h2.out RA.out hn RZ.out h16 HI.out).mono ?_
    rintro e w2 ⟨rfl, hb⟩
    replace RA := hid (RA.out.below hb (Nat.le_refl _))
    replace RZ := hid (RZ.out.below hb (Nat.le_refl _))
    replace B0 := hid (bon B0.out hb)
    replace c0 := cellB hb c0 (Nat.le_refl _)
    clear hb
    go_wp2
    go_ret
    exact ⟨rfl, B0.out⟩
  · have h1 := hid (show decide (SetP (nums rs) zs) = false by simpa using hs)
    have HFIN := hid (show ¬ CliqueP (nums rs) zs from fun h => hs h.1)
    clear hs
    go_enter Tryd.func16, Tryd.ntmps16
    go_wp2_with fail
    rw [← HW.out]
    go_wp2_with fail
    refine (specSetOk_b a rs c a' zs c' _ _ h1.out RA.out hn RZ.out hm).mono ?_
    rintro e w3 ⟨rfl, hb⟩
    replace RA := hid (RA.out.below hb (Nat.le_refl _))
    replace RZ := hid (RZ.out.below hb (Nat.le_refl _))
    replace B0 := hid (bon B0.out hb)
    replace c0 := cellB hb c0 (Nat.le_refl _)
    clear hb
    go_wp2
    go_ret
    exact ⟨ret_bool (dec_f HB.out HFIN.out), B0.out⟩
theorem maskL_lt_len {n : Nat} {l : List Int} (h : Inc n l) : maskL l < 2 ^ n := maskL_lt l n (fun v hv => h.1 v hv)
theorem in16_of {g : List (List Int)} (h : GOk g) : ∀ x ∈ g.map maskL, x < 65536 := by
  intro x hx
  obtain ⟨l, hl, rfl⟩ := List.mem_map.1 hx
  obtain ⟨j, hj, rfl⟩ := List.mem_iff_getElem.1 hl
  have := row_mask_lt h j hj
  rwa [row_nat _ _ hj] at this
set_option maxHeartbeats 4000000 in
theorem implCliqueOk_b (a : Option Addr) (rs : List Row) (c : Nat) (a' : Option Addr) (zs : List Int) (c' : Nat) (w : World) (b : Bool) (hb : decide (CliqueP (nums rs) zs) = b) (hr : RdM w a rs) (hn : Small rs) (hz : Rd (Value.int .i64) w a' zs) (hm : zs.length ≤ 1048576) (hT : TabOk w) :
    Calls Tryd.prog 19 #[.agg #[.slice a rs.length c], .slice a' zs.length c'] w fun e w' => e = .returned (.bool b) ∧ Below w.heap.size w w' := by
  have RA := hid hr; have RZ := hid hz; have HB := hid hb; have RT := hid hT; clear hr hz hb hT
  obtain ⟨w0, hw0⟩ : ∃ w0, w0 = (w.alloc (.cells #[.slice a rs.length c] 28)) := ⟨_, rfl⟩
  have B0 := hid (show Below w.heap.size w w0 by rw [hw0]; exact ((Below.refl _ _).alloc (Nat.le_refl _) _))
  have c0 : w0.cell? ⟨w.heap.size, 0, none⟩ = some (.slice a rs.length c) := by rw [hw0]; simp [go_sem]
  replace RA := hid (RA.out.below B0.out (Nat.le_refl _))
  replace RZ := hid (RZ.out.below B0.out (Nat.le_refl _))
  replace RT := hid (RT.out.below B0.out (Nat.le_refl _))
  have HW := hid hw0; clear hw0
  by_cases hs : SetP (nums rs) zs
  · have h1 := hid (show decide (SetP (nums rs) zs) = true by simpa using hs)
    have HS := hid hs
    have hV := hid (show ∀ v ∈ zs, 0 ≤ v ∧ v < 16 from fun v hv => by have := hs.2.1 v hv; have := hs.1.le; omega)
    have hml := hid (show maskL zs < 2 ^ ((nums rs).map maskL).length by rw [List.length_map]; exact maskL_lt_len hs.2)
    have hlen := hid (show ((nums rs).map maskL).length ≤ 16 by rw [List.length_map]; exact hs.1.le)
    have HFIN := hid (show ((missM ((nums rs).map maskL) (maskL zs) : Int) == 0) = b by
      rw [miss_eq hs.1 hs.2, ← HB.out, Bool.eq_iff_iff, beq_iff_eq, decide_eq_true_iff]
      unfold CliqueP
      constructor
      · intro h; exact ⟨hs, by omega⟩
      · intro h; have := h.2; omega)
    clear hs
    go_enter Tryd.func19, Tryd.ntmps19
    go_wp2_with fail
    rw [← HW.out]
    go_wp2_with fail
    refine (implSetOk_b a rs c a' zs c' _ _ h1.out RA.out hn RZ.out hm).mono ?_
    rintro e w1 ⟨rfl, hb⟩
    replace RA := hid (RA.out.below hb (Nat.le_refl _))
    replace RZ := hid (RZ.out.below hb (Nat.le_refl _))
    replace RT := hid (RT.out.below hb (Nat.le_refl _))
    replace B0 := hid (bon B0.out hb)
    replace c0 := cellB hb c0 (Nat.le_refl _)
    clear hb
    go_wp2_with fail
    refine (netsOf_any a rs c _ HS.out.1 RA.out hn).mono ?_
    rintro e w2 ⟨v, rfl, hown, hb⟩
    replace RA := hid (RA.out.below hb (Nat.le_refl _))
    replace RZ := hid (RZ.out.below hb (Nat.le_refl _))
    replace RT := hid (RT.out.below hb (Nat.le_refl _))
    replace B0 := hid (bon B0.out hb)
    replace c0 := cellB hb c0 (Nat.le_refl _)
    clear hb
    obtain ⟨na, nc, rfl, hsr, _, _, _, _⟩ := Own.rd (f := netF) hown
    have RN := hid hsr.masks; clear hown hsr
    go_wp2_with (first | (go_at_call 55; refine (maskOf_any _ _ _ _ RZ.out hm hV.out).mono ?_; rintro e w' ⟨rfl, rfl⟩))
    have hq := missing_any na ((nums rs).map maskL) nc (maskL zs) _ RT.out RN.out (in16_of HS.out.1) hlen.out hml.out
    rw [List.length_map] at hq
    refine hq.mono ?_
    rintro e w' ⟨rfl, hb⟩
    have B1 := hid (bon B0.out hb)
    generalize missM ((nums rs).map maskL) (maskL zs) = M at *
    go_wp2
    go_ret
    exact ⟨ret_bool (by rw [← HFIN.out]), B1.out⟩
  · have h1 := hid (show decide (SetP (nums rs) zs) = false by simpa using hs)
    have HFIN := hid (show ¬ CliqueP (nums rs) zs from fun h => hs h.1)
    clear hs
    go_enter Tryd.func19, Tryd.ntmps19
    go_wp2_with fail
    rw [← HW.out]
    go_wp2_with fail
    refine (implSetOk_b a rs c a' zs c' _ _ h1.out RA.out hn RZ.out hm).mono ?_
    rintro e w3 ⟨rfl, hb⟩
    replace RA := hid (RA.out.below hb (Nat.le_refl _))
    replace RZ := hid (RZ.out.below hb (Nat.le_refl _))
    replace RT := hid (RT.out.below hb (Nat.le_refl _))
    replace B0 := hid (bon B0.out hb)
    replace c0 := cellB hb c0 (Nat.le_refl _)
    clear hb
    go_wp2
    go_ret
    exact ⟨ret_bool (dec_f HB.out HFIN.out), B0.out⟩
end Go.Proofs.YtlnhfafnhclolaaDoor
