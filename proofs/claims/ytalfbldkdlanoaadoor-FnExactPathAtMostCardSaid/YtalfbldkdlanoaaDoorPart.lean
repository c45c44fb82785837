/- The part of a set in which a vertex is: the reference's; connected sets. -/
import Derived.Test.YtalfbldkdlanoaaDoorFar
namespace Go.Proofs.YtalfbldkdlanoaaDoor
open Go.RowKit
/-- Whom a vertex leads to, in order. -/
noncomputable def partTo (g : List (List Int)) (ins : List Int) (v : Int) (k : Nat) : List Int := ((List.range k).filter fun u => decide (0 ≤ (fromL g ins v).getD u 0)).map fun u : Nat => (u : Int)
theorem partTo_succ (g : List (List Int)) (ins : List Int) (v : Int) (k : Nat) : partTo g ins v (k + 1) = partTo g ins v k ++ if 0 ≤ (fromL g ins v).getD k 0 then [(k : Int)] else [] := by
  unfold partTo
  rw [List.range_succ, List.filter_append, List.map_append]
  by_cases h : 0 ≤ (fromL g ins v).getD k 0
  · rw [if_pos h, List.filter_cons_of_pos (by rw [decide_eq_true_iff]; exact h)]; rfl
  · rw [if_neg h, List.filter_cons_of_neg (by rw [decide_eq_true_iff]; exact h)]; rfl
theorem partTo_len (g : List (List Int)) (ins : List Int) (v : Int) (k : Nat) : (partTo g ins v k).length ≤ k := by
  have := List.length_filter_le (fun u => decide (0 ≤ (fromL g ins v).getD u 0)) (List.range k)
  simpa [partTo] using this
theorem fromL_len (g : List (List Int)) (ins : List Int) (v : Int) : (fromL g ins v).length = g.length := by
  unfold fromL; split
  · exact farL_len _ _ _
  · simp
noncomputable def partL (g : List (List Int)) (ins : List Int) (v : Int) : List Int := partTo g ins v g.length
set_option maxHeartbeats 4000000 in
theorem l3Part_any (a : Option Addr) (rs : List Row) (c : Nat) (v : Nat) (a2 : Option Addr) (ys : List Int) (c2 : Nat) (w : World) (hg : GOk (nums rs)) (hr : RdM w a rs) (hn : Small rs) (hy : Rd (Value.int .i64) w a2 ys) (hm2 : ys.length ≤ 1048576) (hv : v < rs.length) :
    Calls Tryd.prog 161 #[.agg #[.slice a rs.length c], .int .i64 v, .slice a2 ys.length c2] w (RetOwn 2 ((partL (nums rs) ys v).map (.int .i64)) w) := by
  have RA := hid hr; have RY := hid hy; have HG := hid hg; clear hr hy hg
  have hn1 := hn.1
  have h16 : rs.length ≤ 16 := by have := HG.out.le; rwa [nums_length] at this
  obtain ⟨w0, hw0⟩ : ∃ w0, w0 = (w.alloc (.cells #[.slice a rs.length c] 29)) := ⟨_, rfl⟩
  have B0 := hid (show Below w.heap.size w w0 by rw [hw0]; exact ((Below.refl _ _).alloc (Nat.le_refl _) _))
  have c0 : w0.cell? ⟨w.heap.size, 0, none⟩ = some (.slice a rs.length c) := by rw [hw0]; simp [go_sem]
  replace RA := hid (RA.out.below B0.out (Nat.le_refl _))
  replace RY := hid (RY.out.below B0.out (Nat.le_refl _))
  have HW := hid hw0; clear hw0
  have hsz : w0.heap.size = w.heap.size + 1 := by rw [HW.out]; simp
  go_enter Tryd.func161, Tryd.ntmps161
  go_wp2_with fail
  rw [← HW.out]
  go_wp2_with fail
  refine (l3From_any a rs c v a2 ys c2 _ HG.out RA.out hn RY.out hm2 hv).mono ?_
  rintro e w1 ⟨v0, rfl, hown, hb⟩
  replace RA := hid (RA.out.below hb (Nat.le_refl _))
  replace RY := hid (RY.out.below hb (Nat.le_refl _))
  replace B0 := hid (bon B0.out hb)
  replace c0 := cellB hb c0 (Nat.le_refl _)
  clear hb
  obtain ⟨fa, fc, rfl, hfr, _⟩ := hown.rd
  have RF := hid hfr; clear hown hfr
  have hfl : (fromL (nums rs) ys (v : Int)).length = rs.length := by rw [fromL_len, nums_length]
  have HO := hid (show Own 2 (w1.alloc (.cells #[] 2)) w1.heap.size (.slice (some ⟨w1.heap.size, 0, none⟩) 0 0) [] from own_new 2 w1 [] (by decide))
  have HE0 := hid (alloc_below w1 (.cells #[] 2))
  have hB1 := B0.out.size
  rw [hfl]
  go_wp2
  go_loopw [8, 9] (fun o x wr => ∃ k : Nat, k ≤ rs.length ∧ x = .int .i64 k ∧ Own 2 wr w1.heap.size o ((partTo (nums rs) ys v k).map (.int .i64)) ∧ Below w1.heap.size w1 wr) (fun _ x _ => rs.length - (intOf x).toNat)
  case atStart => exact ⟨0, Nat.zero_le _, rfl, HO.out, HE0.out⟩
  case round =>
    obtain ⟨k, hk, rfl, ho, hb⟩ := hrel
    have OM := hid ho; have LB := hid hb; clear ho hb
    by_cases hlt : k < rs.length
    · have hki : (k : Int) < (rs.length : Int) := by omega
      obtain ⟨b', o, rfl, cf⟩ := (RF.out.below LB.out (Nat.le_refl _)) k (by omega)
      have HS := hid (partTo_succ (nums rs) ys v k)
      have hpl := partTo_len (nums rs) ys v k
      have hsz1 := LB.out.size
      rw [← getD_eq _ k (by omega)] at cf
      generalize (fromL (nums rs) ys (v : Int)).getD k 0 = d at *
      by_cases hd : 0 ≤ d
      · have d1 : decide (0 ≤ d) = true := by simpa using hd
        have HS2 := hid (show (partTo (nums rs) ys v (k + 1)).map (Value.int .i64) = (partTo (nums rs) ys v k).map (Value.int .i64) ++ [.int .i64 (k : Int)] by
          rw [HS.out, if_pos hd, List.map_append]; rfl)
        have hxl : ((partTo (nums rs) ys v k).map (Value.int .i64)).length ≤ 16 := by rw [List.length_map]; omega
        clear hd
        generalize (partTo (nums rs) ys v k).map (Value.int .i64) = XS at *
        go_wp2_with (at_builtin; refine law_push tI64 _ rfl _ _ rfl w1.heap.size _ XS rfl OM.out _ _ rfl ?c0 rfl ?c1 ?c2 ?_)
        case c0 => simp
        case c1 => omega
        case c2 => exact hsz1
        intro v' w' h1 h2
        have HN := hid h1
        have HBB := hid (LB.out.trans (grown_below h2 hsz1 (fun g hg => OM.out.ge g hg)))
        clear h1 h2
        go_wp2
        go_roundw
        case rel => exact ⟨k + 1, by omega, by go_num, by rw [HS2.out]; exact HN.out, HBB.out⟩
        case measure => simp [intOf]; omega
      · have d1 : decide (0 ≤ d) = false := by simpa using hd
        have HS2 := hid (show partTo (nums rs) ys v (k + 1) = partTo (nums rs) ys v k by rw [HS.out, if_neg hd, List.append_nil])
        clear hd
        go_wp2
        go_roundw
        case rel => exact ⟨k + 1, by omega, by go_num, by rw [HS2.out]; exact OM.out, LB.out⟩
        case measure => simp [intOf]; omega
    · obtain rfl : k = rs.length := by omega
      have HFIN := hid (show partTo (nums rs) ys v rs.length = partL (nums rs) ys v by unfold partL; rw [nums_length])
      rw [HFIN.out] at OM
      go_wp2
      go_ret
      exact ⟨_, rfl, OM.out.base hB1, B0.out.trans (LB.out.mono hB1)⟩
/-- A set that is not empty, all of which its first member leads to. -/
def ConnP (g : List (List Int)) (s : List Int) : Prop := s ≠ [] ∧ ∀ u ∈ s, ∃ d, Ball g s (s.getD 0 0) d u
noncomputable instance (g : List (List Int)) (s : List Int) : Decidable (ConnP g s) := Classical.propDecidable _
theorem ball_in {g : List (List Int)} {s : List Int} {v : Int} (hv : v ∈ s) {d : Nat} {u : Int} (h : Ball g s v d u) : u ∈ s := by
  induction d generalizing u with
  | zero => have e : u = v := h
            rw [e]; exact hv
  | succ d ih =>
    rcases h with h1 | ⟨h1, _⟩
    · exact ih h1
    · exact h1
/-- As many as the set has: all. -/
theorem conn_len {g : List (List Int)} {s : List Int} (hs : SetP g s) (h0 : s ≠ []) : (partL g s (s.getD 0 0)).length = s.length ↔ ConnP g s := by
  have hpos : 0 < s.length := List.length_pos_iff.2 h0
  have hv : s.getD 0 0 ∈ s := by rw [getD_eq s 0 hpos]; exact List.getElem_mem hpos
  generalize hv0 : s.getD 0 0 = v at *
  have hF : fromL g s v = farL g s v := by unfold fromL; rw [if_pos hv]
  have hmem : ∀ x, x ∈ partL g s v ↔ ∃ u : Nat, x = u ∧ u < g.length ∧ ∃ d, Ball g s v d (u : Int) := by
    intro x
    unfold partL partTo
    rw [List.mem_map]
    constructor
    · rintro ⟨u, hu, rfl⟩
      rw [List.mem_filter, List.mem_range, decide_eq_true_iff, hF] at hu
      refine ⟨u, rfl, hu.1, ?_⟩
      have h1 := hu.2
      rw [getD_eq _ u (by rw [farL_len]; exact hu.1)] at h1
      have e : (farL g s v)[u]'(by rw [farL_len]; exact hu.1) = far g s v (u : Int) := by simp [farL]
      rw [e] at h1
      exact far_nonneg.1 h1
    · rintro ⟨u, rfl, hu, hd⟩
      refine ⟨u, ?_, rfl⟩
      rw [List.mem_filter, List.mem_range, decide_eq_true_iff, hF]
      refine ⟨hu, ?_⟩
      rw [getD_eq _ u (by rw [farL_len]; exact hu)]
      have e : (farL g s v)[u]'(by rw [farL_len]; exact hu) = far g s v (u : Int) := by simp [farL]
      rw [e]
      exact far_nonneg.2 hd
  have hnd : (partL g s v).Nodup := by
    unfold partL partTo
    rw [List.Nodup, List.pairwise_map]
    refine List.Pairwise.imp ?_ (List.nodup_range.filter _)
    intro a b hab e; exact hab (by omega)
  have hsd : s.Nodup := List.Pairwise.imp (fun h => by omega) hs.2.2
  have hsub : partL g s v ⊆ s := fun x hx => by
    obtain ⟨u, rfl, _, d, hd⟩ := (hmem x).1 hx
    exact ball_in hv hd
  constructor
  · intro hl
    refine ⟨h0, fun u hu => ?_⟩
    rw [hv0]
    apply Classical.byContradiction
    intro hn
    have hu0 := hs.2.1 u hu
    obtain ⟨m, rfl⟩ := Int.eq_ofNat_of_zero_le hu0.1
    have hnp : (m : Int) ∉ partL g s v := fun h => by
      obtain ⟨k, e, _, hd⟩ := (hmem _).1 h
      rw [e] at hn; exact hn hd
    have hsub2 : partL g s v ⊆ s.erase (m : Int) := fun x hx => by
      rw [List.mem_erase_of_ne (fun e => hnp (by rw [← e]; exact hx))]
      exact hsub hx
    have h1 := hnd.length_le_of_subset hsub2
    rw [List.length_erase_of_mem hu] at h1
    omega
  · intro h
    have h1 := hnd.length_le_of_subset hsub
    have h2 := hsd.length_le_of_subset (l₂ := partL g s v) (fun x hx => by
      have hx0 := hs.2.1 x hx
      obtain ⟨m, rfl⟩ := Int.eq_ofNat_of_zero_le hx0.1
      have := h.2 _ hx
      rw [hv0] at this
      exact (hmem _).2 ⟨m, rfl, by omega, this⟩)
    omega
end Go.Proofs.YtalfbldkdlanoaaDoor
