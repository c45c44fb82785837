/- An order of the vertices: plain. · OrderOk: both. -/
import Derived.Test.YtdncmloajajiaaaDoorMask
import Derived.Test.YtdncmloajajiaaaDoorGOk
import Derived.Test.YtdncmloajajiaaaDoorSetOk
import Derived.Test.YtdncmloajajiaaaDoorLoopS
import Derived.Test.YtdncmloajajiaaaDoorEdges
namespace Go.Proofs.YtdncmloajajiaaaDoor
open Go.RowKit
section
/-- zs has each of its numbers once, all from 0 to n - 1. -/
def Ord (n : Nat) (zs : List Int) : Prop := (∀ x ∈ zs, 0 ≤ x ∧ x < (n : Int)) ∧ zs.Nodup
instance (n : Nat) (zs : List Int) : Decidable (Ord n zs) := by unfold Ord; infer_instance
theorem ord_take {n : Nat} {zs : List Int} (h : Ord n zs) (k : Nat) : Ord n (zs.take k) := ⟨fun x hx => h.1 x (List.mem_of_mem_take hx), h.2.sublist (List.take_sublist k zs)⟩
theorem ord_succ {n : Nat} {zs : List Int} {k : Nat} (hk : k < zs.length) (h : Ord n (zs.take k)) (h1 : 0 ≤ zs[k] ∧ zs[k] < (n : Int)) (h2 : zs[k] ∉ zs.take k) : Ord n (zs.take (k + 1)) := by
  rw [List.take_succ_eq_append_getElem hk]
  refine ⟨fun x hx => ?_, ?_⟩
  · rcases List.mem_append.1 hx with h3 | h3
    · exact h.1 x h3
    · simp at h3; subst h3; exact h1
  · rw [List.nodup_append]
    refine ⟨h.2, by simp, ?_⟩
    intro x hx y hy e
    simp at hy; subst hy; subst e
    exact h2 hx
theorem ord_inv {n : Nat} {zs : List Int} {k : Nat} (hk : k < zs.length) (h : Ord n zs) : (0 ≤ zs[k] ∧ zs[k] < (n : Int)) ∧ zs[k] ∉ zs.take k := by
  refine ⟨h.1 _ (List.getElem_mem hk), fun hm => ?_⟩
  have h2 := (ord_take h (k + 1)).2
  rw [List.take_succ_eq_append_getElem hk, List.nodup_append] at h2
  exact h2.2.2 _ hm _ (by simp) rfl
/-- Sorted, such a list rises. -/
theorem ord_sorted (n : Nat) (zs : List Int) : Inc n (zs.mergeSort fun x y => decide (x ≤ y)) ↔ Ord n zs := by
  have hp : (zs.mergeSort fun x y => decide (x ≤ y)).Perm zs := List.mergeSort_perm _ _
  have hs : (zs.mergeSort fun x y => decide (x ≤ y)).Pairwise (fun x y => decide (x ≤ y) = true) := List.pairwise_mergeSort (fun a b c h1 h2 => by simp at *; omega) (fun a b => by simp; omega) zs
  constructor
  · intro h
    refine ⟨fun x hx => h.1 x (hp.mem_iff.2 hx), hp.nodup_iff.1 (h.2.imp fun {a b} hab => by omega)⟩
  · intro h
    refine ⟨fun x hx => h.1 x (hp.mem_iff.1 hx), ?_⟩
    have hn : (zs.mergeSort fun x y => decide (x ≤ y)).Nodup := hp.nodup_iff.2 h.2
    exact List.Pairwise.imp₂ (fun {a b} h1 h2 => by simp at h1; omega) hs hn
/-- order is an order of the graph's vertices. -/
def OrdP (g : List (List Int)) (zs : List Int) : Prop := GOk g ∧ zs.length = g.length ∧ Ord g.length zs
noncomputable instance (g : List (List Int)) (zs : List Int) : Decidable (OrdP g zs) := Classical.propDecidable _
theorem ordP_iff {g : List (List Int)} {zs : List Int} {n : Nat} (hn : g.length = n) (hg : GOk g) (hl : zs.length = n) : OrdP g zs ↔ Ord n zs := by
  subst hn
  exact ⟨fun h => h.2.2, fun h => ⟨hg, hl, h⟩⟩
end
section
set_option maxHeartbeats 2000000 in
theorem l1Order_b (a : Option Addr) (rs : List Row) (c : Nat) (a' : Option Addr) (zs : List Int) (c' : Nat) (w : World) (b : Bool) (hb : decide (zs.length = rs.length ∧ Ord rs.length zs) = b) (hr : RdM w a rs) (hn : Small rs) (hz : Rd (Value.int .i64) w a' zs) (hm : zs.length ≤ 1048576) (hc' : zs.length ≤ c') :
    Calls Tryd.prog 59 #[.agg #[.slice a rs.length c], .slice a' zs.length c'] w fun e w' => e = .returned (.bool b) ∧ Below w.heap.size w w' := by
  have RA := hid hr; have RZ := hid hz; have HB := hid hb; clear hr hz hb
  obtain ⟨w0, hw0⟩ : ∃ w0, w0 = (w.alloc (.cells #[.slice a rs.length c] 29)) := ⟨_, rfl⟩
  have B0 := hid (show Below w.heap.size w w0 by rw [hw0]; exact ((Below.refl _ _).alloc (Nat.le_refl _) _))
  have c0 : w0.cell? ⟨w.heap.size, 0, none⟩ = some (.slice a rs.length c) := by rw [hw0]; simp [go_sem]
  replace RA := hid (RA.out.below B0.out (Nat.le_refl _))
  replace RZ := hid (RZ.out.below B0.out (Nat.le_refl _))
  have HW := hid hw0; clear hw0
  have BL := hid (Below.refl w0.heap.size w0)
  by_cases hlen : zs.length = rs.length
  · have hl0 : (((zs.length : Nat) : Int) != ((rs.length : Nat) : Int)) = false := by simp [hlen]
    have HLE := hid hlen; clear hlen
    go_enter Tryd.func59, Tryd.ntmps59
    go_wp2_with fail
    rw [← HW.out]
    refine (l1Size_any a rs c _ hn.1).mono ?_
    rintro e w1 ⟨rfl, hb⟩
    replace RA := hid (RA.out.below hb (Nat.le_refl _))
    replace RZ := hid (RZ.out.below hb (Nat.le_refl _))
    replace B0 := hid (bon B0.out hb)
    replace BL := hid (bon BL.out hb)
    replace c0 := cellB hb c0 (Nat.le_refl _)
    clear hb
    go_wp2
    have BL0 := hid BL.out; have RA0 := hid RA.out; have RZ0 := hid RZ.out; have B00 := hid B0.out; have c00 := hid c0
    go_loopw [5] (fun i wr => ∃ k : Nat, k ≤ zs.length ∧ i = .int .i64 k ∧ Ord rs.length (zs.take k) ∧ Below w1.heap.size w1 wr) (fun i _ => zs.length - (intOf i).toNat)
    case atStart => exact ⟨0, Nat.zero_le _, rfl, ⟨fun x h => (by cases h), .nil⟩, Below.refl _ _⟩
    case round =>
      clear BL RA RZ B0 c0
      obtain ⟨k, hk, rfl, ht, hd⟩ := hrel
      have HT := hid ht; clear ht
      have BL := hid hd
      have RA := hid (RA0.out.below hd (Nat.le_refl _)); have RZ := hid (RZ0.out.below hd (Nat.le_refl _)); have B0 := hid (bon B00.out hd); have c0 := cellB hd c00.out (Nat.le_refl _)
      clear hd
      by_cases hlt : k < zs.length
      · obtain ⟨b', off, rfl, hc⟩ := RZ.out k hlt
        have hi0 : (k : Int) < (zs.length : Int) := by omega
        have HSUC := hid (fun h1 h2 => ord_succ hlt HT.out h1 h2)
        have HINV := hid (fun hh : Ord rs.length zs => ord_inv hlt hh)
        have chc := hc; clear hc
        by_cases hin : 0 ≤ zs[k] ∧ zs[k] < (rs.length : Int)
        · have HIN := hid (show decide (0 ≤ zs[k] ∧ zs[k] < (rs.length : Int)) = true by simpa using hin)
          have HI := hid hin; clear hin
          by_cases hmem : zs[k] ∈ zs.take k
          · have HM := hid (show decide (zs[k] ∈ zs.take k) = true by simpa using hmem)
            have HFIN := hid (show ¬ (zs.length = rs.length ∧ Ord rs.length zs) from fun hh => (HINV.out hh.2).2 hmem)
            clear hmem
            go_wp2
            have qc0 := fun (p : Bel _) => cellB p.h c0 (Nat.le_refl _)
            have qchc := fun (p : Bel _) => cellB p.h chc (Nat.le_refl _)
            refine wp_quiet_b (by kernel_rfl) (by kernel_rfl) ?_
            repeat (go_big_quiet_step (first | (go_at_call 43; exact qb (l1There_b _ _ _ _ _ _ HIN.out hn.1)) | (go_at_call 70; exact qbs (l1Has_take _ _ _ _ _ _ _ hk HM.out (RZ.out.bel _) (by omega)))))
            refine wpQuiet_nil ?_
            intro _ hw'
            obtain ⟨⟨w1, hb⟩, rfl⟩ := hw'
            clear qc0 qchc
            replace RA := hid (RA.out.below hb (Nat.le_refl _))
            replace RZ := hid (RZ.out.below hb (Nat.le_refl _))
            replace B0 := hid (bon B0.out hb)
            replace BL := hid (bon BL.out hb)
            replace c0 := cellB hb c0 (Nat.le_refl _)
            replace chc := cellB hb chc (Nat.le_refl _)
            clear hb
            go_wp2
            go_ret
            exact ⟨ret_bool (dec_f HB.out HFIN.out), B0.out⟩
          · have HM := hid (show decide (zs[k] ∈ zs.take k) = false by simpa using hmem)
            have HS2 := hid (HSUC.out HI.out hmem)
            clear hmem
            go_wp2
            have qc0 := fun (p : Bel _) => cellB p.h c0 (Nat.le_refl _)
            have qchc := fun (p : Bel _) => cellB p.h chc (Nat.le_refl _)
            refine wp_quiet_b (by kernel_rfl) (by kernel_rfl) ?_
            repeat (go_big_quiet_step (first | (go_at_call 43; exact qb (l1There_b _ _ _ _ _ _ HIN.out hn.1)) | (go_at_call 70; exact qbs (l1Has_take _ _ _ _ _ _ _ hk HM.out (RZ.out.bel _) (by omega)))))
            refine wpQuiet_nil ?_
            intro _ hw'
            obtain ⟨⟨w2, hb⟩, rfl⟩ := hw'
            clear qc0 qchc
            replace RA := hid (RA.out.below hb (Nat.le_refl _))
            replace RZ := hid (RZ.out.below hb (Nat.le_refl _))
            replace B0 := hid (bon B0.out hb)
            replace BL := hid (bon BL.out hb)
            replace c0 := cellB hb c0 (Nat.le_refl _)
            replace chc := cellB hb chc (Nat.le_refl _)
            clear hb
            go_wp2
            go_roundw
            case rel => exact ⟨k + 1, by omega, by go_num, HS2.out, BL.out⟩
            case measure => simp [intOf]; omega
        · have HIN := hid (show decide (0 ≤ zs[k] ∧ zs[k] < (rs.length : Int)) = false by simpa using hin)
          have HFIN := hid (show ¬ (zs.length = rs.length ∧ Ord rs.length zs) from fun hh => hin (HINV.out hh.2).1)
          clear hin
          go_wp2
          have qc0 := fun (p : Bel _) => cellB p.h c0 (Nat.le_refl _)
          have qchc := fun (p : Bel _) => cellB p.h chc (Nat.le_refl _)
          refine wp_quiet_b (by kernel_rfl) (by kernel_rfl) ?_
          repeat (go_big_quiet_step (first | (go_at_call 43; exact qb (l1There_b _ _ _ _ _ _ HIN.out hn.1)) | (go_at_call 70; exact qbs (l1Has_take _ _ _ _ _ _ _ hk rfl (RZ.out.bel _) (by omega)))))
          refine wpQuiet_nil ?_
          intro _ hw'
          obtain ⟨⟨w3, hb⟩, rfl⟩ := hw'
          clear qc0 qchc
          replace RA := hid (RA.out.below hb (Nat.le_refl _))
          replace RZ := hid (RZ.out.below hb (Nat.le_refl _))
          replace B0 := hid (bon B0.out hb)
          replace BL := hid (bon BL.out hb)
          replace c0 := cellB hb c0 (Nat.le_refl _)
          replace chc := cellB hb chc (Nat.le_refl _)
          clear hb
          go_wp2
          go_ret
          exact ⟨ret_bool (dec_f HB.out HFIN.out), B0.out⟩
      · obtain rfl : k = zs.length := by omega
        have HF := hid (show zs.length = rs.length ∧ Ord rs.length zs from ⟨HLE.out, by have := HT.out; rwa [List.take_length] at this⟩)
        go_wp2
        go_ret
        exact ⟨ret_bool (by rw [← HB.out]; simp [HF.out.1, HF.out.2]), B0.out⟩
  · have hl0 : (((zs.length : Nat) : Int) != ((rs.length : Nat) : Int)) = true := by simp; omega
    have HFIN := hid (show ¬ (zs.length = rs.length ∧ Ord rs.length zs) from fun hh => hlen hh.1)
    clear hlen
    go_enter Tryd.func59, Tryd.ntmps59
    go_wp2_with fail
    rw [← HW.out]
    refine (l1Size_any a rs c _ hn.1).mono ?_
    rintro e w1 ⟨rfl, hb⟩
    replace RA := hid (RA.out.below hb (Nat.le_refl _))
    replace RZ := hid (RZ.out.below hb (Nat.le_refl _))
    replace B0 := hid (bon B0.out hb)
    replace BL := hid (bon BL.out hb)
    replace c0 := cellB hb c0 (Nat.le_refl _)
    clear hb
    go_wp2
    go_ret
    exact ⟨ret_bool (dec_f HB.out HFIN.out), B0.out⟩
set_option maxHeartbeats 2000000 in
theorem specOrderOk_b (a : Option Addr) (rs : List Row) (c : Nat) (a' : Option Addr) (zs : List Int) (c' : Nat) (w : World) (b : Bool) (hb : decide (OrdP (nums rs) zs) = b) (hr : RdM w a rs) (hn : Small rs) (hz : Rd (Value.int .i64) w a' zs) (hm : zs.length ≤ 1048576) (hc' : zs.length ≤ c') :
    Calls Tryd.prog 23 #[.agg #[.slice a rs.length c], .slice a' zs.length c'] w fun e w' => e = .returned (.bool b) ∧ Below w.heap.size w w' := by
  have RA := hid hr; have RZ := hid hz; have HB := hid hb; clear hr hz hb
  obtain ⟨w0, hw0⟩ : ∃ w0, w0 = (w.alloc (.cells #[.slice a rs.length c] 29)) := ⟨_, rfl⟩
  have B0 := hid (show Below w.heap.size w w0 by rw [hw0]; exact ((Below.refl _ _).alloc (Nat.le_refl _) _))
  have c0 : w0.cell? ⟨w.heap.size, 0, none⟩ = some (.slice a rs.length c) := by rw [hw0]; simp [go_sem]
  replace RA := hid (RA.out.below B0.out (Nat.le_refl _))
  replace RZ := hid (RZ.out.below B0.out (Nat.le_refl _))
  have HW := hid hw0; clear hw0
  by_cases hg : GOk (nums rs)
  · have h1 := hid (show decide (GOk (nums rs)) = true by simpa using hg)
    have HG := hid hg; clear hg
    obtain ⟨b2, hb2⟩ : ∃ b2, decide (zs.length = rs.length ∧ Ord rs.length zs) = b2 := ⟨_, rfl⟩
    have H2 := hid hb2; clear hb2
    go_enter Tryd.func23, Tryd.ntmps23
    go_wp2_with fail
    rw [← HW.out]
    refine (specGraphOk_b a rs c _ true h1.out RA.out hn).mono ?_
    rintro e w1 ⟨rfl, hb⟩
    replace RA := hid (RA.out.below hb (Nat.le_refl _))
    replace RZ := hid (RZ.out.below hb (Nat.le_refl _))
    replace B0 := hid (bon B0.out hb)
    replace c0 := cellB hb c0 (Nat.le_refl _)
    clear hb
    go_wp2_with fail
    refine (l1Order_b a rs c a' zs c' _ b2 H2.out RA.out hn RZ.out hm hc').mono ?_
    rintro e w2 ⟨rfl, hb⟩
    replace RA := hid (RA.out.below hb (Nat.le_refl _))
    replace RZ := hid (RZ.out.below hb (Nat.le_refl _))
    replace B0 := hid (bon B0.out hb)
    replace c0 := cellB hb c0 (Nat.le_refl _)
    clear hb
    go_wp2
    go_ret
    refine ⟨ret_bool ?_, B0.out⟩
    rw [← HB.out, ← H2.out]
    unfold OrdP
    simp [HG.out, nums_length]
  · have h1 := hid (show decide (GOk (nums rs)) = false by simpa using hg)
    have HG := hid hg; clear hg
    go_enter Tryd.func23, Tryd.ntmps23
    go_wp2_with fail
    rw [← HW.out]
    refine (specGraphOk_b a rs c _ false h1.out RA.out hn).mono ?_
    rintro e w1 ⟨rfl, hb⟩
    replace RA := hid (RA.out.below hb (Nat.le_refl _))
    replace RZ := hid (RZ.out.below hb (Nat.le_refl _))
    replace B0 := hid (bon B0.out hb)
    replace c0 := cellB hb c0 (Nat.le_refl _)
    clear hb
    go_wp2
    go_ret
    exact ⟨ret_bool (dec_f HB.out fun h => HG.out h.1), B0.out⟩
end
end Go.Proofs.YtdncmloajajiaaaDoor
