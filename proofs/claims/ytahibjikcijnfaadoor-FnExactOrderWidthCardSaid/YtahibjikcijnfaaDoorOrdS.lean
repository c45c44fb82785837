/- OrderOk: both. -/
import Derived.Test.YtahibjikcijnfaaDoorSetOk
import Derived.Test.YtahibjikcijnfaaDoorLoopS
import Derived.Test.YtahibjikcijnfaaDoorOrdM
import Derived.Test.YtahibjikcijnfaaDoorSeqL
namespace Go.Proofs.YtahibjikcijnfaaDoor
open Go.RowKit
set_option maxHeartbeats 2000000 in
theorem l1Order_b (a : Option Addr) (rs : List Row) (c : Nat) (a' : Option Addr) (zs : List Int) (c' : Nat) (w : World) (b : Bool) (hb : decide (zs.length = rs.length ∧ Ord rs.length zs) = b) (hr : RdM w a rs) (hn : Small rs) (hz : Rd (Value.int .i64) w a' zs) (hm : zs.length ≤ 1048576) (hc' : zs.length ≤ c') :
    Calls Tryd.prog 122 #[.agg #[.slice a rs.length c], .slice a' zs.length c'] w fun e w' => e = .returned (.bool b) ∧ Below w.heap.size w w' := by
  have RA := hid hr; have RZ := hid hz; have HB := hid hb; clear hr hz hb
  obtain ⟨w0, hw0⟩ : ∃ w0, w0 = (w.alloc (.cells #[.slice a rs.length c] 28)) := ⟨_, rfl⟩
  have B0 := hid (show Below w.heap.size w w0 by rw [hw0]; exact ((Below.refl _ _).alloc (Nat.le_refl _) _))
  have c0 : w0.cell? ⟨w.heap.size, 0, none⟩ = some (.slice a rs.length c) := by rw [hw0]; simp [go_sem]
  replace RA := hid (RA.out.below B0.out (Nat.le_refl _))
  replace RZ := hid (RZ.out.below B0.out (Nat.le_refl _))
  have HW := hid hw0; clear hw0
  have BL := hid (Below.refl w0.heap.size w0)
  by_cases hlen : zs.length = rs.length
  · have hl0 : (((zs.length : Nat) : Int) != ((rs.length : Nat) : Int)) = false := by simp [hlen]
    have HLE := hid hlen; clear hlen
    go_enter Tryd.func122, Tryd.ntmps122
    go_wp2_with fail
    rw [← HW.out]
    refine (l1Size_any a rs c _ hn.1).mono ?_
    rintro e w1 ⟨rfl, hb⟩
    replace RA := hid (RA.out.below hb (Nat.le_refl _))
    replace RZ := hid (RZ.out.below hb (Nat.le_refl _))
    replace B0 := hid (bon B0.out hb)
    replace BL := hid (bon BL.out hb)
    replace c0 := cellB hb c0 (Nat.le_refl _)
    clear hb
    go_wp2
    have BL0 := hid BL.out; have RA0 := hid RA.out; have RZ0 := hid RZ.out; have B00 := hid B0.out; have c00 := hid c0
    go_loopw [5] (fun i wr => ∃ k : Nat, k ≤ zs.length ∧ i = .int .i64 k ∧ Ord rs.length (zs.take k) ∧ Below w1.heap.size w1 wr) (fun i _ => zs.length - (intOf i).toNat)
    case atStart => exact ⟨0, Nat.zero_le _, rfl, ⟨fun x h => (by cases h), .nil⟩, Below.refl _ _⟩
    case round =>
      clear BL RA RZ B0 c0
      obtain ⟨k, hk, rfl, ht, hd⟩ := hrel
      have HT := hid ht; clear ht
      have BL := hid hd
      have RA := hid (RA0.out.below hd (Nat.le_refl _)); have RZ := hid (RZ0.out.below hd (Nat.le_refl _)); have B0 := hid (bon B00.out hd); have c0 := cellB hd c00.out (Nat.le_refl _)
      clear hd
      by_cases hlt : k < zs.length
      · obtain ⟨b', off, rfl, hc⟩ := RZ.out k hlt
        have hi0 : (k : Int) < (zs.length : Int) := by omega
        have HSUC := hid (fun h1 h2 => ord_succ hlt HT.out h1 h2)
        have HINV := hid (fun hh : Ord rs.length zs => ord_inv hlt hh)
        have chc := hc; clear hc
        by_cases hin : 0 ≤ zs[k] ∧ zs[k] < (rs.length : Int)
        · have HIN := hid (show decide (0 ≤ zs[k] ∧ zs[k] < (rs.length : Int)) = true by simpa using hin)
          have HI := hid hin; clear hin
          by_cases hmem : zs[k] ∈ zs.take k
          · have HM := hid (show decide (zs[k] ∈ zs.take k) = true by simpa using hmem)
            have HFIN := hid (show ¬ (zs.length = rs.length ∧ Ord rs.length zs) from fun hh => (HINV.out hh.2).2 hmem)
            clear hmem
            go_wp2
            have qc0 := fun (p : Bel _) => cellB p.h c0 (Nat.le_refl _)
            have qchc := fun (p : Bel _) => cellB p.h chc (Nat.le_refl _)
            refine wp_quiet_b (by kernel_rfl) (by kernel_rfl) ?_
            repeat (go_big_quiet_step (first | (go_at_call 108; exact qb (l1There_b _ _ _ _ _ _ HIN.out hn.1)) | (go_at_call 121; exact qbs (l1Has_take _ _ _ _ _ _ _ hk HM.out (RZ.out.bel _) (by omega)))))
            refine wpQuiet_nil ?_
            intro _ hw'
            obtain ⟨⟨w1, hb⟩, rfl⟩ := hw'
            clear qc0 qchc
            replace RA := hid (RA.out.below hb (Nat.le_refl _))
            replace RZ := hid (RZ.out.below hb (Nat.le_refl _))
            replace B0 := hid (bon B0.out hb)
            replace BL := hid (bon BL.out hb)
            replace c0 := cellB hb c0 (Nat.le_refl _)
            replace chc := cellB hb chc (Nat.le_refl _)
            clear hb
            go_wp2
            go_ret
            exact ⟨ret_bool (dec_f HB.out HFIN.out), B0.out⟩
          · have HM := hid (show decide (zs[k] ∈ zs.take k) = false by simpa using hmem)
            have HS2 := hid (HSUC.out HI.out hmem)
            clear hmem
            go_wp2
            have qc0 := fun (p : Bel _) => cellB p.h c0 (Nat.le_refl _)
            have qchc := fun (p : Bel _) => cellB p.h chc (Nat.le_refl _)
            refine wp_quiet_b (by kernel_rfl) (by kernel_rfl) ?_
            repeat (go_big_quiet_step (first | (go_at_call 108; exact qb (l1There_b _ _ _ _ _ _ HIN.out hn.1)) | (go_at_call 121; exact qbs (l1Has_take _ _ _ _ _ _ _ hk HM.out (RZ.out.bel _) (by omega)))))
            refine wpQuiet_nil ?_
            intro _ hw'
            obtain ⟨⟨w2, hb⟩, rfl⟩ := hw'
            clear qc0 qchc
            replace RA := hid (RA.out.below hb (Nat.le_refl _))
            replace RZ := hid (RZ.out.below hb (Nat.le_refl _))
            replace B0 := hid (bon B0.out hb)
            replace BL := hid (bon BL.out hb)
            replace c0 := cellB hb c0 (Nat.le_refl _)
            replace chc := cellB hb chc (Nat.le_refl _)
            clear hb
            go_wp2
            go_roundw
            case rel => exact ⟨k + 1, by omega, by go_num, HS2.out, BL.out⟩
            case measure => simp [intOf]; omega
        · have HIN := hid (show decide (0 ≤ zs[k] ∧ zs[k] < (rs.length : Int)) = false by simpa using hin)
          have HFIN := hid (show ¬ (zs.length = rs.length ∧ Ord rs.length zs) from fun hh => hin (HINV.out hh.2).1)
          clear hin
          go_wp2
          have qc0 := fun (p : Bel _) => cellB p.h c0 (Nat.le_refl _)
          have qchc := fun (p : Bel _) => cellB p.h chc (Nat.le_refl _)
          refine wp_quiet_b (by kernel_rfl) (by kernel_rfl) ?_
          repeat (go_big_quiet_step (first | (go_at_call 108; exact qb (l1There_b _ _ _ _ _ _ HIN.out hn.1)) | (go_at_call 121; exact qbs (l1Has_take _ _ _ _ _ _ _ hk rfl (RZ.out.bel _) (by omega)))))
          refine wpQuiet_nil ?_
          intro _ hw'
          obtain ⟨⟨w3, hb⟩, rfl⟩ := hw'
          clear qc0 qchc
          replace RA := hid (RA.out.below hb (Nat.le_refl _))
          replace RZ := hid (RZ.out.below hb (Nat.le_refl _))
          replace B0 := hid (bon B0.out hb)
          replace BL := hid (bon BL.out hb)
          replace c0 := cellB hb c0 (Nat.le_refl _)
          replace chc := cellB hb chc (Nat.le_refl _)
          clear hb
          go_wp2
          go_ret
          exact ⟨ret_bool (dec_f HB.out HFIN.out), B0.out⟩
      · obtain rfl : k = zs.length := by omega
        have HF := hid (show zs.length = rs.length ∧ Ord rs.length zs from ⟨HLE.out, by have := HT.out; rwa [List.take_length] at this⟩)
        go_wp2
        go_ret
        exact ⟨ret_bool (by rw [← HB.out]; simp [HF.out.1, HF.out.2]), B0.out⟩
  · have hl0 : (((zs.length : Nat) : Int) != ((rs.length : Nat) : Int)) = true := by simp; omega
    have HFIN := hid (show ¬ (zs.length = rs.length ∧ Ord rs.length zs) from fun hh => hlen hh.1)
    clear hlen
    go_enter Tryd.func122, Tryd.ntmps122
    go_wp2_with fail
    rw [← HW.out]
    refine (l1Size_any a rs c _ hn.1).mono ?_
    rintro e w1 ⟨rfl, hb⟩
    replace RA := hid (RA.out.below hb (Nat.le_refl _))
    replace RZ := hid (RZ.out.below hb (Nat.le_refl _))
    replace B0 := hid (bon B0.out hb)
    replace BL := hid (bon BL.out hb)
    replace c0 := cellB hb c0 (Nat.le_refl _)
    clear hb
    go_wp2
    go_ret
    exact ⟨ret_bool (dec_f HB.out HFIN.out), B0.out⟩
set_option maxHeartbeats 2000000 in
theorem specOrderOk_b (a : Option Addr) (rs : List Row) (c : Nat) (a' : Option Addr) (zs : List Int) (c' : Nat) (w : World) (b : Bool) (hb : decide (OrdP (nums rs) zs) = b) (hr : RdM w a rs) (hn : Small rs) (hz : Rd (Value.int .i64) w a' zs) (hm : zs.length ≤ 1048576) (hc' : zs.length ≤ c') :
    Calls Tryd.prog 63 #[.agg #[.slice a rs.length c], .slice a' zs.length c'] w fun e w' => e = .returned (.bool b) ∧ Below w.heap.size w w' := by
  have RA := hid hr; have RZ := hid hz; have HB := hid hb; clear hr hz hb
  obtain ⟨w0, hw0⟩ : ∃ w0, w0 = (w.alloc (.cells #[.slice a rs.length c] 28)) := ⟨_, rfl⟩
  have B0 := hid (show Below w.heap.size w w0 by rw [hw0]; exact ((Below.refl _ _).alloc (Nat.le_refl _) _))
  have c0 : w0.cell? ⟨w.heap.size, 0, none⟩ = some (.slice a rs.length c) := by rw [hw0]; simp [go_sem]
  replace RA := hid (RA.out.below B0.out (Nat.le_refl _))
  replace RZ := hid (RZ.out.below B0.out (Nat.le_refl _))
  have HW := hid hw0; clear hw0
  by_cases hg : GOk (nums rs)
  · have h1 := hid (show decide (GOk (nums rs)) = true by simpa using hg)
    have HG := hid hg; clear hg
    obtain ⟨b2, hb2⟩ : ∃ b2, decide (zs.length = rs.length ∧ Ord rs.length zs) = b2 := ⟨_, rfl⟩
    have H2 := hid hb2; clear hb2
    go_enter Tryd.func63, Tryd.ntmps63
    go_wp2_with fail
    rw [← HW.out]
    refine (specGraphOk_b a rs c _ true h1.out RA.out hn).mono ?_
    rintro e w1 ⟨rfl, hb⟩
    replace RA := hid (RA.out.below hb (Nat.le_refl _))
    replace RZ := hid (RZ.out.below hb (Nat.le_refl _))
    replace B0 := hid (bon B0.out hb)
    replace c0 := cellB hb c0 (Nat.le_refl _)
    clear hb
    go_wp2_with fail
    refine (l1Order_b a rs c a' zs c' _ b2 H2.out RA.out hn RZ.out hm hc').mono ?_
    rintro e w2 ⟨rfl, hb⟩
    replace RA := hid (RA.out.below hb (Nat.le_refl _))
    replace RZ := hid (RZ.out.below hb (Nat.le_refl _))
    replace B0 := hid (bon B0.out hb)
    replace c0 := cellB hb c0 (Nat.le_refl _)
    clear hb
    go_wp2
    go_ret
    refine ⟨ret_bool ?_, B0.out⟩
    rw [← HB.out, ← H2.out]
    unfold OrdP
    simp [HG.out, nums_length]
  · have h1 := hid (show decide (GOk (nums rs)) = false by simpa using hg)
    have HG := hid hg; clear hg
    go_enter Tryd.func63, Tryd.ntmps63
    go_wp2_with fail
    rw [← HW.out]
    refine (specGraphOk_b a rs c _ false h1.out RA.out hn).mono ?_
    rintro e w1 ⟨rfl, hb⟩
    replace RA := hid (RA.out.below hb (Nat.le_refl _))
    replace RZ := hid (RZ.out.below hb (Nat.le_refl _))
    replace B0 := hid (bon B0.out hb)
    replace c0 := cellB hb c0 (Nat.le_refl _)
    clear hb
    go_wp2
    go_ret
    exact ⟨ret_bool (dec_f HB.out fun h => HG.out h.1), B0.out⟩
set_option maxHeartbeats 2000000 in
theorem implOrderOk_b (a : Option Addr) (rs : List Row) (c : Nat) (a' : Option Addr) (zs : List Int) (c' : Nat) (w : World) (b : Bool) (hb : decide (OrdP (nums rs) zs) = b) (hr : RdM w a rs) (hn : Small rs) (hz : Rd (Value.int .i64) w a' zs) (hm : zs.length ≤ 1048576) (_hc1 : zs.length ≤ c') :
    Calls Tryd.prog 66 #[.agg #[.slice a rs.length c], .slice a' zs.length c'] w fun e w' => e = .returned (.bool b) ∧ Below w.heap.size w w' := by
  have RA := hid hr; have RZ := hid hz; have HB := hid hb; clear hr hz hb
  obtain ⟨w0, hw0⟩ : ∃ w0, w0 = (w.alloc (.cells #[.slice a rs.length c] 28)) := ⟨_, rfl⟩
  have B0 := hid (show Below w.heap.size w w0 by rw [hw0]; exact ((Below.refl _ _).alloc (Nat.le_refl _) _))
  have c0 : w0.cell? ⟨w.heap.size, 0, none⟩ = some (.slice a rs.length c) := by rw [hw0]; simp [go_sem]
  replace RA := hid (RA.out.below B0.out (Nat.le_refl _))
  replace RZ := hid (RZ.out.below B0.out (Nat.le_refl _))
  have HW := hid hw0; clear hw0
  by_cases hg : GOk (nums rs)
  · have h1 := hid (show decide (GOk (nums rs)) = true by simpa using hg)
    have h16 : rs.length ≤ 16 := by have := hg.le; rwa [nums_length] at this
    have h01 : 1 ≤ rs.length := by have := hg.pos; rw [nums_length] at this; omega
    have HG := hid hg; clear hg
    go_enter Tryd.func66, Tryd.ntmps66
    go_wp2_with fail
    rw [← HW.out]
    refine (implGraphOk_b a rs c _ true h1.out RA.out hn).mono ?_
    rintro e w1 ⟨rfl, hb⟩
    replace RA := hid (RA.out.below hb (Nat.le_refl _))
    replace RZ := hid (RZ.out.below hb (Nat.le_refl _))
    replace B0 := hid (bon B0.out hb)
    replace c0 := cellB hb c0 (Nat.le_refl _)
    clear hb
    by_cases hlen : zs.length = rs.length
    · have hl0 : (((zs.length : Nat) : Int) != ((rs.length : Nat) : Int)) = false := by simp [hlen]
      obtain ⟨zz, hzz⟩ : ∃ zz, zs.mergeSort (fun x y => decide (x ≤ y)) = zz := ⟨_, rfl⟩
      have HZL := hid (show zz.length ≤ 1048576 by rw [← hzz, List.length_mergeSort]; omega)
      obtain ⟨b2, hb2⟩ : ∃ b2, decide (Inc rs.length zz) = b2 := ⟨_, rfl⟩
      have H2 := hid hb2; clear hb2
      have H3 := hid (show decide (Inc rs.length zz) = b by
        rw [← HB.out, ← hzz]; exact decide_eq_decide.2 ((ord_sorted _ _).trans (ordP_iff (nums_length rs) HG.out hlen).symm))
      have hbk : ∀ b o, a' = some ⟨b, o, none⟩ → b < w1.heap.size := by
        intro b o e
        obtain ⟨b1, o1, e1, hc1⟩ := RZ.out 0 (by omega)
        rw [e] at e1
        injection e1 with e1; injection e1 with e1 e2; subst e1
        exact World.block_lt_of_cell? _ _ hc1
      have HV := hid ((callsIn_wide (n := 1)).1 (vals_in Fence.wide 1 trivial rfl a' zs.length c' w1))
      have hbv := alloc_below w1 (.cells #[.slice a' zs.length c'] 25)
      have HS := hid (sorted_any w1.heap.size c' a' zs hm (w1.alloc (.cells #[.slice a' zs.length c'] 25)) (by simp) (fun b o e => by have := hbk b o e; simp; omega) (by simp [go_sem]) (RZ.out.below hbv (Nat.le_refl _)))
      rw [hzz] at HS
      have HLE := hid hlen; clear hlen hzz
      go_wp2_with (first
        | (go_at_call 124; refine HV.out.mono ?_; rintro e w' ⟨rfl, rfl⟩)
        | (go_at_call 123; refine HS.out.mono ?_; rintro e w3 ⟨v, rfl, ho, hb3⟩
           obtain ⟨sa, sc, hv, hrd⟩ := ho.rd
           subst hv
           have hb := hbv.trans (hb3.mono hbv.size)
           have HX := increasing_b sa zz sc rs.length w3 b2 H2.out hrd.1 (Nat.le_trans HZL.out (by decide)) (by omega) (by omega)
           have c1 := cellB hb c0 (Nat.le_refl _)
           have B1 := hid (bon B0.out hb))
        | (go_at_call 125; refine HX.mono ?_; rintro e w' ⟨rfl, rfl⟩))
      go_ret
      exact ⟨ret_bool (H2.out.symm.trans H3.out), B1.out⟩
    · have hl0 : (((zs.length : Nat) : Int) != ((rs.length : Nat) : Int)) = true := by simp; omega
      have HFIN := hid (show ¬ OrdP (nums rs) zs from fun hh => hlen (by rw [hh.2.1, nums_length]))
      clear hlen
      go_wp2
      go_ret
      exact ⟨ret_bool (dec_f HB.out HFIN.out), B0.out⟩
  · have h1 := hid (show decide (GOk (nums rs)) = false by simpa using hg)
    have HG := hid hg; clear hg
    go_enter Tryd.func66, Tryd.ntmps66
    go_wp2_with fail
    rw [← HW.out]
    refine (implGraphOk_b a rs c _ false h1.out RA.out hn).mono ?_
    rintro e w1 ⟨rfl, hb⟩
    replace RA := hid (RA.out.below hb (Nat.le_refl _))
    replace RZ := hid (RZ.out.below hb (Nat.le_refl _))
    replace B0 := hid (bon B0.out hb)
    replace c0 := cellB hb c0 (Nat.le_refl _)
    clear hb
    go_wp2
    go_ret
    exact ⟨ret_bool (dec_f HB.out fun h => HG.out h.1), B0.out⟩
end Go.Proofs.YtahibjikcijnfaaDoor
