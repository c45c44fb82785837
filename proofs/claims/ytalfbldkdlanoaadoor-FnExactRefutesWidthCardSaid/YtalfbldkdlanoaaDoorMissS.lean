/- How many pairs of a list are no neighbours: the reference's. -/
import Derived.Test.YtalfbldkdlanoaaDoorMissM
import Derived.Test.YtalfbldkdlanoaaDoorSetOk
import Derived.Test.YtalfbldkdlanoaaDoorQuiet
namespace Go.Proofs.YtalfbldkdlanoaaDoor
open Go.RowKit
theorem cntR_take_le (n : Nat) (P : Nat → Bool) : cntR n P ≤ n := cntR_le n P
set_option maxHeartbeats 4000000 in
theorem l7Missing_any (a : Option Addr) (rs : List Row) (c : Nat) (a' : Option Addr) (zs : List Int) (c' : Nat) (w : World) (hr : RdM w a rs) (hn : Small rs) (hz : Rd (Value.int .i64) w a' zs) (hm : zs.length ≤ 16) (hin : ∀ v ∈ zs, 0 ≤ v ∧ v < rs.length) :
    Calls Tryd.prog 134 #[.agg #[.slice a rs.length c], .slice a' zs.length c'] w fun e w' => e = .returned (.int .i64 (missL (nums rs) zs : Nat)) ∧ Below w.heap.size w w' := by
  have RA := hid hr; have RZ := hid hz; have HIN := hid hin; clear hr hz hin
  obtain ⟨w0, hw0⟩ : ∃ w0, w0 = (w.alloc (.cells #[.slice a rs.length c] 29)) := ⟨_, rfl⟩
  have B0 := hid (show Below w.heap.size w w0 by rw [hw0]; exact ((Below.refl _ _).alloc (Nat.le_refl _) _))
  have c0 : w0.cell? ⟨w.heap.size, 0, none⟩ = some (.slice a rs.length c) := by rw [hw0]; simp [go_sem]
  replace RA := hid (RA.out.below B0.out (Nat.le_refl _))
  replace RZ := hid (RZ.out.below B0.out (Nat.le_refl _))
  have HW := hid hw0; clear hw0
  have HSUM := hid (fun k => sumN_le (n := k) (f := fun i => cntR i fun q => decide (zs.getD i 0 ∉ row (nums rs) (zs.getD q 0))) (c := 16))
  go_enter Tryd.func134, Tryd.ntmps134
  go_wp2
  rw [← HW.out]
  go_loopw [5, 6, 7] (fun m x _ wr => ∃ i : Nat, i ≤ zs.length ∧ x = .int .i64 i ∧ m = .int .i64 (sumN i (fun i => cntR i fun q => decide (zs.getD i 0 ∉ row (nums rs) (zs.getD q 0))) : Nat) ∧ Below w0.heap.size w0 wr) (fun _ x _ _ => zs.length - (intOf x).toNat)
  case atStart => exact ⟨0, Nat.zero_le _, rfl, rfl, Below.refl _ _⟩
  case round =>
    obtain ⟨i, hi, rfl, rfl, hd⟩ := hrel
    have BL := hid hd
    replace RA := hid (RA.out.below hd (Nat.le_refl _))
    replace RZ := hid (RZ.out.below hd (Nat.le_refl _))
    replace B0 := hid (bon B0.out hd)
    replace c0 := cellB hd c0 (Nat.le_refl _)
    clear hd
    have hS16 := HSUM.out i (fun j hj => Nat.le_trans (cntR_le _ _) (by omega))
    by_cases hlt : i < zs.length
    · obtain ⟨S, hS⟩ : ∃ S, sumN i (fun i => cntR i fun q => decide (zs.getD i 0 ∉ row (nums rs) (zs.getD q 0))) = S := ⟨_, rfl⟩
      have HSN := hid (show sumN (i + 1) (fun i => cntR i fun q => decide (zs.getD i 0 ∉ row (nums rs) (zs.getD q 0))) = S + cntR i (fun q => decide (zs.getD i 0 ∉ row (nums rs) (zs.getD q 0))) by
        rw [← hS]; rfl)
      rw [hS] at hS16 ⊢
      clear hS
      have hi0 : (i : Int) < (zs.length : Int) := by omega
      go_wp2
      obtain ⟨w1, rfl⟩ : ∃ w1, w1 = wr := ⟨_, rfl⟩
      go_loopw [5, 7] (fun m y wq => ∃ k : Nat, k ≤ i ∧ y = .int .i64 k ∧ m = .int .i64 ((S + cntR k (fun q => decide (zs.getD i 0 ∉ row (nums rs) (zs.getD q 0))) : Nat) : Int) ∧ Below w1.heap.size w1 wq) (fun _ y _ => i - (intOf y).toNat)
      case atStart => exact ⟨0, Nat.zero_le _, rfl, rfl, Below.refl _ _⟩
      case round =>
        obtain ⟨k, hk, rfl, rfl, hd⟩ := hrel
        have BK := hid hd
        replace RA := hid (RA.out.below hd (Nat.le_refl _))
        replace RZ := hid (RZ.out.below hd (Nat.le_refl _))
        replace B0 := hid (bon B0.out hd)
        replace BL := hid (bon BL.out hd)
        replace c0 := cellB hd c0 (Nat.le_refl _)
        clear hd
        have hcl := cntR_le k (fun q => decide (zs.getD i 0 ∉ row (nums rs) (zs.getD q 0)))
        by_cases hlk : k < i
        · have hki : (k : Int) < (i : Int) := by omega
          have hkz : (k : Int) < (zs.length : Int) := by omega
          have HC := hid (show cntR (k + 1) (fun q => decide (zs.getD i 0 ∉ row (nums rs) (zs.getD q 0))) = cntR k (fun q => decide (zs.getD i 0 ∉ row (nums rs) (zs.getD q 0))) + if zs[i] ∉ row (nums rs) (zs[k]'(by omega)) then 1 else 0 by
            rw [cntR_succ, getD_eq zs i hlt, getD_eq zs k (by omega)]
            simp)
          obtain ⟨b', off, rfl, c1⟩ := RZ.out k (by omega)
          obtain ⟨b2, o2, hbo, c2⟩ := RZ.out i hlt
          obtain ⟨rfl, rfl⟩ : b2 = b' ∧ o2 = off := by simp at hbo; exact ⟨hbo.1.symm, hbo.2.symm⟩
          clear hbo
          have hp := HIN.out _ (List.getElem_mem (show k < zs.length by omega))
          have HP0 := hid hp.1; have HP1 := hid hp.2; clear hp
          generalize cntR k (fun q => decide (zs.getD i 0 ∉ row (nums rs) (zs.getD q 0))) = C at *
          generalize hC2 : cntR (k + 1) (fun q => decide (zs.getD i 0 ∉ row (nums rs) (zs.getD q 0))) = C2 at *
          have HC2 := hid hC2; clear hC2
          obtain ⟨b4, hb4⟩ : ∃ b4, decide (zs[i] ∈ row (nums rs) (zs[k]'(by omega))) = b4 := ⟨_, rfl⟩
          have H4 := hid hb4
          cases b4
          · have HF := hid (show C2 = C + 1 by rw [HC.out, if_pos (by simpa using hb4)])
            clear hb4
            go_wp2
            have qc0 := fun (p : Bel _) => cellB p.h c0 (Nat.le_refl _)
            have qc1 := fun (p : Bel _) => cellB p.h c1 (Nat.le_refl _)
            have qc2 := fun (p : Bel _) => cellB p.h c2 (Nat.le_refl _)
            refine wp_quiet_b (by kernel_rfl) (by kernel_rfl) ?_
            repeat (go_big_quiet_step (first | (go_at_call 108; exact qb (l1Edge_b _ _ _ _ _ _ _ HP0.out HP1.out H4.out (RA.out.bel _) hn))))
            refine wpQuiet_nil ?_
            intro _ hw'
            obtain ⟨⟨w1, hb⟩, rfl⟩ := hw'
            clear qc0 qc1 qc2
            replace RA := hid (RA.out.below hb (Nat.le_refl _))
            replace RZ := hid (RZ.out.below hb (Nat.le_refl _))
            replace B0 := hid (bon B0.out hb)
            replace BL := hid (bon BL.out hb)
            replace BK := hid (bon BK.out hb)
            replace c0 := cellB hb c0 (Nat.le_refl _)
            replace c1 := cellB hb c1 (Nat.le_refl _)
            replace c2 := cellB hb c2 (Nat.le_refl _)
            clear hb
            go_wp2
            go_roundw
            case rel => exact ⟨k + 1, by omega, by go_num, by rw [HC2.out, HF.out]; simp; omega, BK.out⟩
            case measure => simp [intOf]; omega
          · have HF := hid (show C2 = C by rw [HC.out, if_neg (by simpa using hb4), Nat.add_zero])
            clear hb4
            go_wp2
            have qc0 := fun (p : Bel _) => cellB p.h c0 (Nat.le_refl _)
            have qc1 := fun (p : Bel _) => cellB p.h c1 (Nat.le_refl _)
            have qc2 := fun (p : Bel _) => cellB p.h c2 (Nat.le_refl _)
            refine wp_quiet_b (by kernel_rfl) (by kernel_rfl) ?_
            repeat (go_big_quiet_step (first | (go_at_call 108; exact qb (l1Edge_b _ _ _ _ _ _ _ HP0.out HP1.out H4.out (RA.out.bel _) hn))))
            refine wpQuiet_nil ?_
            intro _ hw'
            obtain ⟨⟨w2, hb⟩, rfl⟩ := hw'
            clear qc0 qc1 qc2
            replace RA := hid (RA.out.below hb (Nat.le_refl _))
            replace RZ := hid (RZ.out.below hb (Nat.le_refl _))
            replace B0 := hid (bon B0.out hb)
            replace BL := hid (bon BL.out hb)
            replace BK := hid (bon BK.out hb)
            replace c0 := cellB hb c0 (Nat.le_refl _)
            replace c1 := cellB hb c1 (Nat.le_refl _)
            replace c2 := cellB hb c2 (Nat.le_refl _)
            clear hb
            go_wp2
            go_roundw
            case rel => exact ⟨k + 1, by omega, by go_num, by rw [HC2.out, HF.out], BK.out⟩
            case measure => simp [intOf]; omega
        · obtain rfl : k = i := by omega
          generalize hS2 : sumN (k + 1) (fun i => cntR i fun q => decide (zs.getD i 0 ∉ row (nums rs) (zs.getD q 0))) = S2 at *
          have HS2 := hid hS2; clear hS2
          generalize cntR k (fun q => decide (zs.getD k 0 ∉ row (nums rs) (zs.getD q 0))) = C at *
          go_wp2
          go_roundw
          case rel => exact ⟨k + 1, by omega, by go_num, by rw [HS2.out, HSN.out], BL.out⟩
          case measure => simp [intOf]; omega
    · obtain rfl : i = zs.length := by omega
      have HFIN := hid (show sumN zs.length (fun i => cntR i fun q => decide (zs.getD i 0 ∉ row (nums rs) (zs.getD q 0))) = missL (nums rs) zs from rfl)
      rw [HFIN.out] at hS16 ⊢
      go_wp2
      go_ret
      exact ⟨rfl, B0.out⟩
end Go.Proofs.YtalfbldkdlanoaaDoor
