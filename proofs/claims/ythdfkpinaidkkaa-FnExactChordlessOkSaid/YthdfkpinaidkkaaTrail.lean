/- LoopOk: the reference's and the program's. -/
import Derived.Test.YthdfkpinaidkkaaSetOk
import Derived.Test.YthdfkpinaidkkaaBits
import Derived.Test.YthdfkpinaidkkaaTrailM
import Derived.Test.YthdfkpinaidkkaaMem2
namespace Go.Proofs.Ythdfkpinaidkkaa
open Go.RowKit

set_option maxHeartbeats 4000000 in
theorem isTrail_b (a : Option Addr) (rs : List Row) (c : Nat) (a' : Option Addr) (zs : List Int) (c' : Nat) (w : World) (b : Bool) (hb : decide (TrailTo (nums rs) zs zs.length) = b) (hg : GOk (nums rs)) (hr : RdM w a rs) (hn : Small rs) (hz : Rd (Value.int .i64) w a' zs) (hm : zs.length ≤ 1048576) :
    Calls Try.prog 79 #[.agg #[.slice a rs.length c], .slice a' zs.length c'] w fun e w' => e = .returned (.bool b) ∧ Below w.heap.size w w' := by
  have HR := hid hr; have HZ := hid hz; have HB := hid hb; clear hr hz hb
  have h16 : rs.length ≤ 16 := by have := hg.le; rwa [nums_length] at this
  have HG := hid hg; clear hg
  obtain ⟨w0, hw0⟩ : ∃ w0, w0 = w.alloc (.cells #[.slice a rs.length c] 27) := ⟨_, rfl⟩
  have B0 := hid (show Below w.heap.size w w0 by rw [hw0]; exact alloc_below _ _)
  have HC0 := hid (show w0.cell? ⟨w.heap.size, 0, none⟩ = some (.slice a rs.length c) by rw [hw0]; simp [go_sem])
  have HW := hid hw0; clear hw0
  go_enter Try.func79, Try.ntmps79
  go_wp2
  rw [← HW.out]
  go_loopw [5, 6, 7, 10] (fun s _ _ i wr => ∃ k : Nat, k ≤ zs.length ∧ i = .int .i64 k ∧ s = .int .u32 (maskL (zs.take k) : Nat) ∧ TrailTo (nums rs) zs k ∧ Drawn w0 wr) (fun _ _ _ i _ => zs.length - (intOf i).toNat)
  case atStart => exact ⟨0, Nat.zero_le _, rfl, rfl, trail_zero _ _, Drawn.refl _⟩
  case round =>
    obtain ⟨k, hk, rfl, rfl, ht, hd⟩ := hrel
    have HT := hid ht; have HD := hid hd
    have hcg := dcell hd HC0.out; clear ht hd
    by_cases hlt : k < zs.length
    · obtain ⟨b', off, rfl, hc⟩ := ((HZ.out.below B0.out (Nat.le_refl _)).drawn HD.out) k hlt
      have HGE := hid (getD_eq zs k hlt)
      have hi0 : (k : Int) < (zs.length : Int) := by omega
      have HMT := hid (maskL_take zs k hlt)
      have hrng := trail_range HT.out hk
      have HML := hid (maskL_lt (zs.take k) 16 (fun v hv => ⟨(hrng v hv).1, by have := (hrng v hv).2; rw [nums_length] at this; omega⟩))
      have HTB := hid (fun i => testBit_maskL (zs.take k) i (fun v hv => (hrng v hv).1)); clear hrng
      have HNOT := hid (fun h : ¬ TrailTo (nums rs) zs (k + 1) => (show ¬ TrailTo (nums rs) zs zs.length from fun hh => h (fun i hi => hh i (by omega))))
      have HSUC := hid (fun h1 h2 h3 => trail_succ HT.out (by rw [HGE.out]; exact h1) (by rw [HGE.out]; exact h2) (by rw [HGE.out]; exact h3))
      have HINV := hid (fun hh : TrailTo (nums rs) zs (k + 1) => by have := hh k (by omega); rw [HGE.out] at this; exact this)
      by_cases hin : 0 ≤ zs[k] ∧ zs[k] < rs.length
      · have hbl := hid (show decide (0 ≤ zs[k] ∧ zs[k] ≤ (rs.length : Int) - 1) = true by rw [decide_eq_true_iff]; omega)
        obtain ⟨m, hmm⟩ := Int.eq_ofNat_of_zero_le hin.1
        have hm16 : m < rs.length := by omega
        have hi1 : (m : Int) < (rs.length : Int) := by omega
        have HIN := hid hin; clear hin
        have hml : maskL (zs.take k) < 4294967296 := Nat.lt_trans HML.out (by decide)
        have hwr : IntKind.i64.wrap ((rs.length : Int) - 1) = (rs.length : Int) - 1 := IntWalk.i64_in _ (by omega)
        have HBL := hid (show decide (0 ≤ (m : Int) ∧ (m : Int) ≤ (rs.length : Int) - 1) = true by rw [← hmm]; exact hbl.out)
        have hbit0 : (maskL (zs.take k)).testBit m = decide (zs[k] ∈ zs.take k) := by rw [HTB.out, ← hmm]
        by_cases hmem : zs[k] ∈ zs.take k
        · have hbit := hid (show (maskL (zs.take k)).testBit m = true by rw [hbit0]; simpa using hmem)
          have HFIN := hid (show ¬ TrailTo (nums rs) zs zs.length from HNOT.out (fun hh => (HINV.out hh).2.1 hmem))
          rw [hmm] at hc
          clear hmm hbl HTB HSUC HINV HMT hbit0 hmem
          generalize maskL (zs.take k) = M at *
          go_wp2
          go_quiet ((first | (go_at_call 77; exact qs (inRange_b _ _ _ _ _ HBL.out)) | (go_at_call 76; exact qs (has_b _ _ _ _ hbit.out hml (by omega)))))
          go_wp2
          go_ret
          exact ⟨ret_bool (dec_f HB.out HFIN.out), B0.out.trans ((HD.out.n _).below _)⟩
        · have hbit := hid (show (maskL (zs.take k)).testBit m = false by rw [hbit0]; simpa using hmem)
          have HS2 := hid (fun h3 => HSUC.out (by rw [nums_length]; exact HIN.out) hmem h3)
          have HMT2 := hid (show maskL (zs.take (k + 1)) = maskL (zs.take k) ||| 2 ^ m by rw [HMT.out, hmm]; rfl)
          have hpw : 2 ^ m < 4294967296 := pow_lt32 m (by omega)
          have hor := hid (show bits .or .u32 ((maskL (zs.take k) : Nat) : Int) ((2 : Int) ^ m) = ((maskL (zs.take k) ||| 2 ^ m : Nat) : Int) by have := u32_or_nat (maskL (zs.take k)) (2 ^ m) hml hpw; simpa using this); clear hpw
          rcases Nat.eq_zero_or_pos k with h0k | h0k
          · have hd0 : decide (0 < k) = false := by rw [decide_eq_false_iff_not]; omega
            have HS3 := hid (HS2.out (fun h => absurd h (by omega)))
            rw [hmm] at hc
            clear hmm hbl HTB HSUC HINV HMT hbit0 hmem HS2 h0k
            generalize hM : maskL (zs.take k) = M at *
            have HM := hid hM; clear hM
            go_wp2
            go_quiet ((first | (go_at_call 77; exact qs (inRange_b _ _ _ _ _ HBL.out)) | (go_at_call 76; exact qs (has_b _ _ _ _ hbit.out hml (by omega)))))
            go_wp2_with (go_at_call 80; refine (one_any m _ (by omega)).mono ?_; rintro e w' ⟨rfl, rfl⟩)
            go_roundw
            case rel => exact ⟨k + 1, by omega, by go_num, by rw [HMT2.out, ← hor.out], HS3.out, HD.out.n _⟩
            case measure => simp [intOf]; omega
          · obtain ⟨j, rfl⟩ : ∃ j, k = j + 1 := ⟨k - 1, by omega⟩
            have hd1 : decide ((0 : Int) < (j : Int) + 1) = true := by rw [decide_eq_true_iff]; omega
            obtain ⟨b2, o2, hbo, hc2⟩ := ((HZ.out.below B0.out (Nat.le_refl _)).drawn HD.out) j (by omega)
            obtain ⟨rfl, rfl⟩ : b2 = b' ∧ o2 = off := by simp at hbo; exact ⟨hbo.1.symm, hbo.2.symm⟩
            clear hbo
            have hi2 : (j : Int) < (zs.length : Int) := by omega
            obtain ⟨b3, off3, rfl, hc3, hok3⟩ := ((HR.out.below B0.out (Nat.le_refl _)).drawn HD.out).at m hm16
            have HKM := hid hok3.1; clear hok3
            have hzm := Nat.le_trans (hn.2 _ (List.getElem_mem hm16)) (show 1048576 ≤ 16777216 by decide)
            have HRW := hid (row_rs rs m hm16)
            have HGJ := hid (getD_eq zs j (by omega))
            have HPR := hid (trail_range HT.out hk (zs[j]'(by omega)) (List.mem_take_iff_getElem.2 ⟨j, by omega, rfl⟩))
            have HSY := hid (gok_sym HG.out (u := zs[j]'(by omega)) (v := zs[j + 1]) HPR.out.1 HPR.out.2 HIN.out.1 (by rw [nums_length]; exact HIN.out.2))
            obtain ⟨b4, hb4⟩ : ∃ b4, decide (zs[j]'(by omega) ∈ rs[m].z) = b4 := ⟨_, rfl⟩
            have H4 := hid hb4; clear hb4
            have HY := hid (show b4 = decide (zs[j + 1] ∈ row (nums rs) (zs[j]'(by omega))) by
              rw [← H4.out, ← HRW.out]; congr 1; apply propext; rw [← hmm]; exact HSY.out.symm)
            have HS3 := hid (fun h : zs[j + 1] ∈ row (nums rs) (zs[j]'(by omega)) => HS2.out (fun _ => by rw [Nat.add_sub_cancel, HGJ.out]; exact h))
            have HF3 := hid (fun h : ¬ zs[j + 1] ∈ row (nums rs) (zs[j]'(by omega)) => HNOT.out (fun hh => h (by have := (HINV.out hh).2.2 (by omega); rw [Nat.add_sub_cancel, HGJ.out] at this; exact this)))
            rw [hmm] at hc
            clear hmm hbl HTB HSUC HINV HMT hbit0 hmem HS2 h0k HSY HPR HGJ HNOT HRW HGE
            generalize hM : maskL (zs.take (j + 1)) = M at *
            have HM := hid hM; clear hM
            have HMTT := HMT2.out; have HMT3 := hid HMTT; clear HMTT HMT2
            generalize zs[j]'(by omega) = y at *
            generalize rs[m] = r at *
            cases b4
            · have HFIN := hid (HF3.out (by have := HY.out; simpa using this))
              go_wp2
              go_quiet ((first | (go_at_call 77; exact qs (inRange_b _ _ _ _ _ HBL.out)) | (go_at_call 76; exact qs (has_b _ _ _ _ hbit.out hml (by omega))) | (go_at_call 51; exact qs (contains_b _ _ _ _ _ _ H4.out (HKM.out.drewN _) hzm))))
              go_wp2
              go_ret
              exact ⟨ret_bool (dec_f HB.out HFIN.out), B0.out.trans ((HD.out.n _).below _)⟩
            · have HFIN := hid (HS3.out (by have := HY.out; simpa using this))
              go_wp2
              go_quiet ((first | (go_at_call 77; exact qs (inRange_b _ _ _ _ _ HBL.out)) | (go_at_call 76; exact qs (has_b _ _ _ _ hbit.out hml (by omega))) | (go_at_call 51; exact qs (contains_b _ _ _ _ _ _ H4.out (HKM.out.drewN _) hzm))))
              go_wp2_with (go_at_call 80; refine (one_any m _ (by omega)).mono ?_; rintro e w' ⟨rfl, rfl⟩)
              go_roundw
              case rel => exact ⟨j + 1 + 1, by omega, by go_num, by rw [HMT3.out, ← hor.out], HFIN.out, HD.out.n _⟩
              case measure => simp [intOf]; omega
      · have hbl := hid (show decide (0 ≤ zs[k] ∧ zs[k] ≤ (rs.length : Int) - 1) = false by rw [decide_eq_false_iff_not]; omega)
        have hwr : IntKind.i64.wrap ((rs.length : Int) - 1) = (rs.length : Int) - 1 := IntWalk.i64_in _ (by omega)
        have HFIN := hid (show ¬ TrailTo (nums rs) zs zs.length from HNOT.out (fun hh => hin (by have := (HINV.out hh).1; rw [nums_length] at this; exact this)))
        clear HTB HSUC HINV HMT hin HNOT HGE
        generalize zs[k] = y at *
        go_wp2
        go_quiet ((go_at_call 77; exact qs (inRange_b _ _ _ _ _ hbl.out)))
        go_wp2
        go_ret
        exact ⟨ret_bool (dec_f HB.out HFIN.out), B0.out.trans ((HD.out.n _).below _)⟩
    · obtain rfl : k = zs.length := by omega
      go_wp2
      go_ret
      exact ⟨ret_bool (dec_t HB.out HT.out), B0.out.trans (HD.out.below _)⟩
end Go.Proofs.Ythdfkpinaidkkaa
