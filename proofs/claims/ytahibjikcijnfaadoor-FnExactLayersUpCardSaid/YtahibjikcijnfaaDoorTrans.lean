/- TransitiveIn: both. -/
import Derived.Test.YtahibjikcijnfaaDoorUpI
import Derived.Test.YtahibjikcijnfaaDoorUpS
namespace Go.Proofs.YtahibjikcijnfaaDoor
open Go.RowKit
/-- What comes behind comes behind all. -/
def OverP (up : List (List Int)) : Prop := ∀ v : Nat, v < up.length → ∀ b ∈ row up (v : Int), ∀ c ∈ row up b, c ∈ row up (v : Int)
noncomputable instance (up : List (List Int)) : Decidable (OverP up) := Classical.propDecidable _
set_option maxHeartbeats 8000000 in
theorem l13Over_b (a : Option Addr) (qs : List Row) (c : Nat) (w : World) (b : Bool) (hb : decide (OverP (nums qs)) = b) (hq : RdM w a qs) (hm : Small qs) (hin : ∀ l ∈ nums qs, Inc qs.length l) :
    Calls Tryd.prog 135 #[.slice a qs.length c] w fun e w' => e = .returned (.bool b) ∧ Below w.heap.size w w' := by
  have RQ := hid hq; have HB := hid hb; have HIN := hid hin; clear hq hb hin
  have hm1 := hm.1
  have B0 := hid (Below.refl w.heap.size w)
  go_enter Tryd.func135, Tryd.ntmps135
  go_wp2
  go_loopw [3, 4, 5, 6] (fun x _ _ _ wr => ∃ v : Nat, v ≤ qs.length ∧ x = .int .i64 v ∧ (∀ y : Nat, y < v → ∀ b ∈ row (nums qs) (y : Int), ∀ c ∈ row (nums qs) b, c ∈ row (nums qs) (y : Int)) ∧ Below w.heap.size w wr) (fun x _ _ _ _ => qs.length - (intOf x).toNat)
  case atStart => exact ⟨0, Nat.zero_le _, rfl, fun y h => absurd h (Nat.not_lt_zero y), B0.out⟩
  case round =>
    obtain ⟨v, hv, rfl, hall, hd⟩ := hrel
    have HALL := hid hall; have BL := hid hd; clear hall
    replace RQ := hid (RQ.out.below hd (Nat.le_refl _))
    replace B0 := hid (bon B0.out hd)
    clear hd
    by_cases hlt : v < qs.length
    · have hvi : (v : Int) < (qs.length : Int) := by omega
      obtain ⟨qb, qo, hqa, cv, hqok⟩ := RQ.out.at v hlt
      have hatv := at_slice tRows hqa qs.length c v hlt
      have RV := hid hqok.1; clear hqok
      have hzv := hm.2 _ (List.getElem_mem hlt)
      have hzv16 := Nat.le_trans hzv (show 1048576 ≤ 16777216 by decide)
      have HRV := hid (row_rs qs v hlt)
      have HINV := hid (HIN.out qs[v].z (List.mem_map_of_mem (List.getElem_mem hlt)))
      generalize qs[v] = p at *
      have HQA := hid hqa; clear hqa
      go_wp2
      obtain ⟨w1, rfl⟩ : ∃ w1, w1 = wr := ⟨_, rfl⟩
      go_loopw [4, 5, 6] (fun x _ _ wq => ∃ i : Nat, i ≤ p.z.length ∧ x = .int .i64 i ∧ (∀ j, (h : j < p.z.length) → j < i → ∀ c ∈ row (nums qs) p.z[j], c ∈ p.z) ∧ Below w1.heap.size w1 wq) (fun x _ _ _ => p.z.length - (intOf x).toNat)
      case atStart => exact ⟨0, Nat.zero_le _, rfl, fun _ _ h => absurd h (Nat.not_lt_zero _), Below.refl _ _⟩
      case round =>
        obtain ⟨i, hi, rfl, hin2, hd⟩ := hrel
        have HIN2 := hid hin2; have BK := hid hd; clear hin2
        replace RQ := hid (RQ.out.below hd (Nat.le_refl _))
        replace RV := hid (RV.out.below hd (Nat.le_refl _))
        replace B0 := hid (bon B0.out hd)
        replace BL := hid (bon BL.out hd)
        replace cv := cellB hd cv (Nat.le_refl _)
        clear hd
        by_cases hli : i < p.z.length
        · have hii : (i : Int) < (p.z.length : Int) := by omega
          obtain ⟨vb, vo, hva, ci⟩ := RV.out i hli
          have hati := at_slice tI64 hva p.z.length p.c i hli
          have HVA := hid hva; clear hva
          have hbr := HINV.out.1 _ (List.getElem_mem hli)
          have HSTI := hid (fun (h1 : ∀ c ∈ row (nums qs) p.z[i], c ∈ p.z) => (show ∀ j, (h : j < p.z.length) → j < i + 1 → ∀ c ∈ row (nums qs) p.z[j], c ∈ p.z from fun j hj hji => by
            rcases Nat.lt_succ_iff_lt_or_eq.1 hji with h3 | rfl
            · exact HIN2.out j hj h3
            · exact h1))
          have HBAD := hid (fun (h1 : ¬ ∀ c ∈ row (nums qs) p.z[i], c ∈ p.z) => (show ¬ OverP (nums qs) from fun hh => h1 (by
            have := hh v (by rw [nums_length]; exact hlt) p.z[i] (by rw [HRV.out]; exact List.getElem_mem hli)
            rwa [HRV.out] at this)))
          generalize p.z[i] = bb at *
          obtain ⟨n, rfl⟩ := Int.eq_ofNat_of_zero_le hbr.1
          have hnq : n < qs.length := by omega
          have hni : (n : Int) < (qs.length : Int) := by omega
          obtain ⟨qb2, qo2, hqa2, cn, hqok2⟩ := RQ.out.at n hnq
          have hatn := at_slice tRows hqa2 qs.length c n hnq
          have RN := hid hqok2.1; clear hqok2 hqa2
          have hzn := hm.2 _ (List.getElem_mem hnq)
          rw [row_rs qs n hnq] at HSTI HBAD
          generalize qs[n] = q at *
          go_wp2
          obtain ⟨w2, rfl⟩ : ∃ w2, w2 = wr := ⟨_, rfl⟩
          go_loopw [6] (fun x wq => ∃ k : Nat, k ≤ q.z.length ∧ x = .int .i64 k ∧ (∀ j, (h : j < q.z.length) → j < k → q.z[j] ∈ p.z) ∧ Below w2.heap.size w2 wq) (fun x _ => q.z.length - (intOf x).toNat)
          case atStart => exact ⟨0, Nat.zero_le _, rfl, fun _ _ h => absurd h (Nat.not_lt_zero _), Below.refl _ _⟩
          case round =>
            obtain ⟨k, hk, rfl, hkk, hd⟩ := hrel
            have HKK := hid hkk; have BM := hid hd; clear hkk
            replace RQ := hid (RQ.out.below hd (Nat.le_refl _))
            replace RV := hid (RV.out.below hd (Nat.le_refl _))
            replace RN := hid (RN.out.below hd (Nat.le_refl _))
            replace B0 := hid (bon B0.out hd)
            replace BL := hid (bon BL.out hd)
            replace BK := hid (bon BK.out hd)
            replace cv := cellB hd cv (Nat.le_refl _)
            replace ci := cellB hd ci (Nat.le_refl _)
            replace cn := cellB hd cn (Nat.le_refl _)
            clear hd
            by_cases hlk : k < q.z.length
            · have hki : (k : Int) < (q.z.length : Int) := by omega
              obtain ⟨kb, ko, hka, ck⟩ := RN.out k hlk
              have hatk := at_slice tI64 hka q.z.length q.c k hlk
              have HKA := hid hka; clear hka
              have HSTK := hid (fun (h1 : q.z[k] ∈ p.z) => (show ∀ j, (h : j < q.z.length) → j < k + 1 → q.z[j] ∈ p.z from fun j hj hjk => by
                rcases Nat.lt_succ_iff_lt_or_eq.1 hjk with h3 | rfl
                · exact HKK.out j hj h3
                · exact h1))
              have HBK := hid (fun (h1 : q.z[k] ∉ p.z) => HBAD.out fun hh => h1 (hh _ (List.getElem_mem hlk)))
              generalize q.z[k] = x at *
              obtain ⟨b4, hb4⟩ : ∃ b4, decide (x ∈ p.z) = b4 := ⟨_, rfl⟩
              have H4 := hid hb4
              cases b4
              · have HFIN := hid (HBK.out (by simpa using hb4))
                clear hb4
                go_wp2
                have qcv := fun (p : Bel _) => cellB p.h cv (Nat.le_refl _)
                have qci := fun (p : Bel _) => cellB p.h ci (Nat.le_refl _)
                have qcn := fun (p : Bel _) => cellB p.h cn (Nat.le_refl _)
                have qck := fun (p : Bel _) => cellB p.h ck (Nat.le_refl _)
                refine wp_quiet_b (by kernel_rfl) (by kernel_rfl) ?_
                repeat (go_big_quiet_step (first | (go_at_call 121; exact qbs (l1Has_b _ _ _ _ _ _ H4.out (RV.out.bel _) hzv16))))
                refine wpQuiet_nil ?_
                intro _ hw'
                obtain ⟨⟨w1, hb⟩, rfl⟩ := hw'
                clear qcv qci qcn qck
                replace RQ := hid (RQ.out.below hb (Nat.le_refl _))
                replace RV := hid (RV.out.below hb (Nat.le_refl _))
                replace RN := hid (RN.out.below hb (Nat.le_refl _))
                replace B0 := hid (bon B0.out hb)
                replace BL := hid (bon BL.out hb)
                replace BK := hid (bon BK.out hb)
                replace BM := hid (bon BM.out hb)
                replace cv := cellB hb cv (Nat.le_refl _)
                replace ci := cellB hb ci (Nat.le_refl _)
                replace cn := cellB hb cn (Nat.le_refl _)
                replace ck := cellB hb ck (Nat.le_refl _)
                clear hb
                go_wp2
                go_ret
                exact ⟨ret_bool (dec_f HB.out HFIN.out), B0.out⟩
              · have HFIN := hid (HSTK.out (by simpa using hb4))
                clear hb4
                go_wp2
                have qcv := fun (p : Bel _) => cellB p.h cv (Nat.le_refl _)
                have qci := fun (p : Bel _) => cellB p.h ci (Nat.le_refl _)
                have qcn := fun (p : Bel _) => cellB p.h cn (Nat.le_refl _)
                have qck := fun (p : Bel _) => cellB p.h ck (Nat.le_refl _)
                refine wp_quiet_b (by kernel_rfl) (by kernel_rfl) ?_
                repeat (go_big_quiet_step (first | (go_at_call 121; exact qbs (l1Has_b _ _ _ _ _ _ H4.out (RV.out.bel _) hzv16))))
                refine wpQuiet_nil ?_
                intro _ hw'
                obtain ⟨⟨w2, hb⟩, rfl⟩ := hw'
                clear qcv qci qcn qck
                replace RQ := hid (RQ.out.below hb (Nat.le_refl _))
                replace RV := hid (RV.out.below hb (Nat.le_refl _))
                replace RN := hid (RN.out.below hb (Nat.le_refl _))
                replace B0 := hid (bon B0.out hb)
                replace BL := hid (bon BL.out hb)
                replace BK := hid (bon BK.out hb)
                replace BM := hid (bon BM.out hb)
                replace cv := cellB hb cv (Nat.le_refl _)
                replace ci := cellB hb ci (Nat.le_refl _)
                replace cn := cellB hb cn (Nat.le_refl _)
                replace ck := cellB hb ck (Nat.le_refl _)
                clear hb
                go_wp2
                go_roundw
                case rel => exact ⟨k + 1, by omega, by go_num, HFIN.out, BM.out⟩
                case measure => simp [intOf]; omega
            · obtain rfl : k = q.z.length := by omega
              have HFIN := hid (HSTI.out fun c hc => by
                obtain ⟨j, hj, rfl⟩ := List.mem_iff_getElem.1 hc
                exact HKK.out j hj hj)
              go_wp2
              go_roundw
              case rel => exact ⟨i + 1, by omega, by go_num, HFIN.out, BK.out⟩
              case measure => simp [intOf]; omega
        · obtain rfl : i = p.z.length := by omega
          have HFIN := hid (show ∀ y : Nat, y < v + 1 → ∀ b ∈ row (nums qs) (y : Int), ∀ c ∈ row (nums qs) b, c ∈ row (nums qs) (y : Int) from fun y hy => by
            rcases Nat.lt_succ_iff_lt_or_eq.1 hy with h4 | rfl
            · exact HALL.out y h4
            · rw [HRV.out]
              intro b hb
              obtain ⟨j, hj, rfl⟩ := List.mem_iff_getElem.1 hb
              exact HIN2.out j hj hj)
          go_wp2
          go_roundw
          case rel => exact ⟨v + 1, by omega, by go_num, HFIN.out, B0.out⟩
          case measure => simp [intOf]; omega
    · obtain rfl : v = qs.length := by omega
      have HFIN := hid (show OverP (nums qs) from fun v hv => HALL.out v (by rwa [nums_length] at hv))
      go_wp2
      go_ret
      exact ⟨ret_bool (dec_t HB.out HFIN.out), B0.out⟩
end Go.Proofs.YtahibjikcijnfaaDoor
