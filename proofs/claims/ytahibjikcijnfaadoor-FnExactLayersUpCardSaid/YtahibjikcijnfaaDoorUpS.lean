/- UpOk: the reference's. -/
import Derived.Test.YtahibjikcijnfaaDoorUpM
import Derived.Test.YtahibjikcijnfaaDoorSetOk
import Derived.Test.YtahibjikcijnfaaDoorQuiet
import Derived.Deep.RegionWith
namespace Go.Proofs.YtahibjikcijnfaaDoor
open Go.RowKit
set_option maxHeartbeats 4000000 in
theorem l19Ends_any (a : Option Addr) (rs : List Row) (c : Nat) (w : World) (hr : RdM w a rs) (hn : Small rs) :
    Calls Tryd.prog 161 #[.agg #[.slice a rs.length c]] w fun e w' => e = .returned (.int .i64 (sumN rs.length (fun v => (row (nums rs) (v : Int)).length) : Nat)) ∧ Below w.heap.size w w' := by
  have RA := hid hr; clear hr
  have hn1 := hn.1
  have HSUM := hid (fun k (hk : k ≤ rs.length) => sumN_le (n := k) (f := fun v => (row (nums rs) (v : Int)).length) (c := 1048576) (fun i hi => by
    rw [row_rs rs i (by omega)]; exact hn.2 _ (List.getElem_mem _)))
  obtain ⟨w0, hw0⟩ : ∃ w0, w0 = (w.alloc (.cells #[.slice a rs.length c] 28)) := ⟨_, rfl⟩
  have B0 := hid (show Below w.heap.size w w0 by rw [hw0]; exact ((Below.refl _ _).alloc (Nat.le_refl _) _))
  have c0 : w0.cell? ⟨w.heap.size, 0, none⟩ = some (.slice a rs.length c) := by rw [hw0]; simp [go_sem]
  replace RA := hid (RA.out.below B0.out (Nat.le_refl _))
  have HW := hid hw0; clear hw0
  go_enter Tryd.func161, Tryd.ntmps161
  go_wp2
  rw [← HW.out]
  go_loop [3, 4] (fun m x => ∃ v : Nat, v ≤ rs.length ∧ x = .int .i64 v ∧ m = .int .i64 (sumN v (fun v => (row (nums rs) (v : Int)).length) : Nat)) (fun _ x => rs.length - (intOf x).toNat)
  case atStart => exact ⟨0, Nat.zero_le _, rfl, rfl⟩
  case round =>
    obtain ⟨v, hv, rfl, rfl⟩ := hrel
    have hs := HSUM.out v hv
    by_cases hlt : v < rs.length
    · obtain ⟨b', o, rfl, hc, hok⟩ := RA.out.at v hlt
      have hi0 : (v : Int) < (rs.length : Int) := by omega
      have hz := hn.2 _ (List.getElem_mem hlt)
      have HC := hid (show sumN (v + 1) (fun v => (row (nums rs) (v : Int)).length) = sumN v (fun v => (row (nums rs) (v : Int)).length) + rs[v].z.length by
        simp only [sumN]; rw [row_rs rs v hlt])
      clear hok
      generalize rs[v] = r at *
      generalize sumN v (fun v => (row (nums rs) (v : Int)).length) = S at *
      generalize hS2 : sumN (v + 1) (fun v => (row (nums rs) (v : Int)).length) = S2 at *
      have HS2 := hid hS2; clear hS2
      go_wp2
      go_round
      case rel => exact ⟨v + 1, by omega, by go_num, by rw [HS2.out, HC.out]; simp⟩
      case measure => simp [intOf]; omega
    · obtain rfl : v = rs.length := by omega
      generalize hS : sumN rs.length (fun v => (row (nums rs) (v : Int)).length) = S at *
      have HS := hid hS; clear hS
      go_wp2
      go_ret
      exact ⟨ret_int (by rw [HS.out]), B0.out⟩
set_option maxHeartbeats 8000000 in
theorem specUpOk_b (a : Option Addr) (rs : List Row) (c : Nat) (a' : Option Addr) (qs : List Row) (c' : Nat) (w : World) (b : Bool) (hb : decide (SpecUp (nums rs) (nums qs)) = b) (hr : RdM w a rs) (hn : Small rs) (hq : RdM w a' qs) (hm : Small qs) :
    Calls Tryd.prog 134 #[.agg #[.slice a rs.length c], .slice a' qs.length c'] w fun e w' => e = .returned (.bool b) ∧ Below w.heap.size w w' := by
  have RA := hid hr; have RQ := hid hq; have HB := hid hb; clear hr hq hb
  have hn1 := hn.1; have hm1 := hm.1
  obtain ⟨w0, hw0⟩ : ∃ w0, w0 = (w.alloc (.cells #[.slice a rs.length c] 28)) := ⟨_, rfl⟩
  have B0 := hid (show Below w.heap.size w w0 by rw [hw0]; exact ((Below.refl _ _).alloc (Nat.le_refl _) _))
  have c0 : w0.cell? ⟨w.heap.size, 0, none⟩ = some (.slice a rs.length c) := by rw [hw0]; simp [go_sem]
  replace RA := hid (RA.out.below B0.out (Nat.le_refl _))
  replace RQ := hid (RQ.out.below B0.out (Nat.le_refl _))
  have HW := hid hw0; clear hw0
  by_cases hg : GOk (nums rs)
  · have h1 := hid (show decide (GOk (nums rs)) = true by simpa using hg)
    have HG := hid hg
    have h16 : rs.length ≤ 16 := by have := hg.le; rwa [nums_length] at this
    clear hg
    by_cases hf : qs.length = rs.length
    · have hd : ((qs.length : Int) != (rs.length : Int)) = false := by rw [hf]; simp
      have hdn : (qs.length != rs.length) = false := by rw [hf]; simp
      have HLEN := hid (show (nums qs).length = (nums rs).length by rw [nums_length, nums_length, hf])
      have HSUM := hid (fun k (hk : k ≤ qs.length) => sumN_le (n := k) (f := fun v => (row (nums qs) (v : Int)).length) (c := 1048576) (fun i hi => by
        rw [row_rs qs i (by omega)]; exact hm.2 _ (List.getElem_mem _)))
      go_enter Tryd.func134, Tryd.ntmps134
      go_wp2_with fail
      rw [← HW.out]
      go_wp2_with fail
      refine (specGraphOk_b a rs c _ true h1.out RA.out hn).mono ?_
      rintro e w1 ⟨rfl, hb⟩
      replace RA := hid (RA.out.below hb (Nat.le_refl _))
      replace RQ := hid (RQ.out.below hb (Nat.le_refl _))
      replace B0 := hid (bon B0.out hb)
      replace c0 := cellB hb c0 (Nat.le_refl _)
      clear hb
      go_wp2
      go_loop [5, 6, 7, 8] (fun m x _ _ => ∃ v : Nat, v ≤ qs.length ∧ x = .int .i64 v ∧ m = .int .i64 (sumN v (fun v => (row (nums qs) (v : Int)).length) : Nat) ∧ ∀ y : Nat, y < v → UpRow (nums rs) (nums qs) y (row (nums qs) (y : Int)).length) (fun _ x _ _ => qs.length - (intOf x).toNat)
      case atStart => exact ⟨0, Nat.zero_le _, rfl, rfl, fun y h => absurd h (Nat.not_lt_zero y)⟩
      case round =>
        obtain ⟨v, hv, rfl, rfl, hall⟩ := hrel
        have HALL := hid hall; clear hall
        have hs := HSUM.out v hv
        by_cases hlt : v < qs.length
        · have hi0 : (v : Int) < (qs.length : Int) := by omega
          have hvr : v < rs.length := by omega
          have hvri : (v : Int) < (rs.length : Int) := by omega
          obtain ⟨qb, qo, rfl, hqc, hqok⟩ := RQ.out.at v hlt
          obtain ⟨rb, ro, rfl, hrc, hrok⟩ := RA.out.at v hvr
          have RV := hid hqok.1; have RR := hid hrok.1; clear hqok hrok
          have hzq := hm.2 _ (List.getElem_mem hlt)
          have hzr := Nat.le_trans (hn.2 _ (List.getElem_mem hvr)) (show 1048576 ≤ 16777216 by decide)
          have HRQ := hid (row_rs qs v hlt)
          have HRR := hid (row_rs rs v hvr)
          have HC := hid (show sumN (v + 1) (fun v => (row (nums qs) (v : Int)).length) = sumN v (fun v => (row (nums qs) (v : Int)).length) + qs[v].z.length by
            simp only [sumN]; rw [row_rs qs v hlt])
          have HBAD := hid (fun (h : ¬ UpRow (nums rs) (nums qs) v (row (nums qs) (v : Int)).length) => (show ¬ SpecUp (nums rs) (nums qs) from fun hh => h (hh.rows v (by rw [nums_length]; exact hvr))))
          generalize hQ : qs[v] = q at *
          generalize hR : rs[v] = r at *
          have HQ := hid hQ; clear hQ hR
          generalize sumN v (fun v => (row (nums qs) (v : Int)).length) = S at *
          generalize hS2 : sumN (v + 1) (fun v => (row (nums qs) (v : Int)).length) = S2 at *
          have HS2 := hid hS2; clear hS2
          go_wp2
          go_loop [7, 8] (fun x _ => ∃ k : Nat, k ≤ q.z.length ∧ x = .int .i64 k ∧ UpRow (nums rs) (nums qs) v k) (fun x _ => q.z.length - (intOf x).toNat)
          case atStart => exact ⟨0, Nat.zero_le _, rfl, fun i h => absurd h (Nat.not_lt_zero i)⟩
          case round =>
            obtain ⟨k, hk, rfl, hup⟩ := hrel
            have HUP := hid hup; clear hup
            by_cases hlk : k < q.z.length
            · have hk0 : (k : Int) < (q.z.length : Int) := by omega
              obtain ⟨vb, vo, hva, hvc⟩ := RV.out k hlk
              have hat := at_slice tI64 hva q.z.length q.c k hlk
              have HVA := hid hva
              have HSTEP := hid (fun (h1 : q.z[k] ∈ r.z) (h2 : (v : Int) ∉ row (nums qs) q.z[k]) (h3 : 0 < k → q.z.getD (k - 1) 0 < q.z[k]) => (show UpRow (nums rs) (nums qs) v (k + 1) from fun i hi => by
                rcases Nat.lt_succ_iff_lt_or_eq.1 hi with h4 | rfl
                · exact HUP.out i h4
                · rw [HRQ.out, getD_eq q.z i hlk, HRR.out]; exact ⟨h1, h2, h3⟩))
              have HNO := hid (fun (h : ¬ (q.z[k] ∈ r.z ∧ (v : Int) ∉ row (nums qs) q.z[k] ∧ (0 < k → q.z.getD (k - 1) 0 < q.z[k]))) => (show ¬ SpecUp (nums rs) (nums qs) from HBAD.out fun hh => h (by
                have := hh k (by rw [HRQ.out]; exact hlk)
                rwa [HRQ.out, getD_eq q.z k hlk, HRR.out] at this)))
              have hur := gok_range HG.out (u := (v : Int)) (v := q.z[k]) (by omega) (by rw [nums_length]; omega)
              rw [HRR.out, nums_length] at hur
              have hprev : 0 < k → ∃ e, q.z.getD (k - 1) 0 = e ∧ w1.cell? ⟨vb, vo + (k - 1), none⟩ = some (.int .i64 e) ∧ Sem.run Tryd.prog (Instr.indexAt 25 (.slice q.a q.z.length q.c) (.int .i64 ((k - 1 : Nat) : Int))) w1 = .ok (.pointer (some ⟨vb, vo + (k - 1), none⟩)) w1 := fun h0 => by
                obtain ⟨b2, o2, hva2, hvc2⟩ := RV.out (k - 1) (by omega)
                rw [hva] at hva2
                obtain ⟨rfl, rfl⟩ : vb = b2 ∧ vo = o2 := by simp at hva2; exact hva2
                exact ⟨_, getD_eq q.z (k - 1) (by omega), hvc2, at_slice tI64 hva q.z.length q.c (k - 1) (by omega) w1⟩
              clear hva
              generalize q.z[k] = u at *
              obtain ⟨b4, hb4⟩ : ∃ b4, decide (u ∈ r.z) = b4 := ⟨_, rfl⟩
              have H4 := hid hb4
              cases b4
              · have HFIN := hid (HNO.out fun h => by simp [h.1] at hb4)
                clear hb4 hur hprev
                go_wp2_with (first | (go_at_call 121; refine (l1Has_b _ _ _ _ _ _ H4.out RR.out hzr).mono ?_; rintro e w' ⟨rfl, rfl⟩))
                go_ret
                exact ⟨ret_bool (dec_f HB.out HFIN.out), B0.out⟩
              · have hmem : u ∈ r.z := by simpa using hb4
                have hu := hur hmem
                clear hb4 hur
                obtain ⟨n, rfl⟩ := Int.eq_ofNat_of_zero_le hu.1
                have hnq : n < qs.length := by omega
                have hni : (n : Int) < (qs.length : Int) := by omega
                obtain ⟨qb2, qo2, hqa2, hqc2, hqok2⟩ := RQ.out.at n hnq
                obtain ⟨rfl, rfl⟩ : qb = qb2 ∧ qo = qo2 := by simp at hqa2; exact hqa2
                have RU := hid hqok2.1; clear hqok2 hqa2
                have hzu := Nat.le_trans (hm.2 _ (List.getElem_mem hnq)) (show 1048576 ≤ 16777216 by decide)
                rw [row_rs qs n hnq] at HSTEP HNO
                generalize qs[n] = p at *
                obtain ⟨b5, hb5⟩ : ∃ b5, decide ((v : Int) ∈ p.z) = b5 := ⟨_, rfl⟩
                have H5 := hid hb5
                cases b5
                · have hnm : (v : Int) ∉ p.z := by simpa using hb5
                  clear hb5 hu
                  by_cases h0 : 0 < k
                  · have hg0 : decide ((0 : Int) < (k : Int)) = true := by rw [decide_eq_true_iff]; omega
                    have hg0n : decide (0 < k) = true := by simpa using h0
                    obtain ⟨e, he, hce, hate⟩ := hprev h0
                    have hwk : IntKind.i64.wrap ((k : Int) - 1) = ((k - 1 : Nat) : Int) := by rw [IntWalk.i64_in _ (by omega)]; omega
                    have hck : ((k : Int) - 1) = ((k - 1 : Nat) : Int) := by omega
                    rw [he] at HSTEP HNO
                    clear hprev
                    by_cases hlt2 : e < (n : Int)
                    · have d2 : decide ((n : Int) ≤ e) = false := by rw [decide_eq_false_iff_not]; omega
                      have HFIN := hid (HSTEP.out hmem hnm (fun _ => hlt2))
                      clear hmem hnm hlt2 h0
                      go_wp2_with (first | (go_at_call_of 121 r; refine (l1Has_b _ _ _ _ _ _ H4.out RR.out hzr).mono ?_; rintro e w' ⟨rfl, rfl⟩) | (go_at_call_of 121 p; refine (l1Has_b _ _ _ _ _ _ H5.out RU.out hzu).mono ?_; rintro e w' ⟨rfl, rfl⟩))
                      go_round
                      case rel => exact ⟨k + 1, by omega, by go_num, HFIN.out⟩
                      case measure => simp [intOf]; omega
                    · have d2 : decide ((n : Int) ≤ e) = true := by rw [decide_eq_true_iff]; omega
                      have HFIN := hid (HNO.out fun h => hlt2 (h.2.2 h0))
                      clear hmem hnm hlt2 h0
                      go_wp2_with (first | (go_at_call_of 121 r; refine (l1Has_b _ _ _ _ _ _ H4.out RR.out hzr).mono ?_; rintro e w' ⟨rfl, rfl⟩) | (go_at_call_of 121 p; refine (l1Has_b _ _ _ _ _ _ H5.out RU.out hzu).mono ?_; rintro e w' ⟨rfl, rfl⟩))
                      go_ret
                      exact ⟨ret_bool (dec_f HB.out HFIN.out), B0.out⟩
                  · have hg0 : decide ((0 : Int) < (k : Int)) = false := by rw [decide_eq_false_iff_not]; omega
                    have hg0n : decide (0 < k) = false := by simpa using h0
                    have HFIN := hid (HSTEP.out hmem hnm (fun h => absurd h h0))
                    clear hmem hnm hprev h0
                    go_wp2_with (first | (go_at_call_of 121 r; refine (l1Has_b _ _ _ _ _ _ H4.out RR.out hzr).mono ?_; rintro e w' ⟨rfl, rfl⟩) | (go_at_call_of 121 p; refine (l1Has_b _ _ _ _ _ _ H5.out RU.out hzu).mono ?_; rintro e w' ⟨rfl, rfl⟩))
                    go_round
                    case rel => exact ⟨k + 1, by omega, by go_num, HFIN.out⟩
                    case measure => simp [intOf]; omega
                · have HFIN := hid (HNO.out fun h => h.2.1 (by simpa using hb5))
                  clear hb5 hmem hprev hu
                  go_wp2_with (first | (go_at_call_of 121 r; refine (l1Has_b _ _ _ _ _ _ H4.out RR.out hzr).mono ?_; rintro e w' ⟨rfl, rfl⟩) | (go_at_call_of 121 p; refine (l1Has_b _ _ _ _ _ _ H5.out RU.out hzu).mono ?_; rintro e w' ⟨rfl, rfl⟩))
                  go_ret
                  exact ⟨ret_bool (dec_f HB.out HFIN.out), B0.out⟩
            · obtain rfl : k = q.z.length := by omega
              have HFIN := hid (show ∀ y : Nat, y < v + 1 → UpRow (nums rs) (nums qs) y (row (nums qs) (y : Int)).length from fun y hy => by
                rcases Nat.lt_succ_iff_lt_or_eq.1 hy with h4 | rfl
                · exact HALL.out y h4
                · rw [HRQ.out]; exact HUP.out)
              go_wp2
              go_round
              case rel => exact ⟨v + 1, by omega, by go_num, by rw [HS2.out, HC.out]; simp, HFIN.out⟩
              case measure => simp [intOf]; omega
        · obtain rfl : v = qs.length := by omega
          generalize hS : sumN qs.length (fun v => (row (nums qs) (v : Int)).length) = S at *
          generalize hT : sumN rs.length (fun v => (row (nums rs) (v : Int)).length) = T at *
          have HFIN := hid (show ((2 * (S : Int)) == (T : Int)) = b by
            rw [← HB.out, Bool.eq_iff_iff, beq_iff_eq, decide_eq_true_iff]
            constructor
            · intro h
              refine ⟨HG.out, HLEN.out, fun v hv => HALL.out v (by rw [nums_length] at hv; omega), ?_⟩
              rw [nums_length, hT, ← hf, hS]; omega
            · intro h
              have := h.half
              rw [nums_length, hT, ← hf, hS] at this; omega)
          have HT := hid hT
          clear hS hT
          have hl := l19Ends_any a rs c w1 RA.out hn
          rw [HT.out] at hl
          go_wp2_with fail
          refine hl.mono ?_
          rintro e w2 ⟨rfl, hb⟩
          have B1 := hid (bon B0.out hb)
          go_wp2
          go_ret
          exact ⟨ret_bool HFIN.out, B1.out⟩
    · have hd : ((qs.length : Int) != (rs.length : Int)) = true := by simp; omega
      have hdn : (qs.length != rs.length) = true := by simpa using hf
      have HFIN := hid (show ¬ SpecUp (nums rs) (nums qs) from fun h => hf (by have := h.len; rwa [nums_length, nums_length] at this))
      clear hf
      go_enter Tryd.func134, Tryd.ntmps134
      go_wp2_with fail
      rw [← HW.out]
      go_wp2_with fail
      refine (specGraphOk_b a rs c _ true h1.out RA.out hn).mono ?_
      rintro e w2 ⟨rfl, hb⟩
      replace RA := hid (RA.out.below hb (Nat.le_refl _))
      replace RQ := hid (RQ.out.below hb (Nat.le_refl _))
      replace B0 := hid (bon B0.out hb)
      replace c0 := cellB hb c0 (Nat.le_refl _)
      clear hb
      go_wp2
      go_ret
      exact ⟨ret_bool (dec_f HB.out HFIN.out), B0.out⟩
  · have h1 := hid (show decide (GOk (nums rs)) = false by simpa using hg)
    have HFIN := hid (show ¬ SpecUp (nums rs) (nums qs) from fun h => hg h.ok)
    clear hg
    go_enter Tryd.func134, Tryd.ntmps134
    go_wp2_with fail
    rw [← HW.out]
    go_wp2_with fail
    refine (specGraphOk_b a rs c _ false h1.out RA.out hn).mono ?_
    rintro e w3 ⟨rfl, hb⟩
    replace RA := hid (RA.out.below hb (Nat.le_refl _))
    replace RQ := hid (RQ.out.below hb (Nat.le_refl _))
    replace B0 := hid (bon B0.out hb)
    replace c0 := cellB hb c0 (Nat.le_refl _)
    clear hb
    go_wp2
    go_ret
    exact ⟨ret_bool (dec_f HB.out HFIN.out), B0.out⟩
end Go.Proofs.YtahibjikcijnfaaDoor
