/- OddChainOk: the reference's. -/
import Derived.Test.YtggjmnihnjdoaaaDoorOcM
import Derived.Test.YtggjmnihnjdoaaaDoorForS
import Derived.Deep.RegionHeld3
namespace Go.Proofs.YtggjmnihnjdoaaaDoor
open Go.RowKit
section
set_option maxRecDepth 100000 in
set_option maxHeartbeats 8000000 in
theorem specOddChainOk_b (a : Option Addr) (rs : List Row) (c : Nat) (a' : Option Addr) (qs : List Row) (c' : Nat) (w : World) (b : Bool) (hb : decide (OcP (nums rs) (nums qs)) = b) (hr : RdM w a rs) (hn : Small rs) (hq : RdM w a' qs) (hm : Small qs) :
    Calls Tryd.prog 16 #[.agg #[.slice a rs.length c], .slice a' qs.length c'] w fun e w' => e = .returned (.bool b) ∧ Below w.heap.size w w' := by
  have RA := hid hr; have RQ := hid hq; have HB := hid hb; clear hr hq hb
  obtain ⟨w0, hw0⟩ : ∃ w0, w0 = (w.alloc (.cells #[.slice a rs.length c] 28)) := ⟨_, rfl⟩
  have B0 := hid (show Below w.heap.size w w0 by rw [hw0]; exact ((Below.refl _ _).alloc (Nat.le_refl _) _))
  have c0 : w0.cell? ⟨w.heap.size, 0, none⟩ = some (.slice a rs.length c) := by rw [hw0]; simp [go_sem]
  replace RA := hid (RA.out.below B0.out (Nat.le_refl _))
  replace RQ := hid (RQ.out.below B0.out (Nat.le_refl _))
  have HW := hid hw0; clear hw0
  by_cases hg : GOk (nums rs)
  · have H1 := hid (show decide (GOk (nums rs)) = true by simpa using hg)
    have HG := hid hg; clear hg
    have h16 := HG.out.le
    rw [nums_length] at h16
    have hm1 := hm.1
    by_cases hl : 2 ≤ qs.length ∧ qs.length ≤ 240
    · have H2 := hid (show decide ((2 : Int) ≤ (qs.length : Int) ∧ (qs.length : Int) ≤ 240) = true by rw [decide_eq_true_iff]; omega)
      have HL := hid hl; clear hl
      have HGA := hid (show GA rs.length ((nums rs).map maskL) by have := GA.of HG.out; rwa [nums_length] at this)
      have HNM := hid (show nums rs = ((nums rs).map maskL).map mems by
        rw [List.map_map]
        apply List.ext_getElem (by simp)
        intro i h1 h2
        have hi : i < (nums rs).length := h1
        have h3 := mems_maskL (HG.out.inc i hi) (by have := HG.out.le; omega)
        rw [row_nat _ _ hi] at h3
        simp [h3])
      go_enter Tryd.func16, Tryd.ntmps16
      go_wp2_with fail
      rw [← HW.out]
      go_wp2_with fail
      refine (specGraphOk_b a rs c _ true H1.out RA.out hn).mono ?_
      rintro e w1 ⟨rfl, hb⟩
      replace RA := hid (RA.out.below hb (Nat.le_refl _))
      replace RQ := hid (RQ.out.below hb (Nat.le_refl _))
      replace B0 := hid (bon B0.out hb)
      replace c0 := cellB hb c0 (Nat.le_refl _)
      clear hb
      go_wp2_with (go_at_call 65; refine (l1In_b _ _ _ _ true H2.out).mono ?_; rintro e w' ⟨rfl, rfl⟩)
      obtain ⟨wn, rfl⟩ : ∃ wn, wn = w1 := ⟨_, rfl⟩
      go_loopw [5] (fun x wr => ∃ i : Nat, i ≤ qs.length ∧ x = .int .i64 i ∧ (∀ j, (h : j < qs.length) → j < i → ArrP (nums rs) qs[j].z) ∧ (∀ j, (h' : j + 1 < qs.length) → j + 1 < i → cdI qs[j + 1].z ∈ frL ((nums rs).map maskL) (cdI qs[j].z)) ∧ Below wn.heap.size wn wr) (fun x _ => qs.length - (intOf x).toNat)
      case atStart => exact ⟨0, Nat.zero_le _, rfl, fun j _ h => absurd h (Nat.not_lt_zero j), fun j _ h => absurd h (Nat.not_lt_zero _), Below.refl _ _⟩
      case round =>
        obtain ⟨i, hi, rfl, hall, hch, hd⟩ := hrel
        have HALL := hid hall; have HCH := hid hch; have BL := hid hd
        clear hall hch
        replace RA := hid (RA.out.below hd (Nat.le_refl _))
        replace RQ := hid (RQ.out.below hd (Nat.le_refl _))
        replace B0 := hid (bon B0.out hd)
        replace c0 := cellB hd c0 (Nat.le_refl _)
        clear hd
        by_cases hlt : i < qs.length
        · have hii : (i : Int) < (qs.length : Int) := by omega
          obtain ⟨bq, oq, rfl, ci, hqok⟩ := RQ.out.at i hlt
          have RI := hid hqok.1; clear hqok
          have HBAD := hid (fun (h : ¬ ArrP (nums rs) qs[i].z) => (show ¬ OcP (nums rs) (nums qs) from fun hh => h (hh.2.2.1 _ (List.mem_map_of_mem (List.getElem_mem hlt)))))
          have HST := hid (fun (h : ArrP (nums rs) qs[i].z) => (show ∀ j, (h : j < qs.length) → j < i + 1 → ArrP (nums rs) qs[j].z from fun j hj hji => by
            rcases Nat.lt_succ_iff_lt_or_eq.1 hji with h3 | rfl
            · exact HALL.out j hj h3
            · exact h))
          have HQI := hid (show ∀ m, i = m + 1 → (cdI qs[i].z ∈ frL ((nums rs).map maskL) (cdI (qs.getD m ⟨none, [], 0⟩).z) → ∀ j, (h' : j + 1 < qs.length) → j + 1 < i + 1 → cdI qs[j + 1].z ∈ frL ((nums rs).map maskL) (cdI qs[j].z)) ∧ (cdI qs[i].z ∉ frL ((nums rs).map maskL) (cdI (qs.getD m ⟨none, [], 0⟩).z) → ¬ OcP (nums rs) (nums qs)) from fun m hm => by
            subst hm
            have e : qs.getD m ⟨none, [], 0⟩ = qs[m]'(by omega) := by rw [List.getD_eq_getElem?_getD, List.getElem?_eq_getElem (by omega)]; rfl
            rw [e]
            refine ⟨fun h j hj hji => ?_, fun h hh => h ?_⟩
            · rcases Nat.lt_succ_iff_lt_or_eq.1 hji with h3 | h3
              · exact HCH.out j hj h3
              · obtain rfl : j = m := by omega
                exact h
            · have := hh.2.2.2.1 m (by rw [nums_length]; exact hlt)
              simpa [nums] using this)
          have hzi := hm.2 _ (List.getElem_mem hlt)
          generalize qs[i] = q at *
          by_cases hA : ArrP (nums rs) q.z
          · obtain ⟨h1, h2, h3, h4⟩ := arr_pr hA
            have HST2 := hid (HST.out hA)
            have HED := hid (show EdgeP (nums rs) (q.z.getD 0 0) (q.z.getD 1 0) from hA.2)
            clear hA HST HBAD hzi
            obtain ⟨qa, qz, qc⟩ := q
            simp only at h1 h2 h3 h4 RI HST2 HED ci HQI
            rw [nums_length] at h3 h4
            obtain ⟨x, hx⟩ : ∃ x, x = cdI qz := ⟨_, rfl⟩
            rw [← hx] at h1 h2 h3 h4 HQI
            obtain ⟨xa, hxa⟩ : ∃ xa, xa = x / 16 := ⟨_, rfl⟩
            obtain ⟨xb, hxb⟩ : ∃ xb, xb = x % 16 := ⟨_, rfl⟩
            have hxc : cod xa xb = x := by rw [hxa, hxb]; exact cod_self x
            have hz2 : qz = [(xa : Int), (xb : Int)] := by rw [h1, hxa, hxb]; rfl
            rw [← hxa] at h3
            rw [← hxb] at h4
            have HXC := hid hxc
            clear hx hxa hxb h1 hxc
            subst hz2
            have HE := hid (show decide (EdgeP (nums rs) (xa : Int) (xb : Int)) = true by simpa using HED.out)
            obtain ⟨rb, ro, hra, ce0⟩ := RI.out 0 (by simp)
            obtain ⟨rb', ro', hra', ce1⟩ := RI.out 1 (by simp)
            subst hra
            obtain ⟨rfl, rfl⟩ : rb = rb' ∧ ro = ro' := by simpa using hra'
            simp only [List.getElem_cons_zero, List.getElem_cons_succ, Nat.add_zero] at ce0 ce1
            have hxb16 : xb < 16 := by omega
            clear hra' HED h2
            by_cases hi0 : i = 0
            · subst hi0
              simp only [Nat.add_zero] at ci
              have h0i : (0 : Int) < (qs.length : Int) := by omega
              clear hii
              go_wp2
              have qc0 := fun (p : Bel _) => cellB p.h c0 (Nat.le_refl _)
              have qci := fun (p : Bel _) => cellB p.h ci (Nat.le_refl _)
              have qce0 := fun (p : Bel _) => cellB p.h ce0 (Nat.le_refl _)
              have qce1 := fun (p : Bel _) => cellB p.h ce1 (Nat.le_refl _)
              refine wp_quiet_b (by kernel_rfl) (by kernel_rfl) ?_
              repeat (go_big_quiet_step (first | (go_at_call 66; exact qb (l13Near_b _ _ _ _ _ _ true HG.out HE.out (RA.out.bel _) hn))))
              refine wpQuiet_nil ?_
              intro _ hw'
              obtain ⟨⟨w2, hb⟩, rfl⟩ := hw'
              clear qc0 qci qce0 qce1
              replace RA := hid (RA.out.below hb (Nat.le_refl _))
              replace RQ := hid (RQ.out.below hb (Nat.le_refl _))
              replace RI := hid (RI.out.below hb (Nat.le_refl _))
              replace B0 := hid (bon B0.out hb)
              replace BL := hid (bon BL.out hb)
              replace c0 := cellB hb c0 (Nat.le_refl _)
              replace ci := cellB hb ci (Nat.le_refl _)
              replace ce0 := cellB hb ce0 (Nat.le_refl _)
              replace ce1 := cellB hb ce1 (Nat.le_refl _)
              clear hb
              go_wp2
              have qc0 := fun (p : Bel _) => cellB p.h c0 (Nat.le_refl _)
              have qci := fun (p : Bel _) => cellB p.h ci (Nat.le_refl _)
              have qce0 := fun (p : Bel _) => cellB p.h ce0 (Nat.le_refl _)
              have qce1 := fun (p : Bel _) => cellB p.h ce1 (Nat.le_refl _)
              refine wp_quiet_b (by kernel_rfl) (by kernel_rfl) ?_
              repeat (go_big_quiet_step (fail))
              refine wpQuiet_nil ?_
              intro _ hw'
              obtain ⟨⟨w3, hb⟩, rfl⟩ := hw'
              clear qc0 qci qce0 qce1
              replace RA := hid (RA.out.below hb (Nat.le_refl _))
              replace RQ := hid (RQ.out.below hb (Nat.le_refl _))
              replace RI := hid (RI.out.below hb (Nat.le_refl _))
              replace B0 := hid (bon B0.out hb)
              replace BL := hid (bon BL.out hb)
              replace c0 := cellB hb c0 (Nat.le_refl _)
              replace ci := cellB hb ci (Nat.le_refl _)
              replace ce0 := cellB hb ce0 (Nat.le_refl _)
              replace ce1 := cellB hb ce1 (Nat.le_refl _)
              clear hb
              go_wp2
              go_roundw
              case rel => exact ⟨1, by omega, rfl, HST2.out, fun j _ h => absurd h (by omega), BL.out⟩
              case measure => simp [intOf]; omega
            · obtain ⟨m, hmi⟩ : ∃ m, i = m + 1 := ⟨i - 1, by omega⟩
              have hml : m < qs.length := by omega
              have hmil : (m : Int) < (qs.length : Int) := by omega
              have hwr : IntKind.i64.wrap ((i : Int) - 1) = (m : Int) := by rw [IntWalk.i64_in _ (by omega)]; omega
              have hpos : (0 : Int) < (i : Int) := by omega
              have hposn : 0 < i := by omega
              have hposd : decide (0 < i) = true := by rw [decide_eq_true_iff]; omega
              obtain ⟨hq1, hq2⟩ := HQI.out m hmi
              obtain ⟨bq', oq', hqa', cm, hmok⟩ := RQ.out.at m hml
              obtain ⟨rfl, rfl⟩ : bq = bq' ∧ oq = oq' := by simpa using hqa'
              have RM := hid hmok.1; clear hmok hqa'
              have hgd : qs.getD m ⟨none, [], 0⟩ = qs[m] := by rw [List.getD_eq_getElem?_getD, List.getElem?_eq_getElem hml]; rfl
              rw [hgd] at hq1 hq2
              obtain ⟨j1, j2, j3, j4⟩ := arr_pr (HALL.out m hml (by omega))
              rw [nums_length] at j3 j4
              have HMI := hid hmi
              clear hgd hmi
              generalize qs[m] = p at *
              obtain ⟨pa, pz, pc⟩ := p
              simp only at j1 j2 j3 j4 RM cm hq1 hq2
              obtain ⟨y, hy⟩ : ∃ y, y = cdI pz := ⟨_, rfl⟩
              rw [← hy] at j1 j2 j3 j4 hq1 hq2
              obtain ⟨ya, hya⟩ : ∃ ya, ya = y / 16 := ⟨_, rfl⟩
              obtain ⟨yb, hyb⟩ : ∃ yb, yb = y % 16 := ⟨_, rfl⟩
              have hyc : cod ya yb = y := by rw [hya, hyb]; exact cod_self y
              have hp2 : pz = [(ya : Int), (yb : Int)] := by rw [j1, hya, hyb]; rfl
              rw [← hya] at j3
              rw [← hyb] at j4
              have HYC := hid hyc
              clear hy hya hyb j1 hyc
              subst hp2
              obtain ⟨pb, po, hra, cp0⟩ := RM.out 0 (by simp)
              obtain ⟨pb', po', hra', cp1⟩ := RM.out 1 (by simp)
              subst hra
              obtain ⟨rfl, rfl⟩ : pb = pb' ∧ po = po' := by simpa using hra'
              simp only [List.getElem_cons_zero, List.getElem_cons_succ, Nat.add_zero] at cp0 cp1
              have hyb16 : yb < 16 := by omega
              clear hra' j2
              obtain ⟨b1, hb1⟩ : ∃ b1, decide (x ∈ frL ((nums rs).map maskL) y) = b1 := ⟨_, rfl⟩
              have HB1 := hid hb1
              cases b1
              · have HFIN := hid (hq2 (by simpa using hb1))
                clear hb1 hq1 hq2 HQI
                go_wp2
                have qc0 := fun (p : Bel _) => cellB p.h c0 (Nat.le_refl _)
                have qci := fun (p : Bel _) => cellB p.h ci (Nat.le_refl _)
                have qcm := fun (p : Bel _) => cellB p.h cm (Nat.le_refl _)
                have qce0 := fun (p : Bel _) => cellB p.h ce0 (Nat.le_refl _)
                have qce1 := fun (p : Bel _) => cellB p.h ce1 (Nat.le_refl _)
                have qcp0 := fun (p : Bel _) => cellB p.h cp0 (Nat.le_refl _)
                have qcp1 := fun (p : Bel _) => cellB p.h cp1 (Nat.le_refl _)
                refine wp_quiet_b (by kernel_rfl) (by kernel_rfl) ?_
                repeat (go_big_quiet_step (first | (go_at_call 66; exact qb (l13Near_b _ _ _ _ _ _ true HG.out HE.out (RA.out.bel _) hn))))
                refine wpQuiet_nil ?_
                intro _ hw'
                obtain ⟨⟨w4, hb⟩, rfl⟩ := hw'
                clear qc0 qci qcm qce0 qce1 qcp0 qcp1
                replace RA := hid (RA.out.below hb (Nat.le_refl _))
                replace RQ := hid (RQ.out.below hb (Nat.le_refl _))
                replace RI := hid (RI.out.below hb (Nat.le_refl _))
                replace RM := hid (RM.out.below hb (Nat.le_refl _))
                replace B0 := hid (bon B0.out hb)
                replace BL := hid (bon BL.out hb)
                replace c0 := cellB hb c0 (Nat.le_refl _)
                replace ci := cellB hb ci (Nat.le_refl _)
                replace cm := cellB hb cm (Nat.le_refl _)
                replace ce0 := cellB hb ce0 (Nat.le_refl _)
                replace ce1 := cellB hb ce1 (Nat.le_refl _)
                replace cp0 := cellB hb cp0 (Nat.le_refl _)
                replace cp1 := cellB hb cp1 (Nat.le_refl _)
                clear hb
                rename_i wi
                go_wp2
                have D3 : Drawn wi wi.drew := ⟨1, rfl⟩
                have f0 := dcell D3 c0
                have f1 := dcell D3 ci
                have f2 := dcell D3 cm
                have f3 := dcell D3 ce0
                have f4 := dcell D3 ce1
                have f5 := dcell D3 cp0
                have f6 := dcell D3 cp1
                have RA3 := hid (RA.out.below (D3.below wi.heap.size) (Nat.le_refl _))
                have BL3 := hid (bon BL.out (D3.below wi.heap.size))
                have B03 := hid (bon B0.out (D3.below wi.heap.size))
                simp only [List.length_cons, List.length_nil, Nat.zero_add, Nat.reduceAdd] at f1 f2
                clear c0 ci cm ce0 ce1 cp0 cp1
                go_region_held3 (fun w' => w'.cell? ⟨w.heap.size, 0, none⟩ = some (.slice a rs.length c) ∧ w'.cell? ⟨bq, oq + i, none⟩ = some (.slice (some ⟨rb, ro, none⟩) 2 qc) ∧ w'.cell? ⟨bq, oq + m, none⟩ = some (.slice (some ⟨pb, po, none⟩) 2 pc) ∧ w'.cell? ⟨rb, ro, none⟩ = some (.int .i64 xa) ∧ w'.cell? ⟨rb, ro + 1, none⟩ = some (.int .i64 xb) ∧ w'.cell? ⟨pb, po, none⟩ = some (.int .i64 ya) ∧ w'.cell? ⟨pb, po + 1, none⟩ = some (.int .i64 yb)) (first | exact ⟨f0, f1, f2, f3, f4, f5, f6⟩ | exact ⟨g0, g1, g2, g3, g4, g5, g6⟩) ((first | (go_at_call 68; refine (l13Forces_any a rs c rs.length _ ya yb _ HGA.out HNM.out RA3.out j3 j4).mono ?_; rintro e w7 ⟨fv, fq, rfl, hown, hnu, ⟨fa, fc, rfl⟩, hb⟩; have RF := hid hown.rdm; have HNU := hid (HYC.out ▸ hnu); have g0 := cellB hb f0 (Nat.le_refl _); have g1 := cellB hb f1 (Nat.le_refl _); have g2 := cellB hb f2 (Nat.le_refl _); have g3 := cellB hb f3 (Nat.le_refl _); have g4 := cellB hb f4 (Nat.le_refl _); have g5 := cellB hb f5 (Nat.le_refl _); have g6 := cellB hb f6 (Nat.le_refl _); have BL8 := hid (bon BL3.out hb); have B08 := hid (bon B03.out hb); have HFL := hid (show fq.length ≤ 16777216 by (have h1 := congrArg List.length HNU.out; rw [nums_length, List.length_map] at h1; rw [h1]; exact Nat.le_trans (frL_lenS _ _) (by decide))); clear hown hnu hb) | (go_at_call 67; refine (l19Has_any _ fq _ _ xa xb x _ _ HNU.out RF.out HXC.out hxb16 HB1.out HFL.out).mono ?_; rintro e w' ⟨rfl, rfl⟩)))
                go_wp2
                go_ret
                exact ⟨ret_bool (dec_f HB.out HFIN.out), B08.out⟩
              · have HFIN := hid (hq1 (by simpa using hb1))
                clear hb1 hq1 hq2 HQI
                go_wp2
                have qc0 := fun (p : Bel _) => cellB p.h c0 (Nat.le_refl _)
                have qci := fun (p : Bel _) => cellB p.h ci (Nat.le_refl _)
                have qcm := fun (p : Bel _) => cellB p.h cm (Nat.le_refl _)
                have qce0 := fun (p : Bel _) => cellB p.h ce0 (Nat.le_refl _)
                have qce1 := fun (p : Bel _) => cellB p.h ce1 (Nat.le_refl _)
                have qcp0 := fun (p : Bel _) => cellB p.h cp0 (Nat.le_refl _)
                have qcp1 := fun (p : Bel _) => cellB p.h cp1 (Nat.le_refl _)
                refine wp_quiet_b (by kernel_rfl) (by kernel_rfl) ?_
                repeat (go_big_quiet_step (first | (go_at_call 66; exact qb (l13Near_b _ _ _ _ _ _ true HG.out HE.out (RA.out.bel _) hn))))
                refine wpQuiet_nil ?_
                intro _ hw'
                obtain ⟨⟨w5, hb⟩, rfl⟩ := hw'
                clear qc0 qci qcm qce0 qce1 qcp0 qcp1
                replace RA := hid (RA.out.below hb (Nat.le_refl _))
                replace RQ := hid (RQ.out.below hb (Nat.le_refl _))
                replace RI := hid (RI.out.below hb (Nat.le_refl _))
                replace RM := hid (RM.out.below hb (Nat.le_refl _))
                replace B0 := hid (bon B0.out hb)
                replace BL := hid (bon BL.out hb)
                replace c0 := cellB hb c0 (Nat.le_refl _)
                replace ci := cellB hb ci (Nat.le_refl _)
                replace cm := cellB hb cm (Nat.le_refl _)
                replace ce0 := cellB hb ce0 (Nat.le_refl _)
                replace ce1 := cellB hb ce1 (Nat.le_refl _)
                replace cp0 := cellB hb cp0 (Nat.le_refl _)
                replace cp1 := cellB hb cp1 (Nat.le_refl _)
                clear hb
                rename_i wi
                go_wp2
                have D3 : Drawn wi wi.drew := ⟨1, rfl⟩
                have f0 := dcell D3 c0
                have f1 := dcell D3 ci
                have f2 := dcell D3 cm
                have f3 := dcell D3 ce0
                have f4 := dcell D3 ce1
                have f5 := dcell D3 cp0
                have f6 := dcell D3 cp1
                have RA3 := hid (RA.out.below (D3.below wi.heap.size) (Nat.le_refl _))
                have BL3 := hid (bon BL.out (D3.below wi.heap.size))
                have B03 := hid (bon B0.out (D3.below wi.heap.size))
                simp only [List.length_cons, List.length_nil, Nat.zero_add, Nat.reduceAdd] at f1 f2
                clear c0 ci cm ce0 ce1 cp0 cp1
                go_region_held3 (fun w' => w'.cell? ⟨w.heap.size, 0, none⟩ = some (.slice a rs.length c) ∧ w'.cell? ⟨bq, oq + i, none⟩ = some (.slice (some ⟨rb, ro, none⟩) 2 qc) ∧ w'.cell? ⟨bq, oq + m, none⟩ = some (.slice (some ⟨pb, po, none⟩) 2 pc) ∧ w'.cell? ⟨rb, ro, none⟩ = some (.int .i64 xa) ∧ w'.cell? ⟨rb, ro + 1, none⟩ = some (.int .i64 xb) ∧ w'.cell? ⟨pb, po, none⟩ = some (.int .i64 ya) ∧ w'.cell? ⟨pb, po + 1, none⟩ = some (.int .i64 yb)) (first | exact ⟨f0, f1, f2, f3, f4, f5, f6⟩ | exact ⟨g0, g1, g2, g3, g4, g5, g6⟩) ((first | (go_at_call 68; refine (l13Forces_any a rs c rs.length _ ya yb _ HGA.out HNM.out RA3.out j3 j4).mono ?_; rintro e w7 ⟨fv, fq, rfl, hown, hnu, ⟨fa, fc, rfl⟩, hb⟩; have RF := hid hown.rdm; have HNU := hid (HYC.out ▸ hnu); have g0 := cellB hb f0 (Nat.le_refl _); have g1 := cellB hb f1 (Nat.le_refl _); have g2 := cellB hb f2 (Nat.le_refl _); have g3 := cellB hb f3 (Nat.le_refl _); have g4 := cellB hb f4 (Nat.le_refl _); have g5 := cellB hb f5 (Nat.le_refl _); have g6 := cellB hb f6 (Nat.le_refl _); have BL8 := hid (bon BL3.out hb); have B08 := hid (bon B03.out hb); have HFL := hid (show fq.length ≤ 16777216 by (have h1 := congrArg List.length HNU.out; rw [nums_length, List.length_map] at h1; rw [h1]; exact Nat.le_trans (frL_lenS _ _) (by decide))); clear hown hnu hb) | (go_at_call 67; refine (l19Has_any _ fq _ _ xa xb x _ _ HNU.out RF.out HXC.out hxb16 HB1.out HFL.out).mono ?_; rintro e w' ⟨rfl, rfl⟩)))
                go_wp2
                go_roundw
                case rel => exact ⟨i + 1, by omega, by go_num, HST2.out, HFIN.out, BL8.out⟩
                case measure => simp [intOf]; omega
          · have HF := hid (HBAD.out hA)
            by_cases h2 : q.z.length = 2
            · obtain ⟨qa, qz, qc⟩ := q
              match qz, h2 with
              | [y0, y1], _ =>
                have HE := hid (show decide (EdgeP (nums rs) y0 y1) = false by rw [decide_eq_false_iff_not]; exact fun h => hA ⟨rfl, h⟩)
                simp only at RI ci
                obtain ⟨rb, ro, hra, ce0⟩ := RI.out 0 (by simp)
                obtain ⟨rb', ro', hra', ce1⟩ := RI.out 1 (by simp)
                subst hra
                obtain ⟨rfl, rfl⟩ : rb = rb' ∧ ro = ro' := by simpa using hra'
                simp only [List.getElem_cons_zero, List.getElem_cons_succ, Nat.add_zero] at ce0 ce1
                clear hra' hA HBAD HST HQI hzi
                go_wp2
                have qc0 := fun (p : Bel _) => cellB p.h c0 (Nat.le_refl _)
                have qci := fun (p : Bel _) => cellB p.h ci (Nat.le_refl _)
                have qce0 := fun (p : Bel _) => cellB p.h ce0 (Nat.le_refl _)
                have qce1 := fun (p : Bel _) => cellB p.h ce1 (Nat.le_refl _)
                refine wp_quiet_b (by kernel_rfl) (by kernel_rfl) ?_
                repeat (go_big_quiet_step (first | (go_at_call 66; exact qb (l13Near_b _ _ _ _ _ _ false HG.out HE.out (RA.out.bel _) hn))))
                refine wpQuiet_nil ?_
                intro _ hw'
                obtain ⟨⟨w6, hb⟩, rfl⟩ := hw'
                clear qc0 qci qce0 qce1
                replace RA := hid (RA.out.below hb (Nat.le_refl _))
                replace RQ := hid (RQ.out.below hb (Nat.le_refl _))
                replace RI := hid (RI.out.below hb (Nat.le_refl _))
                replace B0 := hid (bon B0.out hb)
                replace BL := hid (bon BL.out hb)
                replace c0 := cellB hb c0 (Nat.le_refl _)
                replace ci := cellB hb ci (Nat.le_refl _)
                replace ce0 := cellB hb ce0 (Nat.le_refl _)
                replace ce1 := cellB hb ce1 (Nat.le_refl _)
                clear hb
                go_wp2
                go_ret
                exact ⟨ret_bool (dec_f HB.out HF.out), B0.out⟩
            · have h2' : ((q.z.length : Int) != 2) = true := by rw [bne_iff_ne]; omega
              clear hA HBAD HST h2 HQI
              go_wp2
              have qc0 := fun (p : Bel _) => cellB p.h c0 (Nat.le_refl _)
              have qci := fun (p : Bel _) => cellB p.h ci (Nat.le_refl _)
              refine wp_quiet_b (by kernel_rfl) (by kernel_rfl) ?_
              repeat (go_big_quiet_step (fail))
              refine wpQuiet_nil ?_
              intro _ hw'
              obtain ⟨⟨w7, hb⟩, rfl⟩ := hw'
              clear qc0 qci
              replace RA := hid (RA.out.below hb (Nat.le_refl _))
              replace RQ := hid (RQ.out.below hb (Nat.le_refl _))
              replace RI := hid (RI.out.below hb (Nat.le_refl _))
              replace B0 := hid (bon B0.out hb)
              replace BL := hid (bon BL.out hb)
              replace c0 := cellB hb c0 (Nat.le_refl _)
              replace ci := cellB hb ci (Nat.le_refl _)
              clear hb
              go_wp2
              go_ret
              exact ⟨ret_bool (dec_f HB.out HF.out), B0.out⟩
        · obtain rfl : i = qs.length := by omega
          obtain ⟨m, hmi⟩ : ∃ m, qs.length = m + 1 := ⟨qs.length - 1, by have := HL.out; omega⟩
          have hml : m < qs.length := by omega
          have h0l : 0 < qs.length := by omega
          have hmil : (m : Int) < (qs.length : Int) := by omega
          have h0i : (0 : Int) < (qs.length : Int) := by omega
          have hwr : IntKind.i64.wrap ((qs.length : Int) - 1) = (m : Int) := by rw [IntWalk.i64_in _ (by omega)]; omega
          have HOC := hid (show (cdI qs[m].z = opp (cdI qs[0].z)) ↔ OcP (nums rs) (nums qs) from by
            have e1 : (nums qs).getD ((nums qs).length - 1) [] = qs[m].z := by
              rw [nums_length, show qs.length - 1 = m by omega, List.getD_eq_getElem?_getD, List.getElem?_eq_getElem (by rw [nums_length]; exact hml)]; simp [nums]
            have e2 : (nums qs).getD 0 [] = qs[0].z := by
              rw [List.getD_eq_getElem?_getD, List.getElem?_eq_getElem (by rw [nums_length]; exact h0l)]; simp [nums]
            unfold OcP
            rw [e1, e2]
            constructor
            · intro h
              refine ⟨HG.out, by rw [nums_length]; exact HL.out, ?_, ?_, h⟩
              · intro l hl
                obtain ⟨q, hq, rfl⟩ := List.mem_map.1 hl
                obtain ⟨j, hj, rfl⟩ := List.mem_iff_getElem.1 hq
                exact HALL.out j hj hj
              · intro j hj
                rw [nums_length] at hj
                have := HCH.out j hj (by omega)
                simpa [nums] using this
            · intro h; exact h.2.2.2.2)
          obtain ⟨bq, oq, rfl, cm, hmok⟩ := RQ.out.at m hml
          obtain ⟨bq', oq', hqa', ci, hqok⟩ := RQ.out.at 0 h0l
          obtain ⟨rfl, rfl⟩ : bq = bq' ∧ oq = oq' := by simpa using hqa'
          have RM := hid hmok.1; have RI := hid hqok.1
          simp only [Nat.add_zero] at ci
          clear hmok hqok hqa' hmi
          obtain ⟨i1, i2, i3, i4⟩ := arr_pr (HALL.out 0 h0l h0l)
          obtain ⟨j1, j2, j3, j4⟩ := arr_pr (HALL.out m hml hml)
          rw [nums_length] at i3 i4 j3 j4
          generalize qs[m] = p at *
          generalize qs[0] = q at *
          obtain ⟨pa, pz, pc⟩ := p
          obtain ⟨qa, qz, qc⟩ := q
          simp only at i1 i2 i3 i4 j1 j2 j3 j4 RM RI cm ci HOC
          obtain ⟨x, hx⟩ : ∃ x, x = cdI qz := ⟨_, rfl⟩
          obtain ⟨y, hy⟩ : ∃ y, y = cdI pz := ⟨_, rfl⟩
          rw [← hx] at i1 i2 i3 i4 HOC
          rw [← hy] at j1 j2 j3 j4 HOC
          obtain ⟨xa, hxa⟩ : ∃ xa, xa = x / 16 := ⟨_, rfl⟩
          obtain ⟨xb, hxb⟩ : ∃ xb, xb = x % 16 := ⟨_, rfl⟩
          obtain ⟨ya, hya⟩ : ∃ ya, ya = y / 16 := ⟨_, rfl⟩
          obtain ⟨yb, hyb⟩ : ∃ yb, yb = y % 16 := ⟨_, rfl⟩
          have hyc : cod ya yb = y := by rw [hya, hyb]; exact cod_self y
          have hop : opp x = cod xb xa := by unfold opp; rw [← hxa, ← hxb]
          rw [hop, ← hyc] at HOC
          have hp2 : pz = [(ya : Int), (yb : Int)] := by rw [j1, hya, hyb]; rfl
          have hq2 : qz = [(xa : Int), (xb : Int)] := by rw [i1, hxa, hxb]; rfl
          rw [← hxa] at i3
          rw [← hyb] at j4
          have HEQ := hid (show (ya = xb ∧ yb = xa) ↔ OcP (nums rs) (nums qs) from by
            rw [← HOC.out]; unfold cod; omega)
          clear hx hy hxa hxb hya hyb hyc hop i1 i2 i4 j1 j2 j3 HOC
          subst hp2; subst hq2
          obtain ⟨pb, po, hra, cp0⟩ := RM.out 0 (by simp)
          obtain ⟨pb', po', hra', cp1⟩ := RM.out 1 (by simp)
          subst hra
          obtain ⟨rfl, rfl⟩ : pb = pb' ∧ po = po' := by simpa using hra'
          obtain ⟨rb, ro, hra2, ce0⟩ := RI.out 0 (by simp)
          obtain ⟨rb', ro', hra3, ce1⟩ := RI.out 1 (by simp)
          subst hra2
          obtain ⟨rfl, rfl⟩ : rb = rb' ∧ ro = ro' := by simpa using hra3
          simp only [List.getElem_cons_zero, List.getElem_cons_succ, Nat.add_zero] at cp0 cp1 ce0 ce1
          simp only [List.length_cons, List.length_nil, Nat.zero_add, Nat.reduceAdd] at cm ci
          clear hra' hra3
          by_cases h1 : ya = xb
          · have d1 : ((ya : Int) == (xb : Int)) = true := by rw [beq_iff_eq]; omega
            by_cases h2 : yb = xa
            · have d2 : ((yb : Int) == (xa : Int)) = true := by rw [beq_iff_eq]; omega
              have HF := hid (HEQ.out.1 ⟨h1, h2⟩)
              clear h1 h2
              go_wp2
              have qc0 := fun (p : Bel _) => cellB p.h c0 (Nat.le_refl _)
              have qci := fun (p : Bel _) => cellB p.h ci (Nat.le_refl _)
              have qcm := fun (p : Bel _) => cellB p.h cm (Nat.le_refl _)
              have qce0 := fun (p : Bel _) => cellB p.h ce0 (Nat.le_refl _)
              have qce1 := fun (p : Bel _) => cellB p.h ce1 (Nat.le_refl _)
              have qcp0 := fun (p : Bel _) => cellB p.h cp0 (Nat.le_refl _)
              have qcp1 := fun (p : Bel _) => cellB p.h cp1 (Nat.le_refl _)
              refine wp_quiet_b (by kernel_rfl) (by kernel_rfl) ?_
              repeat (go_big_quiet_step (fail))
              refine wpQuiet_nil ?_
              intro _ hw'
              obtain ⟨⟨w8, hb⟩, rfl⟩ := hw'
              clear qc0 qci qcm qce0 qce1 qcp0 qcp1
              replace RA := hid (RA.out.below hb (Nat.le_refl _))
              replace RQ := hid (RQ.out.below hb (Nat.le_refl _))
              replace B0 := hid (bon B0.out hb)
              replace BL := hid (bon BL.out hb)
              replace c0 := cellB hb c0 (Nat.le_refl _)
              replace ci := cellB hb ci (Nat.le_refl _)
              replace cm := cellB hb cm (Nat.le_refl _)
              replace ce0 := cellB hb ce0 (Nat.le_refl _)
              replace ce1 := cellB hb ce1 (Nat.le_refl _)
              replace cp0 := cellB hb cp0 (Nat.le_refl _)
              replace cp1 := cellB hb cp1 (Nat.le_refl _)
              clear hb
              go_wp2
              go_ret
              exact ⟨ret_bool (by rw [← HB.out]; symm; simpa using HF.out), B0.out⟩
            · have d2 : ((yb : Int) == (xa : Int)) = false := by rw [beq_eq_false_iff_ne]; omega
              have HF := hid (show ¬ OcP (nums rs) (nums qs) from fun h => h2 (HEQ.out.2 h).2)
              clear h1 h2
              go_wp2
              have qc0 := fun (p : Bel _) => cellB p.h c0 (Nat.le_refl _)
              have qci := fun (p : Bel _) => cellB p.h ci (Nat.le_refl _)
              have qcm := fun (p : Bel _) => cellB p.h cm (Nat.le_refl _)
              have qce0 := fun (p : Bel _) => cellB p.h ce0 (Nat.le_refl _)
              have qce1 := fun (p : Bel _) => cellB p.h ce1 (Nat.le_refl _)
              have qcp0 := fun (p : Bel _) => cellB p.h cp0 (Nat.le_refl _)
              have qcp1 := fun (p : Bel _) => cellB p.h cp1 (Nat.le_refl _)
              refine wp_quiet_b (by kernel_rfl) (by kernel_rfl) ?_
              repeat (go_big_quiet_step (fail))
              refine wpQuiet_nil ?_
              intro _ hw'
              obtain ⟨⟨w9, hb⟩, rfl⟩ := hw'
              clear qc0 qci qcm qce0 qce1 qcp0 qcp1
              replace RA := hid (RA.out.below hb (Nat.le_refl _))
              replace RQ := hid (RQ.out.below hb (Nat.le_refl _))
              replace B0 := hid (bon B0.out hb)
              replace BL := hid (bon BL.out hb)
              replace c0 := cellB hb c0 (Nat.le_refl _)
              replace ci := cellB hb ci (Nat.le_refl _)
              replace cm := cellB hb cm (Nat.le_refl _)
              replace ce0 := cellB hb ce0 (Nat.le_refl _)
              replace ce1 := cellB hb ce1 (Nat.le_refl _)
              replace cp0 := cellB hb cp0 (Nat.le_refl _)
              replace cp1 := cellB hb cp1 (Nat.le_refl _)
              clear hb
              go_wp2
              go_ret
              exact ⟨ret_bool (dec_f HB.out HF.out), B0.out⟩
          · have d1 : ((ya : Int) == (xb : Int)) = false := by rw [beq_eq_false_iff_ne]; omega
            have HF := hid (show ¬ OcP (nums rs) (nums qs) from fun h => h1 (HEQ.out.2 h).1)
            clear h1
            go_wp2
            have qc0 := fun (p : Bel _) => cellB p.h c0 (Nat.le_refl _)
            have qci := fun (p : Bel _) => cellB p.h ci (Nat.le_refl _)
            have qcm := fun (p : Bel _) => cellB p.h cm (Nat.le_refl _)
            have qce0 := fun (p : Bel _) => cellB p.h ce0 (Nat.le_refl _)
            have qce1 := fun (p : Bel _) => cellB p.h ce1 (Nat.le_refl _)
            have qcp0 := fun (p : Bel _) => cellB p.h cp0 (Nat.le_refl _)
            have qcp1 := fun (p : Bel _) => cellB p.h cp1 (Nat.le_refl _)
            refine wp_quiet_b (by kernel_rfl) (by kernel_rfl) ?_
            repeat (go_big_quiet_step (fail))
            refine wpQuiet_nil ?_
            intro _ hw'
            obtain ⟨⟨w10, hb⟩, rfl⟩ := hw'
            clear qc0 qci qcm qce0 qce1 qcp0 qcp1
            replace RA := hid (RA.out.below hb (Nat.le_refl _))
            replace RQ := hid (RQ.out.below hb (Nat.le_refl _))
            replace B0 := hid (bon B0.out hb)
            replace BL := hid (bon BL.out hb)
            replace c0 := cellB hb c0 (Nat.le_refl _)
            replace ci := cellB hb ci (Nat.le_refl _)
            replace cm := cellB hb cm (Nat.le_refl _)
            replace ce0 := cellB hb ce0 (Nat.le_refl _)
            replace ce1 := cellB hb ce1 (Nat.le_refl _)
            replace cp0 := cellB hb cp0 (Nat.le_refl _)
            replace cp1 := cellB hb cp1 (Nat.le_refl _)
            clear hb
            go_wp2
            go_ret
            exact ⟨ret_bool (dec_f HB.out HF.out), B0.out⟩
    · have H2 := hid (show decide ((2 : Int) ≤ (qs.length : Int) ∧ (qs.length : Int) ≤ 240) = false by rw [decide_eq_false_iff_not]; omega)
      have HF := hid (show ¬ OcP (nums rs) (nums qs) from fun h => hl (by have := h.2.1; rwa [nums_length] at this))
      clear hl
      go_enter Tryd.func16, Tryd.ntmps16
      go_wp2_with fail
      rw [← HW.out]
      go_wp2_with fail
      refine (specGraphOk_b a rs c _ true H1.out RA.out hn).mono ?_
      rintro e w11 ⟨rfl, hb⟩
      replace RA := hid (RA.out.below hb (Nat.le_refl _))
      replace RQ := hid (RQ.out.below hb (Nat.le_refl _))
      replace B0 := hid (bon B0.out hb)
      replace c0 := cellB hb c0 (Nat.le_refl _)
      clear hb
      go_wp2_with (go_at_call 65; refine (l1In_b _ _ _ _ false H2.out).mono ?_; rintro e w' ⟨rfl, rfl⟩)
      go_ret
      exact ⟨ret_bool (dec_f HB.out HF.out), B0.out⟩
  · have H1 := hid (show decide (GOk (nums rs)) = false by simpa using hg)
    have HF := hid (show ¬ OcP (nums rs) (nums qs) from fun h => hg h.1)
    clear hg
    go_enter Tryd.func16, Tryd.ntmps16
    go_wp2_with fail
    rw [← HW.out]
    go_wp2_with fail
    refine (specGraphOk_b a rs c _ false H1.out RA.out hn).mono ?_
    rintro e w12 ⟨rfl, hb⟩
    replace RA := hid (RA.out.below hb (Nat.le_refl _))
    replace RQ := hid (RQ.out.below hb (Nat.le_refl _))
    replace B0 := hid (bon B0.out hb)
    replace c0 := cellB hb c0 (Nat.le_refl _)
    clear hb
    go_wp2
    go_ret
    exact ⟨ret_bool (dec_f HB.out HF.out), B0.out⟩
end
end Go.Proofs.YtggjmnihnjdoaaaDoor
