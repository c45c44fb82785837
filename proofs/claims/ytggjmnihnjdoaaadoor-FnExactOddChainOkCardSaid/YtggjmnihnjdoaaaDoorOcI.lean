/- OddChainOk: the program's. -/
import Derived.Test.YtggjmnihnjdoaaaDoorOcM
import Derived.Test.YtggjmnihnjdoaaaDoorArrC
import Derived.Test.YtggjmnihnjdoaaaDoorForI
namespace Go.Proofs.YtggjmnihnjdoaaaDoor
open Go.RowKit
section
set_option maxRecDepth 100000 in
set_option maxHeartbeats 8000000 in
theorem implOddChainOk_b (a : Option Addr) (rs : List Row) (c : Nat) (a' : Option Addr) (qs : List Row) (c' : Nat) (w : World) (b : Bool) (hb : decide (OcP (nums rs) (nums qs)) = b) (hr : RdM w a rs) (hn : Small rs) (hq : RdM w a' qs) (hm : Small qs) (hT : TabOk w) :
    Calls Tryd.prog 19 #[.agg #[.slice a rs.length c], .slice a' qs.length c'] w fun e w' => e = .returned (.bool b) ∧ Below w.heap.size w w' := by
  have RA := hid hr; have RQ := hid hq; have HB := hid hb; have RT := hid hT; clear hr hq hb hT
  obtain ⟨w0, hw0⟩ : ∃ w0, w0 = (w.alloc (.cells #[.slice a rs.length c] 28)) := ⟨_, rfl⟩
  have B0 := hid (show Below w.heap.size w w0 by rw [hw0]; exact ((Below.refl _ _).alloc (Nat.le_refl _) _))
  have c0 : w0.cell? ⟨w.heap.size, 0, none⟩ = some (.slice a rs.length c) := by rw [hw0]; simp [go_sem]
  replace RA := hid (RA.out.below B0.out (Nat.le_refl _))
  replace RQ := hid (RQ.out.below B0.out (Nat.le_refl _))
  replace RT := hid (RT.out.below B0.out (Nat.le_refl _))
  have HW := hid hw0; clear hw0
  by_cases hg : GOk (nums rs)
  · have H1 := hid (show decide (GOk (nums rs)) = true by simpa using hg)
    have HG := hid hg; clear hg
    by_cases hl2 : 2 ≤ qs.length
    · have hd2 : decide ((qs.length : Int) < 2) = false := by rw [decide_eq_false_iff_not]; omega
      by_cases hl240 : qs.length ≤ 240
      · have hd240 : decide ((240 : Int) < (qs.length : Int)) = false := by rw [decide_eq_false_iff_not]; omega
        have HGA := hid (GA.of HG.out)
        have hg16 := HG.out.le
        rw [nums_length] at hg16
        go_enter Tryd.func19, Tryd.ntmps19
        go_wp2_with fail
        rw [← HW.out]
        go_wp2_with fail
        refine (implGraphOk_b a rs c _ true H1.out RA.out hn).mono ?_
        rintro e w1 ⟨rfl, hb⟩
        replace RA := hid (RA.out.below hb (Nat.le_refl _))
        replace RQ := hid (RQ.out.below hb (Nat.le_refl _))
        replace RT := hid (RT.out.below hb (Nat.le_refl _))
        replace B0 := hid (bon B0.out hb)
        replace c0 := cellB hb c0 (Nat.le_refl _)
        clear hb
        go_wp2_with fail
        go_wp2_with fail
        refine (netsOf_any a rs c _ HG.out RA.out hn).mono ?_
        rintro e w2 ⟨v, rfl, hown, hb⟩
        replace RA := hid (RA.out.below hb (Nat.le_refl _))
        replace RQ := hid (RQ.out.below hb (Nat.le_refl _))
        replace RT := hid (RT.out.below hb (Nat.le_refl _))
        replace B0 := hid (bon B0.out hb)
        replace c0 := cellB hb c0 (Nat.le_refl _)
        clear hb
        obtain ⟨na, nc, rfl, hsr, _, _, _, _⟩ := Own.rd (f := netF) hown
        have RN := hid hsr.masks; clear hown hsr
        rw [nums_length]
        obtain ⟨wn, rfl⟩ : ∃ wn, wn = w2 := ⟨_, rfl⟩
        have RQ0 := hid RQ.out
        have OV := hid (OwnA.new wn)
        have hbv := alloc_below wn (.cells #[] 78)
        have BV := hid hbv
        go_wp2
        generalize wn.alloc (.cells #[] 78) = wv at *
        go_loopw [7, 9, 29] (fun o _ x wr => ∃ i : Nat, i ≤ qs.length ∧ x = .int .i64 i ∧ OwnA wr wn.heap.size o (((nums qs).map cdI).take i) ∧ (∃ g, o.ownBlock = some g) ∧ (∀ j, (h : j < qs.length) → j < i → ArrP (nums rs) qs[j].z) ∧ Below wn.heap.size wn wr) (fun _ _ x _ => qs.length - (intOf x).toNat)
        case atStart => exact ⟨0, Nat.zero_le _, rfl, OV.out, ⟨_, rfl⟩, fun j _ h => absurd h (Nat.not_lt_zero j), BV.out⟩
        case round =>
          obtain ⟨i, hi, rfl, ho, hog, hall, hd⟩ := hrel
          have OO := hid ho; have OG := hid hog; have HALL := hid hall; have BL := hid hd
          have hszn := hd.size
          clear ho hog hall OV BV hbv
          replace RA := hid (RA.out.below hd (Nat.le_refl _))
          replace RQ := hid (RQ.out.below hd (Nat.le_refl _))
          replace RT := hid (RT.out.below hd (Nat.le_refl _))
          replace RN := hid (RN.out.below hd (Nat.le_refl _))
          replace B0 := hid (bon B0.out hd)
          replace c0 := cellB hd c0 (Nat.le_refl _)
          clear hd
          by_cases hlt : i < qs.length
          · have hii : (i : Int) < (qs.length : Int) := by omega
            obtain ⟨bq, oq, rfl, ci, hqok⟩ := RQ.out.at i hlt
            have RI := hid hqok.1; clear hqok
            have RI0 := hid (RQ0.out.row _ (List.getElem_mem hlt)).1
            have hzi := hm.2 _ (List.getElem_mem hlt)
            have HBAD := hid (fun (h : ¬ ArrP (nums rs) qs[i].z) => (show ¬ OcP (nums rs) (nums qs) from fun hh => h (hh.2.2.1 _ (List.mem_map_of_mem (List.getElem_mem hlt)))))
            have HST := hid (fun (h : ArrP (nums rs) qs[i].z) => (show ∀ j, (h : j < qs.length) → j < i + 1 → ArrP (nums rs) qs[j].z from fun j hj hji => by
              rcases Nat.lt_succ_iff_lt_or_eq.1 hji with h3 | rfl
              · exact HALL.out j hj h3
              · exact h))
            have HTK := hid (show ((nums qs).map cdI).take (i + 1) = ((nums qs).map cdI).take i ++ [cdI qs[i].z] by
              rw [List.take_succ_eq_append_getElem (by simpa [nums] using hlt)]; simp [nums])
            have HLL := hid (show (((nums qs).map cdI).take i).length < 1099511627776 by rw [List.length_take]; omega)
            generalize qs[i] = q at *
            by_cases hA : ArrP (nums rs) q.z
            · obtain ⟨h1, h2, h3, h4⟩ := arr_pr hA
              have HST2 := hid (HST.out hA)
              have HED := hid (show EdgeP (nums rs) (q.z.getD 0 0) (q.z.getD 1 0) from hA.2)
              clear hA HST HBAD
              obtain ⟨qa, qz, qc⟩ := q
              simp only at h1 h2 h3 h4 RI RI0 HST2 HED HTK ci
              rw [nums_length] at h3 h4
              obtain ⟨x, hx⟩ : ∃ x, x = cdI qz := ⟨_, rfl⟩
              rw [← hx] at h1 h2 h3 h4 HTK
              obtain ⟨xa, hxa⟩ : ∃ xa, xa = x / 16 := ⟨_, rfl⟩
              obtain ⟨xb, hxb⟩ : ∃ xb, xb = x % 16 := ⟨_, rfl⟩
              have hxc : cod xa xb = x := by rw [hxa, hxb]; exact cod_self x
              have hz2 : qz = [(xa : Int), (xb : Int)] := by rw [h1, hxa, hxb]; rfl
              rw [← hxa] at h3
              rw [← hxb] at h4
              have HXC := hid hxc
              clear hx hxa hxb h1 hxc
              subst hz2
              have HE := hid (show decide (EdgeP (nums rs) (xa : Int) (xb : Int)) = true by simpa using HED.out)
              obtain ⟨rb, ro, hra, ce0⟩ := RI.out 0 (by simp)
              obtain ⟨rb', ro', hra', ce1⟩ := RI.out 1 (by simp)
              subst hra
              obtain ⟨rfl, rfl⟩ : rb = rb' ∧ ro = ro' := by simpa using hra'
              simp only [List.getElem_cons_zero, List.getElem_cons_succ, Nat.add_zero] at ce0 ce1
              have hb16 : xb < 16 := by omega
              obtain ⟨rb', ro', hra2, n0⟩ := RI0.out 0 (by simp)
              obtain ⟨rfl, rfl⟩ : rb = rb' ∧ ro = ro' := by simpa using hra2
              obtain ⟨rb', ro', hra3, n1⟩ := RI0.out 1 (by simp)
              obtain ⟨rfl, rfl⟩ : rb = rb' ∧ ro = ro' := by simpa using hra3
              simp only [List.getElem_cons_zero, List.getElem_cons_succ, Nat.add_zero] at n0 n1
              have HN0 := hid n0; have HN1 := hid n1
              clear hra2 hra3 n0 n1 hzi
              clear hra' HED h2
              go_wp2
              have qc0 := fun (p : Bel _) => cellB p.h c0 (Nat.le_refl _)
              have qci := fun (p : Bel _) => cellB p.h ci (Nat.le_refl _)
              have qce0 := fun (p : Bel _) => cellB p.h ce0 (Nat.le_refl _)
              have qce1 := fun (p : Bel _) => cellB p.h ce1 (Nat.le_refl _)
              refine wp_quiet_b (by kernel_rfl) (by kernel_rfl) ?_
              repeat (go_big_quiet_step (first | (go_at_call 72; exact qb (implEdgeIn_c _ _ _ _ _ _ true HE.out (RA.out.bel _) hn))))
              refine wpQuiet_nil ?_
              intro _ hw'
              obtain ⟨⟨w3, hb⟩, rfl⟩ := hw'
              clear qc0 qci qce0 qce1
              replace RA := hid (RA.out.below hb (Nat.le_refl _))
              replace RQ := hid (RQ.out.below hb (Nat.le_refl _))
              replace RT := hid (RT.out.below hb (Nat.le_refl _))
              replace RN := hid (RN.out.below hb (Nat.le_refl _))
              replace RI := hid (RI.out.below hb (Nat.le_refl _))
              replace B0 := hid (bon B0.out hb)
              replace OO := hid (OO.out.past hb (Nat.le_refl _))
              replace BL := hid (bon BL.out hb)
              replace c0 := cellB hb c0 (Nat.le_refl _)
              replace ci := cellB hb ci (Nat.le_refl _)
              replace ce0 := cellB hb ce0 (Nat.le_refl _)
              replace ce1 := cellB hb ce1 (Nat.le_refl _)
              clear hb
              rename_i wi
              have hsz := BL.out.size
              have D3 : Drawn wi wi.drew := ⟨1, rfl⟩
              have f0 := dcell D3 ce0
              have f1 := dcell D3 ce1
              have OO3 := hid (OO.out.past (D3.below wi.heap.size) (Nat.le_refl _))
              have BL3 := hid (bon BL.out (D3.below wi.heap.size))
              have HXA := hid (show Value.int .i64 (xa : Int) = .int .i64 (x / 16 : Nat) by rw [← HXC.out, cod_div hb16])
              have HXB := hid (show Value.int .i64 (xb : Int) = .int .i64 (x % 16 : Nat) by rw [← HXC.out, cod_mod hb16])
              clear ce0 ce1
              go_wp2
              go_region_held3 (fun w' => w'.cell? ⟨rb, ro, none⟩ = some (.int .i64 xa) ∧ w'.cell? ⟨rb, ro + 1, none⟩ = some (.int .i64 xb)) (first | exact ⟨f0, f1⟩ | exact ⟨cellB (alloc_below _ _) f0 (Nat.le_refl _), cellB (alloc_below _ _) f1 (Nat.le_refl _)⟩ | exact ⟨k0, k1⟩) ((first | (refine step_pushA tArrows _ rfl _ _ rfl wn.heap.size _ _ rfl OO3.out x _ rfl rfl _ _ HXA.out HXB.out HLL.out BL3.out.size ?_; intro v' w5 h1 h2; have O5 := hid h1; have hb5 : Below wn.heap.size wi.drew w5 := (grown_below h2 BL3.out.size (fun g hg => OO3.out.ge g hg)); have B5 := hid (BL3.out.trans hb5); have k0 : w5.cell? ⟨rb, ro, none⟩ = some (.int .i64 xa) := cellB B5.out HN0.out (Nat.le_refl _); have k1 : w5.cell? ⟨rb, ro + 1, none⟩ = some (.int .i64 xb) := cellB B5.out HN1.out (Nat.le_refl _); clear h1 h2)))
              go_wp2
              go_roundw
              case rel => exact ⟨i + 1, by omega, by go_num, HTK.out ▸ O5.out, ownA_some O5.out (by simp), HST2.out, B5.out⟩
              case measure => simp [intOf]; omega
            · have HF := hid (HBAD.out hA)
              by_cases h2 : q.z.length = 2
              · obtain ⟨qa, qz, qc⟩ := q
                match qz, h2 with
                | [y0, y1], _ =>
                  have HE := hid (show decide (EdgeP (nums rs) y0 y1) = false by rw [decide_eq_false_iff_not]; exact fun h => hA ⟨rfl, h⟩)
                  simp only at RI ci
                  obtain ⟨rb, ro, hra, ce0⟩ := RI.out 0 (by simp)
                  obtain ⟨rb', ro', hra', ce1⟩ := RI.out 1 (by simp)
                  subst hra
                  obtain ⟨rfl, rfl⟩ : rb = rb' ∧ ro = ro' := by simpa using hra'
                  simp only [List.getElem_cons_zero, List.getElem_cons_succ, Nat.add_zero] at ce0 ce1
                  clear hra' hA HBAD HST HTK hzi RI0
                  go_wp2
                  have qc0 := fun (p : Bel _) => cellB p.h c0 (Nat.le_refl _)
                  have qci := fun (p : Bel _) => cellB p.h ci (Nat.le_refl _)
                  have qce0 := fun (p : Bel _) => cellB p.h ce0 (Nat.le_refl _)
                  have qce1 := fun (p : Bel _) => cellB p.h ce1 (Nat.le_refl _)
                  refine wp_quiet_b (by kernel_rfl) (by kernel_rfl) ?_
                  repeat (go_big_quiet_step (first | (go_at_call 72; exact qb (implEdgeIn_c _ _ _ _ _ _ false HE.out (RA.out.bel _) hn))))
                  refine wpQuiet_nil ?_
                  intro _ hw'
                  obtain ⟨⟨w4, hb⟩, rfl⟩ := hw'
                  clear qc0 qci qce0 qce1
                  replace RA := hid (RA.out.below hb (Nat.le_refl _))
                  replace RQ := hid (RQ.out.below hb (Nat.le_refl _))
                  replace RT := hid (RT.out.below hb (Nat.le_refl _))
                  replace RN := hid (RN.out.below hb (Nat.le_refl _))
                  replace RI := hid (RI.out.below hb (Nat.le_refl _))
                  replace B0 := hid (bon B0.out hb)
                  replace OO := hid (OO.out.past hb (Nat.le_refl _))
                  replace BL := hid (bon BL.out hb)
                  replace c0 := cellB hb c0 (Nat.le_refl _)
                  replace ci := cellB hb ci (Nat.le_refl _)
                  replace ce0 := cellB hb ce0 (Nat.le_refl _)
                  replace ce1 := cellB hb ce1 (Nat.le_refl _)
                  clear hb
                  go_wp2
                  go_ret
                  exact ⟨ret_bool (dec_f HB.out HF.out), B0.out⟩
              · have h2' : ((q.z.length : Int) != 2) = true := by rw [bne_iff_ne]; omega
                clear hA HBAD HST HTK h2
                go_wp2
                have qc0 := fun (p : Bel _) => cellB p.h c0 (Nat.le_refl _)
                refine wp_quiet_b (by kernel_rfl) (by kernel_rfl) ?_
                repeat (go_big_quiet_step (fail))
                refine wpQuiet_nil ?_
                intro _ hw'
                obtain ⟨⟨w5, hb⟩, rfl⟩ := hw'
                clear qc0
                replace RA := hid (RA.out.below hb (Nat.le_refl _))
                replace RQ := hid (RQ.out.below hb (Nat.le_refl _))
                replace RT := hid (RT.out.below hb (Nat.le_refl _))
                replace RN := hid (RN.out.below hb (Nat.le_refl _))
                replace B0 := hid (bon B0.out hb)
                replace c0 := cellB hb c0 (Nat.le_refl _)
                clear hb
                go_wp2
                go_ret
                exact ⟨ret_bool (dec_f HB.out HF.out), B0.out⟩
          · obtain rfl : i = qs.length := by omega
            rw [List.take_of_length_le (by simp [nums])] at OO
            obtain ⟨g, cap, hv⟩ := ownA_slice OO.out OG.out
            subst hv
            rw [List.length_map, nums_length] at OO
            obtain ⟨w5, rfl⟩ : ∃ w5, w5 = wr := ⟨_, rfl⟩
            have HARR := hid (fun j (h : j < qs.length) => HALL.out j h h)
            have HALL2 := hid (fun j (h : j < qs.length) => arr_pr (HALL.out j h h))
            have HLC := hid (show ((nums qs).map cdI).length = qs.length by rw [List.length_map, nums_length])
            rw [List.length_map, nums_length]
            clear HALL OG
            go_wp2
            have HGA2 := hid (show GA rs.length ((nums rs).map maskL) by have := HGA.out; rwa [nums_length] at this)
            have HCE := hid (fun j (h : j < qs.length) => (show ((nums qs).map cdI)[j]'(by simp [nums]; exact h) = cdI qs[j].z by simp [nums]))
            go_loopw [10] (fun x wr => ∃ k m : Nat, k = m + 1 ∧ k ≤ qs.length ∧ x = .int .i64 k ∧ (∀ j, (h' : j + 1 < qs.length) → j < m → cdI qs[j + 1].z ∈ frL ((nums rs).map maskL) (cdI qs[j].z)) ∧ Below w5.heap.size w5 wr) (fun x _ => qs.length - (intOf x).toNat)
            case atStart => exact ⟨1, 0, rfl, by omega, rfl, fun j _ h => absurd h (Nat.not_lt_zero _), Below.refl _ _⟩
            case round =>
              obtain ⟨k, m, hkm, hk, rfl, hch, hd⟩ := hrel
              have HCH := hid hch; have BL5 := hid hd
              clear hch
              replace RA := hid (RA.out.below hd (Nat.le_refl _))
              replace RQ := hid (RQ.out.below hd (Nat.le_refl _))
              replace RT := hid (RT.out.below hd (Nat.le_refl _))
              replace RN := hid (RN.out.below hd (Nat.le_refl _))
              replace B0 := hid (bon B0.out hd)
              replace OO := hid (OO.out.past hd (Nat.le_refl _))
              replace c0 := cellB hd c0 (Nat.le_refl _)
              clear hd
              by_cases hlt : k < qs.length
              · have hki : (k : Int) < (qs.length : Int) := by omega
                have hml : m < qs.length := by omega
                have hmi : (m : Int) < (qs.length : Int) := by omega
                have hwr : IntKind.i64.wrap ((k : Int) - 1) = (m : Int) := by rw [IntWalk.i64_in _ (by omega)]; omega
                have HBC := hid (fun (h : cdI qs[k].z ∉ frL ((nums rs).map maskL) (cdI qs[m].z)) => (show ¬ OcP (nums rs) (nums qs) from fun hh => h (by
                  subst hkm
                  have := hh.2.2.2.1 m (by rw [nums_length]; exact hlt)
                  simpa [nums] using this)))
                have HSC := hid (fun (h : cdI qs[k].z ∈ frL ((nums rs).map maskL) (cdI qs[m].z)) => (show ∀ j, (h' : j + 1 < qs.length) → j < m + 1 → cdI qs[j + 1].z ∈ frL ((nums rs).map maskL) (cdI qs[j].z) from fun j hj hjm => by
                  subst hkm
                  rcases Nat.lt_succ_iff_lt_or_eq.1 hjm with h3 | rfl
                  · exact HCH.out j hj h3
                  · exact h))
                obtain ⟨_, hx2, hx3, hx4⟩ := HALL2.out m hml
                obtain ⟨_, hy2, hy3, hy4⟩ := HALL2.out k hlt
                rw [nums_length] at hx3 hx4 hy3 hy4
                have hex := HCE.out m hml
                have hey := HCE.out k hlt
                generalize cdI qs[m].z = x at *
                generalize cdI qs[k].z = y at *
                obtain ⟨xa, hxa⟩ : ∃ xa, xa = x / 16 := ⟨_, rfl⟩
                obtain ⟨xb, hxb⟩ : ∃ xb, xb = x % 16 := ⟨_, rfl⟩
                obtain ⟨ya, hya⟩ : ∃ ya, ya = y / 16 := ⟨_, rfl⟩
                obtain ⟨yb, hyb⟩ : ∃ yb, yb = y % 16 := ⟨_, rfl⟩
                have hxc : cod xa xb = x := by rw [hxa, hxb]; exact cod_self x
                have hyc : cod ya yb = y := by rw [hya, hyb]; exact cod_self y
                rw [← hxa] at hx3
                rw [← hxb] at hx4
                rw [← hya] at hy3
                rw [← hyb] at hy4
                have hxb16 : xb < 16 := by omega
                have hyb16 : yb < 16 := by omega
                have HXC := hid hxc; have HYC := hid hyc; have HKM := hid hkm
                obtain ⟨ce0, ce1⟩ := OO.out.two (k := m) (by rw [HLC.out]; exact hml) (hxc.trans hex.symm) hxb16
                obtain ⟨ce2, ce3⟩ := OO.out.two (k := k) (by rw [HLC.out]; exact hlt) (hyc.trans hey.symm) hyb16
                clear hxa hxb hya hyb hxc hyc hex hey hkm hx2 hy2
                have D3 : Drawn wr wr.drew := ⟨1, rfl⟩
                have f0 := dcell D3 ce0
                have f1 := dcell D3 ce1
                have f2 := dcell D3 ce2
                have f3 := dcell D3 ce3
                have RN3 := hid (RN.out.below (D3.below wr.heap.size) (Nat.le_refl _))
                have RT3 := hid (RT.out.below (D3.below wr.heap.size) (Nat.le_refl _))
                have BL3 := hid (bon BL5.out (D3.below wr.heap.size))
                have B03 := hid (bon B0.out (D3.below wr.heap.size))
                clear ce0 ce1 ce2 ce3
                obtain ⟨b1, hb1⟩ : ∃ b1, decide (y ∈ frL ((nums rs).map maskL) x) = b1 := ⟨_, rfl⟩
                have HB1 := hid hb1
                cases b1
                · have HFIN := hid (HBC.out (by simpa using hb1))
                  clear hb1 HBC HSC
                  go_wp2
                  go_region_held3 (fun w' => w'.cell? ⟨g, m * 2, none⟩ = some (.int .i64 xa) ∧ w'.cell? ⟨g, m * 2 + 1, none⟩ = some (.int .i64 xb) ∧ w'.cell? ⟨g, k * 2, none⟩ = some (.int .i64 ya) ∧ w'.cell? ⟨g, k * 2 + 1, none⟩ = some (.int .i64 yb)) (first | exact ⟨f0, f1, f2, f3⟩ | exact ⟨g0, g1, g2, g3⟩ | exact ⟨k0, k1, k2, k3⟩) ((first | (go_at_call 74; refine (forces_x na _ rs.length nc x xa xb _ HXC.out HGA2.out RN3.out hx3 hx4 RT3.out).mono ?_; rintro e w7 ⟨fg, fc, rfl, hown, hb⟩; have OF := hid hown; have g0 := cellB hb f0 (Nat.le_refl _); have g1 := cellB hb f1 (Nat.le_refl _); have g2 := cellB hb f2 (Nat.le_refl _); have g3 := cellB hb f3 (Nat.le_refl _); have BL7 := hid (bon BL3.out hb); have B07 := hid (bon B03.out hb); clear hown hb) | (go_at_call 73; refine (containsA_b fg fc _ _ ya yb y _ _ HYC.out hyb16 HB1.out (frL_len _ _) OF.out).mono ?_; rintro e w8 ⟨rfl, hb⟩; have k0 := cellB hb g0 (Nat.le_refl _); have k1 := cellB hb g1 (Nat.le_refl _); have k2 := cellB hb g2 (Nat.le_refl _); have k3 := cellB hb g3 (Nat.le_refl _); have BL8 := hid (bon BL7.out hb); have B08 := hid (bon B07.out hb); clear hb)))
                  go_wp2
                  go_ret
                  exact ⟨ret_bool (dec_f HB.out HFIN.out), B08.out⟩
                · have HFIN := hid (HSC.out (by simpa using hb1))
                  clear hb1 HBC HSC
                  go_wp2
                  go_region_held3 (fun w' => w'.cell? ⟨g, m * 2, none⟩ = some (.int .i64 xa) ∧ w'.cell? ⟨g, m * 2 + 1, none⟩ = some (.int .i64 xb) ∧ w'.cell? ⟨g, k * 2, none⟩ = some (.int .i64 ya) ∧ w'.cell? ⟨g, k * 2 + 1, none⟩ = some (.int .i64 yb)) (first | exact ⟨f0, f1, f2, f3⟩ | exact ⟨g0, g1, g2, g3⟩ | exact ⟨k0, k1, k2, k3⟩) ((first | (go_at_call 74; refine (forces_x na _ rs.length nc x xa xb _ HXC.out HGA2.out RN3.out hx3 hx4 RT3.out).mono ?_; rintro e w7 ⟨fg, fc, rfl, hown, hb⟩; have OF := hid hown; have g0 := cellB hb f0 (Nat.le_refl _); have g1 := cellB hb f1 (Nat.le_refl _); have g2 := cellB hb f2 (Nat.le_refl _); have g3 := cellB hb f3 (Nat.le_refl _); have BL7 := hid (bon BL3.out hb); have B07 := hid (bon B03.out hb); clear hown hb) | (go_at_call 73; refine (containsA_b fg fc _ _ ya yb y _ _ HYC.out hyb16 HB1.out (frL_len _ _) OF.out).mono ?_; rintro e w8 ⟨rfl, hb⟩; have k0 := cellB hb g0 (Nat.le_refl _); have k1 := cellB hb g1 (Nat.le_refl _); have k2 := cellB hb g2 (Nat.le_refl _); have k3 := cellB hb g3 (Nat.le_refl _); have BL8 := hid (bon BL7.out hb); have B08 := hid (bon B07.out hb); clear hb)))
                  go_wp2
                  go_roundw
                  case rel => exact ⟨k + 1, k, rfl, by omega, by go_num, by rw [HKM.out]; exact HFIN.out, BL8.out⟩
                  case measure => simp [intOf]; omega
              · obtain rfl : k = qs.length := by omega
                have hml : m < qs.length := by omega
                have h0l : 0 < qs.length := by omega
                have hmi : (m : Int) < (qs.length : Int) := by omega
                have h0i : (0 : Int) < (qs.length : Int) := by omega
                have hwr : IntKind.i64.wrap ((qs.length : Int) - 1) = (m : Int) := by rw [IntWalk.i64_in _ (by omega)]; omega
                have HOC := hid (show (cdI qs[m].z = opp (cdI qs[0].z)) ↔ OcP (nums rs) (nums qs) from by
                  have e1 : (nums qs).getD ((nums qs).length - 1) [] = qs[m].z := by
                    rw [nums_length, show qs.length - 1 = m by omega, List.getD_eq_getElem?_getD, List.getElem?_eq_getElem (by rw [nums_length]; exact hml)]; simp [nums]
                  have e2 : (nums qs).getD 0 [] = qs[0].z := by
                    rw [List.getD_eq_getElem?_getD, List.getElem?_eq_getElem (by rw [nums_length]; exact h0l)]; simp [nums]
                  unfold OcP
                  rw [e1, e2]
                  constructor
                  · intro h
                    refine ⟨HG.out, by rw [nums_length]; exact ⟨hl2, hl240⟩, ?_, ?_, h⟩
                    · intro l hl
                      obtain ⟨q, hq, rfl⟩ := List.mem_map.1 hl
                      obtain ⟨j, hj, rfl⟩ := List.mem_iff_getElem.1 hq
                      exact HARR.out j hj
                    · intro j hj
                      rw [nums_length] at hj
                      have := HCH.out j hj (by omega)
                      simpa [nums] using this
                  · intro h; exact h.2.2.2.2)
                obtain ⟨_, hx2, hx3, hx4⟩ := HALL2.out 0 h0l
                obtain ⟨_, hy2, hy3, hy4⟩ := HALL2.out m hml
                rw [nums_length] at hx3 hx4 hy3 hy4
                have hex := HCE.out 0 h0l
                have hey := HCE.out m hml
                generalize cdI qs[0].z = x at *
                generalize cdI qs[m].z = y at *
                obtain ⟨xa, hxa⟩ : ∃ xa, xa = x / 16 := ⟨_, rfl⟩
                obtain ⟨xb, hxb⟩ : ∃ xb, xb = x % 16 := ⟨_, rfl⟩
                obtain ⟨ya, hya⟩ : ∃ ya, ya = y / 16 := ⟨_, rfl⟩
                obtain ⟨yb, hyb⟩ : ∃ yb, yb = y % 16 := ⟨_, rfl⟩
                have hxc : cod xa xb = x := by rw [hxa, hxb]; exact cod_self x
                have hyc : cod ya yb = y := by rw [hya, hyb]; exact cod_self y
                have hop : opp x = cod xb xa := by unfold opp; rw [← hxa, ← hxb]
                rw [hop, ← hyc] at HOC
                rw [← hxa] at hx3
                rw [← hyb] at hy4
                have hxb16 : xb < 16 := by omega
                have hyb16 : yb < 16 := by omega
                have hxa16 : xa < 16 := by omega
                have hbb : decide (cod ya yb = cod xb xa) = b := by rw [← HB.out]; exact decide_eq_decide.2 HOC.out
                have hql := fun W => eql_arrow ya yb xb xa hyb16 hxa16 b hbb W
                obtain ⟨ce0, ce1⟩ := OO.out.two (k := 0) (by rw [HLC.out]; exact h0l) (hxc.trans hex.symm) hxb16
                obtain ⟨ce2, ce3⟩ := OO.out.two (k := m) (by rw [HLC.out]; exact hml) (hyc.trans hey.symm) hyb16
                simp only [Nat.zero_mul, Nat.zero_add] at ce0 ce1
                clear hxa hxb hya hyb hxc hyc hex hey hx2 hy2 hop hbb
                go_wp2
                have qc0 := fun (p : Bel _) => cellB p.h c0 (Nat.le_refl _)
                have qce0 := fun (p : Bel _) => cellB p.h ce0 (Nat.le_refl _)
                have qce1 := fun (p : Bel _) => cellB p.h ce1 (Nat.le_refl _)
                have qce2 := fun (p : Bel _) => cellB p.h ce2 (Nat.le_refl _)
                have qce3 := fun (p : Bel _) => cellB p.h ce3 (Nat.le_refl _)
                refine wp_quiet_b (by kernel_rfl) (by kernel_rfl) ?_
                repeat (go_big_quiet_step (first | (go_at_call 75; exact qb (opposite_any _ _ _))))
                refine wpQuiet_nil ?_
                intro _ hw'
                obtain ⟨⟨w6, hb⟩, rfl⟩ := hw'
                clear qc0 qce0 qce1 qce2 qce3
                replace RA := hid (RA.out.below hb (Nat.le_refl _))
                replace RQ := hid (RQ.out.below hb (Nat.le_refl _))
                replace RT := hid (RT.out.below hb (Nat.le_refl _))
                replace RN := hid (RN.out.below hb (Nat.le_refl _))
                replace B0 := hid (bon B0.out hb)
                replace OO := hid (OO.out.past hb (Nat.le_refl _))
                replace BL5 := hid (bon BL5.out hb)
                replace c0 := cellB hb c0 (Nat.le_refl _)
                replace ce0 := cellB hb ce0 (Nat.le_refl _)
                replace ce1 := cellB hb ce1 (Nat.le_refl _)
                replace ce2 := cellB hb ce2 (Nat.le_refl _)
                replace ce3 := cellB hb ce3 (Nat.le_refl _)
                clear hb
                go_wp2
                go_ret
                exact ⟨rfl, B0.out⟩
      · have hd240 : decide ((240 : Int) < (qs.length : Int)) = true := by rw [decide_eq_true_iff]; omega
        have HF := hid (show ¬ OcP (nums rs) (nums qs) from fun h => hl240 (by have := h.2.1.2; rwa [nums_length] at this))
        go_enter Tryd.func19, Tryd.ntmps19
        go_wp2_with fail
        rw [← HW.out]
        go_wp2_with fail
        refine (implGraphOk_b a rs c _ true H1.out RA.out hn).mono ?_
        rintro e w7 ⟨rfl, hb⟩
        replace RA := hid (RA.out.below hb (Nat.le_refl _))
        replace RQ := hid (RQ.out.below hb (Nat.le_refl _))
        replace RT := hid (RT.out.below hb (Nat.le_refl _))
        replace B0 := hid (bon B0.out hb)
        replace c0 := cellB hb c0 (Nat.le_refl _)
        clear hb
        go_wp2
        go_ret
        exact ⟨ret_bool (dec_f HB.out HF.out), B0.out⟩
    · have hd2 : decide ((qs.length : Int) < 2) = true := by rw [decide_eq_true_iff]; omega
      have HF := hid (show ¬ OcP (nums rs) (nums qs) from fun h => hl2 (by have := h.2.1.1; rwa [nums_length] at this))
      go_enter Tryd.func19, Tryd.ntmps19
      go_wp2_with fail
      rw [← HW.out]
      go_wp2_with fail
      refine (implGraphOk_b a rs c _ true H1.out RA.out hn).mono ?_
      rintro e w8 ⟨rfl, hb⟩
      replace RA := hid (RA.out.below hb (Nat.le_refl _))
      replace RQ := hid (RQ.out.below hb (Nat.le_refl _))
      replace RT := hid (RT.out.below hb (Nat.le_refl _))
      replace B0 := hid (bon B0.out hb)
      replace c0 := cellB hb c0 (Nat.le_refl _)
      clear hb
      go_wp2
      go_ret
      exact ⟨ret_bool (dec_f HB.out HF.out), B0.out⟩
  · have H1 := hid (show decide (GOk (nums rs)) = false by simpa using hg)
    have HF := hid (show ¬ OcP (nums rs) (nums qs) from fun h => hg h.1)
    clear hg
    go_enter Tryd.func19, Tryd.ntmps19
    go_wp2_with fail
    rw [← HW.out]
    go_wp2_with fail
    refine (implGraphOk_b a rs c _ false H1.out RA.out hn).mono ?_
    rintro e w9 ⟨rfl, hb⟩
    replace RA := hid (RA.out.below hb (Nat.le_refl _))
    replace RQ := hid (RQ.out.below hb (Nat.le_refl _))
    replace RT := hid (RT.out.below hb (Nat.le_refl _))
    replace B0 := hid (bon B0.out hb)
    replace c0 := cellB hb c0 (Nat.le_refl _)
    clear hb
    go_wp2
    go_ret
    exact ⟨ret_bool (dec_f HB.out HF.out), B0.out⟩
end
end Go.Proofs.YtggjmnihnjdoaaaDoor
