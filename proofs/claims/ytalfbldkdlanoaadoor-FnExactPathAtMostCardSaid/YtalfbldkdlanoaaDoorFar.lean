/- Distances: the reference's search. -/
import Derived.Test.YtalfbldkdlanoaaDoorFarM
import Derived.Test.YtalfbldkdlanoaaDoorSetOk
import Derived.Test.YtalfbldkdlanoaaDoorEdges
import Derived.Test.YtalfbldkdlanoaaDoorCode
import Derived.Test.YtalfbldkdlanoaaDoorQuiet
import Derived.Deep.RegionWith
import Derived.StillTailTactics
namespace Go.Proofs.YtalfbldkdlanoaaDoor
open Go.RowKit
noncomputable def fromL (g : List (List Int)) (ins : List Int) (v : Int) : List Int := if v ∈ ins then farL g ins v else List.replicate g.length (-1)
set_option maxRecDepth 100000 in
set_option maxHeartbeats 8000000 in
theorem l3From_any (a : Option Addr) (rs : List Row) (c : Nat) (v : Nat) (a2 : Option Addr) (ys : List Int) (c2 : Nat) (w : World) (hg : GOk (nums rs)) (hr : RdM w a rs) (hn : Small rs) (hy : Rd (Value.int .i64) w a2 ys) (hm2 : ys.length ≤ 1048576) (hv : v < rs.length) :
    Calls Tryd.prog 105 #[.agg #[.slice a rs.length c], .int .i64 v, .slice a2 ys.length c2] w (RetOwn 2 ((fromL (nums rs) ys v).map (.int .i64)) w) := by
  have RA := hid hr; have RY := hid hy; have HG := hid hg; clear hr hy hg
  have hn1 := hn.1
  have h16 : rs.length ≤ 16 := by have := HG.out.le; rwa [nums_length] at this
  have hy16 : ys.length ≤ 16777216 := by omega
  obtain ⟨w0, hw0⟩ : ∃ w0, w0 = (w.alloc (.cells #[.slice a rs.length c] 29)) := ⟨_, rfl⟩
  have B0 := hid (show Below w.heap.size w w0 by rw [hw0]; exact ((Below.refl _ _).alloc (Nat.le_refl _) _))
  have c0 : w0.cell? ⟨w.heap.size, 0, none⟩ = some (.slice a rs.length c) := by rw [hw0]; simp [go_sem]
  replace RA := hid (RA.out.below B0.out (Nat.le_refl _))
  replace RY := hid (RY.out.below B0.out (Nat.le_refl _))
  have HW := hid hw0; clear hw0
  have hsz : w0.heap.size = w.heap.size + 1 := by rw [HW.out]; simp
  have HO := hid (show Own 2 (w0.alloc (.cells #[] 2)) w0.heap.size (.slice (some ⟨w0.heap.size, 0, none⟩) 0 0) [] from own_new 2 w0 [] (by decide))
  have HE0 := hid (alloc_below w0 (.cells #[] 2))
  rw [hsz] at HO HE0
  go_enter Tryd.func105, Tryd.ntmps105
  go_wp2
  rw [← HW.out]
  go_loopw [7, 8] (fun o x wr => ∃ k : Nat, k ≤ rs.length ∧ x = .int .i64 k ∧ Own 2 wr (w.heap.size + 1) o ((List.replicate k (-1 : Int)).map (.int .i64)) ∧ Below (w.heap.size + 1) w0 wr) (fun _ x _ => rs.length - (intOf x).toNat)
  case atStart => exact ⟨0, Nat.zero_le _, rfl, HO.out, HE0.out⟩
  case round =>
    obtain ⟨k, hk, rfl, ho, hb⟩ := hrel
    have OM := hid ho; have LB := hid hb; clear ho hb
    have hz0 : w0.heap.size ≤ w.heap.size + 1 := by omega
    have c01 := cellB LB.out c0 hz0
    have hBw := LB.out.size
    go_wp2_with fail
    refine (l1Size_any a rs c wr hn1).mono ?_
    rintro e w1 ⟨rfl, hb1⟩
    have OM1 := hid (OM.out.past hb1 (Nat.le_refl _))
    have hBw1 : w.heap.size + 1 ≤ w1.heap.size := by have := hb1.size; omega
    have LB1 := hid (LB.out.trans (hb1.mono (show w.heap.size + 1 ≤ wr.heap.size by omega)))
    clear hb1 OM LB c01 hBw
    by_cases hlt : k < rs.length
    · have hi0 : (k : Int) < (rs.length : Int) := by omega
      have HS := hid (show (List.replicate (k + 1) (-1 : Int)).map (Value.int .i64) = (List.replicate k (-1 : Int)).map (Value.int .i64) ++ [.int .i64 (-1)] by
        rw [List.replicate_succ', List.map_append]; rfl)
      have hlen : ((List.replicate k (-1 : Int)).map (Value.int .i64)).length ≤ 16 := by simp; omega
      generalize (List.replicate k (-1 : Int)).map (Value.int .i64) = XS at *
      go_wp2_with (at_builtin; refine law_push tI64 _ rfl _ _ rfl (w.heap.size + 1) _ XS rfl OM1.out _ _ rfl ?c0 rfl ?c1 ?c2 ?_)
      case c0 => simp
      case c1 => omega
      case c2 => exact hBw1
      intro v' w' h1 h2
      have HN := hid h1
      have HBB := hid (LB1.out.trans (grown_below h2 hBw1 (fun g hg => OM1.out.ge g hg)))
      clear h1 h2
      go_wp2
      go_roundw
      case rel => exact ⟨k + 1, by omega, by go_num, by rw [HS.out]; exact HN.out, HBB.out⟩
      case measure => simp [intOf]; omega
    · obtain rfl : k = rs.length := by omega
      have hz0' : w0.heap.size ≤ w.heap.size + 1 := hz0
      have RY1 := hid (RY.out.below LB1.out hz0)
      have B1 := hid (B0.out.trans (LB1.out.mono (by omega)))
      by_cases hvy : (v : Int) ∈ ys
      · have H4 := hid (show decide ((v : Int) ∈ ys) = true by simpa using hvy)
        have HF := hid (show fromL (nums rs) ys v = farL (nums rs) ys v by unfold fromL; rw [if_pos hvy])
        clear hvy
        have hvn : v < (nums rs).length := by rw [nums_length]; exact hv
        have hvi : (v : Int) < (rs.length : Int) := by omega
        have hDl0 : (List.replicate rs.length (-1 : Int)).length = rs.length := by simp
        have HST0 := hid (Bfs.start (g := nums rs) (ins := ys) (v := (v : Int)) HG.out ⟨by omega, by omega⟩)
        rw [nums_length, Int.toNat_natCast] at HST0
        have hml0 : ((List.replicate rs.length (-1 : Int)).map (Value.int .i64)).length = rs.length := by simp
        generalize List.replicate rs.length (-1 : Int) = D0 at *
        rcases OM1.out.form with ⟨_, hnil⟩ | ⟨bo, cap, spare, hform, hge, _, _, _⟩
        · rw [hnil] at hml0; simp at hml0; omega
        rw [hml0] at hform
        subst hform
        have hbl : bo < w1.heap.size := OM1.out.lt bo rfl
        have hcO := OM1.out.cell v (by rw [hml0]; exact hv)
        have hfO := OM1.out.free v
        have hst := OM1.out.store v (by rw [hml0]; exact hv) (.int .i64 0)
        rw [← List.map_set] at hst
        have hsz2 : (w1.setCell ⟨bo, v, none⟩ (.int .i64 0)).heap.size = w1.heap.size := by simp [World.setCell]
        have hal := alloc_below (w1.setCell ⟨bo, v, none⟩ (.int .i64 0)) (.cells #[.int .i64 (v : Int)] 2)
        have OUT0 := hid (hst.past hal (Nat.le_refl _))
        have MET0 := hid (show Own 2 ((w1.setCell ⟨bo, v, none⟩ (.int .i64 0)).alloc (.cells #[.int .i64 (v : Int)] 2)) w1.heap.size (.slice (some ⟨w1.heap.size, 0, none⟩) 1 1) ([(v : Int)].map (Value.int .i64)) from by
          have := own_new 2 (w1.setCell ⟨bo, v, none⟩ (.int .i64 0)) [.int .i64 (v : Int)] (by simp [maxLen])
          rwa [hsz2] at this)
        have LB2 := hid ((LB1.out.setCell (p := ⟨bo, v, none⟩) hge (.int .i64 0)).trans (hal.mono (by rw [hsz2]; exact hBw1)))
        clear hst hal hsz2 OM1 LB1
        go_wp2_with (go_at_call 72; refine (l1Has_b _ _ _ _ _ _ H4.out RY1.out hy16).mono ?_; rintro e w' ⟨rfl, rfl⟩)
        go_loopw [9, 10, 11, 12] (fun mv x _ _ wr => ∃ (D M : List Int) (i : Nat), i ≤ M.length ∧ x = .int .i64 i ∧ Own 2 wr (w.heap.size + 1) (.slice (some ⟨bo, 0, none⟩) rs.length cap) (D.map (.int .i64)) ∧ Own 2 wr w1.heap.size mv (M.map (.int .i64)) ∧ Bfs (nums rs) ys v D M i ∧ Below (w.heap.size + 1) w0 wr) (fun _ x _ _ _ => rs.length - (intOf x).toNat)
        case atStart => exact ⟨_, _, 0, Nat.zero_le _, rfl, OUT0.out, MET0.out, HST0.out, LB2.out⟩
        case round =>
          obtain ⟨D, M, i, hiM, rfl, hoD, hoM, hbf, hb⟩ := hrel
          have OD := hid hoD; have OE := hid hoM; have HBF := hid hbf; have LL := hid hb
          clear hoD hoM hb
          have hfew := hbf.few
          rw [nums_length] at hfew
          have hDl := hbf.len
          rw [nums_length] at hDl
          have hz1 : w0.heap.size ≤ w.heap.size + 1 := by omega
          by_cases hlt2 : i < M.length
          · have hii : (i : Int) < (M.length : Int) := by omega
            have hxr := hbf.rng _ (List.getElem_mem hlt2)
            have HENT := hid (hbf.enter hlt2)
            clear hbf
            have hml : (M.map (Value.int .i64)).length = M.length := by simp
            rcases OE.out.form with ⟨_, hnil⟩ | ⟨mb, mcap, mspare, hform, hmge, _, _, _⟩
            · rw [hnil] at hml; simp at hml; omega
            rw [hml] at hform
            subst hform
            have cme := OE.out.cell i (by rw [hml]; exact hlt2)
            rw [List.getElem_map] at cme
            have HMX := hid (getD_eq M i hlt2)
            generalize M[i] = x at *
            obtain ⟨n, rfl⟩ := Int.eq_ofNat_of_zero_le hxr.1
            rw [nums_length] at hxr
            have hnr : n < rs.length := by omega
            have hni : (n : Int) < (rs.length : Int) := by omega
            obtain ⟨rb, ro, hra, crow, hrok⟩ := (RA.out.below LL.out hz1).at n hnr
            have hatr := at_slice tRows hra rs.length c n hnr
            have HRA := hid hra; clear hra hrok
            have HROW := hid (row_rs rs n hnr)
            have RR0 := hid (RA.out.row _ (List.getElem_mem hnr)).1
            have hzr := hn.2 _ (List.getElem_mem hnr)
            have hrg := hid (fun y (hy : y ∈ rs[n].z) => (show 0 ≤ y ∧ y < rs.length by
              have := gok_range HG.out (u := (n : Int)) (v := y) (by omega) (by rw [nums_length]; omega) (by rw [HROW.out]; exact hy)
              rwa [nums_length] at this))
            generalize rs[n] = r at *
            have c02 := cellB LL.out c0 hz1
            have B2 := hid (B0.out.trans (LL.out.mono (by omega)))
            have hz0 : w.heap.size + 1 ≤ w0.heap.size := by omega
            go_wp2
            have qc02 := fun (p : Bel _) => cellB p.h c02 (Nat.le_refl _)
            have qcme := fun (p : Bel _) => cellB p.h cme (Nat.le_refl _)
            have qcrow := fun (p : Bel _) => cellB p.h crow (Nat.le_refl _)
            refine wp_quiet_b (by kernel_rfl) (by kernel_rfl) ?_
            repeat (go_big_quiet_step (fail))
            refine wpQuiet_nil ?_
            intro _ hw'
            obtain ⟨⟨w1, hb⟩, rfl⟩ := hw'
            clear qc02 qcme qcrow
            replace OD := hid (OD.out.past hb (Nat.le_refl _))
            replace OE := hid (OE.out.past hb (Nat.le_refl _))
            replace LL := hid (bonL LL.out hb hz0)
            replace B2 := hid (bon B2.out hb)
            replace c02 := cellB hb c02 (Nat.le_refl _)
            replace cme := cellB hb cme (Nat.le_refl _)
            replace crow := cellB hb crow (Nat.le_refl _)
            clear hb
            go_wp2
            go_loopw [9, 12] (fun mv y wq => ∃ (D M : List Int) (k : Nat), k ≤ r.z.length ∧ y = .int .i64 k ∧ Own 2 wq (w.heap.size + 1) (.slice (some ⟨bo, 0, none⟩) rs.length cap) (D.map (.int .i64)) ∧ Own 2 wq w1.heap.size mv (M.map (.int .i64)) ∧ BfsIn (nums rs) ys v D M i k ∧ M.getD i 0 = (n : Int) ∧ Below (w.heap.size + 1) w0 wq) (fun _ y _ => r.z.length - (intOf y).toNat)
            case atStart => exact ⟨D, M, 0, Nat.zero_le _, rfl, OD.out, OE.out, HENT.out, HMX.out, LL.out⟩
            case round =>
              obtain ⟨D2, M2, k, hk2, rfl, hoD, hoM, hbi, hmx, hb⟩ := hrel
              have OD2 := hid hoD; have OE2 := hid hoM; have HBI := hid hbi; have LM := hid hb
              clear hoD hoM hb
              have hrowe : row (nums rs) (M2.getD i 0) = r.z := by rw [hmx]; exact HROW.out
              have HMX2 := hid hmx
              have hfew2 := hbi.toBfs.few
              rw [nums_length] at hfew2
              have hiM2 := hbi.lt
              have hDl2 := hbi.toBfs.len
              rw [nums_length] at hDl2
              by_cases hlk : k < r.z.length
              · have hki : (k : Int) < (r.z.length : Int) := by omega
                obtain ⟨yb, yo, hya, cy⟩ := (RR0.out.below LM.out hz1) k hlk
                have haty := at_slice tI64 hya r.z.length r.c k hlk
                have hyb : yb < w0.heap.size := by
                  obtain ⟨b0, o0, h0, h1⟩ := RR0.out k hlk
                  rw [hya] at h0
                  have hb0 : yb = b0 := by simp at h0; exact h0.1
                  rw [hb0]; exact World.block_lt_of_cell? _ _ h1
                have HYA := hid hya; clear hya
                have hyr := hrg.out _ (List.getElem_mem hlk)
                have hyg : (row (nums rs) (M2.getD i 0)).getD k 0 = r.z[k] := by rw [hrowe, getD_eq r.z k hlk]
                have HSKIP := hid (fun (h : r.z[k] ∈ ys → r.z[k] ∈ M2) => hbi.skip (by rw [hyg]; exact h))
                have HTAKE := hid (fun (h1 : r.z[k] ∈ ys) (h2 : r.z[k] ∉ M2) => (show BfsIn (nums rs) ys v (D2.set (r.z[k]).toNat (D2.getD (n : Int).toNat 0 + 1)) (M2 ++ [r.z[k]]) i (k + 1) from by
                  have := hbi.take HG.out (by rw [hrowe]; exact hlk) (by rw [hyg]; exact h1) (by rw [hyg]; exact h2)
                  rwa [hyg, hmx] at this))
                have hlim := hbi.toBfs.lim _ (show M2.getD i 0 ∈ M2 by rw [getD_eq M2 i hiM2]; exact List.getElem_mem hiM2)
                have hpos := (hbi.toBfs.pos _ (show M2.getD i 0 ∈ M2 by rw [getD_eq M2 i hiM2]; exact List.getElem_mem hiM2)).1
                rw [hmx, Int.toNat_natCast] at hlim hpos
                have hknown := fun u hu => hbi.toBfs.known (u := u) hu
                clear hbi hyg hrowe
                generalize r.z[k] = y at *
                obtain ⟨m, rfl⟩ := Int.eq_ofNat_of_zero_le hyr.1
                have hmr : m < rs.length := by omega
                have hmi : (m : Int) < (rs.length : Int) := by omega
                have hkn := hknown m (by rw [nums_length]; exact hmr)
                clear hknown
                have hdml : (D2.map (Value.int .i64)).length = rs.length := by simp [hDl2]
                have cd := OD2.out.cell m (by rw [hdml]; exact hmr)
                rw [List.getElem_map] at cd
                rw [getD_eq D2 m (by omega)] at hkn
                have hyi16 : ys.length ≤ 16777216 := hy16
                have RY2 := hid (RY.out.below LM.out hz1)
                rcases hkn with ⟨hmM, hd0⟩ | ⟨hmM, hd0⟩
                · have HFIN := hid (HSKIP.out fun _ => hmM)
                  have d0 : decide (D2[m] < 0) = false := by rw [decide_eq_false_iff_not]; omega
                  clear hmM
                  generalize D2[m] = dm at *
                  go_wp2
                  go_roundw
                  case rel => exact ⟨D2, M2, k + 1, by omega, by go_num, OD2.out, OE2.out, HFIN.out, HMX2.out, LM.out⟩
                  case measure => simp [intOf]; omega
                · have d0 : decide (D2[m] < 0) = true := by rw [decide_eq_true_iff]; omega
                  by_cases hmy : (m : Int) ∈ ys
                  · have H5 := hid (show decide ((m : Int) ∈ ys) = true by simpa using hmy)
                    have HFIN := hid (HTAKE.out hmy hmM)
                    clear hmy hmM
                    have hml2 : (M2.map (Value.int .i64)).length = M2.length := by simp
                    rcases OE2.out.form with ⟨_, hnil⟩ | ⟨mb2, mcap2, mspare2, hform2, hmge2, _, _, _⟩
                    · rw [hnil] at hml2; simp at hml2; omega
                    rw [hml2] at hform2
                    subst hform2
                    have cme2 := OE2.out.cell i (by rw [hml2]; exact hiM2)
                    rw [List.getElem_map] at cme2
                    rw [← getD_eq M2 i hiM2, HMX2.out] at cme2
                    have hii2 : (i : Int) < (M2.length : Int) := by omega
                    have cdn := OD2.out.cell n (by rw [hdml]; exact hnr)
                    rw [List.getElem_map] at cdn
                    have hnD : n < D2.length := by omega
                    have hgn := getD_eq D2 n hnD
                    rw [hgn] at hpos hlim
                    rw [Int.toNat_natCast, Int.toNat_natCast, hgn] at HFIN
                    generalize D2[n] = dn at *
                    have hfm := OD2.out.free m
                    have hw1 : IntKind.i64.wrap (dn + 1) = dn + 1 := IntWalk.i64_in _ (by omega)
                    rw [hd0] at cd
                    have hst := OD2.out.store m (by rw [hdml]; exact hmr) (.int .i64 (dn + 1))
                    rw [← List.map_set] at hst
                    clear hst hgn hd0 hnD
                    have hne1 : ¬ yb = bo := by omega
                    have hne2 : ¬ bo = yb := by omega
                    go_wp2_with (go_at_call 72; refine (l1Has_b _ _ _ _ _ _ H5.out RY2.out hyi16).mono ?_; rintro e w' ⟨rfl, rfl⟩)
                    go_still_tail 14, (by kernel_rfl)
                    change wpList _ _ _ _ _ wr.drew
                    have DR : Drawn wr wr.drew := ⟨1, rfl⟩
                    have OD3 := hid (OD2.out.past (DR.below wr.heap.size) (Nat.le_refl _))
                    have OE3 := hid (OE2.out.past (DR.below wr.heap.size) (Nat.le_refl _))
                    have LM3 := hid (LM.out.trans (DR.below _))
                    have cy3 := dcell DR cy
                    have cd3 := dcell DR cd
                    have cme3 := dcell DR cme2
                    have cdn3 := dcell DR cdn
                    have hfm3 := OD3.out.free m
                    clear DR OD2 OE2 LM RY2 cy cd cme2 cdn hfm
                    generalize wr.drew = w5 at *
                    have hst := OD3.out.store m (by rw [hdml]; exact hmr) (.int .i64 (dn + 1))
                    rw [← List.map_set] at hst
                    have OD4 := hid hst; clear hst
                    have OE4 := hid (OE3.out.setCell_below (p := ⟨bo, m, none⟩) hbl (.int .i64 (dn + 1)))
                    have LM4 := hid (LM3.out.setCell (p := ⟨bo, m, none⟩) hge (.int .i64 (dn + 1)))
                    have hsz5 : (w5.setCell ⟨bo, m, none⟩ (.int .i64 (dn + 1))).heap.size = w5.heap.size := by simp [World.setCell]
                    have hBm5 : w1.heap.size ≤ (w5.setCell ⟨bo, m, none⟩ (.int .i64 (dn + 1))).heap.size := by
                      have h1 := OE3.out.lt mb2 rfl
                      rw [hsz5]; omega
                    clear OD3 OE3 LM3
                    go_wp2_with (at_builtin; refine law_push tI64 _ rfl _ _ rfl w1.heap.size _ (M2.map (.int .i64)) rfl OE4.out _ _ rfl ?c0 rfl ?c1 ?c2 ?_)
                    case c0 => simp [World.setCell]
                    case c1 => rw [hml2]; omega
                    case c2 => exact hBm5
                    intro v' w' h1 h2
                    have HN := hid (show Own 2 w' w1.heap.size v' ((M2 ++ [(m : Int)]).map (Value.int .i64)) by rw [List.map_append]; exact h1)
                    have hkeep : (Value.slice (some ⟨bo, 0, none⟩) rs.length cap).ownBlock = none ∨ (Value.slice (some ⟨bo, 0, none⟩) rs.length cap).ownBlock ≠ (Value.slice (some ⟨mb2, 0, none⟩) M2.length mcap2).ownBlock := .inr (by simp [Value.ownBlock]; omega)
                    have OD5 := hid (OD4.out.kept h2 hkeep)
                    have LM5 := hid (LM4.out.trans (grown_below h2 (Nat.le_trans (by omega) hBm5) (fun g hg => Nat.le_trans hBw1 (OE4.out.ge g hg))))
                    have HMX5 := hid (show (M2 ++ [(m : Int)]).getD i 0 = (n : Int) by rw [getD_snoc _ _ _ (by omega), if_pos hiM2]; exact HMX2.out)
                    clear h1 h2 OD4 OE4 LM4
                    go_wp2
                    go_roundw
                    case rel => exact ⟨D2.set m (dn + 1), M2 ++ [(m : Int)], k + 1, by omega, by go_num, OD5.out, HN.out, HFIN.out, HMX5.out, LM5.out⟩
                    case measure => simp [intOf]; omega
                  · have H5 := hid (show decide ((m : Int) ∈ ys) = false by simpa using hmy)
                    have HFIN := hid (HSKIP.out fun h => absurd h hmy)
                    clear hmy hmM
                    rw [hd0] at cd
                    go_wp2_with (first | (go_at_call 72; refine (l1Has_b _ _ _ _ _ _ H5.out RY2.out hyi16).mono ?_; rintro e w' ⟨rfl, rfl⟩))
                    go_roundw
                    case rel => exact ⟨D2, M2, k + 1, by omega, by go_num, OD2.out, OE2.out, HFIN.out, HMX2.out, LM.out⟩
                    case measure => simp [intOf]; omega
              · obtain rfl : k = r.z.length := by omega
                have HFIN := hid (hbi.leave (by rw [hrowe]))
                go_wp2
                go_roundw
                case rel => exact ⟨D2, M2, i + 1, by omega, by go_num, OD2.out, OE2.out, HFIN.out, LM.out⟩
                case measure => simp [intOf]; omega
          · obtain rfl : i = M.length := by omega
            have HFIN := hid (show D.map (Value.int .i64) = (fromL (nums rs) ys v).map (Value.int .i64) by rw [hbf.final, HF.out])
            rw [HFIN.out] at OD
            have hml : (M.map (Value.int .i64)).length = M.length := by simp
            have hpM := hbf.first.2
            rcases OE.out.form with ⟨_, hnil⟩ | ⟨mb, mcap, mspare, hform, hmge, _, _, _⟩
            · rw [hnil] at hml; simp at hml; omega
            rw [hml] at hform
            subst hform
            go_wp2
            go_ret
            exact ⟨_, rfl, OD.out.base (by omega), B0.out.trans (LL.out.mono (by omega))⟩
      · have H4 := hid (show decide ((v : Int) ∈ ys) = false by simpa using hvy)
        have HF := hid (show (List.replicate rs.length (-1 : Int)) = fromL (nums rs) ys v by unfold fromL; rw [if_neg hvy, nums_length])
        clear hvy
        rw [HF.out] at OM1
        go_wp2_with (first | (go_at_call 72; refine (l1Has_b _ _ _ _ _ _ H4.out RY1.out hy16).mono ?_; rintro e w' ⟨rfl, rfl⟩))
        go_ret
        exact ⟨_, rfl, OM1.out.base (by omega), B1.out⟩
end Go.Proofs.YtalfbldkdlanoaaDoor
