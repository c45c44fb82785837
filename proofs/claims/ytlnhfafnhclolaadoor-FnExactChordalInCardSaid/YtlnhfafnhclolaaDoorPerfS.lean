/- PerfectOrder, ChordalIn: the reference's. -/
import Derived.Deep.RegionWith
import Derived.Deep.RegionHeld3
import Derived.Test.YtlnhfafnhclolaaDoorPerfI
namespace Go.Proofs.YtlnhfafnhclolaaDoor
open Go.RowKit
def lenOf : Value → Nat
  | .slice _ n _ => n
  | _ => 0
theorem simp_left {g : List (List Int)} (hg : GOk g) {v : Nat} (hv : v < g.length) (S : Nat) : simpB (g.map maskL) S v = decide (missL g (leftL (row g v) S) = 0) := by
  unfold simpB
  have h := hg.inc v hv
  rw [List.getD_eq_getElem?_getD, List.getElem?_map, List.getElem?_eq_getElem hv]
  show (missM (g.map maskL) (maskL g[v] &&& S) == 0) = _
  rw [← row_nat _ _ hv, ← leftL_mask h S, miss_eq hg (leftL_inc h S)]
  rfl
set_option maxRecDepth 100000 in
set_option maxHeartbeats 2000000 in
theorem specPerfectOrder_any (a : Option Addr) (rs : List Row) (c : Nat) (w : World) (r0 : List Int) (r1 : Bool) (hx0 : (perfL (nums rs)).getD [] = r0) (hx1 : (perfL (nums rs)).isSome = r1) (hr : RdM w a rs) (hn : Small rs) :
    Calls Tryd.prog 42 #[.agg #[.slice a rs.length c]] w (RetOwnB 2 (r0.map (.int .i64)) r1 w) := by
  have RA := hid hr; have HX0 := hid hx0; have HX1 := hid hx1; clear hr hx0 hx1
  have hn1 := hn.1
  obtain ⟨w0, hw0⟩ : ∃ w0, w0 = (w.alloc (.cells #[.slice a rs.length c] 28)) := ⟨_, rfl⟩
  have B0 := hid (show Below w.heap.size w w0 by rw [hw0]; exact ((Below.refl _ _).alloc (Nat.le_refl _) _))
  have c0 : w0.cell? ⟨w.heap.size, 0, none⟩ = some (.slice a rs.length c) := by rw [hw0]; simp [go_sem]
  replace RA := hid (RA.out.below B0.out (Nat.le_refl _))
  have HW := hid hw0; clear hw0
  by_cases hg : GOk (nums rs)
  · have h1 := hid (show decide (GOk (nums rs)) = true by simpa using hg)
    have HG := hid hg
    have h16 : rs.length ≤ 16 := by have := hg.le; rwa [nums_length] at this
    obtain ⟨x, hxx⟩ : ∃ x, perfR ((nums rs).map maskL) rs.length (2 ^ rs.length - 1) = x := ⟨_, rfl⟩
    have HR0 := hid (show (x.map castL).getD [] = r0 by rw [← HX0.out, perfL_ok hg, nums_length, hxx])
    have HR1 := hid (show x.isSome = r1 by rw [← HX1.out, perfL_ok hg, nums_length, hxx]; cases x <;> rfl)
    have hfull := memsN_full (show rs.length ≤ 32 by omega)
    have hp : 2 ^ rs.length ≤ 65536 := Nat.pow_le_pow_right (n := 2) (i := rs.length) (j := 16) (by decide) h16
    have hpos := Nat.two_pow_pos rs.length
    have HXS := hid (show x = (perfR ((nums rs).map maskL) (memsN (2 ^ rs.length - 1)).length (2 ^ rs.length - 1)).map ([] ++ ·) by rw [hfull, hxx]; simp)
    have HF0 := hid (show 2 ^ rs.length - 1 < 2 ^ rs.length by omega)
    have HSB := hid (fun v (hv : v < rs.length) S => (show simpB ((nums rs).map maskL) S v = decide (missL (nums rs) (leftL rs[v].z S) = 0) by rw [← row_rs rs v hv]; exact simp_left hg (by rw [nums_length]; exact hv) S))
    have HIN := hid (fun v (hv : v < rs.length) x (hx : x ∈ rs[v].z) => (show 0 ≤ x ∧ x < rs.length by
      have := gok_range hg (u := (v : Int)) (v := x) (by omega) (by rw [nums_length]; omega) (by rw [row_rs rs v hv]; exact hx)
      rwa [nums_length] at this))
    have HZ := hid (fun v (hv : v < rs.length) S => (show (leftL rs[v].z S).length ≤ 16 by
      have h2 := (hg.inc v (by rw [nums_length]; exact hv))
      rw [row_rs rs v hv] at h2
      have h3 := nodup_le _ (nums rs).length (inc_nodup (leftL_inc h2 S)) (fun x hx => h2.1 x (leftL_mem.1 hx).1)
      rw [nums_length] at h3; omega))
    have HALL := hid (goneL_all rs.length)
    have HFULL := hid hfull
    clear HX0 HX1 hg hpos hfull hxx
    generalize (nums rs).map maskL = A at *
    generalize 2 ^ rs.length - 1 = F at *
    go_enter Tryd.func42, Tryd.ntmps42
    go_wp2_with fail
    rw [← HW.out]
    go_wp2_with fail
    refine (specGraphOk_b a rs c _ _ h1.out RA.out hn).mono ?_
    rintro e w1 ⟨rfl, hb⟩
    replace RA := hid (RA.out.below hb (Nat.le_refl _))
    replace B0 := hid (bon B0.out hb)
    replace c0 := cellB hb c0 (Nat.le_refl _)
    clear hb
    go_wp2_with fail
    refine (l1Size_any a rs c _ hn1).mono ?_
    rintro e w2 ⟨rfl, hb⟩
    replace RA := hid (RA.out.below hb (Nat.le_refl _))
    replace B0 := hid (bon B0.out hb)
    replace c0 := cellB hb c0 (Nat.le_refl _)
    clear hb
    go_wp2_with (at_make; refine law_make tBools _ rfl _ _ rfl rs.length _ _ rfl rfl (by omega) ?_; intro wm hown hb hsz)
    have OG0 := hid hown; have BG0 := hid hb; have HSM := hid hsz; have hw0m : w.heap.size ≤ wm.heap.size := (by have := B0.out.size; omega); clear hown hb hsz
    have HREP := hid (show List.replicate rs.length (Value.bool false) = (goneL F rs.length).map Value.bool by rw [HALL.out]; simp)
    rw [HREP.out] at OG0
    have HO := hid (show Own 2 (wm.alloc (.cells #[] 2)) wm.heap.size (.slice (some ⟨wm.heap.size, 0, none⟩) 0 0) ((castL []).map (.int .i64)) from own_new 2 wm [] (by decide))
    have HE0 := hid (alloc_below wm (.cells #[] 2))
    go_wp2
    go_loopw [5, 6] (fun o _ wr => ∃ (S : Nat) (D : List Nat), D.length + (memsN S).length = rs.length ∧ S < 2 ^ rs.length ∧ x = (perfR A (memsN S).length S).map (D ++ ·) ∧ Own 4 wr w2.heap.size (.slice (some ⟨w2.heap.size, 0, none⟩) rs.length rs.length) ((goneL S rs.length).map Value.bool) ∧ Own 2 wr wm.heap.size o ((castL D).map (.int .i64)) ∧ Below w2.heap.size w2 wr ∧ wm.heap.size ≤ wr.heap.size) (fun o _ _ => rs.length - lenOf o)
    case atStart => exact ⟨F, [], by rw [HFULL.out]; simp, HF0.out, HXS.out, OG0.out.past HE0.out (Nat.le_refl _), HO.out, BG0.out.trans (HE0.out.mono BG0.out.size), HE0.out.size⟩
    case round =>
      obtain ⟨S, D, hlen, hS, hx, hog, ho, hb, hwm⟩ := hrel
      have HX := hid hx; have OG := hid hog; have OO := hid ho; have BL := hid hb; clear hx hog ho
      replace RA := hid (RA.out.below hb (Nat.le_refl _))
      replace B0 := hid (bon B0.out hb)
      replace c0 := cellB hb c0 (Nat.le_refl _)
      clear hb
      have BS := hid (Below.refl wr.heap.size wr)
      have hS32 : S < 4294967296 := by omega
      obtain ⟨oa, oc, hov, _⟩ := Own.rd OO.out
      rw [castL_len] at hov
      subst hov
      by_cases hlt : D.length < rs.length
      · have hli : (D.length : Int) < (rs.length : Int) := by omega
        have HRNG := hid (firstP_range (A := A) hS (show rs.length ≤ 32 by omega))
        have HN0 := hid (show S ≠ 0 by rintro rfl; rw [memsN_zero] at hlen; simp at hlen; omega)
        go_wp2_with fail
        refine (l1Size_any a rs c _ hn1).mono ?_
        rintro e w3 ⟨rfl, hb⟩
        replace RA := hid (RA.out.below hb (Nat.le_refl _))
        replace B0 := hid (bon B0.out hb)
        replace c0 := cellB hb c0 (Nat.le_refl _)
        replace OG := hid (OG.out.past hb (Nat.le_refl _))
        replace OO := hid (OO.out.past hb (Nat.le_refl _))
        replace BL := hid (bon BL.out hb)
        replace BS := hid (bon BS.out hb)
        clear hb
        have hwm3 : wm.heap.size ≤ w3.heap.size := Nat.le_trans hwm BS.out.size
        go_wp2
        go_loopw [6] (fun x wq => ∃ v : Nat, v ≤ rs.length ∧ x = .int .i64 v ∧ (∀ j, j < v → (S.testBit j && simpB A S j) = false) ∧ Below w3.heap.size w3 wq) (fun x _ => rs.length - (intOf x).toNat)
        case atStart => exact ⟨0, Nat.zero_le _, rfl, fun j hj => absurd hj (Nat.not_lt_zero j), Below.refl _ _⟩
        case round =>
          obtain ⟨v, hv, rfl, hno, hb⟩ := hrel
          have HNO := hid hno; have BQ := hid hb; clear hno hb
          have RAq := hid (RA.out.below BQ.out (Nat.le_refl _))
          have OGq := hid (OG.out.past BQ.out (Nat.le_refl _))
          have cq := cellB BQ.out c0 (Nat.le_refl _)
          by_cases hlv : v < rs.length
          · have hvi : (v : Int) < (rs.length : Int) := by omega
            have cg := OGq.out.cell v (by simp [goneL_len]; exact hlv)
            rw [List.getElem_map, goneL_get] at cg
            by_cases hbv : S.testBit v = true
            · rw [hbv] at cg
              have HBV := hid hbv; clear hbv
              have HI1 := hid (HIN.out v hlv)
              have HZ1 := hid (HZ.out v hlv S)
              have HSB1 := hid (HSB.out v hlv S)
              have HLI := hid (show ∀ x ∈ leftL rs[v].z S, 0 ≤ x ∧ x < rs.length from fun x hx => HI1.out x (leftL_mem.1 hx).1)
              obtain ⟨bc, hbc⟩ : ∃ bc, decide (missL (nums rs) (leftL rs[v].z S) = 0) = bc := ⟨_, rfl⟩
              have HBC := hid hbc
              rw [hbc] at HSB1
              clear hbc
              obtain ⟨wq', rfl⟩ : ∃ z, z = wr := ⟨_, rfl⟩
              have D3 : Drawn wq' wq'.drew := ⟨1, rfl⟩
              have RA3 := hid (RAq.out.drawn D3)
              have OG3 := hid (OGq.out.past (D3.below wq'.heap.size) (Nat.le_refl _))
              have BQ3 := hid (BQ.out.trans (D3.below _))
              have f0 := dcell D3 cq
              have f1 : wq'.drew.cell? ⟨w2.heap.size, v, none⟩ = some (.bool false) := dcell D3 cg
              go_wp2_with fail
              go_region_held3 (fun w' => w'.cell? ⟨w.heap.size, 0, none⟩ = some (.slice a rs.length c) ∧ w'.cell? ⟨w2.heap.size, v, none⟩ = some (.bool false)) (first | exact ⟨f0, f1⟩ | exact ⟨g0, g1⟩ | exact ⟨k0, k1⟩ | exact ⟨m0, m1⟩) ((first | (go_at_call 69; refine (l1Size_any _ _ _ _ hn1).mono ?_; rintro e w6 ⟨rfl, hb⟩; have g0 := cellB hb f0 (Nat.le_refl _); have g1 := cellB hb f1 (Nat.le_refl _); have RA4 := hid (RA3.out.below hb (Nat.le_refl _)); have OG4 := hid (OG3.out.past hb (Nat.le_refl _)); have BQ4 := hid (bon BQ3.out hb); clear hb) | (go_at_call 70; refine (l7Left_any _ _ _ _ _ _ _ _ RA4.out hn hlv HI1.out (ownB_rd OG4.out)).mono ?_; rintro e w7 ⟨pv, rfl, hown, hb⟩; obtain ⟨pa, pc, rfl, hpr, _⟩ := Own.rd hown; have RP := hid hpr; have k0 := cellB hb g0 (Nat.le_refl _); have k1 := cellB hb g1 (Nat.le_refl _); have RA5 := hid (RA4.out.below hb (Nat.le_refl _)); have BQ5 := hid (bon BQ4.out hb); clear hown hb hpr) | (go_at_call 51; refine (l8Clique_b _ _ _ _ _ _ _ _ HBC.out RA5.out hn RP.out HZ1.out HLI.out).mono ?_; rintro e w8 ⟨rfl, hb⟩; have m0 := cellB hb k0 (Nat.le_refl _); have m1 := cellB hb k1 (Nat.le_refl _); have BQ6 := hid (bon BQ5.out hb); clear hb)))
              clear BQ5 BQ4 BQ3 RA5 RA4 RA3 OG4 OG3 RP f0 f1 g0 g1 k0 k1 m0 m1 cg cq RAq OGq BQ
              cases bc
              · have HN2 := hid (show ∀ j, j < v + 1 → (S.testBit j && simpB A S j) = false from fun j hj => by
                  by_cases e : j = v
                  · subst e; rw [HSB1.out]; simp
                  · exact HNO.out j (by omega))
                go_wp2
                go_roundw
                case rel => exact ⟨v + 1, by omega, by go_num, HN2.out, BQ6.out⟩
                case measure => simp [intOf]; omega
              · have HF1 := hid (show firstP A S = some v by
                  rw [HRNG.out]
                  have := find_at (p := fun v => S.testBit v && simpB A S v) (L := List.range rs.length) (k := v) (by simpa using hlv) (fun j hj => by simpa using HNO.out j hj) (by simp [HSB1.out, HBV.out])
                  simpa using this)
                have HX2 := hid (perf_map hS32 HF1.out HX.out)
                have HMD := hid (memsN_dif hS32 HBV.out)
                have hdl := dif_bit_lt HBV.out
                have dvn : ((v : Int) == (rs.length : Int)) = false := by simp; omega
                have RA7 := hid (RA.out.below BQ6.out (Nat.le_refl _))
                have OG7 := hid (OG.out.past BQ6.out (Nat.le_refl _))
                have OO7 := hid (OO.out.past BQ6.out (Nat.le_refl _))
                have BL7 := hid (bon BL.out BQ6.out)
                have c07 := cellB BQ6.out c0 (Nat.le_refl _)
                have hwm8 := Nat.le_trans hwm3 BQ6.out.size
                clear BQ6 HX RA OG OO BL c0 B0
                go_wp2_with fail
                refine (l1Size_any a rs c _ hn1).mono ?_
                rintro e w9 ⟨rfl, hb⟩
                have OG9 := hid (OG7.out.past hb (Nat.le_refl _))
                have OO9 := hid (OO7.out.past hb (Nat.le_refl _))
                have BL9 := hid (bon BL7.out hb)
                have hwm9 := Nat.le_trans hwm8 hb.size
                clear hb OG7 OO7 BL7 RA7 c07
                have hst := OG9.out.store v (by simp [goneL_len]; exact hlv) (.bool true)
                rw [← List.map_set, goneL_set] at hst
                have OGs := hid hst; clear hst
                have cgv := OG9.out.cell v (by simp [goneL_len]; exact hlv)
                have hfr := OG9.out.free v
                have BLs := hid (BL9.out.setCell (p := ⟨w2.heap.size, v, none⟩) (Nat.le_refl _) (.bool true))
                have OOs := hid (OO9.out.setCell_other ⟨w2.heap.size, v, none⟩ (.bool true) (OO9.out.ne OG9.out (by decide)))
                have hszs : (w9.setCell ⟨w2.heap.size, v, none⟩ (.bool true)).heap.size = w9.heap.size := by simp [World.setCell]
                have HC := hid (show (castL (D ++ [v])).map (Value.int .i64) = (castL D).map (Value.int .i64) ++ [.int .i64 (v : Int)] by rw [castL_snoc, List.map_append]; rfl)
                have hDl : ((castL D).map (Value.int .i64)).length ≤ 16 := by rw [List.length_map, castL_len]; omega
                clear OG9 OO9 BL9
                go_wp2_with (at_builtin; refine law_push tI64 _ rfl _ _ rfl wm.heap.size _ ((castL D).map (.int .i64)) rfl OOs.out _ _ rfl ?c0 rfl ?c1 ?c2 ?_)
                case c0 => simp
                case c1 => omega
                case c2 => rw [hszs]; exact hwm9
                intro v' w' h1 h2
                have OGn := hid (OGs.out.kept h2 (OGs.out.ne OOs.out (by decide)))
                have hsm := HSM.out
                have BLn := hid (BLs.out.trans (grown_below h2 BLs.out.size (fun g hg => by have := OOs.out.ge g hg; omega)))
                have hgs := h2.size
                rw [← HC.out] at h1
                obtain ⟨va, vc, rfl, _⟩ := Own.rd h1
                have OOn := hid h1
                clear h1 h2
                go_wp2
                go_roundw
                case rel => exact ⟨dif S (2 ^ v), D ++ [v], by have := HMD.out; simp; omega, by omega, HX2.out, OGn.out, OOn.out, BLn.out, by omega⟩
                case measure => simp [lenOf, castL_len]; omega
            · have hb2 : S.testBit v = false := by simpa using hbv
              rw [hb2] at cg
              have HN2 := hid (show ∀ j, j < v + 1 → (S.testBit j && simpB A S j) = false from fun j hj => by
                by_cases e : j = v
                · subst e; rw [hb2]; rfl
                · exact HNO.out j (by omega))
              clear hbv hb2
              go_wp2
              have qcg := fun (p : Bel _) => cellB p.h cg (Nat.le_refl _)
              have qcq := fun (p : Bel _) => cellB p.h cq (Nat.le_refl _)
              refine wp_quiet_b (by kernel_rfl) (by kernel_rfl) ?_
              repeat (go_big_quiet_step (first | (go_at_call 69; exact qb (l1Size_any _ _ _ _ hn1))))
              refine wpQuiet_nil ?_
              intro _ hw'
              obtain ⟨⟨w4, hb⟩, rfl⟩ := hw'
              clear qcg qcq
              replace BQ := hid (bon BQ.out hb)
              replace cg := cellB hb cg (Nat.le_refl _)
              replace cq := cellB hb cq (Nat.le_refl _)
              clear hb
              go_wp2
              go_roundw
              case rel => exact ⟨v + 1, by omega, by go_num, HN2.out, BQ.out⟩
              case measure => simp [intOf]; omega
          · obtain rfl : v = rs.length := by omega
            have HXN := hid (show x = none by
              rw [HX.out, perf_none hS32 HN0.out (by
                rw [HRNG.out]
                exact find_no (fun j hj => by
                  have hj2 : j < rs.length := by simpa using hj
                  simpa using HNO.out j hj2))]; rfl)
            have HQ0 := hid (show [] = r0 by rw [← HR0.out, HXN.out]; rfl)
            have HQ1 := hid (show false = r1 by rw [← HR1.out, HXN.out]; rfl)
            replace B0 := hid (bon B0.out BQ.out)
            go_wp2
            have qcq := fun (p : Bel _) => cellB p.h cq (Nat.le_refl _)
            refine wp_quiet_b (by kernel_rfl) (by kernel_rfl) ?_
            repeat (go_big_quiet_step (first | (go_at_call 69; exact qb (l1Size_any _ _ _ _ hn1))))
            refine wpQuiet_nil ?_
            intro _ hw'
            obtain ⟨⟨w5, hb⟩, rfl⟩ := hw'
            clear qcq
            replace B0 := hid (bon B0.out hb)
            replace cq := cellB hb cq (Nat.le_refl _)
            clear hb
            go_wp2_with fail
            refine (l1Size_any a rs c _ hn1).mono ?_
            rintro e w6 ⟨rfl, hb⟩
            replace B0 := hid (bon B0.out hb)
            replace cq := cellB hb cq (Nat.le_refl _)
            clear hb
            go_wp2
            go_ret2
            rw [← HQ0.out, ← HQ1.out]
            exact ⟨_, rfl, (own_new 2 _ [] (by decide)).base B0.out.size, B0.out.trans ((alloc_below _ _).mono B0.out.size)⟩
      · have hz : (memsN S).length = 0 := by omega
        have HXD := hid (show x = some D by rw [HX.out, hz]; simp [perfR])
        have HQ0 := hid (show castL D = r0 by rw [← HR0.out, HXD.out]; rfl)
        have HQ1 := hid (show true = r1 by rw [← HR1.out, HXD.out]; rfl)
        go_wp2_with fail
        refine (l1Size_any a rs c _ hn1).mono ?_
        rintro e w7 ⟨rfl, hb⟩
        replace RA := hid (RA.out.below hb (Nat.le_refl _))
        replace B0 := hid (bon B0.out hb)
        replace c0 := cellB hb c0 (Nat.le_refl _)
        replace OG := hid (OG.out.past hb (Nat.le_refl _))
        replace OO := hid (OO.out.past hb (Nat.le_refl _))
        replace BL := hid (bon BL.out hb)
        replace BS := hid (bon BS.out hb)
        clear hb
        go_wp2
        go_ret2
        rw [← HQ0.out, ← HQ1.out]
        exact ⟨_, rfl, OO.out.base hw0m, B0.out⟩
  · have h1 := hid (show decide (GOk (nums rs)) = false by simpa using hg)
    have HF0 := hid (show [] = r0 by rw [← HX0.out, perfL_no hg]; rfl)
    have HF1 := hid (show false = r1 by rw [← HX1.out, perfL_no hg]; rfl)
    clear hg HX0 HX1
    go_enter Tryd.func42, Tryd.ntmps42
    go_wp2_with fail
    rw [← HW.out]
    go_wp2_with fail
    refine (specGraphOk_b a rs c _ _ h1.out RA.out hn).mono ?_
    rintro e w8 ⟨rfl, hb⟩
    replace RA := hid (RA.out.below hb (Nat.le_refl _))
    replace B0 := hid (bon B0.out hb)
    replace c0 := cellB hb c0 (Nat.le_refl _)
    clear hb
    go_wp2
    go_ret2
    rw [← HF0.out, ← HF1.out]
    exact ⟨_, rfl, (own_new 2 _ [] (by decide)).base B0.out.size, B0.out.trans ((alloc_below _ _).mono B0.out.size)⟩
end Go.Proofs.YtlnhfafnhclolaaDoor
