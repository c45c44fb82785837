/- TouchesAll: both. -/
import Derived.Test.YtalfbldkdlanoaaDoorBramI
import Derived.Test.YtalfbldkdlanoaaDoorFn
import Derived.Deep.RegionWith
namespace Go.Proofs.YtalfbldkdlanoaaDoor
open Go.RowKit
def AllP (g bs : List (List Int)) (s : List Int) : Prop := BramP g bs ∧ ConnIn g s ∧ ∀ b ∈ bs, TouchL g b s
noncomputable instance (g bs : List (List Int)) (s : List Int) : Decidable (AllP g bs s) := Classical.propDecidable _
set_option maxRecDepth 100000 in
set_option maxHeartbeats 2000000 in
theorem specTouchesAll_b (a : Option Addr) (rs : List Row) (c : Nat) (b : Option Addr) (qs : List Row) (d : Nat) (a2 : Option Addr) (zs : List Int) (c2 : Nat) (w : World) (r : Bool) (hx : decide (AllP (nums rs) (nums qs) zs) = r) (hr : RdM w a rs) (hn : Small rs) (hq : RdM w b qs) (hm : Small qs) (hcap : qs.length ≤ d) (hz : Rd (Value.int .i64) w a2 zs) (hzm : zs.length ≤ 1048576) :
    Calls Tryd.prog 32 #[.agg #[.slice a rs.length c], .slice b qs.length d, .slice a2 zs.length c2] w fun e w' => e = .returned (.bool r) ∧ Below w.heap.size w w' := by
  have RA := hid hr; have RQ := hid hq; have RZ := hid hz; have HX := hid hx; clear hr hq hz hx
  have hqs := hm.1
  obtain ⟨w0, hw0⟩ : ∃ w0, w0 = (w.alloc (.cells #[.slice a rs.length c] 29)) := ⟨_, rfl⟩
  have B0 := hid (show Below w.heap.size w w0 by rw [hw0]; exact ((Below.refl _ _).alloc (Nat.le_refl _) _))
  have c0 : w0.cell? ⟨w.heap.size, 0, none⟩ = some (.slice a rs.length c) := by rw [hw0]; simp [go_sem]
  replace RA := hid (RA.out.below B0.out (Nat.le_refl _))
  replace RQ := hid (RQ.out.below B0.out (Nat.le_refl _))
  replace RZ := hid (RZ.out.below B0.out (Nat.le_refl _))
  have HW := hid hw0; clear hw0
  by_cases hb : BramP (nums rs) (nums qs)
  · have h1 := hid (show decide (BramP (nums rs) (nums qs)) = true by simpa using hb)
    by_cases hc : ConnIn (nums rs) zs
    · have h2 := hid (show decide (ConnIn (nums rs) zs) = true by simpa using hc)
      have HIN := hid (show ∀ v ∈ zs, 0 ≤ v ∧ v < rs.length from fun v hv => by have := hc.1.2.1 v hv; rwa [nums_length] at this)
      have HR := hid (show decide (∀ q ∈ qs, TouchL (nums rs) q.z zs) = r by
        rw [← HX.out, decide_eq_decide]
        constructor
        · intro h
          exact ⟨hb, hc, fun b hb => by obtain ⟨q, hq, rfl⟩ := List.mem_map.1 hb; exact h q hq⟩
        · intro h q hq
          exact h.2.2 q.z (List.mem_map.2 ⟨q, hq, rfl⟩))
      clear hb hc HX
      go_enter Tryd.func32, Tryd.ntmps32
      go_wp2_with fail
      rw [← HW.out]
      go_wp2_with fail
      refine (specBrambleOk_b a rs c b qs d _ _ h1.out RA.out hn RQ.out hm hcap).mono ?_
      rintro e w1 ⟨rfl, hb⟩
      replace RA := hid (RA.out.below hb (Nat.le_refl _))
      replace RQ := hid (RQ.out.below hb (Nat.le_refl _))
      replace RZ := hid (RZ.out.below hb (Nat.le_refl _))
      replace B0 := hid (bon B0.out hb)
      replace c0 := cellB hb c0 (Nat.le_refl _)
      clear hb
      go_wp2_with fail
      refine (specConnectedIn_b a rs c a2 zs c2 _ _ h2.out RA.out hn RZ.out hzm).mono ?_
      rintro e w2 ⟨rfl, hb⟩
      replace RA := hid (RA.out.below hb (Nat.le_refl _))
      replace RQ := hid (RQ.out.below hb (Nat.le_refl _))
      replace RZ := hid (RZ.out.below hb (Nat.le_refl _))
      replace B0 := hid (bon B0.out hb)
      replace c0 := cellB hb c0 (Nat.le_refl _)
      clear hb
      go_wp2
      go_loopw [7] (fun x wr => ∃ k : Nat, k ≤ qs.length ∧ x = .int .i64 k ∧ (∀ j (hj : j < qs.length), j < k → TouchL (nums rs) qs[j].z zs) ∧ Below w2.heap.size w2 wr) (fun x _ => qs.length - (intOf x).toNat)
      case atStart => exact ⟨0, Nat.zero_le _, rfl, fun j _ hj => absurd hj (Nat.not_lt_zero j), Below.refl _ _⟩
      case round =>
        obtain ⟨k, hk, rfl, hno, hb⟩ := hrel
        have HNO := hid hno; have BQ := hid hb; clear hno
        replace RA := hid (RA.out.below hb (Nat.le_refl _))
        replace RQ := hid (RQ.out.below hb (Nat.le_refl _))
        replace RZ := hid (RZ.out.below hb (Nat.le_refl _))
        replace B0 := hid (bon B0.out hb)
        replace c0 := cellB hb c0 (Nat.le_refl _)
        clear hb
        by_cases hlt : k < qs.length
        · have hki : (k : Int) < (qs.length : Int) := by omega
          obtain ⟨lb, lo, rfl, ck, hkok⟩ := RQ.out.at k hlt
          have RI := hid hkok.1
          have hzi := hm.2 _ (List.getElem_mem hlt)
          have HMEM := hid (List.getElem_mem hlt)
          clear hkok
          have HST := hid (fun (h : TouchL (nums rs) qs[k].z zs) => (show ∀ j (hj : j < qs.length), j < k + 1 → TouchL (nums rs) qs[j].z zs from fun j hj hjk => by
            by_cases e : j = k
            · subst e; exact h
            · exact HNO.out j hj (by omega)))
          generalize qs[k] = q at *
          by_cases ht : TouchL (nums rs) q.z zs
          · have H5 := hid (show decide (TouchL (nums rs) q.z zs) = true by simpa using ht)
            have HS2 := hid (HST.out ht)
            clear ht HST
            go_wp2
            have qc0 := fun (p : Bel _) => cellB p.h c0 (Nat.le_refl _)
            have qck := fun (p : Bel _) => cellB p.h ck (Nat.le_refl _)
            refine wp_quiet_b (by kernel_rfl) (by kernel_rfl) ?_
            repeat (go_big_quiet_step (first | (go_at_call 78; exact qb (l11Touch_b _ _ _ _ _ _ _ _ _ _ _ H5.out (RA.out.bel _) hn (RI.out.bel _) hzi (RZ.out.bel _) hzm HIN.out))))
            refine wpQuiet_nil ?_
            intro _ hw'
            obtain ⟨⟨w3, hb⟩, rfl⟩ := hw'
            clear qc0 qck
            replace RA := hid (RA.out.below hb (Nat.le_refl _))
            replace RQ := hid (RQ.out.below hb (Nat.le_refl _))
            replace RZ := hid (RZ.out.below hb (Nat.le_refl _))
            replace RI := hid (RI.out.below hb (Nat.le_refl _))
            replace B0 := hid (bon B0.out hb)
            replace c0 := cellB hb c0 (Nat.le_refl _)
            replace ck := cellB hb ck (Nat.le_refl _)
            replace BQ := hid (bon BQ.out hb)
            clear hb
            go_wp2
            go_roundw
            case rel => exact ⟨k + 1, by omega, by go_num, HS2.out, BQ.out⟩
            case measure => simp [intOf]; omega
          · have H5 := hid (show decide (TouchL (nums rs) q.z zs) = false by simpa using ht)
            have HF := hid (show false = r by
              rw [← HR.out]; symm
              rw [decide_eq_false_iff_not]
              exact fun h => ht (h q HMEM.out))
            clear ht HST
            go_wp2
            have qc0 := fun (p : Bel _) => cellB p.h c0 (Nat.le_refl _)
            have qck := fun (p : Bel _) => cellB p.h ck (Nat.le_refl _)
            refine wp_quiet_b (by kernel_rfl) (by kernel_rfl) ?_
            repeat (go_big_quiet_step (first | (go_at_call 78; exact qb (l11Touch_b _ _ _ _ _ _ _ _ _ _ _ H5.out (RA.out.bel _) hn (RI.out.bel _) hzi (RZ.out.bel _) hzm HIN.out))))
            refine wpQuiet_nil ?_
            intro _ hw'
            obtain ⟨⟨w4, hb⟩, rfl⟩ := hw'
            clear qc0 qck
            replace RA := hid (RA.out.below hb (Nat.le_refl _))
            replace RQ := hid (RQ.out.below hb (Nat.le_refl _))
            replace RZ := hid (RZ.out.below hb (Nat.le_refl _))
            replace RI := hid (RI.out.below hb (Nat.le_refl _))
            replace B0 := hid (bon B0.out hb)
            replace c0 := cellB hb c0 (Nat.le_refl _)
            replace ck := cellB hb ck (Nat.le_refl _)
            replace BQ := hid (bon BQ.out hb)
            clear hb
            go_wp2
            go_ret
            exact ⟨ret_bool HF.out, B0.out⟩
        · have HT := hid (show true = r by
            rw [← HR.out]; symm
            rw [decide_eq_true_iff]
            intro q hq
            obtain ⟨j, hj, rfl⟩ := List.mem_iff_getElem.1 hq
            exact HNO.out j hj (by omega))
          have hki : ¬ (k : Int) < (qs.length : Int) := by omega
          go_wp2
          go_ret
          exact ⟨ret_bool HT.out, B0.out⟩
    · have h2 := hid (show decide (ConnIn (nums rs) zs) = false by simpa using hc)
      have HF := hid (show ¬ AllP (nums rs) (nums qs) zs from fun h => hc h.2.1)
      clear hb hc
      go_enter Tryd.func32, Tryd.ntmps32
      go_wp2_with fail
      rw [← HW.out]
      go_wp2_with fail
      refine (specBrambleOk_b a rs c b qs d _ _ h1.out RA.out hn RQ.out hm hcap).mono ?_
      rintro e w5 ⟨rfl, hb⟩
      replace RA := hid (RA.out.below hb (Nat.le_refl _))
      replace RQ := hid (RQ.out.below hb (Nat.le_refl _))
      replace RZ := hid (RZ.out.below hb (Nat.le_refl _))
      replace B0 := hid (bon B0.out hb)
      replace c0 := cellB hb c0 (Nat.le_refl _)
      clear hb
      go_wp2_with fail
      refine (specConnectedIn_b a rs c a2 zs c2 _ _ h2.out RA.out hn RZ.out hzm).mono ?_
      rintro e w6 ⟨rfl, hb⟩
      replace RA := hid (RA.out.below hb (Nat.le_refl _))
      replace RQ := hid (RQ.out.below hb (Nat.le_refl _))
      replace RZ := hid (RZ.out.below hb (Nat.le_refl _))
      replace B0 := hid (bon B0.out hb)
      replace c0 := cellB hb c0 (Nat.le_refl _)
      clear hb
      go_wp2
      go_ret
      exact ⟨ret_bool (dec_f HX.out HF.out), B0.out⟩
  · have h1 := hid (show decide (BramP (nums rs) (nums qs)) = false by simpa using hb)
    have HF := hid (show ¬ AllP (nums rs) (nums qs) zs from fun h => hb h.1)
    clear hb
    go_enter Tryd.func32, Tryd.ntmps32
    go_wp2_with fail
    rw [← HW.out]
    go_wp2_with fail
    refine (specBrambleOk_b a rs c b qs d _ _ h1.out RA.out hn RQ.out hm hcap).mono ?_
    rintro e w7 ⟨rfl, hb⟩
    replace RA := hid (RA.out.below hb (Nat.le_refl _))
    replace RQ := hid (RQ.out.below hb (Nat.le_refl _))
    replace RZ := hid (RZ.out.below hb (Nat.le_refl _))
    replace B0 := hid (bon B0.out hb)
    replace c0 := cellB hb c0 (Nat.le_refl _)
    clear hb
    go_wp2
    go_ret
    exact ⟨ret_bool (dec_f HX.out HF.out), B0.out⟩
set_option maxRecDepth 100000 in
set_option maxHeartbeats 2000000 in
theorem touchTest_b (a1 : Option Addr) (zs : List Int) (c1 : Nat) (g1 g2 : Nat) (na : Option Addr) (A : List Nat) (nc : Nat) (a2 : Option Addr) (ys : List Int) (c2 : Nat) (w : World) (b : Bool) (hb : (!decide (TouchM A (maskL zs) (maskL ys))) = b) (hT : TabOk w) (hr : Rd maskF w na A) (hA : ∀ x ∈ A, x < 65536) (hAn : A.length ≤ 16)
    (hz : Rd (Value.int .i64) w a1 zs) (hzm : zs.length ≤ 1048576) (hzi : ∀ v ∈ zs, 0 ≤ v ∧ v < 16) (hzl : maskL zs < 2 ^ A.length) (hy : Rd (Value.int .i64) w a2 ys) (hym : ys.length ≤ 1048576) (hyi : ∀ v ∈ ys, 0 ≤ v ∧ v < 16)
    (hc1 : w.cell? ⟨g1, 0, none⟩ = some (.slice na A.length nc)) (hc2 : w.cell? ⟨g2, 0, none⟩ = some (.slice a2 ys.length c2)) :
    Calls Tryd.prog 82 #[.slice a1 zs.length c1, .pointer (some ⟨g1, 0, none⟩), .pointer (some ⟨g2, 0, none⟩)] w fun e w' => e = .returned (.bool b) ∧ Below w.heap.size w w' := by
  have RT := hid hT; have RA := hid hr; have RZ := hid hz; have RY := hid hy; have HA := hid hA; have HZI := hid hzi; have HYI := hid hyi; have HZL := hid hzl
  have c1' := hc1; have c2' := hc2
  obtain ⟨bb, hbb⟩ : ∃ bb, decide (TouchM A (maskL zs) (maskL ys)) = bb := ⟨_, rfl⟩
  rw [hbb] at hb
  subst hb
  have HBB := hid hbb
  have HMU := hid (mems_under hzl hAn)
  have h16a : maskL zs < 65536 := maskL_lt zs 16 hzi
  have h16b : maskL ys < 65536 := maskL_lt ys 16 hyi
  clear hT hr hz hy hA hzi hyi hzl hc1 hc2 hbb
  have B0 := hid (Below.refl w.heap.size w)
  go_enter Tryd.func82, Tryd.ntmps82
  go_wp2
  have qc1' := fun (p : Bel _) => cellB p.h c1' (Nat.le_refl _)
  have qc2' := fun (p : Bel _) => cellB p.h c2' (Nat.le_refl _)
  refine wp_quiet_b (by kernel_rfl) (by kernel_rfl) ?_
  repeat (go_big_quiet_step (first | (go_at_call_of 84 zs; exact qbs (maskOf_any _ _ _ _ (RZ.out.bel _) hzm HZI.out)) | (go_at_call_of 84 ys; exact qbs (maskOf_any _ _ _ _ (RY.out.bel _) hym HYI.out)) | (go_at_call 83; exact qb (touches_b _ _ _ _ _ _ _ HBB.out (RT.out.bel _) (RA.out.bel _) HA.out h16a h16b HMU.out))))
  refine wpQuiet_nil ?_
  intro _ hw'
  obtain ⟨⟨w1, hb⟩, rfl⟩ := hw'
  clear qc1' qc2'
  replace RT := hid (RT.out.below hb (Nat.le_refl _))
  replace RA := hid (RA.out.below hb (Nat.le_refl _))
  replace RZ := hid (RZ.out.below hb (Nat.le_refl _))
  replace RY := hid (RY.out.below hb (Nat.le_refl _))
  replace B0 := hid (bon B0.out hb)
  replace c1' := cellB hb c1' (Nat.le_refl _)
  replace c2' := cellB hb c2' (Nat.le_refl _)
  clear hb
  go_wp2
  go_ret
  exact ⟨rfl, B0.out⟩
set_option maxRecDepth 100000 in
set_option maxHeartbeats 2000000 in
theorem implTouchesAll_b (a : Option Addr) (rs : List Row) (c : Nat) (b : Option Addr) (qs : List Row) (d : Nat) (a2 : Option Addr) (zs : List Int) (c2 : Nat) (w : World) (r : Bool) (hx : decide (AllP (nums rs) (nums qs) zs) = r) (hr : RdM w a rs) (hn : Small rs) (hq : RdM w b qs) (hm : Small qs) (hcap : qs.length ≤ d) (hz : Rd (Value.int .i64) w a2 zs) (hzm : zs.length ≤ 1048576) (hT : TabOk w) :
    Calls Tryd.prog 34 #[.agg #[.slice a rs.length c], .slice b qs.length d, .slice a2 zs.length c2] w fun e w' => e = .returned (.bool r) ∧ Below w.heap.size w w' := by
  have RA := hid hr; have RQ := hid hq; have RZ := hid hz; have HX := hid hx; have RT := hid hT; clear hr hq hz hx hT
  have hqs := hm.1
  obtain ⟨w0, hw0⟩ : ∃ w0, w0 = ((w.alloc (.cells #[.slice a rs.length c] 29)).alloc (.cells #[.slice a2 zs.length c2] 26)) := ⟨_, rfl⟩
  have B0 := hid (show Below w.heap.size w w0 by rw [hw0]; exact (((Below.refl _ _).alloc (Nat.le_refl _) _).alloc (by simp) _))
  have c0 : w0.cell? ⟨w.heap.size, 0, none⟩ = some (.slice a rs.length c) := by rw [hw0]; simp [go_sem]
  have c1 : w0.cell? ⟨w.heap.size + 1, 0, none⟩ = some (.slice a2 zs.length c2) := by rw [hw0]; simp [go_sem]
  replace RA := hid (RA.out.below B0.out (Nat.le_refl _))
  replace RQ := hid (RQ.out.below B0.out (Nat.le_refl _))
  replace RZ := hid (RZ.out.below B0.out (Nat.le_refl _))
  replace RT := hid (RT.out.below B0.out (Nat.le_refl _))
  have HW := hid hw0; clear hw0
  by_cases hb : BramP (nums rs) (nums qs)
  · have h1 := hid (show decide (BramP (nums rs) (nums qs)) = true by simpa using hb)
    by_cases hc : ConnIn (nums rs) zs
    · have h2 := hid (show decide (ConnIn (nums rs) zs) = true by simpa using hc)
      have HG := hid hb.ok
      have h16 := hb.ok.le
      have HLR := hid (show ((nums rs).map maskL).length = rs.length by rw [List.length_map, nums_length])
      have HQ := hid (show ∀ q ∈ qs, SetP (nums rs) q.z from fun q hq => (hb.conn q.z (List.mem_map.2 ⟨q, hq, rfl⟩)).1)
      have HZS := hid hc.1
      have HR := hid (show (!qs.any fun q => !decide (TouchM ((nums rs).map maskL) (maskL q.z) (maskL zs))) = r by
        rw [← HX.out, Bool.eq_iff_iff]
        simp only [Bool.not_eq_true', List.any_eq_false, decide_eq_true_iff]
        constructor
        · intro h
          refine ⟨hb, hc, fun b hbm => ?_⟩
          obtain ⟨q, hq, rfl⟩ := List.mem_map.1 hbm
          have h3 := h q hq
          have h4 : TouchM ((nums rs).map maskL) (maskL q.z) (maskL zs) := by simpa using h3
          exact (touch_iff (HQ.out q hq) hc.1).1 h4
        · intro h q hq
          have h4 := (touch_iff (HQ.out q hq) hc.1).2 (h.2.2 q.z (List.mem_map.2 ⟨q, hq, rfl⟩))
          simpa using h4)
      have HA16 := hid (in16_of hb.ok)
      clear hb hc HX
      go_enter Tryd.func34, Tryd.ntmps34
      go_wp2_with fail
      rw [← HW.out]
      go_wp2_with fail
      refine (implBrambleOk_b a rs c b qs d _ _ h1.out RA.out hn RQ.out hm hcap RT.out).mono ?_
      rintro e w1 ⟨rfl, hb⟩
      replace RA := hid (RA.out.below hb (Nat.le_refl _))
      replace RQ := hid (RQ.out.below hb (Nat.le_refl _))
      replace RZ := hid (RZ.out.below hb (Nat.le_refl _))
      replace RT := hid (RT.out.below hb (Nat.le_refl _))
      replace B0 := hid (bon B0.out hb)
      replace c0 := cellB hb c0 (Nat.le_refl _)
      replace c1 := cellB hb c1 (Nat.le_refl _)
      clear hb
      go_wp2_with fail
      refine (implConnectedIn_b a rs c a2 zs c2 _ _ h2.out RA.out hn RZ.out hzm RT.out).mono ?_
      rintro e w2 ⟨rfl, hb⟩
      replace RA := hid (RA.out.below hb (Nat.le_refl _))
      replace RQ := hid (RQ.out.below hb (Nat.le_refl _))
      replace RZ := hid (RZ.out.below hb (Nat.le_refl _))
      replace RT := hid (RT.out.below hb (Nat.le_refl _))
      replace B0 := hid (bon B0.out hb)
      replace c0 := cellB hb c0 (Nat.le_refl _)
      replace c1 := cellB hb c1 (Nat.le_refl _)
      clear hb
      go_wp2_with fail
      refine (netsOf_any a rs c _ HG.out RA.out hn).mono ?_
      rintro e w3 ⟨v, rfl, hown, hb⟩
      replace RA := hid (RA.out.below hb (Nat.le_refl _))
      replace RQ := hid (RQ.out.below hb (Nat.le_refl _))
      replace RZ := hid (RZ.out.below hb (Nat.le_refl _))
      replace RT := hid (RT.out.below hb (Nat.le_refl _))
      replace B0 := hid (bon B0.out hb)
      replace c0 := cellB hb c0 (Nat.le_refl _)
      replace c1 := cellB hb c1 (Nat.le_refl _)
      clear hb
      obtain ⟨na, nc, rfl, hsr, _, _, _, _⟩ := Own.rd (f := netF) hown
      have RN := hid hsr.masks; clear hown hsr
      rw [nums_length]
      have hal := alloc_below w3 (.cells #[.slice na rs.length nc] 73)
      have cn : (w3.alloc (.cells #[.slice na rs.length nc] 73)).cell? ⟨w3.heap.size, 0, none⟩ = some (.slice na rs.length nc) := by simp [go_sem]
      have RN4 := hid (RN.out.below hal (Nat.le_refl _)); have RT4 := hid (RT.out.below hal (Nat.le_refl _)); have RZ4 := hid (RZ.out.below hal (Nat.le_refl _)); have RQ4 := hid (RQ.out.below hal (Nat.le_refl _))
      have B4 := hid (bon B0.out hal); have c1a := cellB hal c1 (Nat.le_refl _)
      have HCN := hid cn; have HC1 := hid c1a
      clear hal cn c1a
      generalize hA : (nums rs).map maskL = A at *
      have hAl := HLR.out
      have HE := hid (enters_of Tryd.func82 (by kernel_rfl) (by kernel_rfl))
      have HTT : Hid (Tests Tryd.prog 82 #[.pointer (some ⟨w3.heap.size, 0, none⟩), .pointer (some ⟨w.heap.size + 1, 0, none⟩)] (fun q => !decide (TouchM A (maskL q.z) (maskL zs))) qs (w3.alloc (.cells #[.slice na rs.length nc] 73))) := fun q hq w1 hw1 =>
        touchTest_b q.a q.z q.c w3.heap.size (w.heap.size + 1) na A nc a2 zs c2 w1 _ rfl (RT4.out.below hw1 (Nat.le_refl _)) (RN4.out.below hw1 (Nat.le_refl _)) HA16.out (by rw [HLR.out]; rw [nums_length] at h16; exact h16)
          ((RQ4.out.row q hq).1.below hw1 (Nat.le_refl _)) (hm.2 q hq) (fun v hv => by have := (HQ.out q hq).2.1 v hv; omega) (by rw [HLR.out]; have := maskL_lt_len (HQ.out q hq).2; rwa [nums_length] at this)
          (RZ4.out.below hw1 (Nat.le_refl _)) hzm (fun v hv => by have := HZS.out.2.1 v hv; omega) (by rw [HLR.out]; exact cellB hw1 HCN.out (Nat.le_refl _)) (cellB hw1 HC1.out (Nat.le_refl _))
      clear hAl
      go_wp2_with fail
      refine (containsRows_any b qs d _ _ _ _ RQ4.out hm.1 HE.out HTT.out).mono ?_
      rintro e w5 ⟨rfl, hb⟩
      have B5 := hid (bon B4.out hb); clear hb
      go_wp2
      go_ret
      exact ⟨ret_bool (by rw [← HR.out]), B5.out⟩
    · have h2 := hid (show decide (ConnIn (nums rs) zs) = false by simpa using hc)
      have HF := hid (show ¬ AllP (nums rs) (nums qs) zs from fun h => hc h.2.1)
      clear hb hc
      go_enter Tryd.func34, Tryd.ntmps34
      go_wp2_with fail
      rw [← HW.out]
      go_wp2_with fail
      refine (implBrambleOk_b a rs c b qs d _ _ h1.out RA.out hn RQ.out hm hcap RT.out).mono ?_
      rintro e w4 ⟨rfl, hb⟩
      replace RA := hid (RA.out.below hb (Nat.le_refl _))
      replace RQ := hid (RQ.out.below hb (Nat.le_refl _))
      replace RZ := hid (RZ.out.below hb (Nat.le_refl _))
      replace RT := hid (RT.out.below hb (Nat.le_refl _))
      replace B0 := hid (bon B0.out hb)
      replace c0 := cellB hb c0 (Nat.le_refl _)
      replace c1 := cellB hb c1 (Nat.le_refl _)
      clear hb
      go_wp2_with fail
      refine (implConnectedIn_b a rs c a2 zs c2 _ _ h2.out RA.out hn RZ.out hzm RT.out).mono ?_
      rintro e w5 ⟨rfl, hb⟩
      replace RA := hid (RA.out.below hb (Nat.le_refl _))
      replace RQ := hid (RQ.out.below hb (Nat.le_refl _))
      replace RZ := hid (RZ.out.below hb (Nat.le_refl _))
      replace RT := hid (RT.out.below hb (Nat.le_refl _))
      replace B0 := hid (bon B0.out hb)
      replace c0 := cellB hb c0 (Nat.le_refl _)
      replace c1 := cellB hb c1 (Nat.le_refl _)
      clear hb
      go_wp2
      go_ret
      exact ⟨ret_bool (dec_f HX.out HF.out), B0.out⟩
  · have h1 := hid (show decide (BramP (nums rs) (nums qs)) = false by simpa using hb)
    have HF := hid (show ¬ AllP (nums rs) (nums qs) zs from fun h => hb h.1)
    clear hb
    go_enter Tryd.func34, Tryd.ntmps34
    go_wp2_with fail
    rw [← HW.out]
    go_wp2_with fail
    refine (implBrambleOk_b a rs c b qs d _ _ h1.out RA.out hn RQ.out hm hcap RT.out).mono ?_
    rintro e w6 ⟨rfl, hb⟩
    replace RA := hid (RA.out.below hb (Nat.le_refl _))
    replace RQ := hid (RQ.out.below hb (Nat.le_refl _))
    replace RZ := hid (RZ.out.below hb (Nat.le_refl _))
    replace RT := hid (RT.out.below hb (Nat.le_refl _))
    replace B0 := hid (bon B0.out hb)
    replace c0 := cellB hb c0 (Nat.le_refl _)
    replace c1 := cellB hb c1 (Nat.le_refl _)
    clear hb
    go_wp2
    go_ret
    exact ⟨ret_bool (dec_f HX.out HF.out), B0.out⟩
end Go.Proofs.YtalfbldkdlanoaaDoor
