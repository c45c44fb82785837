/- LoopOk: both. -/
import Derived.Test.YthdfkpinaidkkaaLoopS
import Derived.Test.YthdfkpinaidkkaaTrail
namespace Go.Proofs.Ythdfkpinaidkkaa
open Go.RowKit

theorem LoopP.of {g : List (List Int)} {l : List Int} (h0 : GOk g) (h1 : 3 ≤ l.length) (h2 : TrailTo g l l.length) (h3 : l.getD (l.length - 1) 0 ∈ row g (l.getD 0 0)) : LoopP g l := ⟨h0, h1, h2, h3⟩

set_option maxHeartbeats 4000000 in
theorem specLoopOk_b (a : Option Addr) (rs : List Row) (c : Nat) (a' : Option Addr) (zs : List Int) (c' : Nat) (w : World) (b : Bool) (hb : decide (LoopP (nums rs) zs) = b) (hr : RdM w a rs) (hn : Small rs) (hz : Rd (Value.int .i64) w a' zs) (hm : zs.length ≤ 1048576) (hcap : zs.length ≤ c') :
    Calls Try.prog 62 #[.agg #[.slice a rs.length c], .slice a' zs.length c'] w fun e w' => e = .returned (.bool b) ∧ Below w.heap.size w w' := by
  have RA := hid hr; have RZ := hid hz; have HB := hid hb; clear hr hz hb
  obtain ⟨w0, hw0⟩ : ∃ w0, w0 = (w.alloc (.cells #[.slice a rs.length c] 27)) := ⟨_, rfl⟩
  have B0 := hid (show Below w.heap.size w w0 by rw [hw0]; exact ((Below.refl _ _).alloc (Nat.le_refl _) _))
  have c0 : w0.cell? ⟨w.heap.size, 0, none⟩ = some (.slice a rs.length c) := by rw [hw0]; simp [go_sem]
  replace RA := hid (RA.out.below B0.out (Nat.le_refl _))
  replace RZ := hid (RZ.out.below B0.out (Nat.le_refl _))
  have HW := hid hw0; clear hw0
  by_cases hg : GOk (nums rs)
  · have h1 := hid (show decide (GOk (nums rs)) = true by simpa using hg)
    have HG := hid hg
    have h16 : rs.length ≤ 16 := by have := hg.le; rwa [nums_length] at this
    clear hg
    by_cases h3 : 3 ≤ zs.length
    · have hd3 : decide ((zs.length : Int) < 3) = false := by rw [decide_eq_false_iff_not]; omega
      have hd3n : decide (zs.length < 3) = false := by rw [decide_eq_false_iff_not]; omega
      by_cases hl : zs.length ≤ rs.length
      · have hdl : decide ((rs.length : Int) < (zs.length : Int)) = false := by rw [decide_eq_false_iff_not]; omega
        have hdln : decide (rs.length < zs.length) = false := by rw [decide_eq_false_iff_not]; omega
        obtain ⟨bt, hbt⟩ : ∃ bt, decide (TrailTo (nums rs) zs zs.length) = bt := ⟨_, rfl⟩
        have HT := hid hbt
        cases bt
        · have HFIN := hid (show ¬ LoopP (nums rs) zs from fun h => by have := h.trail; simp [this] at hbt); clear hbt
          go_enter Try.func62, Try.ntmps62
          go_wp2_with fail
          rw [← HW.out]
          go_wp2_with fail
          refine (specGraphOk_b a rs c _ true h1.out RA.out hn).mono ?_
          rintro e w1 ⟨rfl, hb⟩
          replace RA := hid (RA.out.below hb (Nat.le_refl _))
          replace RZ := hid (RZ.out.below hb (Nat.le_refl _))
          replace B0 := hid (bon B0.out hb)
          replace c0 := cellB hb c0 (Nat.le_refl _)
          clear hb
          go_wp2_with fail
          refine (l1Size_any a rs c _ hn.1).mono ?_
          rintro e w2 ⟨rfl, hb⟩
          replace RA := hid (RA.out.below hb (Nat.le_refl _))
          replace RZ := hid (RZ.out.below hb (Nat.le_refl _))
          replace B0 := hid (bon B0.out hb)
          replace c0 := cellB hb c0 (Nat.le_refl _)
          clear hb
          go_wp2_with fail
          refine (l3Path_b a rs c a' zs c' _ _ HT.out HG.out RA.out hn RZ.out (by omega) hcap).mono ?_
          rintro e w3 ⟨rfl, hb⟩
          replace RA := hid (RA.out.below hb (Nat.le_refl _))
          replace RZ := hid (RZ.out.below hb (Nat.le_refl _))
          replace B0 := hid (bon B0.out hb)
          replace c0 := cellB hb c0 (Nat.le_refl _)
          clear hb
          go_wp2
          go_ret
          exact ⟨ret_bool (dec_f HB.out HFIN.out), B0.out⟩
        · have ht : TrailTo (nums rs) zs zs.length := by simpa using hbt
          clear hbt
          have H0 := hid (ht 0 (by omega)).1
          obtain ⟨bl, hbl⟩ : ∃ bl, decide (zs[zs.length - 1]'(by omega) ∈ row (nums rs) (zs[0]'(by omega))) = bl := ⟨_, rfl⟩
          have HL := hid hbl
          have g0 := getD_eq zs 0 (by omega)
          have g1 := getD_eq zs (zs.length - 1) (by omega)
          have HFIN := hid (show decide (LoopP (nums rs) zs) = bl by
            rw [← hbl]; congr 1; apply propext
            exact ⟨fun h => by have := h.back; rwa [g0, g1] at this, fun h => ⟨HG.out, h3, ht, by rwa [g0, g1]⟩⟩)
          have HP0 := hid (show 0 ≤ zs[0]'(by omega) by have := H0.out.1; rwa [g0] at this)
          have HP1 := hid (show zs[0]'(by omega) < (rs.length : Int) by have := H0.out.2; rwa [g0, nums_length] at this)
          clear hbl g0 g1 ht H0
          obtain ⟨b', off, rfl, c1⟩ := RZ.out 0 (by omega)
          obtain ⟨b2, o2, hbo, c2⟩ := RZ.out (zs.length - 1) (by omega)
          obtain ⟨rfl, rfl⟩ : b2 = b' ∧ o2 = off := by simp at hbo; exact ⟨hbo.1.symm, hbo.2.symm⟩
          clear hbo
          obtain ⟨m, hmm⟩ : ∃ m, zs.length = m + 1 := ⟨zs.length - 1, by omega⟩
          rw [Nat.add_zero] at c1
          have hwr : IntKind.i64.wrap ((zs.length : Int) - 1) = ((zs.length - 1 : Nat) : Int) := by rw [IntWalk.i64_in _ (by omega)]; omega
          have hi0 : (0 : Int) < (zs.length : Int) := by omega
          have hi1 : ((zs.length - 1 : Nat) : Int) < (zs.length : Int) := by omega
          clear hmm
          go_enter Try.func62, Try.ntmps62
          go_wp2_with fail
          rw [← HW.out]
          go_wp2_with fail
          refine (specGraphOk_b a rs c _ true h1.out RA.out hn).mono ?_
          rintro e w4 ⟨rfl, hb⟩
          replace RA := hid (RA.out.below hb (Nat.le_refl _))
          replace RZ := hid (RZ.out.below hb (Nat.le_refl _))
          replace B0 := hid (bon B0.out hb)
          replace c0 := cellB hb c0 (Nat.le_refl _)
          replace c1 := cellB hb c1 (Nat.le_refl _)
          replace c2 := cellB hb c2 (Nat.le_refl _)
          clear hb
          go_wp2_with fail
          refine (l1Size_any a rs c _ hn.1).mono ?_
          rintro e w5 ⟨rfl, hb⟩
          replace RA := hid (RA.out.below hb (Nat.le_refl _))
          replace RZ := hid (RZ.out.below hb (Nat.le_refl _))
          replace B0 := hid (bon B0.out hb)
          replace c0 := cellB hb c0 (Nat.le_refl _)
          replace c1 := cellB hb c1 (Nat.le_refl _)
          replace c2 := cellB hb c2 (Nat.le_refl _)
          clear hb
          go_wp2_with fail
          refine (l3Path_b a rs c _ zs c' _ _ HT.out HG.out RA.out hn RZ.out (by omega) hcap).mono ?_
          rintro e w6 ⟨rfl, hb⟩
          replace RA := hid (RA.out.below hb (Nat.le_refl _))
          replace RZ := hid (RZ.out.below hb (Nat.le_refl _))
          replace B0 := hid (bon B0.out hb)
          replace c0 := cellB hb c0 (Nat.le_refl _)
          replace c1 := cellB hb c1 (Nat.le_refl _)
          replace c2 := cellB hb c2 (Nat.le_refl _)
          clear hb
          go_wp2
          have qc0 := fun (p : Bel _) => cellB p.h c0 (Nat.le_refl _)
          have qc1 := fun (p : Bel _) => cellB p.h c1 (Nat.le_refl _)
          have qc2 := fun (p : Bel _) => cellB p.h c2 (Nat.le_refl _)
          refine wp_quiet_b (by kernel_rfl) (by kernel_rfl) ?_
          repeat (go_big_quiet_step (first | (go_at_call 45; exact qb (l1Edge_b _ _ _ _ _ _ _ HP0.out HP1.out HL.out (RA.out.bel _) hn))))
          refine wpQuiet_nil ?_
          intro _ hw'
          obtain ⟨⟨w7, hb⟩, rfl⟩ := hw'
          clear qc0 qc1 qc2
          replace RA := hid (RA.out.below hb (Nat.le_refl _))
          replace RZ := hid (RZ.out.below hb (Nat.le_refl _))
          replace B0 := hid (bon B0.out hb)
          replace c0 := cellB hb c0 (Nat.le_refl _)
          replace c1 := cellB hb c1 (Nat.le_refl _)
          replace c2 := cellB hb c2 (Nat.le_refl _)
          clear hb
          go_wp2
          go_ret
          exact ⟨ret_bool (by rw [← HB.out, HFIN.out]), B0.out⟩
      · have hdl : decide ((rs.length : Int) < (zs.length : Int)) = true := by rw [decide_eq_true_iff]; omega
        have hdln : decide (rs.length < zs.length) = true := by rw [decide_eq_true_iff]; omega
        have HFIN := hid (show ¬ LoopP (nums rs) zs from fun h => hl (by have := h.le; rwa [nums_length] at this))
        go_enter Try.func62, Try.ntmps62
        go_wp2_with fail
        rw [← HW.out]
        go_wp2_with fail
        refine (specGraphOk_b a rs c _ true h1.out RA.out hn).mono ?_
        rintro e w8 ⟨rfl, hb⟩
        replace RA := hid (RA.out.below hb (Nat.le_refl _))
        replace RZ := hid (RZ.out.below hb (Nat.le_refl _))
        replace B0 := hid (bon B0.out hb)
        replace c0 := cellB hb c0 (Nat.le_refl _)
        clear hb
        go_wp2_with fail
        refine (l1Size_any a rs c _ hn.1).mono ?_
        rintro e w9 ⟨rfl, hb⟩
        replace RA := hid (RA.out.below hb (Nat.le_refl _))
        replace RZ := hid (RZ.out.below hb (Nat.le_refl _))
        replace B0 := hid (bon B0.out hb)
        replace c0 := cellB hb c0 (Nat.le_refl _)
        clear hb
        go_wp2
        go_ret
        exact ⟨ret_bool (dec_f HB.out HFIN.out), B0.out⟩
    · have hd3 : decide ((zs.length : Int) < 3) = true := by rw [decide_eq_true_iff]; omega
      have hd3n : decide (zs.length < 3) = true := by rw [decide_eq_true_iff]; omega
      have HFIN := hid (show ¬ LoopP (nums rs) zs from fun h => h3 h.long)
      go_enter Try.func62, Try.ntmps62
      go_wp2_with fail
      rw [← HW.out]
      go_wp2_with fail
      refine (specGraphOk_b a rs c _ true h1.out RA.out hn).mono ?_
      rintro e w10 ⟨rfl, hb⟩
      replace RA := hid (RA.out.below hb (Nat.le_refl _))
      replace RZ := hid (RZ.out.below hb (Nat.le_refl _))
      replace B0 := hid (bon B0.out hb)
      replace c0 := cellB hb c0 (Nat.le_refl _)
      clear hb
      go_wp2
      go_ret
      exact ⟨ret_bool (dec_f HB.out HFIN.out), B0.out⟩
  · have h1 := hid (show decide (GOk (nums rs)) = false by simpa using hg)
    have HFIN := hid (show ¬ LoopP (nums rs) zs from fun h => hg h.ok)
    clear hg
    go_enter Try.func62, Try.ntmps62
    go_wp2_with fail
    rw [← HW.out]
    go_wp2_with fail
    refine (specGraphOk_b a rs c _ false h1.out RA.out hn).mono ?_
    rintro e w11 ⟨rfl, hb⟩
    replace RA := hid (RA.out.below hb (Nat.le_refl _))
    replace RZ := hid (RZ.out.below hb (Nat.le_refl _))
    replace B0 := hid (bon B0.out hb)
    replace c0 := cellB hb c0 (Nat.le_refl _)
    clear hb
    go_wp2
    go_ret
    exact ⟨ret_bool (dec_f HB.out HFIN.out), B0.out⟩

set_option maxHeartbeats 4000000 in
theorem implLoopOk_b (a : Option Addr) (rs : List Row) (c : Nat) (a' : Option Addr) (zs : List Int) (c' : Nat) (w : World) (b : Bool) (hb : decide (LoopP (nums rs) zs) = b) (hr : RdM w a rs) (hn : Small rs) (hz : Rd (Value.int .i64) w a' zs) (hm : zs.length ≤ 1048576) (_hcap : zs.length ≤ c') :
    Calls Try.prog 64 #[.agg #[.slice a rs.length c], .slice a' zs.length c'] w fun e w' => e = .returned (.bool b) ∧ Below w.heap.size w w' := by
  have RA := hid hr; have RZ := hid hz; have HB := hid hb; clear hr hz hb
  obtain ⟨w0, hw0⟩ : ∃ w0, w0 = (w.alloc (.cells #[.slice a rs.length c] 27)) := ⟨_, rfl⟩
  have B0 := hid (show Below w.heap.size w w0 by rw [hw0]; exact ((Below.refl _ _).alloc (Nat.le_refl _) _))
  have c0 : w0.cell? ⟨w.heap.size, 0, none⟩ = some (.slice a rs.length c) := by rw [hw0]; simp [go_sem]
  replace RA := hid (RA.out.below B0.out (Nat.le_refl _))
  replace RZ := hid (RZ.out.below B0.out (Nat.le_refl _))
  have HW := hid hw0; clear hw0
  by_cases hg : GOk (nums rs)
  · have h1 := hid (show decide (GOk (nums rs)) = true by simpa using hg)
    have HG := hid hg
    have h16 : rs.length ≤ 16 := by have := hg.le; rwa [nums_length] at this
    clear hg
    by_cases h3 : 3 ≤ zs.length
    · have hd3 : decide ((3 : Int) ≤ (zs.length : Int)) = true := by rw [decide_eq_true_iff]; omega
      have hd3n : decide (3 ≤ zs.length) = true := by rw [decide_eq_true_iff]; omega
      obtain ⟨bt, hbt⟩ : ∃ bt, decide (TrailTo (nums rs) zs zs.length) = bt := ⟨_, rfl⟩
      have HT := hid hbt
      cases bt
      · have HFIN := hid (show ¬ LoopP (nums rs) zs from fun h => by have := h.trail; simp [this] at hbt); clear hbt
        go_enter Try.func64, Try.ntmps64
        go_wp2_with fail
        rw [← HW.out]
        have qc0 := fun (p : Bel _) => cellB p.h c0 (Nat.le_refl _)
        refine wp_quiet_b (by kernel_rfl) (by kernel_rfl) ?_
        repeat (go_big_quiet_step (first | (go_at_call 46; exact qb (implGraphOk_b a rs c _ true h1.out (RA.out.bel _) hn)) | (go_at_call 79; exact qb (isTrail_b a rs c a' zs c' _ _ HT.out HG.out (RA.out.bel _) hn (RZ.out.bel _) hm))))
        refine wpQuiet_nil ?_
        intro _ hw'
        obtain ⟨⟨w1, hb⟩, rfl⟩ := hw'
        clear qc0
        replace RA := hid (RA.out.below hb (Nat.le_refl _))
        replace RZ := hid (RZ.out.below hb (Nat.le_refl _))
        replace B0 := hid (bon B0.out hb)
        replace c0 := cellB hb c0 (Nat.le_refl _)
        clear hb
        go_wp2
        go_ret
        exact ⟨ret_bool (dec_f HB.out HFIN.out), B0.out⟩
      · have ht : TrailTo (nums rs) zs zs.length := by simpa using hbt
        clear hbt
        have H0 := hid (ht 0 (by omega)).1
        have g0 := getD_eq zs 0 (by omega)
        have g1 := getD_eq zs (zs.length - 1) (by omega)
        obtain ⟨u, hu⟩ := Int.eq_ofNat_of_zero_le (show 0 ≤ zs[0]'(by omega) by have := H0.out.1; rwa [g0] at this)
        have hu1 : u < rs.length := by have := H0.out.2; rw [g0, nums_length, hu] at this; omega
        obtain ⟨b3, off3, rfl, cc3, hok3⟩ := RA.out.at u hu1
        have HRW := hid (row_rs rs u hu1)
        obtain ⟨bl, hbl⟩ : ∃ bl, decide (zs[zs.length - 1]'(by omega) ∈ rs[u].z) = bl := ⟨_, rfl⟩
        have HL := hid hbl
        have HFIN := hid (show decide (LoopP (nums rs) zs) = bl by
          rw [← hbl]; congr 1; apply propext
          rw [← HRW.out, ← hu]
          exact ⟨fun h => by have := h.back; rwa [g0, g1] at this, fun h => ⟨HG.out, h3, ht, by rwa [g0, g1]⟩⟩)
        clear hbl g0 g1 ht H0
        have RK := hid hok3.1; clear hok3
        have hzm := Nat.le_trans (hn.2 _ (List.getElem_mem hu1)) (show 1048576 ≤ 16777216 by decide)
        obtain ⟨b', off, rfl, c1⟩ := RZ.out 0 (by omega)
        obtain ⟨b2, o2, hbo, c2⟩ := RZ.out (zs.length - 1) (by omega)
        obtain ⟨rfl, rfl⟩ : b2 = b' ∧ o2 = off := by simp at hbo; exact ⟨hbo.1.symm, hbo.2.symm⟩
        clear hbo
        rw [Nat.add_zero] at c1
        rw [hu] at c1
        have hwr : IntKind.i64.wrap ((zs.length : Int) - 1) = ((zs.length - 1 : Nat) : Int) := by rw [IntWalk.i64_in _ (by omega)]; omega
        have hi0 : (0 : Int) < (zs.length : Int) := by omega
        have hi1 : ((zs.length - 1 : Nat) : Int) < (zs.length : Int) := by omega
        have hi2 : (u : Int) < (rs.length : Int) := by omega
        clear hu
        generalize rs[u] = r at *
        generalize zs[zs.length - 1]'(by omega) = y at *
        go_enter Try.func64, Try.ntmps64
        go_wp2_with fail
        rw [← HW.out]
        have qc0 := fun (p : Bel _) => cellB p.h c0 (Nat.le_refl _)
        have qc1 := fun (p : Bel _) => cellB p.h c1 (Nat.le_refl _)
        have qc2 := fun (p : Bel _) => cellB p.h c2 (Nat.le_refl _)
        have qcc3 := fun (p : Bel _) => cellB p.h cc3 (Nat.le_refl _)
        refine wp_quiet_b (by kernel_rfl) (by kernel_rfl) ?_
        repeat (go_big_quiet_step (first | (go_at_call 46; exact qb (implGraphOk_b _ rs c _ true h1.out (RA.out.bel _) hn)) | (go_at_call 79; exact qb (isTrail_b _ rs c _ zs c' _ _ HT.out HG.out (RA.out.bel _) hn (RZ.out.bel _) hm)) | (go_at_call 51; exact qbs (contains_b _ _ _ _ _ _ HL.out (RK.out.bel _) hzm))))
        refine wpQuiet_nil ?_
        intro _ hw'
        obtain ⟨⟨w2, hb⟩, rfl⟩ := hw'
        clear qc0 qc1 qc2 qcc3
        replace RA := hid (RA.out.below hb (Nat.le_refl _))
        replace RZ := hid (RZ.out.below hb (Nat.le_refl _))
        replace RK := hid (RK.out.below hb (Nat.le_refl _))
        replace B0 := hid (bon B0.out hb)
        replace c0 := cellB hb c0 (Nat.le_refl _)
        replace c1 := cellB hb c1 (Nat.le_refl _)
        replace c2 := cellB hb c2 (Nat.le_refl _)
        replace cc3 := cellB hb cc3 (Nat.le_refl _)
        clear hb
        go_wp2
        go_ret
        exact ⟨ret_bool (by rw [← HB.out, HFIN.out]), B0.out⟩
    · have hd3 : decide ((3 : Int) ≤ (zs.length : Int)) = false := by rw [decide_eq_false_iff_not]; omega
      have hd3n : decide (3 ≤ zs.length) = false := by rw [decide_eq_false_iff_not]; omega
      have HFIN := hid (show ¬ LoopP (nums rs) zs from fun h => h3 h.long)
      go_enter Try.func64, Try.ntmps64
      go_wp2_with fail
      rw [← HW.out]
      have qc0 := fun (p : Bel _) => cellB p.h c0 (Nat.le_refl _)
      refine wp_quiet_b (by kernel_rfl) (by kernel_rfl) ?_
      repeat (go_big_quiet_step (first | (go_at_call 46; exact qb (implGraphOk_b a rs c _ true h1.out (RA.out.bel _) hn))))
      refine wpQuiet_nil ?_
      intro _ hw'
      obtain ⟨⟨w3, hb⟩, rfl⟩ := hw'
      clear qc0
      replace RA := hid (RA.out.below hb (Nat.le_refl _))
      replace RZ := hid (RZ.out.below hb (Nat.le_refl _))
      replace B0 := hid (bon B0.out hb)
      replace c0 := cellB hb c0 (Nat.le_refl _)
      clear hb
      go_wp2
      go_ret
      exact ⟨ret_bool (dec_f HB.out HFIN.out), B0.out⟩
  · have h1 := hid (show decide (GOk (nums rs)) = false by simpa using hg)
    have HFIN := hid (show ¬ LoopP (nums rs) zs from fun h => hg h.ok)
    clear hg
    go_enter Try.func64, Try.ntmps64
    go_wp2_with fail
    rw [← HW.out]
    have qc0 := fun (p : Bel _) => cellB p.h c0 (Nat.le_refl _)
    refine wp_quiet_b (by kernel_rfl) (by kernel_rfl) ?_
    repeat (go_big_quiet_step (first | (go_at_call 46; exact qb (implGraphOk_b a rs c _ false h1.out (RA.out.bel _) hn))))
    refine wpQuiet_nil ?_
    intro _ hw'
    obtain ⟨⟨w4, hb⟩, rfl⟩ := hw'
    clear qc0
    replace RA := hid (RA.out.below hb (Nat.le_refl _))
    replace RZ := hid (RZ.out.below hb (Nat.le_refl _))
    replace B0 := hid (bon B0.out hb)
    replace c0 := cellB hb c0 (Nat.le_refl _)
    clear hb
    go_wp2
    go_ret
    exact ⟨ret_bool (dec_f HB.out HFIN.out), B0.out⟩
end Go.Proofs.Ythdfkpinaidkkaa
