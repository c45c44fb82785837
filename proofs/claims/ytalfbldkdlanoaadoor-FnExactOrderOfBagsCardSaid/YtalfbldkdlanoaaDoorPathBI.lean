/- PathBagsOk: the program's. -/
import Derived.Test.YtalfbldkdlanoaaDoorPathB
import Derived.Test.YtalfbldkdlanoaaDoorCover
import Derived.Test.YtalfbldkdlanoaaDoorGoneB
namespace Go.Proofs.YtalfbldkdlanoaaDoor
open Go.RowKit
theorem inBag_get (h : List (List Int)) (v : Int) (k : Nat) (hk : k < h.length) : inBag h v k = decide (v ∈ h[k]) := by
  unfold inBag; simp [List.getD, hk]
theorem together_mem (h : List (List Int)) (u v : Int) : Together h u v ↔ ∃ l ∈ h, u ∈ l ∧ v ∈ l := by
  constructor
  · rintro ⟨i, hi, h1, h2⟩
    rw [inBag_get _ _ _ hi, decide_eq_true_iff] at h1 h2
    exact ⟨h[i], List.getElem_mem hi, h1, h2⟩
  · rintro ⟨l, hl, h1, h2⟩
    obtain ⟨i, hi, rfl⟩ := List.mem_iff_getElem.1 hl
    exact ⟨i, hi, by rw [inBag_get _ _ _ hi]; simpa using h1, by rw [inBag_get _ _ _ hi]; simpa using h2⟩
theorem row_get {g : List (List Int)} (v : Nat) (hv : v < g.length) : row g (v : Int) = g[v] := row_nat _ _ _
/-- The vertices' covers, told both ways. -/
theorem cov_iff {g h : List (List Int)} (hg : GOk g) (hh : In16 h) : CovP g h ↔ ∀ v : Nat, v < g.length → (∃ i, i < h.length ∧ inBag h v i = true) ∧ ∀ u ∈ row g (v : Int), Together h v u := by
  have h0 : ∀ l ∈ h, ∀ x ∈ l, (0 : Int) ≤ x := fun l hl x hx => (hh l hl x hx).1
  have hrow : ∀ v, (hv : v < g.length) → ∀ x ∈ g[v], 0 ≤ x := fun v hv x hx => by
    rw [← row_get v hv] at hx
    exact (gok_range hg (u := (v : Int)) (by omega) (by omega) hx).1
  have key : ∀ v : Nat, (togM h v).testBit v = true ↔ ∃ i, i < h.length ∧ inBag h v i = true := by
    intro v
    rw [togM_bit h v v h0]
    constructor
    · rintro ⟨l, hl, h1, _⟩
      obtain ⟨i, hi, rfl⟩ := List.mem_iff_getElem.1 hl
      exact ⟨i, hi, by rw [inBag_get _ _ _ hi]; simpa using h1⟩
    · rintro ⟨i, hi, h1⟩
      rw [inBag_get _ _ _ hi, decide_eq_true_iff] at h1
      exact ⟨h[i], List.getElem_mem hi, h1, h1⟩
  constructor
  · intro hc v hv
    obtain ⟨h1, h2⟩ := hc v hv
    refine ⟨(key v).1 h1, fun u hu => ?_⟩
    rw [row_get v hv] at hu
    rw [dif_zero] at h2
    have hu0 := hrow v hv u hu
    obtain ⟨m, rfl⟩ := Int.eq_ofNat_of_zero_le hu0
    have := h2 m (by rw [testBit_maskL _ _ (hrow v hv)]; simpa using hu)
    rw [togM_bit h v m h0] at this
    exact (together_mem _ _ _).2 this
  · intro hc v hv
    obtain ⟨h1, h2⟩ := hc v hv
    refine ⟨(key v).2 h1, (dif_zero _ _).2 fun i hi => ?_⟩
    rw [testBit_maskL _ _ (hrow v hv), decide_eq_true_iff] at hi
    rw [togM_bit h v i h0]
    exact (together_mem _ _ _).1 (h2 i (by rw [row_get v hv]; exact hi))
/-- What the masks know behind k bags. -/
structure GoneAt (h : List (List Int)) (k before gone : Nat) : Prop where
  lb : before < 65536
  lg : gone < 65536
  bb : ∀ v : Nat, before.testBit v = true ↔ 0 < k ∧ inBag h v (k - 1) = true
  bg : ∀ v : Nat, gone.testBit v = true ↔ Gone h k v
theorem GoneAt.zero (h : List (List Int)) : GoneAt h 0 0 0 := ⟨by decide, by decide, fun v => by simp, fun v => by simp [gone_zero]⟩
theorem GoneAt.succ {h : List (List Int)} {k before gone : Nat} (hh : In16 h) (ha : GoneAt h k before gone) (hk : k < h.length) : GoneAt h (k + 1) (maskL h[k]) (gone ||| dif before (maskL h[k])) := by
  have hb : ∀ v : Nat, (maskL h[k]).testBit v = inBag h v k := fun v => by rw [testBit_maskL _ _ (fun x hx => (hh _ (List.getElem_mem hk) x hx).1), inBag_get _ _ _ hk]
  refine ⟨hh.lt (List.getElem_mem hk), ?_, fun v => by rw [hb]; simp, fun v => ?_⟩
  · exact Nat.or_lt_two_pow (n := 16) ha.lg (Nat.lt_of_le_of_lt (dif_le _ _) ha.lb)
  · rw [Nat.testBit_or, Bool.or_eq_true, ha.bg, gone_succ, testBit_dif, Bool.and_eq_true, ha.bb, hb]
    simp [and_assoc]
theorem GoneAt.free {h : List (List Int)} {k before gone : Nat} (hh : In16 h) (ha : GoneAt h k before gone) (hk : k < h.length) : maskL h[k] &&& gone = 0 ↔ ∀ v : Nat, ¬ (inBag h v k = true ∧ Gone h k v) := by
  rw [and_zero]
  have hb : ∀ v : Nat, (maskL h[k]).testBit v = inBag h v k := fun v => by rw [testBit_maskL _ _ (fun x hx => (hh _ (List.getElem_mem hk) x hx).1), inBag_get _ _ _ hk]
  constructor
  · intro hn v ⟨h1, h2⟩
    exact hn v ⟨by rw [hb]; exact h1, (ha.bg v).2 h2⟩
  · intro hn v ⟨h1, h2⟩
    exact hn v ⟨by rw [← hb]; exact h1, (ha.bg v).1 h2⟩
/-- All bags are free of what is gone. -/
def FreeTo (h : List (List Int)) (k : Nat) : Prop := ∀ j, j < k → ∀ v : Nat, ¬ (inBag h v j = true ∧ Gone h j v)
theorem FreeTo.succ {h : List (List Int)} {k : Nat} (h1 : FreeTo h k) (h2 : ∀ v : Nat, ¬ (inBag h v k = true ∧ Gone h k v)) : FreeTo h (k + 1) := fun j hj => by
  rcases Nat.lt_succ_iff_lt_or_eq.1 hj with h3 | rfl
  · exact h1 j h3
  · exact h2
theorem pathP_iff {g h : List (List Int)} (hg : GOk g) (hf : h.length ≤ 16) (hr : ∀ b ∈ h, b ≠ [] ∧ Inc g.length b) : PathP g h ↔ FreeTo h h.length ∧ CovP g h := by
  have hh : In16 h := fun l hl x hx => by
    have := (hr l hl).2.1 x hx; have := hg.le; omega
  rw [cov_iff hg hh]
  constructor
  · intro hp
    refine ⟨fun k hk v hv => ?_, fun v hv => ⟨(hp.whole v hv).some, hp.cover v hv⟩⟩
    have hvl : v < g.length := by
      have h1 := hv.1
      rw [inBag_get _ _ _ hk, decide_eq_true_iff] at h1
      have := (hr _ (List.getElem_mem hk)).2.1 _ h1; omega
    exact (run_iff h v).1 (hp.whole v hvl).run k hk hv
  · rintro ⟨h1, h2⟩
    exact ⟨hg, hf, hr, fun v hv => ⟨(h2 v hv).1, (run_iff h v).2 fun k hk => h1 k hk v⟩, fun v hv => (h2 v hv).2⟩
set_option maxHeartbeats 4000000 in
theorem implPathBagsOk_b (a : Option Addr) (rs : List Row) (c : Nat) (a' : Option Addr) (qs : List Row) (c' : Nat) (w : World) (b : Bool) (hb : decide (PathP (nums rs) (nums qs)) = b) (hr : RdM w a rs) (hn : Small rs) (hq : RdM w a' qs) (hm : Small qs) :
    Calls Tryd.prog 73 #[.agg #[.slice a rs.length c], .slice a' qs.length c'] w fun e w' => e = .returned (.bool b) ∧ Below w.heap.size w w' := by
  have RA := hid hr; have RQ := hid hq; have HB := hid hb; clear hr hq hb
  have hm1 := hm.1
  obtain ⟨w0, hw0⟩ : ∃ w0, w0 = (w.alloc (.cells #[.slice a rs.length c] 29)) := ⟨_, rfl⟩
  have B0 := hid (show Below w.heap.size w w0 by rw [hw0]; exact ((Below.refl _ _).alloc (Nat.le_refl _) _))
  have c0 : w0.cell? ⟨w.heap.size, 0, none⟩ = some (.slice a rs.length c) := by rw [hw0]; simp [go_sem]
  replace RA := hid (RA.out.below B0.out (Nat.le_refl _))
  replace RQ := hid (RQ.out.below B0.out (Nat.le_refl _))
  have HW := hid hw0; clear hw0
  by_cases hg : GOk (nums rs)
  · have h1 := hid (show decide (GOk (nums rs)) = true by simpa using hg)
    have HG := hid hg
    have h16 : rs.length ≤ 16 := by have := hg.le; rwa [nums_length] at this
    clear hg
    by_cases hf : qs.length ≤ 16
    · have hd : decide ((16 : Int) < (qs.length : Int)) = false := by rw [decide_eq_false_iff_not]; omega
      have hdn : decide (16 < qs.length) = false := by rw [decide_eq_false_iff_not]; omega
      go_enter Tryd.func73, Tryd.ntmps73
      go_wp2_with fail
      rw [← HW.out]
      go_wp2_with fail
      refine (implGraphOk_b a rs c _ true h1.out RA.out hn).mono ?_
      rintro e w1 ⟨rfl, hb⟩
      replace RA := hid (RA.out.below hb (Nat.le_refl _))
      replace RQ := hid (RQ.out.below hb (Nat.le_refl _))
      replace B0 := hid (bon B0.out hb)
      replace c0 := cellB hb c0 (Nat.le_refl _)
      clear hb
      go_wp2
      go_loop [6, 22] (fun _ i => ∃ k : Nat, k ≤ qs.length ∧ i = .int .i64 k ∧ (∀ j, (hj : j < qs.length) → j < k → qs[j].z ≠ [] ∧ Inc rs.length qs[j].z)) (fun _ i => qs.length - (intOf i).toNat)
      case atStart => exact ⟨0, Nat.zero_le _, rfl, fun j _ h => absurd h (Nat.not_lt_zero j)⟩
      case round =>
        obtain ⟨k, hk, rfl, hrows⟩ := hrel
        have HROWS := hid hrows; clear hrows
        by_cases hlt : k < qs.length
        · obtain ⟨b', o, rfl, cc, hok⟩ := RQ.out.at k hlt
          have RK := hid hok.1; clear hok
          have hz := Nat.le_trans (hm.2 _ (List.getElem_mem hlt)) (show 1048576 ≤ 16777216 by decide)
          have HOK := hid (fun (h1 : qs[k].z ≠ []) (h2 : Inc rs.length qs[k].z) => (show ∀ j, (hj : j < qs.length) → j < k + 1 → qs[j].z ≠ [] ∧ Inc rs.length qs[j].z from fun j hj hjk => by
            rcases Nat.lt_succ_iff_lt_or_eq.1 hjk with h3 | rfl
            · exact HROWS.out j hj h3
            · exact ⟨h1, h2⟩))
          have HNO := hid (fun (h : ¬ (qs[k].z ≠ [] ∧ Inc rs.length qs[k].z)) => (show ¬ PathP (nums rs) (nums qs) from fun hh => h (by have := hh.rows _ (List.mem_map.2 ⟨qs[k], List.getElem_mem hlt, rfl⟩); rwa [nums_length] at this)))
          generalize qs[k] = q at *
          have hi0 : (k : Int) < (qs.length : Int) := by omega
          by_cases h0 : q.z = []
          · have e0 : ((q.z.length : Int) == 0) = true := by rw [h0]; rfl
            have e0n : (q.z.length == 0) = true := by rw [h0]; rfl
            have e0d : decide (q.z = []) = true := by simpa using h0
            have HFIN := hid (HNO.out fun h => h.1 h0)
            clear h0
            go_wp2
            go_ret
            exact ⟨ret_bool (dec_f HB.out HFIN.out), B0.out⟩
          · have hpos : 0 < q.z.length := List.length_pos_iff.2 h0
            have e0 : ((q.z.length : Int) == 0) = false := by rw [beq_eq_false_iff_ne]; omega
            have e0n : (q.z.length == 0) = false := by rw [beq_eq_false_iff_ne]; omega
            have e0d : decide (q.z = []) = false := by simpa using h0
            obtain ⟨bi, hbi⟩ : ∃ bi, decide (Inc (rs.length : Int) q.z) = bi := ⟨_, rfl⟩
            have HI := hid hbi
            cases bi
            · have HFIN := hid (HNO.out fun h => by simp [h.2] at hbi)
              clear hbi h0
              go_wp2_with (first | (go_at_call 122; refine (increasing_b _ _ _ _ _ _ HI.out RK.out hz (by omega) (by omega)).mono ?_; rintro e w' ⟨rfl, rfl⟩))
              go_ret
              exact ⟨ret_bool (dec_f HB.out HFIN.out), B0.out⟩
            · have HFIN := hid (HOK.out h0 (by simpa using hbi))
              clear hbi h0
              go_wp2_with (first | (go_at_call 122; refine (increasing_b _ _ _ _ _ _ HI.out RK.out hz (by omega) (by omega)).mono ?_; rintro e w' ⟨rfl, rfl⟩))
              go_round
              case rel => exact ⟨k + 1, by omega, by go_num, HFIN.out⟩
              case measure => simp [intOf]; omega
        · obtain rfl : k = qs.length := by omega
          have HALLR := hid (show ∀ b ∈ nums qs, b ≠ [] ∧ Inc (nums rs).length b from fun b hb => by
            obtain ⟨q, hq, rfl⟩ := List.mem_map.1 hb
            obtain ⟨j, hj, rfl⟩ := List.mem_iff_getElem.1 hq
            rw [nums_length]; exact HROWS.out j hj hj)
          have HIFF := hid (pathP_iff HG.out (by rw [nums_length]; exact hf) HALLR.out)
          have HQI := hid (show In16 (nums qs) from fun l hl x hx => by
            have := (HALLR.out l hl).2.1 x hx; have := HG.out.le; omega)
          have HGI := hid (show In16 (nums rs) from fun l hl x hx => by
            obtain ⟨j, hj, rfl⟩ := List.mem_iff_getElem.1 hl
            rw [← row_get j hj] at hx
            have := gok_range HG.out (u := (j : Int)) (by omega) (by omega) hx
            have := HG.out.le; omega)
          have HQV := hid (show ∀ r ∈ qs, ∀ v ∈ r.z, 0 ≤ v ∧ v < 16 from fun r hr v hv => HQI.out r.z (List.mem_map_of_mem hr) v hv)
          go_wp2_with fail
          refine (bagMasks_any a' qs c' _ hf HQV.out RQ.out hm).mono ?_
          rintro e w2 ⟨v, rfl, hown, hb⟩
          replace RA := hid (RA.out.below hb (Nat.le_refl _))
          replace RQ := hid (RQ.out.below hb (Nat.le_refl _))
          replace B0 := hid (bon B0.out hb)
          replace c0 := cellB hb c0 (Nat.le_refl _)
          clear hb
          obtain ⟨sa, sc, rfl, hsr, _, _, _, _⟩ := Own.rd (f := netF) hown
          have RS := hid hsr; clear hown hsr
          rw [nums_length]
          go_wp2
          go_loop [8, 9, 11, 42] (fun bf gn _ i => ∃ k B G : Nat, k ≤ qs.length ∧ i = .int .i64 k ∧ bf = .int .u32 B ∧ gn = .int .u32 G ∧ GoneAt (nums qs) k B G ∧ FreeTo (nums qs) k) (fun _ _ _ i => qs.length - (intOf i).toNat)
          case atStart => exact ⟨0, 0, 0, Nat.zero_le _, rfl, rfl, rfl, GoneAt.zero _, fun j h => absurd h (Nat.not_lt_zero j)⟩
          case round =>
            obtain ⟨k, B, G, hk, rfl, rfl, rfl, hga, hfr⟩ := hrel
            have HGA := hid hga; have HFR := hid hfr; clear hga hfr
            by_cases hlt : k < qs.length
            · have hkn : k < (nums qs).length := by rw [nums_length]; exact hlt
              obtain ⟨b', o, rfl, cc⟩ := RS.out k hkn
              unfold netF at cc
              have HSU := hid (HGA.out.succ HQI.out hkn)
              have HFF := hid (HGA.out.free HQI.out hkn)
              have hml := HQI.out.lt (List.getElem_mem hkn)
              have hlb := HGA.out.lb
              have hlg := HGA.out.lg
              have hi0 : (k : Int) < (qs.length : Int) := by omega
              have HBAD := hid (fun (h : ¬ ∀ v : Nat, ¬ (inBag (nums qs) v k = true ∧ Gone (nums qs) k v)) => (show ¬ PathP (nums rs) (nums qs) from fun hp => h ((HIFF.out.1 hp).1 k hkn)))
              generalize maskL (nums qs)[k] = M at *
              clear hkn
              have hand := u32_and_nat M G (by omega) (by omega)
              have hdf := u32_dif B M (by omega) (by omega)
              have hdl : dif B M < 65536 := Nat.lt_of_le_of_lt (dif_le _ _) hlb
              have hor := u32_or_nat G (dif B M) (by omega) (by omega)
              by_cases h0 : M &&& G = 0
              · have d0 : (((M &&& G : Nat) : Int) != 0) = false := by rw [h0]; rfl
                have HFIN := hid (HFR.out.succ (HFF.out.1 h0))
                clear h0
                go_wp2
                go_round
                case rel => exact ⟨k + 1, M, G ||| dif B M, by omega, by go_num, rfl, rfl, HSU.out, HFIN.out⟩
                case measure => simp [intOf]; omega
              · have d0 : (((M &&& G : Nat) : Int) != 0) = true := by simp; omega
                have HFIN := hid (HBAD.out (fun h => h0 (HFF.out.2 h)))
                clear h0
                go_wp2
                go_ret
                exact ⟨ret_bool (dec_f HB.out HFIN.out), B0.out⟩
            · obtain rfl : k = qs.length := by omega
              have HFQ := hid (show FreeTo (nums qs) (nums qs).length by rw [nums_length]; exact HFR.out)
              obtain ⟨bc, hbc⟩ : ∃ bc, decide (CovP (nums rs) (nums qs)) = bc := ⟨_, rfl⟩
              have HC := hid hbc
              have HFIN := hid (show bc = b by
                rw [← hbc, ← HB.out, Bool.eq_iff_iff, decide_eq_true_iff, decide_eq_true_iff, HIFF.out]
                exact ⟨fun h => ⟨HFQ.out, h⟩, fun h => h.2⟩)
              clear hbc
              go_wp2_with fail
              go_wp2_with fail
              refine (netsOf_any a rs c _ HG.out RA.out hn).mono ?_
              rintro e w3 ⟨v, rfl, hown, hb⟩
              replace RA := hid (RA.out.below hb (Nat.le_refl _))
              replace RQ := hid (RQ.out.below hb (Nat.le_refl _))
              replace RS := hid (RS.out.below hb (Nat.le_refl _))
              replace B0 := hid (bon B0.out hb)
              replace c0 := cellB hb c0 (Nat.le_refl _)
              clear hb
              obtain ⟨na, nc, rfl, hsr, _, _, _, _⟩ := Own.rd (f := netF) hown
              have RN := hid hsr; clear hown hsr
              go_wp2_with fail
              have hcov := coversEdges_b na (nums rs) nc sa (nums qs) sc _ _ HC.out RN.out (by rw [nums_length]; exact h16) HGI.out RS.out (by rw [nums_length]; exact hf) HQI.out
              rw [nums_length, nums_length] at hcov
              rw [nums_length]
              refine hcov.mono ?_
              rintro e w' ⟨rfl, rfl⟩
              go_wp2
              go_ret
              exact ⟨ret_bool HFIN.out, B0.out⟩
    · have hd : decide ((16 : Int) < (qs.length : Int)) = true := by rw [decide_eq_true_iff]; omega
      have hdn : decide (16 < qs.length) = true := by rw [decide_eq_true_iff]; omega
      have HFIN := hid (show ¬ PathP (nums rs) (nums qs) from fun h => hf (by have := h.few; rwa [nums_length] at this))
      clear hf
      go_enter Tryd.func73, Tryd.ntmps73
      go_wp2_with fail
      rw [← HW.out]
      go_wp2_with fail
      refine (implGraphOk_b a rs c _ true h1.out RA.out hn).mono ?_
      rintro e w4 ⟨rfl, hb⟩
      replace RA := hid (RA.out.below hb (Nat.le_refl _))
      replace RQ := hid (RQ.out.below hb (Nat.le_refl _))
      replace B0 := hid (bon B0.out hb)
      replace c0 := cellB hb c0 (Nat.le_refl _)
      clear hb
      go_wp2
      go_ret
      exact ⟨ret_bool (dec_f HB.out HFIN.out), B0.out⟩
  · have h1 := hid (show decide (GOk (nums rs)) = false by simpa using hg)
    have HFIN := hid (show ¬ PathP (nums rs) (nums qs) from fun h => hg h.ok)
    clear hg
    go_enter Tryd.func73, Tryd.ntmps73
    go_wp2_with fail
    rw [← HW.out]
    go_wp2_with fail
    refine (implGraphOk_b a rs c _ false h1.out RA.out hn).mono ?_
    rintro e w5 ⟨rfl, hb⟩
    replace RA := hid (RA.out.below hb (Nat.le_refl _))
    replace RQ := hid (RQ.out.below hb (Nat.le_refl _))
    replace B0 := hid (bon B0.out hb)
    replace c0 := cellB hb c0 (Nat.le_refl _)
    clear hb
    go_wp2
    go_ret
    exact ⟨ret_bool (dec_f HB.out HFIN.out), B0.out⟩
end Go.Proofs.YtalfbldkdlanoaaDoor
