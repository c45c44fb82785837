/- WaysIn: the reference's, and the program's helpers. -/
import Derived.Test.YtnlcmbelpdnffaaWays
namespace Go.Proofs.Ytnlcmbelpdnffaa
open Go.RowKit

set_option maxHeartbeats 4000000 in
theorem specWaysIn_b (a : Option Addr) (rs : List Row) (c : Nat) (b : Option Addr) (qs : List Row) (d : Nat) (w : World) (r : Bool) (hb : decide (WaysP rs.length (nums qs)) = r) (hn : rs.length ≤ 1048576) (hq : RdM w b qs) (hm : Small qs) :
    Calls Try.prog 35 #[.agg #[.slice a rs.length c, .slice b qs.length d]] w fun e w' => e = .returned (.bool r) ∧ Below w.heap.size w w' := by
  have RQ := hid hq; have HB := hid hb; clear hq hb
  have hm1 := hm.1
  obtain ⟨w0, hw0⟩ : ∃ w0, w0 = (w.alloc (.cells #[.slice a rs.length c, .slice b qs.length d] 33)) := ⟨_, rfl⟩
  have B0 := hid (show Below w.heap.size w w0 by rw [hw0]; exact ((Below.refl _ _).alloc (Nat.le_refl _) _))
  have c0 : w0.cell? ⟨w.heap.size, 0, none⟩ = some (.slice a rs.length c) := by rw [hw0]; simp [go_sem]
  have c0a : w0.cell? ⟨w.heap.size, 1, none⟩ = some (.slice b qs.length d) := by rw [hw0]; simp [go_sem]
  replace RQ := hid (RQ.out.below B0.out (Nat.le_refl _))
  have HW := hid hw0; clear hw0
  by_cases hf : FormP rs.length (nums qs)
  · have HF := hid hf
    have h1 := hid (show decide (FormP rs.length (nums qs)) = true by simpa using hf)
    have hq16 : qs.length ≤ 16 := by have := hf.few; rwa [nums_length] at this
    clear hf
    go_enter Try.func35, Try.ntmps35
    go_wp2_with fail
    rw [← HW.out]
    go_wp2_with fail
    refine (l9Form_b a rs c b qs d _ _ h1.out hn RQ.out hm).mono ?_
    rintro e w1 ⟨rfl, hb⟩
    replace RQ := hid (RQ.out.below hb (Nat.le_refl _))
    replace B0 := hid (bon B0.out hb)
    replace c0 := cellB hb c0 (Nat.le_refl _)
    replace c0a := cellB hb c0a (Nat.le_refl _)
    clear hb
    go_wp2
    go_loop [3, 4, 5] (fun v _ _ => ∃ u : Nat, u ≤ rs.length ∧ v = .int .i64 u ∧ ∀ x : Nat, x < u → deg (nums qs) x ≤ 2) (fun v _ _ => rs.length - (intOf v).toNat)
    case atStart => exact ⟨0, Nat.zero_le _, rfl, fun j h => absurd h (Nat.not_lt_zero j)⟩
    case round =>
      obtain ⟨u, hu, rfl, htwo⟩ := hrel
      have HT := hid htwo; clear htwo
      by_cases hlt : u < rs.length
      · go_wp2
        go_loop [4, 5] (fun n j => ∃ k : Nat, k ≤ qs.length ∧ j = .int .i64 k ∧ n = .int .i64 (deg ((nums qs).take k) u : Nat)) (fun _ j => qs.length - (intOf j).toNat)
        case atStart => exact ⟨0, Nat.zero_le _, rfl, rfl⟩
        case round =>
          obtain ⟨k, hk, rfl, rfl⟩ := hrel
          have hdl := deg_le ((nums qs).take k) u
          have hdk : deg ((nums qs).take k) u ≤ 16 := Nat.le_trans hdl (by simp; omega)
          clear hdl
          by_cases hlk : k < qs.length
          · obtain ⟨b', o, rfl, cc, hok⟩ := RQ.out.at k hlk
            have HK := hid hok.1; clear hok
            have hz := Nat.le_trans (hm.2 _ (List.getElem_mem hlk)) (show 1048576 ≤ 16777216 by decide)
            have HD := hid (deg_take (nums qs) k (by rw [nums_length]; exact hlk) u)
            have HE := hid (show (nums qs)[k]'(by rw [nums_length]; exact hlk) = qs[k].z by simp [nums])
            rw [HE.out] at HD
            have HD2 := HD.out; clear HD HE
            generalize qs[k] = q at *
            have HD := hid HD2; clear HD2
            have hi0 : (k : Int) < (qs.length : Int) := by omega
            obtain ⟨bi, hbi⟩ : ∃ bi, decide ((u : Int) ∈ q.z) = bi := ⟨_, rfl⟩
            have HI := hid hbi
            cases bi
            · have HS := hid (show deg ((nums qs).take (k + 1)) u = deg ((nums qs).take k) u by rw [HD.out, if_neg (by simpa using hbi)]; rfl)
              clear hbi
              go_wp2_with (first | (go_at_call 56; refine (l1Has_b _ _ _ _ _ _ HI.out HK.out hz).mono ?_; rintro e w' ⟨rfl, rfl⟩))
              go_round
              case rel => exact ⟨k + 1, by omega, by go_num, by rw [HS.out]⟩
              case measure => simp [intOf]; omega
            · have HS := hid (show deg ((nums qs).take (k + 1)) u = deg ((nums qs).take k) u + 1 by rw [HD.out, if_pos (by simpa using hbi)])
              clear hbi
              go_wp2_with (first | (go_at_call 56; refine (l1Has_b _ _ _ _ _ _ HI.out HK.out hz).mono ?_; rintro e w' ⟨rfl, rfl⟩))
              go_round
              case rel => exact ⟨k + 1, by omega, by go_num, by rw [HS.out]; go_num⟩
              case measure => simp [intOf]; omega
          · obtain rfl : k = qs.length := by omega
            have HE := hid (show deg ((nums qs).take qs.length) u = deg (nums qs) u by rw [List.take_of_length_le (by rw [nums_length]; exact Nat.le_refl _)])
            rw [HE.out] at hdk ⊢
            by_cases h2 : deg (nums qs) u ≤ 2
            · have hd2 : decide ((2 : Int) < (deg (nums qs) u : Int)) = false := by rw [decide_eq_false_iff_not]; omega
              have hd2n : decide (2 < deg (nums qs) u) = false := by rw [decide_eq_false_iff_not]; omega
              have HS := hid (show ∀ x : Nat, x < u + 1 → deg (nums qs) x ≤ 2 from fun x hx => by
                rcases Nat.lt_succ_iff_lt_or_eq.1 hx with h3 | rfl
                · exact HT.out x h3
                · exact h2)
              go_wp2
              go_round
              case rel => exact ⟨u + 1, by omega, by go_num, HS.out⟩
              case measure => simp [intOf]; omega
            · have hd2 : decide ((2 : Int) < (deg (nums qs) u : Int)) = true := by rw [decide_eq_true_iff]; omega
              have hd2n : decide (2 < deg (nums qs) u) = true := by rw [decide_eq_true_iff]; omega
              have HFIN := hid (show ¬ WaysP rs.length (nums qs) from fun h => h2 (h.two u hlt))
              clear h2
              go_wp2
              go_ret
              exact ⟨ret_bool (dec_f HB.out HFIN.out), B0.out⟩
      · obtain rfl : u = rs.length := by omega
        have HFIN := hid (show WaysP rs.length (nums qs) from ⟨HF.out, HT.out⟩)
        go_wp2
        go_ret
        exact ⟨ret_bool (dec_t HB.out HFIN.out), B0.out⟩
  · have HF := hid hf
    have h1 := hid (show decide (FormP rs.length (nums qs)) = false by simpa using hf)
    clear hf
    go_enter Try.func35, Try.ntmps35
    go_wp2_with fail
    rw [← HW.out]
    go_wp2_with fail
    refine (l9Form_b a rs c b qs d _ _ h1.out hn RQ.out hm).mono ?_
    rintro e w2 ⟨rfl, hb⟩
    replace RQ := hid (RQ.out.below hb (Nat.le_refl _))
    replace B0 := hid (bon B0.out hb)
    replace c0 := cellB hb c0 (Nat.le_refl _)
    replace c0a := cellB hb c0a (Nat.le_refl _)
    clear hb
    go_wp2
    go_ret
    exact ⟨ret_bool (dec_f HB.out fun h => HF.out h.form), B0.out⟩

set_option maxHeartbeats 4000000 in
theorem linkTest_any (a : Option Addr) (zs : List Int) (c n : Nat) (g : Nat) (w : World) (hz : Rd (Value.int .i64) w a zs) (hm : zs.length ≤ 1048576) (hn : n ≤ 16) (hc : w.cell? ⟨g, 0, none⟩ = some (.int .i64 n)) :
    Calls Try.prog 81 #[.slice a zs.length c, .pointer (some ⟨g, 0, none⟩)] w fun e w' => e = .returned (.bool (!decide (zs.length = 2 ∧ Inc n zs))) ∧ Below w.heap.size w w' := by
  have RZ := hid hz; clear hz
  by_cases h2 : zs.length = 2
  · have hd2 : ((zs.length : Int) != 2) = false := by rw [h2]; rfl
    obtain ⟨bi, hbi⟩ : ∃ bi, decide (Inc n zs) = bi := ⟨_, rfl⟩
    have HI := hid hbi
    have HR := hid (show (!decide (zs.length = 2 ∧ Inc n zs)) = !bi by rw [← hbi]; simp [h2])
    rw [HR.out]
    clear hbi h2
    go_enter Try.func81, Try.ntmps81
    go_wp2_with fail
    refine (increasing_b _ _ _ _ _ bi HI.out RZ.out (by omega) (by omega) (by omega)).mono ?_
    rintro e w2 ⟨rfl, rfl⟩
    go_wp2
    go_ret
    exact ⟨rfl, Below.refl _ _⟩
  · have hd2 : ((zs.length : Int) != 2) = true := by simp; omega
    have HR := hid (show (!decide (zs.length = 2 ∧ Inc n zs)) = true by simp [h2])
    rw [HR.out]
    clear h2
    go_enter Try.func81, Try.ntmps81
    go_wp2
    go_ret
    exact ⟨rfl, Below.refl _ _⟩

set_option maxHeartbeats 4000000 in
theorem goodLinks_b (b : Option Addr) (qs : List Row) (d : Nat) (n : Nat) (w : World) (r : Bool) (hb : decide (∀ l ∈ nums qs, l.length = 2 ∧ Inc n l) = r) (hn : n ≤ 16) (hq : RdM w b qs) (hm : Small qs) :
    Calls Try.prog 77 #[.slice b qs.length d, .int .i64 n] w fun e w' => e = .returned (.bool r) ∧ Below w.heap.size w w' := by
  have RQ := hid hq; have HB := hid hb; clear hq hb
  obtain ⟨w0, hw0⟩ : ∃ w0, w0 = (w.alloc (.cells #[.int .i64 n] 3)) := ⟨_, rfl⟩
  have B0 := hid (show Below w.heap.size w w0 by rw [hw0]; exact ((Below.refl _ _).alloc (Nat.le_refl _) _))
  have c0 : w0.cell? ⟨w.heap.size, 0, none⟩ = some (.int .i64 n) := by rw [hw0]; simp [go_sem]
  replace RQ := hid (RQ.out.below B0.out (Nat.le_refl _))
  have HW := hid hw0; clear hw0
  have HC := hid c0
  have HE := hid (enters_of Try.func81 (by kernel_rfl) (by kernel_rfl))
  have HT : Hid (Tests Try.prog 81 #[.pointer (some ⟨w.heap.size, 0, none⟩)] (fun q => !decide (q.z.length = 2 ∧ Inc n q.z)) qs w0) := fun q hq w1 hw1 =>
    linkTest_any q.a q.z q.c n w.heap.size w1 ((RQ.out.row q hq).1.below hw1 (Nat.le_refl _)) (hm.2 q hq) hn (cellB hw1 HC.out (Nat.le_refl _))
  have HR := hid (show (!qs.any fun q => !decide (q.z.length = 2 ∧ Inc n q.z)) = r by
    rw [← HB.out, Bool.eq_iff_iff]
    simp [nums])
  clear c0
  go_enter Try.func77, Try.ntmps77
  go_wp2_with fail
  rw [← HW.out]
  refine (containsRows_any b qs d w0 _ _ _ RQ.out hm.1 HE.out HT.out).mono ?_
  rintro e w2 ⟨rfl, hb⟩
  have B2 := hid (bon B0.out hb); clear hb
  go_wp2
  go_ret
  exact ⟨ret_bool (by rw [← HR.out]; simp), B2.out⟩

set_option maxHeartbeats 4000000 in
theorem canCount_b (a : Option Addr) (rs : List Row) (c : Nat) (b : Option Addr) (qs : List Row) (d : Nat) (w : World) (r : Bool) (hb : decide (FormP rs.length (nums qs)) = r) (hn : rs.length ≤ 1048576) (hq : RdM w b qs) (hm : Small qs) :
    Calls Try.prog 63 #[.agg #[.slice a rs.length c, .slice b qs.length d]] w fun e w' => e = .returned (.bool r) ∧ Below w.heap.size w w' := by
  have RQ := hid hq; have HB := hid hb; clear hq hb
  have hm1 := hm.1
  obtain ⟨w0, hw0⟩ : ∃ w0, w0 = (w.alloc (.cells #[.slice a rs.length c, .slice b qs.length d] 33)) := ⟨_, rfl⟩
  have B0 := hid (show Below w.heap.size w w0 by rw [hw0]; exact ((Below.refl _ _).alloc (Nat.le_refl _) _))
  have c0 : w0.cell? ⟨w.heap.size, 0, none⟩ = some (.slice a rs.length c) := by rw [hw0]; simp [go_sem]
  have c0a : w0.cell? ⟨w.heap.size, 1, none⟩ = some (.slice b qs.length d) := by rw [hw0]; simp [go_sem]
  replace RQ := hid (RQ.out.below B0.out (Nat.le_refl _))
  have HW := hid hw0; clear hw0
  by_cases h1 : 1 ≤ rs.length
  · have d1 : decide ((1 : Int) ≤ (rs.length : Int)) = true := by rw [decide_eq_true_iff]; omega
    have d1n : decide (1 ≤ rs.length) = true := by rw [decide_eq_true_iff]; omega
    by_cases h2 : rs.length ≤ 16
    · have d2 : decide ((rs.length : Int) ≤ 16) = true := by rw [decide_eq_true_iff]; omega
      have d2n : decide (rs.length ≤ 16) = true := by rw [decide_eq_true_iff]; omega
      by_cases h3 : qs.length ≤ 16
      · have d3 : decide ((qs.length : Int) ≤ 16) = true := by rw [decide_eq_true_iff]; omega
        have d3n : decide (qs.length ≤ 16) = true := by rw [decide_eq_true_iff]; omega
        have HR := hid (show decide (∀ l ∈ nums qs, l.length = 2 ∧ Inc rs.length l) = r by
          rw [← HB.out]; congr 1; apply propext
          exact ⟨fun h => ⟨h1, h2, by rw [nums_length]; exact h3, h⟩, fun h => h.row⟩)
        clear h1 h3
        go_enter Try.func63, Try.ntmps63
        go_wp2_with fail
        rw [← HW.out]
        go_wp2_with fail
        refine (goodLinks_b b qs d rs.length _ r HR.out h2 RQ.out hm).mono ?_
        rintro e w1 ⟨rfl, hb⟩
        replace RQ := hid (RQ.out.below hb (Nat.le_refl _))
        replace B0 := hid (bon B0.out hb)
        replace c0 := cellB hb c0 (Nat.le_refl _)
        replace c0a := cellB hb c0a (Nat.le_refl _)
        clear hb
        go_wp2
        go_ret
        exact ⟨rfl, B0.out⟩
      · have d3 : decide ((qs.length : Int) ≤ 16) = false := by rw [decide_eq_false_iff_not]; omega
        have d3n : decide (qs.length ≤ 16) = false := by rw [decide_eq_false_iff_not]; omega
        have HFIN := hid (show ¬ FormP rs.length (nums qs) from fun h => h3 (by have := h.few; rwa [nums_length] at this))
        clear h3
        go_enter Try.func63, Try.ntmps63
        go_wp2
        go_ret
        exact ⟨ret_bool (dec_f HB.out HFIN.out), by rw [← HW.out]; exact B0.out⟩
    · have d2 : decide ((rs.length : Int) ≤ 16) = false := by rw [decide_eq_false_iff_not]; omega
      have d2n : decide (rs.length ≤ 16) = false := by rw [decide_eq_false_iff_not]; omega
      have HFIN := hid (show ¬ FormP rs.length (nums qs) from fun h => h2 h.le)
      clear h2
      go_enter Try.func63, Try.ntmps63
      go_wp2
      go_ret
      exact ⟨ret_bool (dec_f HB.out HFIN.out), by rw [← HW.out]; exact B0.out⟩
  · have d1 : decide ((1 : Int) ≤ (rs.length : Int)) = false := by rw [decide_eq_false_iff_not]; omega
    have d1n : decide (1 ≤ rs.length) = false := by rw [decide_eq_false_iff_not]; omega
    have HFIN := hid (show ¬ FormP rs.length (nums qs) from fun h => h1 h.one)
    clear h1
    go_enter Try.func63, Try.ntmps63
    go_wp2
    go_ret
    exact ⟨ret_bool (dec_f HB.out HFIN.out), by rw [← HW.out]; exact B0.out⟩
end Go.Proofs.Ytnlcmbelpdnffaa
