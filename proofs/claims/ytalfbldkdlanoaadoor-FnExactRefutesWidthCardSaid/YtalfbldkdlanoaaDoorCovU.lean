/- BrambleOrder, RefutesWidth: both sides, whole. -/
import Derived.Test.YtalfbldkdlanoaaDoorCovT
namespace Go.Proofs.YtalfbldkdlanoaaDoor
open Go.RowKit
theorem pc_card {S : Nat} (h : S < 65536) : pcN 16 S = card S := by
  have h1 := pc_count (m := S) (l := mems S) ((mems_sorted S).imp (fun h => Int.ne_of_lt h)) (fun v => by
    rw [mems_mem (by omega)]
    constructor
    · rintro ⟨i, rfl, hi⟩
      exact ⟨i, rfl, bit_under (n := 16) h hi, hi⟩
    · rintro ⟨i, rfl, _, hi⟩; exact ⟨i, rfl, hi⟩)
  rw [h1]; unfold card mems; rw [List.length_map]
theorem coverOf_p (n m : Nat) (sa : Option Addr) (B : List Nat) (sc : Nat) (w : World) (hn : n ≤ 16) (hr : Rd maskF w sa B) (hBm : B.length = m) (hl : m ≤ 1048576) (hB : ∀ t ∈ B, t < 65536) (hfull : hits B (2 ^ n - 1) = true) :
    Calls Tryd.prog 99 #[.int .i64 n, .slice sa m sc] w (CoPost n B w) := by
  subst hBm
  exact coverOf_any n sa B sc w hn hr hl hB hfull
set_option maxHeartbeats 2000000 in
theorem specBrambleOrder_b (a : Option Addr) (rs : List Row) (c : Nat) (b : Option Addr) (qs : List Row) (d : Nat) (w : World) (r : Int) (hx : brO (nums rs) (nums qs) = r) (hr : RdM w a rs) (hn : Small rs) (hq : RdM w b qs) (hm : Small qs) (hcap : qs.length ≤ d) :
    Calls Tryd.prog 41 #[.agg #[.slice a rs.length c], .slice b qs.length d] w fun e w' => e = .returned (.int .i64 r) ∧ Below w.heap.size w w' := by
  subst hx
  have RA := hid hr; have RQ := hid hq; clear hr hq
  obtain ⟨w0, hw0⟩ : ∃ w0, w0 = (w.alloc (.cells #[.slice a rs.length c] 29)) := ⟨_, rfl⟩
  have B0 := hid (show Below w.heap.size w w0 by rw [hw0]; exact ((Below.refl _ _).alloc (Nat.le_refl _) _))
  have c0 : w0.cell? ⟨w.heap.size, 0, none⟩ = some (.slice a rs.length c) := by rw [hw0]; simp [go_sem]
  replace RA := hid (RA.out.below B0.out (Nat.le_refl _))
  replace RQ := hid (RQ.out.below B0.out (Nat.le_refl _))
  have HW := hid hw0; clear hw0
  by_cases hbr : BramP (nums rs) (nums qs)
  · have h1 := hid (show decide (BramP (nums rs) (nums qs)) = true by simpa using hbr)
    have HOK := hid (fun k (h : LeastHit ((nums qs).map maskL) rs.length k) => brO_ok hbr (by rw [nums_length]; exact h))
    go_enter Tryd.func41, Tryd.ntmps41
    go_wp2_with fail
    rw [← HW.out]
    go_wp2_with fail
    refine (specBrambleOk_b a rs c b qs d _ _ h1.out RA.out hn RQ.out hm hcap).mono ?_
    rintro e w1 ⟨rfl, hb⟩
    replace RA := hid (RA.out.below hb (Nat.le_refl _))
    replace RQ := hid (RQ.out.below hb (Nat.le_refl _))
    replace B0 := hid (bon B0.out hb)
    replace c0 := cellB hb c0 (Nat.le_refl _)
    clear hb
    go_wp2_with fail
    refine (specCoverOf_any a rs c b qs d _ hbr RA.out hn RQ.out hm hcap).mono ?_
    rintro e wz ⟨ra, k, rc, rfl, hle, hb⟩
    have HV := hid (HOK.out k hle)
    have BB := hid (bon B0.out hb)
    clear hle hb
    go_wp2
    go_ret
    exact ⟨ret_int HV.out.symm, BB.out⟩
  · have h1 := hid (show decide (BramP (nums rs) (nums qs)) = false by simpa using hbr)
    have HV := hid (brO_no hbr)
    go_enter Tryd.func41, Tryd.ntmps41
    go_wp2_with fail
    rw [← HW.out]
    go_wp2_with fail
    refine (specBrambleOk_b a rs c b qs d _ _ h1.out RA.out hn RQ.out hm hcap).mono ?_
    rintro e w2 ⟨rfl, hb⟩
    replace RA := hid (RA.out.below hb (Nat.le_refl _))
    replace RQ := hid (RQ.out.below hb (Nat.le_refl _))
    replace B0 := hid (bon B0.out hb)
    replace c0 := cellB hb c0 (Nat.le_refl _)
    clear hb
    go_wp2
    go_ret
    exact ⟨ret_int HV.out.symm, B0.out⟩
set_option maxRecDepth 100000 in
set_option maxHeartbeats 2000000 in
theorem implBrambleOrder_b (a : Option Addr) (rs : List Row) (c : Nat) (b : Option Addr) (qs : List Row) (d : Nat) (w : World) (r : Int) (hx : brO (nums rs) (nums qs) = r) (hr : RdM w a rs) (hn : Small rs) (hq : RdM w b qs) (hm : Small qs) (hcap : qs.length ≤ d) (hT : TabOk w) :
    Calls Tryd.prog 42 #[.agg #[.slice a rs.length c], .slice b qs.length d] w fun e w' => e = .returned (.int .i64 r) ∧ Below w.heap.size w w' := by
  subst hx
  have RA := hid hr; have RQ := hid hq; have RT := hid hT; clear hr hq hT
  have hm1 := hm.1
  obtain ⟨w0, hw0⟩ : ∃ w0, w0 = (w.alloc (.cells #[.slice a rs.length c] 29)) := ⟨_, rfl⟩
  have B0 := hid (show Below w.heap.size w w0 by rw [hw0]; exact ((Below.refl _ _).alloc (Nat.le_refl _) _))
  have c0 : w0.cell? ⟨w.heap.size, 0, none⟩ = some (.slice a rs.length c) := by rw [hw0]; simp [go_sem]
  replace RA := hid (RA.out.below B0.out (Nat.le_refl _))
  replace RQ := hid (RQ.out.below B0.out (Nat.le_refl _))
  replace RT := hid (RT.out.below B0.out (Nat.le_refl _))
  have HW := hid hw0; clear hw0
  by_cases hbr : BramP (nums rs) (nums qs)
  · have h1 := hid (show decide (BramP (nums rs) (nums qs)) = true by simpa using hbr)
    have HOK := hid (fun k (h : LeastHit ((nums qs).map maskL) rs.length k) => brO_ok hbr (by rw [nums_length]; exact h))
    have h16 : rs.length ≤ 16 := by have := hbr.ok.le; rwa [nums_length] at this
    have hp : 2 ^ rs.length ≤ 65536 := Nat.pow_le_pow_right (n := 2) (i := rs.length) (j := 16) (by decide) h16
    have HFULL := hid (show hits ((nums qs).map maskL) (2 ^ rs.length - 1) = true by have := hits_full hbr; rwa [nums_length] at this)
    have HRG := hid (show ∀ q ∈ qs, ∀ v ∈ q.z, 0 ≤ v ∧ v < 16 from fun q hq v hv => by
      have h3 := (hbr.conn q.z (List.mem_map_of_mem hq)).1.2.1 v hv
      rw [nums_length] at h3
      omega)
    have HB16 := hid (show ∀ t ∈ (nums qs).map maskL, t < 65536 from fun t ht => by
      obtain ⟨q, hq, rfl⟩ := List.mem_map.1 ht
      obtain ⟨p, hp, rfl⟩ := List.mem_map.1 hq
      exact maskL_lt p.z 16 (fun x hx => by have := HRG.out p hp x hx; omega))
    obtain ⟨B, hB⟩ : ∃ B, (nums qs).map maskL = B := ⟨_, rfl⟩
    have HBL := hid (show B.length = (nums qs).length by rw [← hB, List.length_map])
    have hnq : (nums qs).length ≤ 1048576 := by rw [nums_length]; exact hm1
    have HB := hid hB
    rw [hB] at HB16 HFULL HOK
    clear hB
    go_enter Tryd.func42, Tryd.ntmps42
    go_wp2_with fail
    rw [← HW.out]
    go_wp2_with fail
    refine (implBrambleOk_b a rs c b qs d _ _ h1.out RA.out hn RQ.out hm hcap RT.out).mono ?_
    rintro e w1 ⟨rfl, hb⟩
    replace RA := hid (RA.out.below hb (Nat.le_refl _))
    replace RQ := hid (RQ.out.below hb (Nat.le_refl _))
    replace RT := hid (RT.out.below hb (Nat.le_refl _))
    replace B0 := hid (bon B0.out hb)
    replace c0 := cellB hb c0 (Nat.le_refl _)
    clear hb
    go_wp2_with fail
    have D3 : Drawn w1 w1.drew := ⟨1, rfl⟩
    have f0 := dcell D3 c0
    have RQ3 := hid (RQ.out.drawn D3)
    have B3 := hid (bon B0.out (D3.below w1.heap.size))
    clear RA RQ B0 c0 RT
    go_region_held3 (fun w' => w'.cell? ⟨w.heap.size, 0, none⟩ = some (.slice a rs.length c)) (first | exact f0 | exact g0 | exact k0 | exact m0) ((first | (go_at_call 74; refine (bagMasks_m b qs d _ hm1 HRG.out RQ3.out hm).mono ?_; rintro e w4 ⟨nv, rfl, hown, hb⟩; obtain ⟨sa, sc, rfl, hsr, _⟩ := Own.rd (f := netF) hown; have RS4 := hid hsr.masks; rw [HB.out] at RS4; have g0 := cellB hb f0 (Nat.le_refl _); have B4 := hid (bon B3.out hb); clear hown hsr hb) | (go_at_call 99; refine (coverOf_p rs.length _ sa B sc _ h16 RS4.out HBL.out hnq HB16.out HFULL.out).mono ?_; rintro e w5 ⟨S, rfl, hin, hle, hb⟩; have k0 := cellB hb g0 (Nat.le_refl _); have B5 := hid (bon B4.out hb); have HSL := hid hin.lt; have HLE := hid hle; clear hin hle hb) | (go_at_call 88; refine (size_any S _ (by have := HSL.out; omega)).mono ?_; rintro e w6 ⟨rfl, hd⟩; have m0 := dcell hd k0; have B6 := hid (bon B5.out (Drawn.bel hd)); clear hd)))
    have HV := hid (show ((pcN 16 S : Nat) : Int) = brO (nums rs) (nums qs) by rw [HOK.out _ HLE.out, pc_card (by have := HSL.out; omega)])
    go_wp2
    go_ret
    exact ⟨ret_int HV.out, B6.out⟩
  · have h1 := hid (show decide (BramP (nums rs) (nums qs)) = false by simpa using hbr)
    have HV := hid (brO_no hbr)
    go_enter Tryd.func42, Tryd.ntmps42
    go_wp2_with fail
    rw [← HW.out]
    go_wp2_with fail
    refine (implBrambleOk_b a rs c b qs d _ _ h1.out RA.out hn RQ.out hm hcap RT.out).mono ?_
    rintro e w2 ⟨rfl, hb⟩
    replace RA := hid (RA.out.below hb (Nat.le_refl _))
    replace RQ := hid (RQ.out.below hb (Nat.le_refl _))
    replace RT := hid (RT.out.below hb (Nat.le_refl _))
    replace B0 := hid (bon B0.out hb)
    replace c0 := cellB hb c0 (Nat.le_refl _)
    clear hb
    go_wp2
    go_ret
    exact ⟨ret_int HV.out.symm, B0.out⟩
def Refutes (g Q : List (List Int)) (k : Int) : Prop := BramP g Q ∧ k < brO g Q - 1
noncomputable instance (g Q : List (List Int)) (k : Int) : Decidable (Refutes g Q k) := Classical.propDecidable _
theorem brO_range {g Q : List (List Int)} (h : ∃ k, LeastHit (Q.map maskL) g.length k) (hb : BramP g Q) : 0 ≤ brO g Q ∧ brO g Q ≤ 16 := by
  obtain ⟨k, hk⟩ := h
  rw [brO_ok hb hk]
  have := least_le (by have := hb.ok.le; omega) (hits_full hb) hk
  have := hb.ok.le
  omega
theorem least_some {g Q : List (List Int)} (h : BramP g Q) : ∃ k, LeastHit (Q.map maskL) g.length k := by
  have hx : ∃ k, ∃ T, InR 0 g.length T ∧ card T = k ∧ hits (Q.map maskL) T = true := ⟨_, _, full_inR g.length, rfl, hits_full h⟩
  obtain ⟨k, h1, h2⟩ := exists_least hx
  refine ⟨k, h1, fun j hj T hT hc => ?_⟩
  cases h3 : hits (Q.map maskL) T with
  | false => rfl
  | true => exact absurd ⟨T, hT, hc, h3⟩ (h2 j hj)
set_option maxHeartbeats 2000000 in
theorem specRefutesWidth_b (a : Option Addr) (rs : List Row) (c : Nat) (b : Option Addr) (qs : List Row) (d : Nat) (k : Int) (w : World) (r : Bool) (hx : decide (Refutes (nums rs) (nums qs) k) = r) (hr : RdM w a rs) (hn : Small rs) (hq : RdM w b qs) (hm : Small qs) (hcap : qs.length ≤ d) (_hk : I64 k) :
    Calls Tryd.prog 43 #[.agg #[.slice a rs.length c], .slice b qs.length d, .int .i64 k] w fun e w' => e = .returned (.bool r) ∧ Below w.heap.size w w' := by
  subst hx
  have RA := hid hr; have RQ := hid hq; clear hr hq
  obtain ⟨w0, hw0⟩ : ∃ w0, w0 = (w.alloc (.cells #[.slice a rs.length c] 29)) := ⟨_, rfl⟩
  have B0 := hid (show Below w.heap.size w w0 by rw [hw0]; exact ((Below.refl _ _).alloc (Nat.le_refl _) _))
  have c0 : w0.cell? ⟨w.heap.size, 0, none⟩ = some (.slice a rs.length c) := by rw [hw0]; simp [go_sem]
  replace RA := hid (RA.out.below B0.out (Nat.le_refl _))
  replace RQ := hid (RQ.out.below B0.out (Nat.le_refl _))
  have HW := hid hw0; clear hw0
  by_cases hbr : BramP (nums rs) (nums qs)
  · have h1 := hid (show decide (BramP (nums rs) (nums qs)) = true by simpa using hbr)
    obtain ⟨z, hz⟩ : ∃ z, brO (nums rs) (nums qs) = z := ⟨_, rfl⟩
    have HZ := hid hz
    obtain ⟨hz0, hz1⟩ := brO_range (least_some hbr) hbr
    rw [hz] at hz0 hz1
    have HD := hid (show decide (k < z - 1) = decide (Refutes (nums rs) (nums qs) k) by
      rw [decide_eq_decide]; unfold Refutes; rw [hz]; exact ⟨fun h => ⟨hbr, h⟩, fun h => h.2⟩)
    clear hz
    by_cases hlt : k < z - 1
    · have hd : decide (k < z - 1) = true := by simpa using hlt
      have HD2 := hid (show true = decide (Refutes (nums rs) (nums qs) k) by rw [← HD.out, hd])
      clear hd
      go_enter Tryd.func43, Tryd.ntmps43
      go_wp2_with fail
      rw [← HW.out]
      go_wp2_with fail
      refine (specBrambleOk_b a rs c b qs d _ _ h1.out RA.out hn RQ.out hm hcap).mono ?_
      rintro e w1 ⟨rfl, hb⟩
      replace RA := hid (RA.out.below hb (Nat.le_refl _))
      replace RQ := hid (RQ.out.below hb (Nat.le_refl _))
      replace B0 := hid (bon B0.out hb)
      replace c0 := cellB hb c0 (Nat.le_refl _)
      clear hb
      go_wp2_with fail
      refine (specBrambleOrder_b a rs c b qs d _ z HZ.out RA.out hn RQ.out hm hcap).mono ?_
      rintro e w2 ⟨rfl, hb⟩
      replace RA := hid (RA.out.below hb (Nat.le_refl _))
      replace RQ := hid (RQ.out.below hb (Nat.le_refl _))
      replace B0 := hid (bon B0.out hb)
      replace c0 := cellB hb c0 (Nat.le_refl _)
      clear hb
      go_wp2
      go_ret
      exact ⟨ret_bool HD2.out, B0.out⟩
    · skip
      go_enter Tryd.func43, Tryd.ntmps43
      go_wp2_with fail
      rw [← HW.out]
      go_wp2_with fail
      refine (specBrambleOk_b a rs c b qs d _ _ h1.out RA.out hn RQ.out hm hcap).mono ?_
      rintro e w3 ⟨rfl, hb⟩
      replace RA := hid (RA.out.below hb (Nat.le_refl _))
      replace RQ := hid (RQ.out.below hb (Nat.le_refl _))
      replace B0 := hid (bon B0.out hb)
      replace c0 := cellB hb c0 (Nat.le_refl _)
      clear hb
      go_wp2_with fail
      refine (specBrambleOrder_b a rs c b qs d _ z HZ.out RA.out hn RQ.out hm hcap).mono ?_
      rintro e w4 ⟨rfl, hb⟩
      replace RA := hid (RA.out.below hb (Nat.le_refl _))
      replace RQ := hid (RQ.out.below hb (Nat.le_refl _))
      replace B0 := hid (bon B0.out hb)
      replace c0 := cellB hb c0 (Nat.le_refl _)
      clear hb
      go_wp2
      go_ret
      exact ⟨ret_bool HD.out, B0.out⟩
  · have h1 := hid (show decide (BramP (nums rs) (nums qs)) = false by simpa using hbr)
    have HV := hid (show false = decide (Refutes (nums rs) (nums qs) k) by symm; rw [decide_eq_false_iff_not]; exact fun h => hbr h.1)
    go_enter Tryd.func43, Tryd.ntmps43
    go_wp2_with fail
    rw [← HW.out]
    go_wp2_with fail
    refine (specBrambleOk_b a rs c b qs d _ _ h1.out RA.out hn RQ.out hm hcap).mono ?_
    rintro e w5 ⟨rfl, hb⟩
    replace RA := hid (RA.out.below hb (Nat.le_refl _))
    replace RQ := hid (RQ.out.below hb (Nat.le_refl _))
    replace B0 := hid (bon B0.out hb)
    replace c0 := cellB hb c0 (Nat.le_refl _)
    clear hb
    go_wp2
    go_ret
    exact ⟨ret_bool HV.out, B0.out⟩
set_option maxHeartbeats 2000000 in
theorem implRefutesWidth_b (a : Option Addr) (rs : List Row) (c : Nat) (b : Option Addr) (qs : List Row) (d : Nat) (k : Int) (w : World) (r : Bool) (hx : decide (Refutes (nums rs) (nums qs) k) = r) (hr : RdM w a rs) (hn : Small rs) (hq : RdM w b qs) (hm : Small qs) (hcap : qs.length ≤ d) (_hk : I64 k) (hT : TabOk w) :
    Calls Tryd.prog 44 #[.agg #[.slice a rs.length c], .slice b qs.length d, .int .i64 k] w fun e w' => e = .returned (.bool r) ∧ Below w.heap.size w w' := by
  subst hx
  have RA := hid hr; have RQ := hid hq; have RT := hid hT; clear hr hq hT
  obtain ⟨w0, hw0⟩ : ∃ w0, w0 = (w.alloc (.cells #[.slice a rs.length c] 29)) := ⟨_, rfl⟩
  have B0 := hid (show Below w.heap.size w w0 by rw [hw0]; exact ((Below.refl _ _).alloc (Nat.le_refl _) _))
  have c0 : w0.cell? ⟨w.heap.size, 0, none⟩ = some (.slice a rs.length c) := by rw [hw0]; simp [go_sem]
  replace RA := hid (RA.out.below B0.out (Nat.le_refl _))
  replace RQ := hid (RQ.out.below B0.out (Nat.le_refl _))
  replace RT := hid (RT.out.below B0.out (Nat.le_refl _))
  have HW := hid hw0; clear hw0
  by_cases hbr : BramP (nums rs) (nums qs)
  · have h1 := hid (show decide (BramP (nums rs) (nums qs)) = true by simpa using hbr)
    obtain ⟨z, hz⟩ : ∃ z, brO (nums rs) (nums qs) = z := ⟨_, rfl⟩
    have HZ := hid hz
    obtain ⟨hz0, hz1⟩ := brO_range (least_some hbr) hbr
    rw [hz] at hz0 hz1
    have HD := hid (show decide (k < z - 1) = decide (Refutes (nums rs) (nums qs) k) by
      rw [decide_eq_decide]; unfold Refutes; rw [hz]; exact ⟨fun h => ⟨hbr, h⟩, fun h => h.2⟩)
    clear hz
    by_cases hlt : k < z - 1
    · have hd : decide (k < z - 1) = true := by simpa using hlt
      have HD2 := hid (show true = decide (Refutes (nums rs) (nums qs) k) by rw [← HD.out, hd])
      clear hd
      go_enter Tryd.func44, Tryd.ntmps44
      go_wp2_with fail
      rw [← HW.out]
      go_wp2_with fail
      refine (implBrambleOk_b a rs c b qs d _ _ h1.out RA.out hn RQ.out hm hcap RT.out).mono ?_
      rintro e w1 ⟨rfl, hb⟩
      replace RA := hid (RA.out.below hb (Nat.le_refl _))
      replace RQ := hid (RQ.out.below hb (Nat.le_refl _))
      replace RT := hid (RT.out.below hb (Nat.le_refl _))
      replace B0 := hid (bon B0.out hb)
      replace c0 := cellB hb c0 (Nat.le_refl _)
      clear hb
      go_wp2_with fail
      refine (implBrambleOrder_b a rs c b qs d _ z HZ.out RA.out hn RQ.out hm hcap RT.out).mono ?_
      rintro e w2 ⟨rfl, hb⟩
      replace RA := hid (RA.out.below hb (Nat.le_refl _))
      replace RQ := hid (RQ.out.below hb (Nat.le_refl _))
      replace RT := hid (RT.out.below hb (Nat.le_refl _))
      replace B0 := hid (bon B0.out hb)
      replace c0 := cellB hb c0 (Nat.le_refl _)
      clear hb
      go_wp2
      go_ret
      exact ⟨ret_bool HD2.out, B0.out⟩
    · skip
      go_enter Tryd.func44, Tryd.ntmps44
      go_wp2_with fail
      rw [← HW.out]
      go_wp2_with fail
      refine (implBrambleOk_b a rs c b qs d _ _ h1.out RA.out hn RQ.out hm hcap RT.out).mono ?_
      rintro e w3 ⟨rfl, hb⟩
      replace RA := hid (RA.out.below hb (Nat.le_refl _))
      replace RQ := hid (RQ.out.below hb (Nat.le_refl _))
      replace RT := hid (RT.out.below hb (Nat.le_refl _))
      replace B0 := hid (bon B0.out hb)
      replace c0 := cellB hb c0 (Nat.le_refl _)
      clear hb
      go_wp2_with fail
      refine (implBrambleOrder_b a rs c b qs d _ z HZ.out RA.out hn RQ.out hm hcap RT.out).mono ?_
      rintro e w4 ⟨rfl, hb⟩
      replace RA := hid (RA.out.below hb (Nat.le_refl _))
      replace RQ := hid (RQ.out.below hb (Nat.le_refl _))
      replace RT := hid (RT.out.below hb (Nat.le_refl _))
      replace B0 := hid (bon B0.out hb)
      replace c0 := cellB hb c0 (Nat.le_refl _)
      clear hb
      go_wp2
      go_ret
      exact ⟨ret_bool HD.out, B0.out⟩
  · have h1 := hid (show decide (BramP (nums rs) (nums qs)) = false by simpa using hbr)
    have HV := hid (show false = decide (Refutes (nums rs) (nums qs) k) by symm; rw [decide_eq_false_iff_not]; exact fun h => hbr h.1)
    go_enter Tryd.func44, Tryd.ntmps44
    go_wp2_with fail
    rw [← HW.out]
    go_wp2_with fail
    refine (implBrambleOk_b a rs c b qs d _ _ h1.out RA.out hn RQ.out hm hcap RT.out).mono ?_
    rintro e w5 ⟨rfl, hb⟩
    replace RA := hid (RA.out.below hb (Nat.le_refl _))
    replace RQ := hid (RQ.out.below hb (Nat.le_refl _))
    replace RT := hid (RT.out.below hb (Nat.le_refl _))
    replace B0 := hid (bon B0.out hb)
    replace c0 := cellB hb c0 (Nat.le_refl _)
    clear hb
    go_wp2
    go_ret
    exact ⟨ret_bool HV.out, B0.out⟩
end Go.Proofs.YtalfbldkdlanoaaDoor
