/- TouchIn: both. · TouchIn: the program's. -/
import Derived.Test.YtalfbldkdlanoaaDoorClique
import Derived.Test.YtalfbldkdlanoaaDoorCode2
namespace Go.Proofs.YtalfbldkdlanoaaDoor
open Go.RowKit
section
/-- How many of a list are neighbours of v. -/
noncomputable def nearN (g : List (List Int)) (l : List Int) (v : Int) : Nat := cntR l.length fun i => decide (v ∈ row g (l.getD i 0))
theorem nearN_pos {g : List (List Int)} {l : List Int} {v : Int} : 0 < nearN g l v ↔ ∃ y ∈ l, v ∈ row g y := by
  unfold nearN cntR
  rw [List.length_pos_iff_exists_mem]
  constructor
  · rintro ⟨i, hi⟩
    rw [List.mem_filter, List.mem_range] at hi
    refine ⟨l[i], List.getElem_mem hi.1, ?_⟩
    have := hi.2
    rw [getD_eq l i hi.1] at this
    simpa using this
  · rintro ⟨y, hy, hv⟩
    obtain ⟨i, hi, rfl⟩ := List.mem_iff_getElem.1 hy
    refine ⟨i, ?_⟩
    rw [List.mem_filter, List.mem_range, getD_eq l i hi]
    exact ⟨hi, by simpa using hv⟩
theorem flag_n (b : Bool) (nb : Nat) (w : World) (h : bit01 b = nb) : Calls Tryd.prog 162 #[.bool b] w fun e w' => e = .returned (.int .i64 nb) ∧ w = w' := by
  subst h
  refine (l1Flag_any b w).mono ?_
  rintro e w' ⟨rfl, rfl⟩
  cases b <;> exact ⟨rfl, rfl⟩
set_option maxHeartbeats 4000000 in
theorem l8Near_any (a : Option Addr) (rs : List Row) (c : Nat) (a' : Option Addr) (zs : List Int) (c' : Nat) (v : Int) (w : World) (hr : RdM w a rs) (hn : Small rs) (hz : Rd (Value.int .i64) w a' zs) (hm : zs.length ≤ 1048576) (hin : ∀ v ∈ zs, 0 ≤ v ∧ v < rs.length) :
    Calls Tryd.prog 129 #[.agg #[.slice a rs.length c], .slice a' zs.length c', .int .i64 v] w fun e w' => e = .returned (.int .i64 (nearN (nums rs) zs v : Nat)) ∧ Below w.heap.size w w' := by
  have RA := hid hr; have RZ := hid hz; have HIN := hid hin; clear hr hz hin
  obtain ⟨w0, hw0⟩ : ∃ w0, w0 = (w.alloc (.cells #[.slice a rs.length c] 29)) := ⟨_, rfl⟩
  have B0 := hid (show Below w.heap.size w w0 by rw [hw0]; exact ((Below.refl _ _).alloc (Nat.le_refl _) _))
  have c0 : w0.cell? ⟨w.heap.size, 0, none⟩ = some (.slice a rs.length c) := by rw [hw0]; simp [go_sem]
  replace RA := hid (RA.out.below B0.out (Nat.le_refl _))
  replace RZ := hid (RZ.out.below B0.out (Nat.le_refl _))
  have HW := hid hw0; clear hw0
  go_enter Tryd.func129, Tryd.ntmps129
  go_wp2
  rw [← HW.out]
  go_loopw [7, 8] (fun m x wr => ∃ k : Nat, k ≤ zs.length ∧ x = .int .i64 k ∧ m = .int .i64 (cntR k (fun i => decide (v ∈ row (nums rs) (zs.getD i 0))) : Nat) ∧ Below w0.heap.size w0 wr) (fun _ x _ => zs.length - (intOf x).toNat)
  case atStart => exact ⟨0, Nat.zero_le _, rfl, rfl, Below.refl _ _⟩
  case round =>
    obtain ⟨k, hk, rfl, rfl, hd⟩ := hrel
    have BL := hid hd
    replace RA := hid (RA.out.below hd (Nat.le_refl _))
    replace RZ := hid (RZ.out.below hd (Nat.le_refl _))
    replace B0 := hid (bon B0.out hd)
    replace c0 := cellB hd c0 (Nat.le_refl _)
    clear hd
    have hcl := cntR_le k (fun i => decide (v ∈ row (nums rs) (zs.getD i 0)))
    by_cases hlt : k < zs.length
    · have hi0 : (k : Int) < (zs.length : Int) := by omega
      obtain ⟨b', off, rfl, c1⟩ := RZ.out k hlt
      have hp := HIN.out _ (List.getElem_mem hlt)
      have HP0 := hid hp.1; have HP1 := hid hp.2; clear hp
      obtain ⟨b4, hb4⟩ : ∃ b4, decide (v ∈ row (nums rs) zs[k]) = b4 := ⟨_, rfl⟩
      have H4 := hid hb4
      have HC := hid (show cntR (k + 1) (fun i => decide (v ∈ row (nums rs) (zs.getD i 0))) = cntR k (fun i => decide (v ∈ row (nums rs) (zs.getD i 0))) + bit01 b4 by
        rw [cntR_succ, getD_eq zs k hlt, hb4]; rfl)
      clear hb4
      generalize cntR k (fun i => decide (v ∈ row (nums rs) (zs.getD i 0))) = C at *
      generalize hC2 : cntR (k + 1) (fun i => decide (v ∈ row (nums rs) (zs.getD i 0))) = C2 at *
      have HC2 := hid hC2; clear hC2
      obtain ⟨nb, hnb⟩ : ∃ nb, bit01 b4 = nb := ⟨_, rfl⟩
      have hnb1 : nb ≤ 1 := by rw [← hnb]; unfold bit01; split <;> omega
      rw [hnb] at HC
      have HNB := hid hnb; clear hnb
      go_wp2
      have qc0 := fun (p : Bel _) => cellB p.h c0 (Nat.le_refl _)
      have qc1 := fun (p : Bel _) => cellB p.h c1 (Nat.le_refl _)
      refine wp_quiet_b (by kernel_rfl) (by kernel_rfl) ?_
      repeat (go_big_quiet_step (first | (go_at_call 108; exact qb (l1Edge_b _ _ _ _ _ _ _ HP0.out HP1.out H4.out (RA.out.bel _) hn)) | (go_at_call 162; exact qbs (flag_n _ _ _ HNB.out))))
      refine wpQuiet_nil ?_
      intro _ hw'
      obtain ⟨⟨w1, hb⟩, rfl⟩ := hw'
      clear qc0 qc1
      replace RA := hid (RA.out.below hb (Nat.le_refl _))
      replace RZ := hid (RZ.out.below hb (Nat.le_refl _))
      replace B0 := hid (bon B0.out hb)
      replace BL := hid (bon BL.out hb)
      replace c0 := cellB hb c0 (Nat.le_refl _)
      replace c1 := cellB hb c1 (Nat.le_refl _)
      clear hb
      go_wp2
      go_roundw
      case rel => exact ⟨k + 1, by omega, by go_num, by rw [HC2.out, HC.out]; simp, BL.out⟩
      case measure => simp [intOf]; omega
    · obtain rfl : k = zs.length := by omega
      have HFIN := hid (show cntR zs.length (fun i => decide (v ∈ row (nums rs) (zs.getD i 0))) = nearN (nums rs) zs v from rfl)
      rw [HFIN.out] at hcl ⊢
      go_wp2
      go_ret
      exact ⟨rfl, B0.out⟩
def TouchL (g : List (List Int)) (a b : List Int) : Prop := ∃ x ∈ a, x ∈ b ∨ ∃ y ∈ b, x ∈ row g y
noncomputable instance (g : List (List Int)) (a b : List Int) : Decidable (TouchL g a b) := Classical.propDecidable _
set_option maxHeartbeats 4000000 in
theorem l11Touch_b (a : Option Addr) (rs : List Row) (c : Nat) (a' : Option Addr) (zs : List Int) (c' : Nat) (a2 : Option Addr) (ys : List Int) (c2 : Nat) (w : World) (b : Bool) (hb : decide (TouchL (nums rs) zs ys) = b) (hr : RdM w a rs) (hn : Small rs) (hz : Rd (Value.int .i64) w a' zs) (hm : zs.length ≤ 1048576) (hy : Rd (Value.int .i64) w a2 ys) (hm2 : ys.length ≤ 1048576) (hin : ∀ v ∈ ys, 0 ≤ v ∧ v < rs.length) :
    Calls Tryd.prog 78 #[.agg #[.slice a rs.length c], .slice a' zs.length c', .slice a2 ys.length c2] w fun e w' => e = .returned (.bool b) ∧ Below w.heap.size w w' := by
  have RA := hid hr; have RZ := hid hz; have RY := hid hy; have HB := hid hb; have HIN := hid hin; clear hr hz hy hb hin
  obtain ⟨w0, hw0⟩ : ∃ w0, w0 = (w.alloc (.cells #[.slice a rs.length c] 29)) := ⟨_, rfl⟩
  have B0 := hid (show Below w.heap.size w w0 by rw [hw0]; exact ((Below.refl _ _).alloc (Nat.le_refl _) _))
  have c0 : w0.cell? ⟨w.heap.size, 0, none⟩ = some (.slice a rs.length c) := by rw [hw0]; simp [go_sem]
  replace RA := hid (RA.out.below B0.out (Nat.le_refl _))
  replace RZ := hid (RZ.out.below B0.out (Nat.le_refl _))
  replace RY := hid (RY.out.below B0.out (Nat.le_refl _))
  have HW := hid hw0; clear hw0
  have hy16 : ys.length ≤ 16777216 := by omega
  go_enter Tryd.func78, Tryd.ntmps78
  go_wp2
  rw [← HW.out]
  go_loopw [7] (fun x wr => ∃ k : Nat, k ≤ zs.length ∧ x = .int .i64 k ∧ (∀ i, (h : i < zs.length) → i < k → ¬ (zs[i] ∈ ys ∨ ∃ y ∈ ys, zs[i] ∈ row (nums rs) y)) ∧ Below w0.heap.size w0 wr) (fun x _ => zs.length - (intOf x).toNat)
  case atStart => exact ⟨0, Nat.zero_le _, rfl, fun _ _ h => absurd h (Nat.not_lt_zero _), Below.refl _ _⟩
  case round =>
    obtain ⟨k, hk, rfl, hno, hd⟩ := hrel
    have BL := hid hd; have HNO := hid hno; clear hno
    replace RA := hid (RA.out.below hd (Nat.le_refl _))
    replace RZ := hid (RZ.out.below hd (Nat.le_refl _))
    replace RY := hid (RY.out.below hd (Nat.le_refl _))
    replace B0 := hid (bon B0.out hd)
    replace c0 := cellB hd c0 (Nat.le_refl _)
    clear hd
    by_cases hlt : k < zs.length
    · have hi0 : (k : Int) < (zs.length : Int) := by omega
      obtain ⟨b', off, rfl, c1⟩ := RZ.out k hlt
      have HSTEP := hid (fun (h1 : ¬ (zs[k] ∈ ys ∨ ∃ y ∈ ys, zs[k] ∈ row (nums rs) y)) => (show ∀ i, (h : i < zs.length) → i < k + 1 → ¬ (zs[i] ∈ ys ∨ ∃ y ∈ ys, zs[i] ∈ row (nums rs) y) from fun i hi hik => by
        rcases Nat.lt_succ_iff_lt_or_eq.1 hik with h3 | rfl
        · exact HNO.out i hi h3
        · exact h1))
      have HYES := hid (fun (h1 : zs[k] ∈ ys ∨ ∃ y ∈ ys, zs[k] ∈ row (nums rs) y) => (show TouchL (nums rs) zs ys from ⟨_, List.getElem_mem hlt, h1⟩))
      by_cases hx : zs[k] ∈ ys
      · have H4 := hid (show decide (zs[k] ∈ ys) = true by simpa using hx)
        have HFIN := hid (HYES.out (.inl hx))
        clear hx
        generalize zs[k] = x at *
        go_wp2
        have qc0 := fun (p : Bel _) => cellB p.h c0 (Nat.le_refl _)
        have qc1 := fun (p : Bel _) => cellB p.h c1 (Nat.le_refl _)
        refine wp_quiet_b (by kernel_rfl) (by kernel_rfl) ?_
        repeat (go_big_quiet_step (first | (go_at_call 72; exact qbs (l1Has_b _ _ _ _ _ _ H4.out (RY.out.bel _) hy16))))
        refine wpQuiet_nil ?_
        intro _ hw'
        obtain ⟨⟨w1, hb⟩, rfl⟩ := hw'
        clear qc0 qc1
        replace RA := hid (RA.out.below hb (Nat.le_refl _))
        replace RZ := hid (RZ.out.below hb (Nat.le_refl _))
        replace RY := hid (RY.out.below hb (Nat.le_refl _))
        replace B0 := hid (bon B0.out hb)
        replace BL := hid (bon BL.out hb)
        replace c0 := cellB hb c0 (Nat.le_refl _)
        replace c1 := cellB hb c1 (Nat.le_refl _)
        clear hb
        go_wp2
        go_ret
        exact ⟨ret_bool (dec_t HB.out HFIN.out), B0.out⟩
      · have H4 := hid (show decide (zs[k] ∈ ys) = false by simpa using hx)
        by_cases hp : 0 < nearN (nums rs) ys zs[k]
        · have HFIN := hid (HYES.out (.inr (nearN_pos.1 hp)))
          have d1 : decide (0 < nearN (nums rs) ys zs[k]) = true := by simpa using hp
          have d2 : decide ((0 : Int) < (nearN (nums rs) ys zs[k] : Int)) = true := by rw [decide_eq_true_iff]; omega
          clear hx hp
          generalize zs[k] = x at *
          go_wp2
          have qc0 := fun (p : Bel _) => cellB p.h c0 (Nat.le_refl _)
          have qc1 := fun (p : Bel _) => cellB p.h c1 (Nat.le_refl _)
          refine wp_quiet_b (by kernel_rfl) (by kernel_rfl) ?_
          repeat (go_big_quiet_step (first | (go_at_call 72; exact qbs (l1Has_b _ _ _ _ _ _ H4.out (RY.out.bel _) hy16)) | (go_at_call 129; exact qb (l8Near_any _ _ _ _ _ _ _ _ (RA.out.bel _) hn (RY.out.bel _) hm2 HIN.out))))
          refine wpQuiet_nil ?_
          intro _ hw'
          obtain ⟨⟨w2, hb⟩, rfl⟩ := hw'
          clear qc0 qc1
          replace RA := hid (RA.out.below hb (Nat.le_refl _))
          replace RZ := hid (RZ.out.below hb (Nat.le_refl _))
          replace RY := hid (RY.out.below hb (Nat.le_refl _))
          replace B0 := hid (bon B0.out hb)
          replace BL := hid (bon BL.out hb)
          replace c0 := cellB hb c0 (Nat.le_refl _)
          replace c1 := cellB hb c1 (Nat.le_refl _)
          clear hb
          go_wp2
          go_ret
          exact ⟨ret_bool (dec_t HB.out HFIN.out), B0.out⟩
        · have HFIN := hid (HSTEP.out (fun h => h.elim hx (fun h2 => hp (nearN_pos.2 h2))))
          have d1 : decide (0 < nearN (nums rs) ys zs[k]) = false := by simpa using hp
          have d2 : decide ((0 : Int) < (nearN (nums rs) ys zs[k] : Int)) = false := by rw [decide_eq_false_iff_not]; omega
          clear hx hp
          generalize zs[k] = x at *
          go_wp2
          have qc0 := fun (p : Bel _) => cellB p.h c0 (Nat.le_refl _)
          have qc1 := fun (p : Bel _) => cellB p.h c1 (Nat.le_refl _)
          refine wp_quiet_b (by kernel_rfl) (by kernel_rfl) ?_
          repeat (go_big_quiet_step (first | (go_at_call 72; exact qbs (l1Has_b _ _ _ _ _ _ H4.out (RY.out.bel _) hy16)) | (go_at_call 129; exact qb (l8Near_any _ _ _ _ _ _ _ _ (RA.out.bel _) hn (RY.out.bel _) hm2 HIN.out))))
          refine wpQuiet_nil ?_
          intro _ hw'
          obtain ⟨⟨w3, hb⟩, rfl⟩ := hw'
          clear qc0 qc1
          replace RA := hid (RA.out.below hb (Nat.le_refl _))
          replace RZ := hid (RZ.out.below hb (Nat.le_refl _))
          replace RY := hid (RY.out.below hb (Nat.le_refl _))
          replace B0 := hid (bon B0.out hb)
          replace BL := hid (bon BL.out hb)
          replace c0 := cellB hb c0 (Nat.le_refl _)
          replace c1 := cellB hb c1 (Nat.le_refl _)
          clear hb
          go_wp2
          go_roundw
          case rel => exact ⟨k + 1, by omega, by go_num, HFIN.out, BL.out⟩
          case measure => simp [intOf]; omega
    · obtain rfl : k = zs.length := by omega
      have HFIN := hid (show ¬ TouchL (nums rs) zs ys from fun ⟨x, hx, h⟩ => by
        obtain ⟨i, hi, rfl⟩ := List.mem_iff_getElem.1 hx
        exact HNO.out i hi hi h)
      go_wp2
      go_ret
      exact ⟨ret_bool (dec_f HB.out HFIN.out), B0.out⟩
def TouchP (g : List (List Int)) (a b : List Int) : Prop := SetP g a ∧ SetP g b ∧ TouchL g a b
noncomputable instance (g : List (List Int)) (a b : List Int) : Decidable (TouchP g a b) := Classical.propDecidable _
end
section
/-- Two sets touch. -/
def TouchM (A : List Nat) (s t : Nat) : Prop := s &&& t ≠ 0 ∨ ∃ v ∈ mems s, A.getD v.toNat 0 &&& t ≠ 0
noncomputable instance (A : List Nat) (s t : Nat) : Decidable (TouchM A s t) := Classical.propDecidable _
/-- The members of a set under 2 ^ n are under n. -/
theorem mems_under {s n : Nat} (hs : s < 2 ^ n) (hn : n ≤ 16) : ∀ u ∈ mems s, 0 ≤ u ∧ u < n := by
  intro u hu
  have hs16 : s < 65536 := Nat.lt_of_lt_of_le hs (Nat.pow_le_pow_right (n := 2) (i := n) (j := 16) (by decide) hn)
  obtain ⟨i, rfl, hb⟩ := (mems_mem (by omega)).1 hu
  have : i < n := by
    apply Classical.byContradiction
    intro hn2
    have h2 : s < 2 ^ i := Nat.lt_of_lt_of_le hs (Nat.pow_le_pow_right (n := 2) (i := n) (j := i) (by decide) (by omega))
    rw [Nat.testBit_lt_two_pow h2] at hb; cases hb
  omega
set_option maxHeartbeats 4000000 in
theorem touches_b (a : Option Addr) (A : List Nat) (c s t : Nat) (w : World) (b : Bool) (hb : decide (TouchM A s t) = b) (hT : TabOk w) (hr : Rd maskF w a A) (hA : ∀ x ∈ A, x < 65536) (hs16 : s < 65536) (ht16 : t < 65536) (hmem : ∀ u ∈ mems s, 0 ≤ u ∧ u < A.length) :
    Calls Tryd.prog 83 #[.slice a A.length c, .int .u32 s, .int .u32 t] w fun e w' => e = .returned (.bool b) ∧ Below w.heap.size w w' := by
  have RT := hid hT; have RA := hid hr; have HA := hid hA; have HMEM := hid hmem; have HB := hid hb; clear hT hr hA hmem hb
  have hml := mems_len s
  have B0 := hid (Below.refl w.heap.size w)
  have hand := u32_and_nat s t (by omega) (by omega)
  by_cases h0 : s &&& t = 0
  · have d0 : (((s &&& t : Nat) : Int) != 0) = false := by rw [h0]; rfl
    have HIFF := hid (show TouchM A s t ↔ ∃ v ∈ mems s, A.getD v.toNat 0 &&& t ≠ 0 from ⟨fun h => h.elim (fun h => absurd h0 h) id, .inr⟩)
    clear h0
    go_enter Tryd.func83, Tryd.ntmps83
    go_wp2_with fail
    refine (list_any s w RT.out hs16).mono ?_
    rintro e w1 ⟨v, rfl, ho, hb⟩
    obtain ⟨la, lc, rfl, hlr, _⟩ := ho.rd
    have RL := hid hlr; clear hlr ho
    replace RT := hid (RT.out.below hb (Nat.le_refl _))
    replace RA := hid (RA.out.below hb (Nat.le_refl _))
    replace B0 := hid (bon B0.out hb)
    clear hb
    have LEN := hid (show (mems s).length ≤ 32 from hml)
    go_wp2
    go_loop [8, 16] (fun _ x => ∃ k : Nat, k ≤ (mems s).length ∧ x = .int .i64 k ∧ ∀ i, (h : i < (mems s).length) → i < k → A.getD ((mems s)[i]).toNat 0 &&& t = 0) (fun _ x => (mems s).length - (intOf x).toNat)
    case atStart => exact ⟨0, Nat.zero_le _, rfl, fun _ _ h => absurd h (Nat.not_lt_zero _)⟩
    case round =>
      obtain ⟨k, hk, rfl, hno⟩ := hrel
      have HNO := hid hno; clear hno
      by_cases hlt : k < (mems s).length
      · obtain ⟨lb, lo, rfl, hc⟩ := RL.out k hlt
        have hu := HMEM.out _ (List.getElem_mem hlt)
        have HSTEP := hid (fun (h1 : A.getD ((mems s)[k]).toNat 0 &&& t = 0) => (show ∀ i, (h : i < (mems s).length) → i < k + 1 → A.getD ((mems s)[i]).toNat 0 &&& t = 0 from fun i hi hik => by
          rcases Nat.lt_succ_iff_lt_or_eq.1 hik with h3 | rfl
          · exact HNO.out i hi h3
          · exact h1))
        have HYES := hid (fun (h1 : A.getD ((mems s)[k]).toNat 0 &&& t ≠ 0) => (show TouchM A s t from HIFF.out.2 ⟨_, List.getElem_mem hlt, h1⟩))
        have hi0 : (k : Int) < ((mems s).length : Int) := by omega
        generalize (mems s)[k] = u at *
        obtain ⟨n, rfl⟩ := Int.eq_ofNat_of_zero_le hu.1
        have hn1 : n < A.length := by omega
        have hni : (n : Int) < (A.length : Int) := by omega
        have hAn := HA.out _ (List.getElem_mem hn1)
        have hget : A.getD ((n : Int)).toNat 0 = A[n] := by rw [Int.toNat_natCast, List.getD_eq_getElem?_getD, List.getElem?_eq_getElem hn1]; rfl
        rw [hget] at HSTEP HYES
        obtain ⟨ab, ao, rfl, hac⟩ := RA.out n hn1
        unfold maskF at hac
        have hand2 := u32_and_nat A[n] t (by omega) (by omega)
        clear hget hu
        generalize A[n] = N at *
        by_cases h1 : N &&& t = 0
        · have d1 : (((N &&& t : Nat) : Int) != 0) = false := by rw [h1]; rfl
          have HFIN := hid (HSTEP.out h1)
          clear h1
          go_wp2
          go_round
          case rel => exact ⟨k + 1, by omega, by go_num, HFIN.out⟩
          case measure => simp [intOf]; omega
        · have d1 : (((N &&& t : Nat) : Int) != 0) = true := by simp; omega
          have HFIN := hid (HYES.out h1)
          clear h1
          go_wp2
          go_ret
          exact ⟨ret_bool (dec_t HB.out HFIN.out), B0.out⟩
      · obtain rfl : k = (mems s).length := by omega
        have HFIN := hid (show ¬ TouchM A s t from fun h => by
          obtain ⟨v, hv, h2⟩ := HIFF.out.1 h
          obtain ⟨i, hi, rfl⟩ := List.mem_iff_getElem.1 hv
          exact h2 (HNO.out i hi hi))
        go_wp2
        go_ret
        exact ⟨ret_bool (dec_f HB.out HFIN.out), B0.out⟩
  · have d0 : (((s &&& t : Nat) : Int) != 0) = true := by simp; omega
    have HFIN := hid (show TouchM A s t from .inl h0)
    clear h0
    go_enter Tryd.func83, Tryd.ntmps83
    go_wp2
    go_ret
    exact ⟨ret_bool (dec_t HB.out HFIN.out), B0.out⟩
/-- Of sets of a graph: touching, told both ways. -/
theorem touch_iff {g : List (List Int)} {a b : List Int} (ha : SetP g a) (hb : SetP g b) : TouchM (g.map maskL) (maskL a) (maskL b) ↔ TouchL g a b := by
  have hg := ha.1
  have h16 := hg.le
  have na : ∀ v ∈ a, 0 ≤ v := fun v hv => (ha.2.1 v hv).1
  have nb : ∀ v ∈ b, 0 ≤ v := fun v hv => (hb.2.1 v hv).1
  have hnz : ∀ m : Nat, m ≠ 0 ↔ ∃ i, m.testBit i = true := by
    intro m
    constructor
    · intro h
      apply Classical.byContradiction
      intro hn
      exact h ((eq_zero_iff m).2 fun i => by
        cases hb : m.testBit i with
        | false => rfl
        | true => exact absurd ⟨i, hb⟩ hn)
    · rintro ⟨i, hi⟩ rfl
      rw [Nat.zero_testBit] at hi; cases hi
  unfold TouchM
  rw [mems_maskL ha.2 (by omega), hnz]
  constructor
  · rintro (⟨i, hi⟩ | ⟨v, hv, h⟩)
    · rw [Nat.testBit_and, testBit_maskL a i na, testBit_maskL b i nb] at hi
      simp at hi
      exact ⟨(i : Int), hi.1, .inl hi.2⟩
    · have hv2 := ha.2.1 v hv
      obtain ⟨n, rfl⟩ := Int.eq_ofNat_of_zero_le hv2.1
      have hn : n < g.length := by omega
      have e1 : (g.map maskL).getD (n : Int).toNat 0 = maskL (row g (n : Int)) := by
        rw [Int.toNat_natCast, List.getD_eq_getElem?_getD, List.getElem?_map, List.getElem?_eq_getElem hn, row_nat _ _ hn]; rfl
      rw [e1, hnz] at h
      obtain ⟨i, hi⟩ := h
      rw [Nat.testBit_and, testBit_maskL _ _ (fun v hv => (gok_range hg (u := (n : Int)) (by omega) (by omega) hv).1), testBit_maskL b i nb] at hi
      simp at hi
      have hir := gok_range hg (u := (n : Int)) (by omega) (by omega) hi.1
      exact ⟨(n : Int), hv, .inr ⟨(i : Int), hi.2, (gok_sym hg hir.1 hir.2 (by omega) (by omega)).2 hi.1⟩⟩
  · rintro ⟨x, hx, h | ⟨y, hy, h⟩⟩
    · have hx2 := ha.2.1 x hx
      obtain ⟨n, rfl⟩ := Int.eq_ofNat_of_zero_le hx2.1
      left
      refine ⟨n, ?_⟩
      rw [Nat.testBit_and, testBit_maskL a n na, testBit_maskL b n nb]
      simp [hx, h]
    · have hx2 := ha.2.1 x hx
      have hy2 := hb.2.1 y hy
      obtain ⟨n, rfl⟩ := Int.eq_ofNat_of_zero_le hx2.1
      obtain ⟨m, rfl⟩ := Int.eq_ofNat_of_zero_le hy2.1
      have hn : n < g.length := by omega
      right
      refine ⟨(n : Int), hx, ?_⟩
      have e1 : (g.map maskL).getD (n : Int).toNat 0 = maskL (row g (n : Int)) := by
        rw [Int.toNat_natCast, List.getD_eq_getElem?_getD, List.getElem?_map, List.getElem?_eq_getElem hn, row_nat _ _ hn]; rfl
      rw [e1, hnz]
      refine ⟨m, ?_⟩
      rw [Nat.testBit_and, testBit_maskL _ _ (fun v hv => (gok_range hg (u := (n : Int)) (by omega) (by omega) hv).1), testBit_maskL b m nb]
      have := (gok_sym hg (u := (m : Int)) (v := (n : Int)) (by omega) (by omega) (by omega) (by omega)).1 h
      simp [this, hy]
end
end Go.Proofs.YtalfbldkdlanoaaDoor
