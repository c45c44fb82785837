/- TouchIn: the program's. -/
import Derived.Test.YtlnhfafnhclolaaDoorTouch
namespace Go.Proofs.YtlnhfafnhclolaaDoor
open Go.RowKit
/-- Two sets touch. -/
def TouchM (A : List Nat) (s t : Nat) : Prop := s &&& t ≠ 0 ∨ ∃ v ∈ mems s, A.getD v.toNat 0 &&& t ≠ 0
noncomputable instance (A : List Nat) (s t : Nat) : Decidable (TouchM A s t) := Classical.propDecidable _
/-- The members of a set under 2 ^ n are under n. -/
theorem mems_under {s n : Nat} (hs : s < 2 ^ n) (hn : n ≤ 16) : ∀ u ∈ mems s, 0 ≤ u ∧ u < n := by
  intro u hu
  have hs16 : s < 65536 := Nat.lt_of_lt_of_le hs (Nat.pow_le_pow_right (n := 2) (i := n) (j := 16) (by decide) hn)
  obtain ⟨i, rfl, hb⟩ := (mems_mem (by omega)).1 hu
  have : i < n := by
    apply Classical.byContradiction
    intro hn2
    have h2 : s < 2 ^ i := Nat.lt_of_lt_of_le hs (Nat.pow_le_pow_right (n := 2) (i := n) (j := i) (by decide) (by omega))
    rw [Nat.testBit_lt_two_pow h2] at hb; cases hb
  omega
set_option maxHeartbeats 4000000 in
theorem touches_b (a : Option Addr) (A : List Nat) (c s t : Nat) (w : World) (b : Bool) (hb : decide (TouchM A s t) = b) (hT : TabOk w) (hr : Rd maskF w a A) (hA : ∀ x ∈ A, x < 65536) (hs16 : s < 65536) (ht16 : t < 65536) (hmem : ∀ u ∈ mems s, 0 ≤ u ∧ u < A.length) :
    Calls Tryd.prog 57 #[.slice a A.length c, .int .u32 s, .int .u32 t] w fun e w' => e = .returned (.bool b) ∧ Below w.heap.size w w' := by
  have RT := hid hT; have RA := hid hr; have HA := hid hA; have HMEM := hid hmem; have HB := hid hb; clear hT hr hA hmem hb
  have hml := mems_len s
  have B0 := hid (Below.refl w.heap.size w)
  have hand := u32_and_nat s t (by omega) (by omega)
  by_cases h0 : s &&& t = 0
  · have d0 : (((s &&& t : Nat) : Int) != 0) = false := by rw [h0]; rfl
    have HIFF := hid (show TouchM A s t ↔ ∃ v ∈ mems s, A.getD v.toNat 0 &&& t ≠ 0 from ⟨fun h => h.elim (fun h => absurd h0 h) id, .inr⟩)
    clear h0
    go_enter Tryd.func57, Tryd.ntmps57
    go_wp2_with fail
    refine (list_any s w RT.out hs16).mono ?_
    rintro e w1 ⟨v, rfl, ho, hb⟩
    obtain ⟨la, lc, rfl, hlr, _⟩ := ho.rd
    have RL := hid hlr; clear hlr ho
    replace RT := hid (RT.out.below hb (Nat.le_refl _))
    replace RA := hid (RA.out.below hb (Nat.le_refl _))
    replace B0 := hid (bon B0.out hb)
    clear hb
    have LEN := hid (show (mems s).length ≤ 32 from hml)
    go_wp2
    go_loop [8, 16] (fun _ x => ∃ k : Nat, k ≤ (mems s).length ∧ x = .int .i64 k ∧ ∀ i, (h : i < (mems s).length) → i < k → A.getD ((mems s)[i]).toNat 0 &&& t = 0) (fun _ x => (mems s).length - (intOf x).toNat)
    case atStart => exact ⟨0, Nat.zero_le _, rfl, fun _ _ h => absurd h (Nat.not_lt_zero _)⟩
    case round =>
      obtain ⟨k, hk, rfl, hno⟩ := hrel
      have HNO := hid hno; clear hno
      by_cases hlt : k < (mems s).length
      · obtain ⟨lb, lo, rfl, hc⟩ := RL.out k hlt
        have hu := HMEM.out _ (List.getElem_mem hlt)
        have HSTEP := hid (fun (h1 : A.getD ((mems s)[k]).toNat 0 &&& t = 0) => (show ∀ i, (h : i < (mems s).length) → i < k + 1 → A.getD ((mems s)[i]).toNat 0 &&& t = 0 from fun i hi hik => by
          rcases Nat.lt_succ_iff_lt_or_eq.1 hik with h3 | rfl
          · exact HNO.out i hi h3
          · exact h1))
        have HYES := hid (fun (h1 : A.getD ((mems s)[k]).toNat 0 &&& t ≠ 0) => (show TouchM A s t from HIFF.out.2 ⟨_, List.getElem_mem hlt, h1⟩))
        have hi0 : (k : Int) < ((mems s).length : Int) := by omega
        generalize (mems s)[k] = u at *
        obtain ⟨n, rfl⟩ := Int.eq_ofNat_of_zero_le hu.1
        have hn1 : n < A.length := by omega
        have hni : (n : Int) < (A.length : Int) := by omega
        have hAn := HA.out _ (List.getElem_mem hn1)
        have hget : A.getD ((n : Int)).toNat 0 = A[n] := by rw [Int.toNat_natCast, List.getD_eq_getElem?_getD, List.getElem?_eq_getElem hn1]; rfl
        rw [hget] at HSTEP HYES
        obtain ⟨ab, ao, rfl, hac⟩ := RA.out n hn1
        unfold maskF at hac
        have hand2 := u32_and_nat A[n] t (by omega) (by omega)
        clear hget hu
        generalize A[n] = N at *
        by_cases h1 : N &&& t = 0
        · have d1 : (((N &&& t : Nat) : Int) != 0) = false := by rw [h1]; rfl
          have HFIN := hid (HSTEP.out h1)
          clear h1
          go_wp2
          go_round
          case rel => exact ⟨k + 1, by omega, by go_num, HFIN.out⟩
          case measure => simp [intOf]; omega
        · have d1 : (((N &&& t : Nat) : Int) != 0) = true := by simp; omega
          have HFIN := hid (HYES.out h1)
          clear h1
          go_wp2
          go_ret
          exact ⟨ret_bool (dec_t HB.out HFIN.out), B0.out⟩
      · obtain rfl : k = (mems s).length := by omega
        have HFIN := hid (show ¬ TouchM A s t from fun h => by
          obtain ⟨v, hv, h2⟩ := HIFF.out.1 h
          obtain ⟨i, hi, rfl⟩ := List.mem_iff_getElem.1 hv
          exact h2 (HNO.out i hi hi))
        go_wp2
        go_ret
        exact ⟨ret_bool (dec_f HB.out HFIN.out), B0.out⟩
  · have d0 : (((s &&& t : Nat) : Int) != 0) = true := by simp; omega
    have HFIN := hid (show TouchM A s t from .inl h0)
    clear h0
    go_enter Tryd.func57, Tryd.ntmps57
    go_wp2
    go_ret
    exact ⟨ret_bool (dec_t HB.out HFIN.out), B0.out⟩
/-- Of sets of a graph: touching, told both ways. -/
theorem touch_iff {g : List (List Int)} {a b : List Int} (ha : SetP g a) (hb : SetP g b) : TouchM (g.map maskL) (maskL a) (maskL b) ↔ TouchL g a b := by
  have hg := ha.1
  have h16 := hg.le
  have na : ∀ v ∈ a, 0 ≤ v := fun v hv => (ha.2.1 v hv).1
  have nb : ∀ v ∈ b, 0 ≤ v := fun v hv => (hb.2.1 v hv).1
  have hnz : ∀ m : Nat, m ≠ 0 ↔ ∃ i, m.testBit i = true := by
    intro m
    constructor
    · intro h
      apply Classical.byContradiction
      intro hn
      exact h ((eq_zero_iff m).2 fun i => by
        cases hb : m.testBit i with
        | false => rfl
        | true => exact absurd ⟨i, hb⟩ hn)
    · rintro ⟨i, hi⟩ rfl
      rw [Nat.zero_testBit] at hi; cases hi
  unfold TouchM
  rw [mems_maskL ha.2 (by omega), hnz]
  constructor
  · rintro (⟨i, hi⟩ | ⟨v, hv, h⟩)
    · rw [Nat.testBit_and, testBit_maskL a i na, testBit_maskL b i nb] at hi
      simp at hi
      exact ⟨(i : Int), hi.1, .inl hi.2⟩
    · have hv2 := ha.2.1 v hv
      obtain ⟨n, rfl⟩ := Int.eq_ofNat_of_zero_le hv2.1
      have hn : n < g.length := by omega
      have e1 : (g.map maskL).getD (n : Int).toNat 0 = maskL (row g (n : Int)) := by
        rw [Int.toNat_natCast, List.getD_eq_getElem?_getD, List.getElem?_map, List.getElem?_eq_getElem hn, row_nat _ _ hn]; rfl
      rw [e1, hnz] at h
      obtain ⟨i, hi⟩ := h
      rw [Nat.testBit_and, testBit_maskL _ _ (fun v hv => (gok_range hg (u := (n : Int)) (by omega) (by omega) hv).1), testBit_maskL b i nb] at hi
      simp at hi
      have hir := gok_range hg (u := (n : Int)) (by omega) (by omega) hi.1
      exact ⟨(n : Int), hv, .inr ⟨(i : Int), hi.2, (gok_sym hg hir.1 hir.2 (by omega) (by omega)).2 hi.1⟩⟩
  · rintro ⟨x, hx, h | ⟨y, hy, h⟩⟩
    · have hx2 := ha.2.1 x hx
      obtain ⟨n, rfl⟩ := Int.eq_ofNat_of_zero_le hx2.1
      left
      refine ⟨n, ?_⟩
      rw [Nat.testBit_and, testBit_maskL a n na, testBit_maskL b n nb]
      simp [hx, h]
    · have hx2 := ha.2.1 x hx
      have hy2 := hb.2.1 y hy
      obtain ⟨n, rfl⟩ := Int.eq_ofNat_of_zero_le hx2.1
      obtain ⟨m, rfl⟩ := Int.eq_ofNat_of_zero_le hy2.1
      have hn : n < g.length := by omega
      right
      refine ⟨(n : Int), hx, ?_⟩
      have e1 : (g.map maskL).getD (n : Int).toNat 0 = maskL (row g (n : Int)) := by
        rw [Int.toNat_natCast, List.getD_eq_getElem?_getD, List.getElem?_map, List.getElem?_eq_getElem hn, row_nat _ _ hn]; rfl
      rw [e1, hnz]
      refine ⟨m, ?_⟩
      rw [Nat.testBit_and, testBit_maskL _ _ (fun v hv => (gok_range hg (u := (n : Int)) (by omega) (by omega) hv).1), testBit_maskL b m nb]
      have := (gok_sym hg (u := (m : Int)) (v := (n : Int)) (by omega) (by omega) (by omega) (by omega)).1 h
      simp [this, hy]
set_option maxHeartbeats 4000000 in
theorem implTouchIn_b (a : Option Addr) (rs : List Row) (c : Nat) (a' : Option Addr) (zs : List Int) (c' : Nat) (a2 : Option Addr) (ys : List Int) (c2 : Nat) (w : World) (b : Bool) (hb : decide (TouchP (nums rs) zs ys) = b) (hr : RdM w a rs) (hn : Small rs) (hz : Rd (Value.int .i64) w a' zs) (hm : zs.length ≤ 1048576) (hy : Rd (Value.int .i64) w a2 ys) (hm2 : ys.length ≤ 1048576) (hT : TabOk w) :
    Calls Tryd.prog 23 #[.agg #[.slice a rs.length c], .slice a' zs.length c', .slice a2 ys.length c2] w fun e w' => e = .returned (.bool b) ∧ Below w.heap.size w w' := by
  have RA := hid hr; have RZ := hid hz; have RY := hid hy; have RT := hid hT; have HB := hid hb; clear hr hz hy hb hT
  obtain ⟨w0, hw0⟩ : ∃ w0, w0 = (w.alloc (.cells #[.slice a rs.length c] 28)) := ⟨_, rfl⟩
  have B0 := hid (show Below w.heap.size w w0 by rw [hw0]; exact ((Below.refl _ _).alloc (Nat.le_refl _) _))
  have c0 : w0.cell? ⟨w.heap.size, 0, none⟩ = some (.slice a rs.length c) := by rw [hw0]; simp [go_sem]
  replace RA := hid (RA.out.below B0.out (Nat.le_refl _))
  replace RZ := hid (RZ.out.below B0.out (Nat.le_refl _))
  replace RY := hid (RY.out.below B0.out (Nat.le_refl _))
  replace RT := hid (RT.out.below B0.out (Nat.le_refl _))
  have HW := hid hw0; clear hw0
  by_cases h1 : SetP (nums rs) zs
  · have e1 := hid (show decide (SetP (nums rs) zs) = true by simpa using h1)
    by_cases h2 : SetP (nums rs) ys
    · have e2 := hid (show decide (SetP (nums rs) ys) = true by simpa using h2)
      have HG := hid h1.1
      have V1 := hid (show ∀ v ∈ zs, 0 ≤ v ∧ v < 16 from fun v hv => by have := h1.2.1 v hv; have := h1.1.le; omega)
      have V2 := hid (show ∀ v ∈ ys, 0 ≤ v ∧ v < 16 from fun v hv => by have := h2.2.1 v hv; have := h1.1.le; omega)
      have e3 := hid (show decide (TouchM ((nums rs).map maskL) (maskL zs) (maskL ys)) = b by
        rw [← HB.out, decide_eq_decide, touch_iff h1 h2]
        exact ⟨fun h => ⟨h1, h2, h⟩, fun h => h.2.2⟩)
      have HMU := hid (show ∀ u ∈ mems (maskL zs), 0 ≤ u ∧ u < ((nums rs).map maskL).length by
        rw [List.length_map]; exact mems_under (maskL_lt_len h1.2) h1.1.le)
      clear h1 h2
      go_enter Tryd.func23, Tryd.ntmps23
      go_wp2_with fail
      rw [← HW.out]
      go_wp2_with fail
      refine (implSetOk_b a rs c a' zs c' _ _ e1.out RA.out hn RZ.out hm).mono ?_
      rintro e w1 ⟨rfl, hb⟩
      replace RA := hid (RA.out.below hb (Nat.le_refl _))
      replace RZ := hid (RZ.out.below hb (Nat.le_refl _))
      replace RY := hid (RY.out.below hb (Nat.le_refl _))
      replace RT := hid (RT.out.below hb (Nat.le_refl _))
      replace B0 := hid (bon B0.out hb)
      replace c0 := cellB hb c0 (Nat.le_refl _)
      clear hb
      go_wp2_with fail
      refine (implSetOk_b a rs c a2 ys c2 _ _ e2.out RA.out hn RY.out hm2).mono ?_
      rintro e w2 ⟨rfl, hb⟩
      replace RA := hid (RA.out.below hb (Nat.le_refl _))
      replace RZ := hid (RZ.out.below hb (Nat.le_refl _))
      replace RY := hid (RY.out.below hb (Nat.le_refl _))
      replace RT := hid (RT.out.below hb (Nat.le_refl _))
      replace B0 := hid (bon B0.out hb)
      replace c0 := cellB hb c0 (Nat.le_refl _)
      clear hb
      go_wp2_with fail
      refine (netsOf_any a rs c _ HG.out RA.out hn).mono ?_
      rintro e w3 ⟨v, rfl, hown, hb⟩
      replace RA := hid (RA.out.below hb (Nat.le_refl _))
      replace RZ := hid (RZ.out.below hb (Nat.le_refl _))
      replace RY := hid (RY.out.below hb (Nat.le_refl _))
      replace RT := hid (RT.out.below hb (Nat.le_refl _))
      replace B0 := hid (bon B0.out hb)
      replace c0 := cellB hb c0 (Nat.le_refl _)
      clear hb
      obtain ⟨na, nc, rfl, hsr, _, _, _, _⟩ := Own.rd (f := netF) hown
      have RN := hid hsr.masks; clear hown hsr
      go_wp2_with fail
      refine (maskOf_any _ _ _ _ RZ.out hm V1.out).mono ?_
      rintro e w' ⟨rfl, rfl⟩
      go_wp2_with fail
      refine (maskOf_any _ _ _ _ RY.out hm2 V2.out).mono ?_
      rintro e w' ⟨rfl, rfl⟩
      go_wp2_with fail
      have hq := touches_b na ((nums rs).map maskL) nc (maskL zs) (maskL ys) _ _ e3.out RT.out RN.out (in16_of HG.out) (maskL_lt zs 16 V1.out) (maskL_lt ys 16 V2.out) HMU.out
      rw [List.length_map] at hq
      refine hq.mono ?_
      rintro e w' ⟨rfl, hb⟩
      have B1 := hid (bon B0.out hb)
      go_wp2
      go_ret
      exact ⟨rfl, B1.out⟩
    · have e2 := hid (show decide (SetP (nums rs) ys) = false by simpa using h2)
      have HFIN := hid (show ¬ TouchP (nums rs) zs ys from fun h => h2 h.2.1)
      clear h1 h2
      go_enter Tryd.func23, Tryd.ntmps23
      go_wp2_with fail
      rw [← HW.out]
      go_wp2_with fail
      refine (implSetOk_b a rs c a' zs c' _ _ e1.out RA.out hn RZ.out hm).mono ?_
      rintro e w4 ⟨rfl, hb⟩
      replace RA := hid (RA.out.below hb (Nat.le_refl _))
      replace RZ := hid (RZ.out.below hb (Nat.le_refl _))
      replace RY := hid (RY.out.below hb (Nat.le_refl _))
      replace RT := hid (RT.out.below hb (Nat.le_refl _))
      replace B0 := hid (bon B0.out hb)
      replace c0 := cellB hb c0 (Nat.le_refl _)
      clear hb
      go_wp2_with fail
      refine (implSetOk_b a rs c a2 ys c2 _ _ e2.out RA.out hn RY.out hm2).mono ?_
      rintro e w5 ⟨rfl, hb⟩
      replace RA := hid (RA.out.below hb (Nat.le_refl _))
      replace RZ := hid (RZ.out.below hb (Nat.le_refl _))
      replace RY := hid (RY.out.below hb (Nat.le_refl _))
      replace RT := hid (RT.out.below hb (Nat.le_refl _))
      replace B0 := hid (bon B0.out hb)
      replace c0 := cellB hb c0 (Nat.le_refl _)
      clear hb
      go_wp2
      go_ret
      exact ⟨ret_bool (dec_f HB.out HFIN.out), B0.out⟩
  · have e1 := hid (show decide (SetP (nums rs) zs) = false by simpa using h1)
    have HFIN := hid (show ¬ TouchP (nums rs) zs ys from fun h => h1 h.1)
    clear h1
    go_enter Tryd.func23, Tryd.ntmps23
    go_wp2_with fail
    rw [← HW.out]
    go_wp2_with fail
    refine (implSetOk_b a rs c a' zs c' _ _ e1.out RA.out hn RZ.out hm).mono ?_
    rintro e w6 ⟨rfl, hb⟩
    replace RA := hid (RA.out.below hb (Nat.le_refl _))
    replace RZ := hid (RZ.out.below hb (Nat.le_refl _))
    replace RY := hid (RY.out.below hb (Nat.le_refl _))
    replace RT := hid (RT.out.below hb (Nat.le_refl _))
    replace B0 := hid (bon B0.out hb)
    replace c0 := cellB hb c0 (Nat.le_refl _)
    clear hb
    go_wp2
    go_ret
    exact ⟨ret_bool (dec_f HB.out HFIN.out), B0.out⟩
end Go.Proofs.YtlnhfafnhclolaaDoor
