/- TouchIn: the program's. -/
import Derived.Test.YtalfbldkdlanoaaDoorTouch
namespace Go.Proofs.YtalfbldkdlanoaaDoor
open Go.RowKit
/-- Two sets touch. -/
def TouchM (A : List Nat) (s t : Nat) : Prop := s &&& t ≠ 0 ∨ ∃ v ∈ mems s, A.getD v.toNat 0 &&& t ≠ 0
noncomputable instance (A : List Nat) (s t : Nat) : Decidable (TouchM A s t) := Classical.propDecidable _
/-- The members of a set under 2 ^ n are under n. -/
theorem mems_under {s n : Nat} (hs : s < 2 ^ n) (hn : n ≤ 16) : ∀ u ∈ mems s, 0 ≤ u ∧ u < n := by
  intro u hu
  have hs16 : s < 65536 := Nat.lt_of_lt_of_le hs (Nat.pow_le_pow_right (n := 2) (i := n) (j := 16) (by decide) hn)
  obtain ⟨i, rfl, hb⟩ := (mems_mem (by omega)).1 hu
  have : i < n := by
    apply Classical.byContradiction
    intro hn2
    have h2 : s < 2 ^ i := Nat.lt_of_lt_of_le hs (Nat.pow_le_pow_right (n := 2) (i := n) (j := i) (by decide) (by omega))
    rw [Nat.testBit_lt_two_pow h2] at hb; cases hb
  omega
set_option maxHeartbeats 4000000 in
theorem touches_b (a : Option Addr) (A : List Nat) (c s t : Nat) (w : World) (b : Bool) (hb : decide (TouchM A s t) = b) (hT : TabOk w) (hr : Rd maskF w a A) (hA : ∀ x ∈ A, x < 65536) (hs16 : s < 65536) (ht16 : t < 65536) (hmem : ∀ u ∈ mems s, 0 ≤ u ∧ u < A.length) :
    Calls Tryd.prog 83 #[.slice a A.length c, .int .u32 s, .int .u32 t] w fun e w' => e = .returned (.bool b) ∧ Below w.heap.size w w' := by
  have RT := hid hT; have RA := hid hr; have HA := hid hA; have HMEM := hid hmem; have HB := hid hb; clear hT hr hA hmem hb
  have hml := mems_len s
  have B0 := hid (Below.refl w.heap.size w)
  have hand := u32_and_nat s t (by omega) (by omega)
  by_cases h0 : s &&& t = 0
  · have d0 : (((s &&& t : Nat) : Int) != 0) = false := by rw [h0]; rfl
    have HIFF := hid (show TouchM A s t ↔ ∃ v ∈ mems s, A.getD v.toNat 0 &&& t ≠ 0 from ⟨fun h => h.elim (fun h => absurd h0 h) id, .inr⟩)
    clear h0
    go_enter Tryd.func83, Tryd.ntmps83
    go_wp2_with fail
    refine (list_any s w RT.out hs16).mono ?_
    rintro e w1 ⟨v, rfl, ho, hb⟩
    obtain ⟨la, lc, rfl, hlr, _⟩ := ho.rd
    have RL := hid hlr; clear hlr ho
    replace RT := hid (RT.out.below hb (Nat.le_refl _))
    replace RA := hid (RA.out.below hb (Nat.le_refl _))
    replace B0 := hid (bon B0.out hb)
    clear hb
    have LEN := hid (show (mems s).length ≤ 32 from hml)
    go_wp2
    go_loop [8, 16] (fun _ x => ∃ k : Nat, k ≤ (mems s).length ∧ x = .int .i64 k ∧ ∀ i, (h : i < (mems s).length) → i < k → A.getD ((mems s)[i]).toNat 0 &&& t = 0) (fun _ x => (mems s).length - (intOf x).toNat)
    case atStart => exact ⟨0, Nat.zero_le _, rfl, fun _ _ h => absurd h (Nat.not_lt_zero _)⟩
    case round =>
      obtain ⟨k, hk, rfl, hno⟩ := hrel
      have HNO := hid hno; clear hno
      by_cases hlt : k < (mems s).length
      · obtain ⟨lb, lo, rfl, hc⟩ := RL.out k hlt
        have hu := HMEM.out _ (List.getElem_mem hlt)
        have HSTEP := hid (fun (h1 : A.getD ((mems s)[k]).toNat 0 &&& t = 0) => (show ∀ i, (h : i < (mems s).length) → i < k + 1 → A.getD ((mems s)[i]).toNat 0 &&& t = 0 from fun i hi hik => by
          rcases Nat.lt_succ_iff_lt_or_eq.1 hik with h3 | rfl
          · exact HNO.out i hi h3
          · exact h1))
        have HYES := hid (fun (h1 : A.getD ((mems s)[k]).toNat 0 &&& t ≠ 0) => (show TouchM A s t from HIFF.out.2 ⟨_, List.getElem_mem hlt, h1⟩))
        have hi0 : (k : Int) < ((mems s).length : Int) := by omega
        generalize (mems s)[k] = u at *
        obtain ⟨n, rfl⟩ := Int.eq_ofNat_of_zero_le hu.1
        have hn1 : n < A.length := by omega
        have hni : (n : Int) < (A.length : Int) := by omega
        have hAn := HA.out _ (List.getElem_mem hn1)
        have hget : A.getD ((n : Int)).toNat 0 = A[n] := by rw [Int.toNat_natCast, List.getD_eq_getElem?_getD, List.getElem?_eq_getElem hn1]; rfl
        rw [hget] at HSTEP HYES
        obtain ⟨ab, ao, rfl, hac⟩ := RA.out n hn1
        unfold maskF at hac
        have hand2 := u32_and_nat A[n] t (by omega) (by omega)
        clear hget hu
        generalize A[n] = N at *
        by_cases h1 : N &&& t = 0
        · have d1 : (((N &&& t : Nat) : Int) != 0) = false := by rw [h1]; rfl
          have HFIN := hid (HSTEP.out h1)
          clear h1
          go_wp2
          go_round
          case rel => exact ⟨k + 1, by omega, by go_num, HFIN.out⟩
          case measure => simp [intOf]; omega
        · have d1 : (((N &&& t : Nat) : Int) != 0) = true := by simp; omega
          have HFIN := hid (HYES.out h1)
          clear h1
          go_wp2
          go_ret
          exact ⟨ret_bool (dec_t HB.out HFIN.out), B0.out⟩
      · obtain rfl : k = (mems s).length := by omega
        have HFIN := hid (show ¬ TouchM A s t from fun h => by
          obtain ⟨v, hv, h2⟩ := HIFF.out.1 h
          obtain ⟨i, hi, rfl⟩ := List.mem_iff_getElem.1 hv
          exact h2 (HNO.out i hi hi))
        go_wp2
        go_ret
        exact ⟨ret_bool (dec_f HB.out HFIN.out), B0.out⟩
  · have d0 : (((s &&& t : Nat) : Int) != 0) = true := by simp; omega
    have HFIN := hid (show TouchM A s t from .inl h0)
    clear h0
    go_enter Tryd.func83, Tryd.ntmps83
    go_wp2
    go_ret
    exact ⟨ret_bool (dec_t HB.out HFIN.out), B0.out⟩
/-- Of sets of a graph: touching, told both ways. -/
theorem touch_iff {g : List (List Int)} {a b : List Int} (ha : SetP g a) (hb : SetP g b) : TouchM (g.map maskL) (maskL a) (maskL b) ↔ TouchL g a b := by
  have hg := ha.1
  have h16 := hg.le
  have na : ∀ v ∈ a, 0 ≤ v := fun v hv => (ha.2.1 v hv).1
  have nb : ∀ v ∈ b, 0 ≤ v := fun v hv => (hb.2.1 v hv).1
  have hnz : ∀ m : Nat, m ≠ 0 ↔ ∃ i, m.testBit i = true := by
    intro m
    constructor
    · intro h
      apply Classical.byContradiction
      intro hn
      exact h ((eq_zero_iff m).2 fun i => by
        cases hb : m.testBit i with
        | false => rfl
        | true => exact absurd ⟨i, hb⟩ hn)
    · rintro ⟨i, hi⟩ rfl
      rw [Nat.zero_testBit] at hi; cases hi
  unfold TouchM
  rw [mems_maskL ha.2 (by omega), hnz]
  constructor
  · rintro (⟨i, hi⟩ | ⟨v, hv, h⟩)
    · rw [Nat.testBit_and, testBit_maskL a i na, testBit_maskL b i nb] at hi
      simp at hi
      exact ⟨(i : Int), hi.1, .inl hi.2⟩
    · have hv2 := ha.2.1 v hv
      obtain ⟨n, rfl⟩ := Int.eq_ofNat_of_zero_le hv2.1
      have hn : n < g.length := by omega
      have e1 : (g.map maskL).getD (n : Int).toNat 0 = maskL (row g (n : Int)) := by
        rw [Int.toNat_natCast, List.getD_eq_getElem?_getD, List.getElem?_map, List.getElem?_eq_getElem hn, row_nat _ _ hn]; rfl
      rw [e1, hnz] at h
      obtain ⟨i, hi⟩ := h
      rw [Nat.testBit_and, testBit_maskL _ _ (fun v hv => (gok_range hg (u := (n : Int)) (by omega) (by omega) hv).1), testBit_maskL b i nb] at hi
      simp at hi
      have hir := gok_range hg (u := (n : Int)) (by omega) (by omega) hi.1
      exact ⟨(n : Int), hv, .inr ⟨(i : Int), hi.2, (gok_sym hg hir.1 hir.2 (by omega) (by omega)).2 hi.1⟩⟩
  · rintro ⟨x, hx, h | ⟨y, hy, h⟩⟩
    · have hx2 := ha.2.1 x hx
      obtain ⟨n, rfl⟩ := Int.eq_ofNat_of_zero_le hx2.1
      left
      refine ⟨n, ?_⟩
      rw [Nat.testBit_and, testBit_maskL a n na, testBit_maskL b n nb]
      simp [hx, h]
    · have hx2 := ha.2.1 x hx
      have hy2 := hb.2.1 y hy
      obtain ⟨n, rfl⟩ := Int.eq_ofNat_of_zero_le hx2.1
      obtain ⟨m, rfl⟩ := Int.eq_ofNat_of_zero_le hy2.1
      have hn : n < g.length := by omega
      right
      refine ⟨(n : Int), hx, ?_⟩
      have e1 : (g.map maskL).getD (n : Int).toNat 0 = maskL (row g (n : Int)) := by
        rw [Int.toNat_natCast, List.getD_eq_getElem?_getD, List.getElem?_map, List.getElem?_eq_getElem hn, row_nat _ _ hn]; rfl
      rw [e1, hnz]
      refine ⟨m, ?_⟩
      rw [Nat.testBit_and, testBit_maskL _ _ (fun v hv => (gok_range hg (u := (n : Int)) (by omega) (by omega) hv).1), testBit_maskL b m nb]
      have := (gok_sym hg (u := (m : Int)) (v := (n : Int)) (by omega) (by omega) (by omega) (by omega)).1 h
      simp [this, hy]
end Go.Proofs.YtalfbldkdlanoaaDoor
