/- How many pairs of a set are no neighbours: both. -/
import Derived.Test.YtalfbldkdlanoaaDoorMissM
import Derived.Test.YtalfbldkdlanoaaDoorTab
import Derived.Test.YtalfbldkdlanoaaDoorCode2
namespace Go.Proofs.YtalfbldkdlanoaaDoor
open Go.RowKit
/-- A set, as a value. -/
def maskF (m : Nat) : Value := .int .u32 (m : Nat)
theorem Rd.masks {w : World} {a : Option Addr} {g : List (List Int)} (h : Rd netF w a g) : Rd maskF w a (g.map maskL) := by
  intro i hi
  have hi' : i < g.length := by simpa using hi
  obtain ⟨b, o, h1, h2⟩ := h i hi'
  exact ⟨b, o, h1, by rw [h2, List.getElem_map]; rfl⟩
set_option maxHeartbeats 4000000 in
theorem missing_any (a : Option Addr) (A : List Nat) (c s : Nat) (w : World) (hT : TabOk w) (hr : Rd maskF w a A) (hA : ∀ x ∈ A, x < 65536) (hn : A.length ≤ 16) (hs : s < 2 ^ A.length) :
    Calls Tryd.prog 89 #[.slice a A.length c, .int .u32 s] w fun e w' => e = .returned (.int .i64 (missM A s : Nat)) ∧ Below w.heap.size w w' := by
  have RT := hid hT; have RA := hid hr; have HA := hid hA; clear hT hr hA
  have hs16 : s < 65536 := Nat.lt_of_lt_of_le hs (Nat.pow_le_pow_right (n := 2) (i := A.length) (j := 16) (by decide) hn)
  have hml := mems_len s
  have HMEM := hid (fun u (hu : u ∈ mems s) => (show 0 ≤ u ∧ u < A.length by
    obtain ⟨i, rfl, hb⟩ := (mems_mem (by omega)).1 hu
    have : i < A.length := by
      apply Classical.byContradiction
      intro hn2
      have h2 : s < 2 ^ i := Nat.lt_of_lt_of_le hs (Nat.pow_le_pow_right (n := 2) (i := A.length) (j := i) (by decide) (by omega))
      rw [Nat.testBit_lt_two_pow h2] at hb; cases hb
    omega))
  have B0 := hid (Below.refl w.heap.size w)
  clear hs
  go_enter Tryd.func89, Tryd.ntmps89
  go_wp2_with fail
  refine (list_any s w RT.out hs16).mono ?_
  rintro e w1 ⟨v, rfl, ho, hb⟩
  replace RT := hid (RT.out.below hb (Nat.le_refl _))
  replace RA := hid (RA.out.below hb (Nat.le_refl _))
  replace B0 := hid (bon B0.out hb)
  clear hb
  obtain ⟨la, lc, rfl, hlr, _⟩ := ho.rd
  have RL := hid hlr; clear hlr ho
  have HSUM := hid (fun k => sumN_le (n := k) (f := fun i => missAt A s ((mems s).getD i 0)) (c := 16) (fun i _ => pcN_le 16 _))
  go_wp2
  go_loopw [5, 7, 11] (fun m _ x wr => ∃ k : Nat, k ≤ (mems s).length ∧ x = .int .i64 k ∧ m = .int .i64 (sumN k (fun i => missAt A s ((mems s).getD i 0)) : Nat) ∧ Below w1.heap.size w1 wr) (fun _ _ x _ => (mems s).length - (intOf x).toNat)
  case atStart => exact ⟨0, Nat.zero_le _, rfl, rfl, Below.refl _ _⟩
  case round =>
    obtain ⟨k, hk, rfl, rfl, hd⟩ := hrel
    have BL := hid hd
    replace RT := hid (RT.out.below hd (Nat.le_refl _))
    replace RA := hid (RA.out.below hd (Nat.le_refl _))
    replace RL := hid (RL.out.below hd (Nat.le_refl _))
    replace B0 := hid (bon B0.out hd)
    clear hd
    have hsum := HSUM.out k
    by_cases hlt : k < (mems s).length
    · obtain ⟨b, o, rfl, hc⟩ := RL.out k hlt
      have hu := HMEM.out _ (List.getElem_mem hlt)
      have HS := hid (show sumN (k + 1) (fun i => missAt A s ((mems s).getD i 0)) = sumN k (fun i => missAt A s ((mems s).getD i 0)) + missAt A s ((mems s)[k]) by
        simp only [sumN]; rw [getD_eq _ k hlt])
      have hi0 : (k : Int) < ((mems s).length : Int) := by omega
      generalize sumN k (fun i => missAt A s ((mems s).getD i 0)) = S at *
      generalize hS2 : sumN (k + 1) (fun i => missAt A s ((mems s).getD i 0)) = S2 at *
      have HS2 := hid hS2; clear hS2
      generalize (mems s)[k] = u at *
      obtain ⟨n, rfl⟩ := Int.eq_ofNat_of_zero_le hu.1
      have hn1 : n < A.length := by omega
      have hni : (n : Int) < (A.length : Int) := by omega
      have hle := pcN_le 16 (dif (dif s A[n]) (2 ^ n))
      have hat1 : missAt A s (n : Int) = pcN 16 (dif (dif s A[n]) (2 ^ n)) := by
        unfold missAt; rw [Int.toNat_natCast, List.getD_eq_getElem?_getD, List.getElem?_eq_getElem hn1]; rfl
      rw [hat1] at HS
      have hAn := HA.out _ (List.getElem_mem hn1)
      obtain ⟨ab, ao, rfl, hac⟩ := RA.out n hn1
      unfold maskF at hac
      have hd1 := u32_dif s A[n] (by omega) (by omega)
      have hdl1 : dif s A[n] < 65536 := Nat.lt_of_le_of_lt (dif_le _ _) hs16
      have hd2 : bits .andNot .u32 ((dif s A[n] : Nat) : Int) ((2 : Int) ^ n) = ((dif (dif s A[n]) (2 ^ n) : Nat) : Int) := by have := u32_dif (dif s A[n]) (2 ^ n) (by omega) (pow_lt32 n (by omega)); simpa using this
      have hdl2 : dif (dif s A[n]) (2 ^ n) < 65536 := Nat.lt_of_le_of_lt (dif_le _ _) hdl1
      have cell1 := hac
      clear hat1 hac hu HA
      generalize A[n] = N at *
      generalize dif s N = X at *
      generalize hY : dif X (2 ^ n) = Y at *
      clear hY
      go_wp2
      have qcell1 := fun (p : Bel _) => cellB p.h cell1 (Nat.le_refl _)
      refine wp_quiet_b (by kernel_rfl) (by kernel_rfl) ?_
      repeat (go_big_quiet_step (first | (go_at_call 117; exact qbs (one_any n _ (by omega))) | (go_at_call 88; exact qbd (size_any _ _ hdl2))))
      refine wpQuiet_nil ?_
      intro _ hw'
      obtain ⟨⟨w2, hb⟩, rfl⟩ := hw'
      clear qcell1
      replace RT := hid (RT.out.below hb (Nat.le_refl _))
      replace RA := hid (RA.out.below hb (Nat.le_refl _))
      replace RL := hid (RL.out.below hb (Nat.le_refl _))
      replace B0 := hid (bon B0.out hb)
      replace BL := hid (bon BL.out hb)
      replace cell1 := cellB hb cell1 (Nat.le_refl _)
      clear hb
      go_wp2
      go_roundw
      case rel => exact ⟨k + 1, by omega, by go_num, by rw [HS2.out, HS.out]; simp, BL.out⟩
      case measure => simp [intOf]; omega
    · obtain rfl : k = (mems s).length := by omega
      have HFIN := hid (show sumN (mems s).length (fun i => missAt A s ((mems s).getD i 0)) / 2 = missM A s from rfl)
      generalize sumN (mems s).length (fun i => missAt A s ((mems s).getD i 0)) = S at *
      have hdv : (S : Int).tdiv 2 = ((S / 2 : Nat) : Int) := by rw [Int.tdiv_eq_ediv_of_nonneg (by omega)]; rfl
      go_wp2
      go_ret
      exact ⟨ret_int (by rw [← HFIN.out]; simp), B0.out⟩
end Go.Proofs.YtalfbldkdlanoaaDoor
