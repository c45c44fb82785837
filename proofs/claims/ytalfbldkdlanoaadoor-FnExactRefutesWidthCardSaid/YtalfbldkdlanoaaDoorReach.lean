/- What can be reached within a set: the program's. -/
import Derived.Test.YtalfbldkdlanoaaDoorTouchI
namespace Go.Proofs.YtalfbldkdlanoaaDoor
open Go.RowKit
/-- Within d steps of v, by members of a set alone, over sets. -/
def BallA (A : List Nat) (w v : Nat) : Nat → Nat → Prop
  | 0, u => u = v
  | d + 1, u => BallA A w v d u ∨ (w.testBit u = true ∧ ∃ x, BallA A w v d x ∧ (A.getD x 0).testBit u = true)
/-- v can be led to u. -/
def Leads (A : List Nat) (w v u : Nat) : Prop := ∃ d, BallA A w v d u
theorem le_of_bits {a b : Nat} (h : ∀ i, a.testBit i = true → b.testBit i = true) : a ≤ b := by
  have e : a &&& b = a := by
    apply Nat.eq_of_testBit_eq
    intro i
    rw [Nat.testBit_and]
    cases ha : a.testBit i
    · rfl
    · rw [h i ha]; rfl
  rw [← e]; exact Nat.and_le_right
theorem leads_closed {A : List Nat} {w v S : Nat} (hv : S.testBit v = true) (hc : ∀ x u, S.testBit x = true → w.testBit u = true → (A.getD x 0).testBit u = true → S.testBit u = true) {u : Nat} (h : Leads A w v u) : S.testBit u = true := by
  obtain ⟨d, hd⟩ := h
  induction d generalizing u with
  | zero => have e : u = v := hd
            rw [e]; exact hv
  | succ d ih =>
    rcases hd with h1 | ⟨h1, x, h2, h3⟩
    · exact ih h1
    · exact hc x u (ih h2) h1 h3
theorem Leads.step {A : List Nat} {w v x u : Nat} (h : Leads A w v x) (h1 : w.testBit u = true) (h2 : (A.getD x 0).testBit u = true) : Leads A w v u := by
  obtain ⟨d, hd⟩ := h
  exact ⟨d + 1, .inr ⟨h1, x, hd, h2⟩⟩
/-- Behind k members of S, one step more. -/
def StepTo (A : List Nat) (w S : Nat) (k N : Nat) : Prop := N < 65536 ∧ ∀ u, N.testBit u = true ↔ S.testBit u = true ∨ ∃ j, ∃ h : j < (mems S).length, j < k ∧ w.testBit u = true ∧ (A.getD ((mems S)[j]).toNat 0).testBit u = true
theorem StepTo.zero {A : List Nat} {w S : Nat} (h : S < 65536) : StepTo A w S 0 S := ⟨h, fun _ => ⟨.inl, fun h => h.elim id (fun ⟨j, _, h1, _⟩ => absurd h1 (Nat.not_lt_zero j))⟩⟩
theorem StepTo.succ {A : List Nat} {w S k N x : Nat} (h : StepTo A w S k N) (hk : k < (mems S).length) (hx : A.getD ((mems S)[k]).toNat 0 = x) (hw : w < 65536) : StepTo A w S (k + 1) (N ||| (x &&& w)) := by
  refine ⟨Nat.or_lt_two_pow (n := 16) h.1 (Nat.lt_of_le_of_lt Nat.and_le_right hw), fun u => ?_⟩
  rw [Nat.testBit_or, Bool.or_eq_true, h.2, Nat.testBit_and, Bool.and_eq_true]
  constructor
  · rintro ((h1 | ⟨j, hj, h2, h3⟩) | ⟨h1, h2⟩)
    · exact .inl h1
    · exact .inr ⟨j, hj, by omega, h3⟩
    · exact .inr ⟨k, hk, by omega, h2, by rw [hx]; exact h1⟩
  · rintro (h1 | ⟨j, hj, h2, h3, h4⟩)
    · exact .inl (.inl h1)
    · rcases Nat.lt_succ_iff_lt_or_eq.1 h2 with h5 | rfl
      · exact .inl (.inr ⟨j, hj, h5, h3, h4⟩)
      · exact .inr ⟨by rw [← hx]; exact h4, h3⟩
theorem mems_idx {S x : Nat} (h : S < 65536) (hb : S.testBit x = true) : ∃ j, ∃ hj : j < (mems S).length, (mems S)[j] = (x : Int) := by
  have : (x : Int) ∈ mems S := (mems_mem (by omega)).2 ⟨x, rfl, hb⟩
  obtain ⟨j, hj, e⟩ := List.mem_iff_getElem.1 this
  exact ⟨j, hj, e⟩
theorem mems_bit {S j : Nat} (h : S < 65536) (hj : j < (mems S).length) : S.testBit ((mems S)[j]).toNat = true := by
  obtain ⟨i, e, hb⟩ := (mems_mem (by omega)).1 (List.getElem_mem hj)
  rw [e, Int.toNat_natCast]; exact hb
set_option maxHeartbeats 4000000 in
theorem reach_any (a : Option Addr) (A : List Nat) (c v t : Nat) (w : World) (hT : TabOk w) (hr : Rd maskF w a A) (hA : ∀ x ∈ A, x < 65536) (hAn : A.length ≤ 16) (hv : v < A.length) (ht : t < 2 ^ A.length) :
    Calls Tryd.prog 139 #[.slice a A.length c, .int .i64 v, .int .u32 t] w fun e w' => ∃ R : Nat, e = .returned (.int .u32 R) ∧ R < 65536 ∧ (∀ u, R.testBit u = true ↔ Leads A t v u) ∧ Below w.heap.size w w' := by
  have RT := hid hT; have RA := hid hr; have HA := hid hA; clear hT hr hA
  have ht16 : t < 65536 := Nat.lt_of_lt_of_le ht (Nat.pow_le_pow_right (n := 2) (i := A.length) (j := 16) (by decide) hAn)
  have HTN := hid (fun u (hu : t.testBit u = true) => (show u < A.length by
    apply Classical.byContradiction
    intro hn
    have h2 : t < 2 ^ u := Nat.lt_of_lt_of_le ht (Nat.pow_le_pow_right (n := 2) (i := A.length) (j := u) (by decide) (by omega))
    rw [Nat.testBit_lt_two_pow h2] at hu; cases hu))
  have HP16 := hid (show 2 ^ v < 65536 from Nat.pow_lt_pow_right (a := 2) (m := v) (n := 16) (by decide) (by omega))
  clear ht
  have B0 := hid (Below.refl w.heap.size w)
  go_enter Tryd.func139, Tryd.ntmps139
  go_wp2_with (go_at_call 117; refine (one_any v _ (by omega)).mono ?_; rintro e w' ⟨rfl, rfl⟩)
  go_loopw [7, 8, 10] (fun x _ _ wr => ∃ S : Nat, x = .int .u32 S ∧ S < 65536 ∧ S.testBit v = true ∧ (∀ u, S.testBit u = true → u < A.length ∧ Leads A t v u) ∧ Below w.heap.size w wr) (fun x _ _ _ => 65536 - (intOf x).toNat)
  case atStart =>
    refine ⟨2 ^ v, by simp, HP16.out, by simp, fun u hu => ?_, Below.refl _ _⟩
    rw [Nat.testBit_two_pow] at hu
    have : v = u := by simpa using hu
    subst this
    exact ⟨hv, 0, rfl⟩
  case round =>
    obtain ⟨S, rfl, hS, hvS, hsub, hd⟩ := hrel
    have HVS := hid hvS; have HSUB := hid hsub; clear hvS hsub
    have BL := hid hd
    replace RT := hid (RT.out.below hd (Nat.le_refl _))
    replace RA := hid (RA.out.below hd (Nat.le_refl _))
    replace B0 := hid (bon B0.out hd)
    clear hd
    have hml := mems_len S
    go_wp2_with fail
    go_wp2_with fail
    refine (list_any S _ RT.out hS).mono ?_
    rintro e w1 ⟨lv, rfl, ho, hb⟩
    replace RT := hid (RT.out.below hb (Nat.le_refl _))
    replace RA := hid (RA.out.below hb (Nat.le_refl _))
    replace B0 := hid (bon B0.out hb)
    clear hb
    obtain ⟨la, lc, rfl, hlr, _⟩ := ho.rd
    have RL := hid hlr; clear hlr ho
    go_wp2
    go_loop [8, 10, 17] (fun nx _ x => ∃ (k N : Nat), k ≤ (mems S).length ∧ x = .int .i64 k ∧ nx = .int .u32 N ∧ StepTo A t S k N) (fun _ _ x => (mems S).length - (intOf x).toNat)
    case atStart => exact ⟨0, S, Nat.zero_le _, rfl, rfl, StepTo.zero hS⟩
    case round =>
      obtain ⟨k, N, hk, rfl, rfl, hst⟩ := hrel
      have HST := hid hst
      have hN := hst.1
      clear hst
      by_cases hlt : k < (mems S).length
      · obtain ⟨lb, lo, rfl, cl⟩ := RL.out k hlt
        have hki : (k : Int) < ((mems S).length : Int) := by omega
        have hu := (mems_mem (show S < 4294967296 by omega)).1 (List.getElem_mem hlt)
        have HSU := hid (fun x (hx : A.getD ((mems S)[k]).toNat 0 = x) => HST.out.succ hlt hx ht16)
        generalize (mems S)[k] = y at *
        obtain ⟨n, rfl, hnb⟩ := hu
        have hn := (HSUB.out n hnb).1
        clear hnb
        have hni : (n : Int) < (A.length : Int) := by omega
        have hAn2 := HA.out _ (List.getElem_mem hn)
        have hget : A.getD ((n : Int)).toNat 0 = A[n] := by rw [Int.toNat_natCast, List.getD_eq_getElem?_getD, List.getElem?_eq_getElem hn]; rfl
        have HS2 := hid (HSU.out _ hget)
        obtain ⟨ab, ao, haa, cn⟩ := RA.out n hn
        have hatn := at_slice tNets haa A.length c n hn
        have HAA := hid haa; clear haa
        unfold maskF at cn
        clear hget
        generalize A[n] = X at *
        have hand := u32_and_nat X t (by omega) (by omega)
        have hXt : X &&& t < 65536 := Nat.lt_of_le_of_lt Nat.and_le_right ht16
        have hor := u32_or_nat N (X &&& t) (by omega) (by omega)
        go_wp2
        go_round
        case rel => exact ⟨k + 1, N ||| (X &&& t), by omega, by go_num, rfl, HS2.out⟩
        case measure => simp [intOf]; omega
      · obtain rfl : k = (mems S).length := by omega
        by_cases he : N = S
        · have d1 : ((N : Int) == (S : Int)) = true := by rw [he]; simp
          have d2 : (N == S) = true := by simpa using he
          have d3 : decide (N = S) = true := by simpa using he
          have HFIN := hid (show ∀ u, S.testBit u = true ↔ Leads A t v u from fun u => by
            constructor
            · intro h; exact (HSUB.out u h).2
            · intro h
              refine leads_closed HVS.out (fun x z hx hz hxz => ?_) h
              obtain ⟨j, hj, e⟩ := mems_idx hS hx
              have := (HST.out.2 z).2 (.inr ⟨j, hj, hj, hz, by rw [e, Int.toNat_natCast]; exact hxz⟩)
              rwa [he] at this)
          clear he
          go_wp2
          go_ret
          exact ⟨S, rfl, hS, HFIN.out, B0.out⟩
        · have d1 : ((N : Int) == (S : Int)) = false := by rw [beq_eq_false_iff_ne]; omega
          have d2 : (N == S) = false := by simpa using he
          have d3 : decide (N = S) = false := by simpa using he
          have hle : S ≤ N := le_of_bits fun i hi => (HST.out.2 i).2 (.inl hi)
          have HV2 := hid ((HST.out.2 v).2 (.inl HVS.out))
          have HS2 := hid (show ∀ u, N.testBit u = true → u < A.length ∧ Leads A t v u from fun u hu => by
            rcases (HST.out.2 u).1 hu with h1 | ⟨j, hj, _, h3, h4⟩
            · exact HSUB.out u h1
            · exact ⟨HTN.out u h3, ((HSUB.out _ (mems_bit hS hj)).2).step h3 h4⟩)
          go_wp2
          go_roundw
          case rel => exact ⟨N, rfl, hN, HV2.out, HS2.out, B0.out⟩
          case measure => simp [intOf]; omega
end Go.Proofs.YtalfbldkdlanoaaDoor
