/- A vertex is eliminated, and the order that takes the cheapest: the program's. · The order that takes the cheapest: the program's. -/
import Derived.Test.YtalfbldkdlanoaaDoorElimM
import Derived.Test.YtalfbldkdlanoaaDoorMiss
import Derived.Test.YtalfbldkdlanoaaDoorClique
import Derived.Test.YtalfbldkdlanoaaDoorLeft
import Derived.Test.YtalfbldkdlanoaaDoorQTail
import Derived.Deep.RegionWith
import Derived.Test.YtalfbldkdlanoaaDoorFn
import Derived.Test.YtalfbldkdlanoaaDoorNets
import Derived.Test.YtalfbldkdlanoaaDoorDegS
namespace Go.Proofs.YtalfbldkdlanoaaDoor
open Go.RowKit
section
theorem ownM_rd {e : TypeId} {w : World} {B n c : Nat} {a : Option Addr} {A : List Nat} (h : Own e w B (.slice a n c) (A.map maskF)) : Rd maskF w a A := by
  obtain ⟨a', c', h1, h2, _⟩ := h.rd
  obtain ⟨rfl, _, rfl⟩ := slice_inj h1
  exact h2
theorem map_set_maskF (A : List Nat) (i x : Nat) : (A.map maskF).set i (maskF x) = (A.set i x).map maskF := by rw [List.map_set]
theorem elimL_lt {n : Nat} {A : List Nat} {N : Nat} {L : List Nat} (hA : GA n A) (hN : N < 2 ^ n) (hL : ∀ u ∈ L, u < A.length) (a : Nat) : (elimL A N L).getD a 0 < 2 ^ n := by
  refine mask_lt _ n (fun i hi => ?_)
  rcases (elimL_bit hL a i).1 hi with h | ⟨_, h⟩
  · exact (hA.lt h).2
  · rw [testBit_dif, Bool.and_eq_true] at h
    exact bit_under hN h.1
set_option maxRecDepth 100000 in
set_option maxHeartbeats 4000000 in
theorem eliminate_any (B gb n cap : Nat) (A : List Nat) (S v : Nat) (w : World) (hA : GA n A) (ho : Own 82 w B (.slice (some ⟨gb, 0, none⟩) n cap) (A.map maskF)) (hT : TabOk w) (hS : S < 2 ^ n) (hv : v < n) :
    Calls Tryd.prog 136 #[.slice (some ⟨gb, 0, none⟩) n cap, .int .u32 S, .int .i64 v] w fun e w' => e = .returned (.tuple #[]) ∧ Own 82 w' B (.slice (some ⟨gb, 0, none⟩) n cap) ((elimA A (nearV A S v)).map maskF) ∧ Kept (fun g => g = gb) w w' := by
  have OA := hid ho; have RT := hid hT; have HA := hid hA
  have hn := hA.le
  have HLEN := hid hA.len
  have hp : 2 ^ n ≤ 65536 := Nat.pow_le_pow_right (n := 2) (i := n) (j := 16) (by decide) hn
  have hvl : v < A.length := by rw [HLEN.out]; exact hv
  have c0 := ho.cell v (by rw [List.length_map]; exact hvl)
  rw [List.getElem_map, ← getD_in hvl] at c0
  have hx := hA.in2 v
  have hgb := ho.lt gb rfl
  have HN := hid (nearV_lt hA S v)
  have HNE := hid (show dif (A.getD v 0 &&& S) (2 ^ v) = nearV A S v from rfl)
  clear ho hT hvl hA
  generalize A.getD v 0 = X at *
  generalize nearV A S v = N at *
  have hn2 := HN.out
  have hand := u32_and_nat X S (by omega) (by omega)
  have hXS : X &&& S < 65536 := Nat.lt_of_le_of_lt Nat.and_le_left (by omega)
  have hpw : 2 ^ v < 65536 := Nat.pow_lt_pow_right (by decide) (show v < 16 by omega)
  have hdf := u32_dif (X &&& S) (2 ^ v) (by omega) (by omega)
  rw [HNE.out] at hdf
  generalize X &&& S = Y at *
  generalize hPP : 2 ^ v = P at *
  have hvi : (v : Int) < (n : Int) := by omega
  have hml := mems_len N
  have HMB := hid (fun k (hk : k < (memsN N).length) => (memsN_mem (show N < 4294967296 by omega)).1 (List.getElem_mem hk))
  have HLN := hid (mems_lenN N)
  have HEL := hid (fun k (a : Nat) => elimL_lt (L := (memsN N).take k) HA.out HN.out (fun u hu => by
    have h1 := (memsN_mem (show N < 4294967296 by omega)).1 (List.mem_of_mem_take hu)
    rw [HLEN.out]; exact bit_under HN.out h1) a)
  unfold maskF at c0
  clear hx HNE
  have B0 := hid (Below.refl w.heap.size w)
  have hN16 : N < 65536 := by omega
  go_enter Tryd.func136, Tryd.ntmps136
  go_wp2
  have qc0 := fun (p : Bel _) => cellB p.h c0 (Nat.le_refl _)
  refine wp_quiet_b (by kernel_rfl) (by kernel_rfl) ?_
  repeat (go_big_quiet_step (first | (go_at_call 117; exact qbs (one_p v P _ (by omega) hPP))))
  refine wpQuiet_nil ?_
  intro _ hw'
  obtain ⟨⟨w1, hb⟩, rfl⟩ := hw'
  clear qc0
  replace RT := hid (RT.out.below hb (Nat.le_refl _))
  replace OA := hid (OA.out.past hb (Nat.le_refl _))
  replace B0 := hid (bon B0.out hb)
  replace c0 := cellB hb c0 (Nat.le_refl _)
  clear hb
  rename_i wi
  clear c0
  have HB0 := hid B0.out
  go_wp2_with fail
  refine (list_any N _ RT.out hN16).mono ?_
  rintro e w2 ⟨lv, rfl, hown, hb⟩
  replace RT := hid (RT.out.below hb (Nat.le_refl _))
  replace OA := hid (OA.out.past hb (Nat.le_refl _))
  replace B0 := hid (bon B0.out hb)
  clear hb
  obtain ⟨la, lc, rfl, hlr, _, _, _, hlb⟩ := hown.rd
  have RL := hid hlr; have HLB := hid hlb; clear hlr hown hlb
  have hszb := B0.out.size
  have hsw := HB0.out.size
  go_wp2
  go_loopw [8, 21] (fun _ x wr => ∃ k : Nat, k ≤ (mems N).length ∧ x = .int .i64 k ∧ Own 82 wr B (.slice (some ⟨gb, 0, none⟩) n cap) ((elimL A N ((memsN N).take k)).map maskF) ∧ Kept (fun g => g = gb) w2 wr) (fun _ x _ => (mems N).length - (intOf x).toNat)
  case atStart => exact ⟨0, Nat.zero_le _, rfl, OA.out, Kept.refl _ _⟩
  case round =>
    obtain ⟨k, hk, rfl, ho, hkp⟩ := hrel
    have OE := hid ho; have KP := hid hkp
    clear ho hkp
    by_cases hlt : k < (mems N).length
    · obtain ⟨lb, lo, hla, cl⟩ := RL.out k hlt
      have hlb := (HLB.out lb lo hla).1
      have cl2 := cellK KP.out cl (by simp only; omega)
      have hatl := at_slice tIntsL hla (mems N).length lc k hlt
      have hki : (k : Int) < ((mems N).length : Int) := by omega
      have hltN : k < (memsN N).length := by rw [← HLN.out]; exact hlt
      have hub := HMB.out k hltN
      have hul : (memsN N)[k] < n := bit_under HN.out hub
      have HT := hid (elimL_take A N (memsN N) k hltN)
      have hEl : (elimL A N ((memsN N).take k)).length = n := by rw [elimL_len, HLEN.out]
      have hE := HEL.out k
      rw [memsN_get hlt] at cl2
      clear cl hub
      generalize (memsN N)[k] = u at *
      generalize elimL A N ((memsN N).take k) = E at *
      have cu := OE.out.cell u (by rw [List.length_map, hEl]; exact hul)
      rw [List.getElem_map, ← getD_in (by rw [hEl]; exact hul)] at cu
      have hEu := hE u
      have hfr := OE.out.free u
      generalize E.getD u 0 = X at *
      have hpu : 2 ^ u < 65536 := Nat.pow_lt_pow_right (by decide) (show u < 16 by omega)
      have hdu := u32_dif N (2 ^ u) (by omega) (by omega)
      have hdl := dif_le N (2 ^ u)
      have hor := u32_or_nat X (dif N (2 ^ u)) (by omega) (by omega)
      generalize hPU : 2 ^ u = PU at *
      generalize dif N PU = DU at *
      have hst := OE.out.store u (by rw [List.length_map, hEl]; exact hul) (maskF (X ||| DU))
      rw [← List.map_set] at hst
      unfold maskF at cu
      have hui : (u : Int) < (n : Int) := by omega
      have HLA := hid hla
      clear hla
      have BS := hid (Below.refl wr.heap.size wr)
      have HEL2 := hid hEl
      clear hst hEl hE
      go_wp2
      have qcl2 := fun (p : Bel _) => cellB p.h cl2 (Nat.le_refl _)
      have qcu := fun (p : Bel _) => cellB p.h cu (Nat.le_refl _)
      refine wp_quiet_tail_b 10 (by kernel_rfl) (by kernel_rfl) ?_
      simp only [List.take_succ_cons, List.take_zero, List.drop_succ_cons, List.drop_zero]
      repeat (go_big_quiet_step (first | (go_at_call 117; exact qbs (one_p u PU _ (by omega) hPU))))
      refine wpQuiet_nil ?_
      intro _ hw'
      obtain ⟨⟨w3, hb⟩, rfl⟩ := hw'
      clear qcl2 qcu
      replace OE := hid (OE.out.past hb (Nat.le_refl _))
      replace BS := hid (bon BS.out hb)
      replace cl2 := cellB hb cl2 (Nat.le_refl _)
      replace cu := cellB hb cu (Nat.le_refl _)
      clear hb
      rename_i wt
      have hst := OE.out.store u (by rw [List.length_map, HEL2.out]; exact hul) (maskF (X ||| DU))
      rw [← List.map_set] at hst
      have OE2 := hid hst
      have hfr2 := OE.out.free u
      have K2 := hid (Kept.setCell (S := fun g => g = gb) (KP.out.trans (Kept.of_below _ BS.out)) (p := ⟨gb, u, none⟩) rfl (maskF (X ||| DU)))
      unfold maskF at K2
      clear hst OE KP hfr
      go_wp2
      go_roundw
      case rel => exact ⟨k + 1, by omega, by go_num, by rw [HT.out]; exact OE2.out, K2.out⟩
      case measure => simp [intOf]; omega
    · obtain rfl : k = (mems N).length := by omega
      have HF := hid (show elimL A N ((memsN N).take (mems N).length) = elimA A N by rw [HLN.out, List.take_length]; rfl)
      go_wp2
      refine bodyPost_end (results_none rfl _ _ _) rfl ?_
      exact ⟨rfl, by rw [← HF.out]; exact OE.out, (Kept.of_below _ B0.out).trans KP.out⟩
end
section
/-- What is asked of the cost: it answers of each set of a right graph, in whatever world has the table. -/
def Costs (P : Program) (F : FuncId) (fill : Bool) : Prop :=
  ∀ (b : Option Addr) (n cap : Nat) (A : List Nat) (M : Nat) (w : World), TabOk w → Rd maskF w b A → GA n A → M < 2 ^ n → Calls P F #[.slice b n cap, .int .u32 M] w fun e w' => e = .returned (.int .i64 (costF fill A M : Nat)) ∧ Below w.heap.size w w'
set_option maxRecDepth 100000 in
set_option maxHeartbeats 4000000 in
theorem orderBy_any (fill : Bool) (F : FuncId) (a : Option Addr) (A0 : List Nat) (n c : Nat) (w : World) (hA : GA n A0) (hr : Rd maskF w a A0) (ha : a = none → c = 0) (hT : TabOk w) (hE : Enters Tryd.prog F) (hF : Costs Tryd.prog F fill) :
    Calls Tryd.prog 86 #[.slice a n c, .func (.func F) #[] #[]] w (RetOwn 3 ((ordR fill n A0 (2 ^ n - 1)).map fun i : Nat => Value.int .i64 (i : Int)) w) := by
  have RA := hid hr; have RT := hid hT; have HF := hid hF; have HGA0 := hid hA
  have h16 := hA.le
  have hlen := hA.len
  have hpos1 := hA.pos
  have hpos := Nat.two_pow_pos n
  have hp : 2 ^ n ≤ 65536 := Nat.pow_le_pow_right (n := 2) (i := n) (j := 16) (by decide) h16
  have HFULL := hid (memsN_full (show n ≤ 32 by omega))
  have HF0 := hid (show 2 ^ n - 1 < 2 ^ n by omega)
  clear hr hT hF hA
  have RT0 := hid RT.out
  obtain ⟨F0, hF0⟩ : ∃ F0, 2 ^ n - 1 = F0 := ⟨_, rfl⟩
  rw [hF0] at HF0 HFULL ⊢
  have B0 := hid (alloc_below w (.cells #[] 82))
  have HO := hid (show Own 82 (w.alloc (.cells #[] 82)) w.heap.size (.slice (some ⟨w.heap.size, 0, none⟩) 0 0) [] from own_new 82 w [] (by decide))
  have RA1 := hid (RA.out.below B0.out (Nat.le_refl _))
  go_enter Tryd.func86, Tryd.ntmps86
  subst hlen
  go_wp2_with (at_builtin; refine law_append tNets _ rfl _ _ rfl maskF w.heap.size _ [] rfl HO.out a c A0 rfl RA1.out ha ?c0 ?c1 ?c2 ?_)
  case c0 => intro y _; rfl
  case c1 => simp; omega
  case c2 => simp
  intro gv wa h1 h2
  have B1 := hid (B0.out.trans (grown_below h2 B0.out.size (fun g hg => HO.out.ge g hg)))
  clear h2 HO RA1 B0
  obtain ⟨gb, cap, hgv⟩ : ∃ gb cap, gv = .slice (some ⟨gb, 0, none⟩) A0.length cap := by
    rcases h1.form with ⟨_, h2⟩ | ⟨g, cap, spare, h2, _⟩
    · have h3 := congrArg List.length h2
      rw [List.length_map, List.length_nil] at h3; omega
    · exact ⟨g, cap, by rw [h2, List.length_map]⟩
  subst hgv
  have hgb := h1.ge gb rfl
  have OA := hid h1; clear h1
  replace RT := hid (RT.out.below B1.out (Nat.le_refl _))
  have hszwa := B1.out.size
  have hb := alloc_below wa (.cells #[] 3)
  have OU := hid (show Own 3 (wa.alloc (.cells #[] 3)) wa.heap.size (.slice (some ⟨wa.heap.size, 0, none⟩) 0 0) (([] : List Nat).map fun i : Nat => Value.int .i64 (i : Int)) from own_new 3 wa [] (by decide))
  replace RT := hid (RT.out.below hb (Nat.le_refl _))
  replace OA := hid (OA.out.past hb (Nat.le_refl _))
  replace B1 := hid (bon B1.out hb)
  clear hb
  replace OU := hid (OU.out.base (B' := w.heap.size) hszwa)
  go_wp2_with (first | (go_at_call 95; refine (all_p _ _ _ F0 _ h16 hF0).mono ?_; rintro e w' ⟨rfl, rfl⟩))
  generalize wa.alloc (.cells #[] 3) = wu at *
  go_loopw [5, 6, 7, 8, 10, 11] (fun o l _ _ _ _ wr => ∃ (D : List Nat) (A : List Nat) (S : Nat), l = .int .u32 S ∧ S < 2 ^ A0.length ∧ D.length + (memsN S).length = A0.length ∧ D ++ ordR fill (memsN S).length A S = ordR fill A0.length A0 F0 ∧ GA A0.length A ∧ Own 3 wr w.heap.size o (D.map fun i : Nat => Value.int .i64 (i : Int)) ∧ Own 82 wr w.heap.size (.slice (some ⟨gb, 0, none⟩) A0.length cap) (A.map maskF) ∧ Below w.heap.size w wr) (fun _ l _ _ _ _ _ => (intOf l).toNat)
  case atStart => exact ⟨[], A0, F0, rfl, HF0.out, by rw [HFULL.out]; simp, by rw [HFULL.out]; rfl, HGA0.out, OU.out, OA.out, B1.out⟩
  case round =>
    clear OU OA B1 RT
    obtain ⟨D, A, S, rfl, hS, hk, hord, hga, ho, hoa, hb⟩ := hrel
    have OU := hid ho; have OA := hid hoa; have HGA := hid hga; have HORD := hid hord; have BL := hid hb
    have RT := hid (RT0.out.below hb (Nat.le_refl _))
    clear ho hoa hga hord hb
    obtain ⟨oa, oc, hov, _⟩ := Own.rd (f := fun i : Nat => Value.int .i64 (i : Int)) OU.out
    subst hov
    have hS32 : S < 4294967296 := by omega
    by_cases h0 : S = 0
    · subst h0
      have HR := hid (show ordR fill A0.length A0 F0 = D by
        rw [← HORD.out, memsN_zero]; simp [ordR])
      go_wp2
      go_ret
      exact ⟨_, rfl, by rw [HR.out]; exact OU.out, BL.out⟩
    · have d0 : ((S : Int) != 0) = true := by simp; omega
      obtain ⟨bb, hbb, hbit⟩ := best_in (f := costV fill A S) hS32 h0
      have HBB := hid hbb
      have HSTEP := hid (ord_step hS32 hbb hbit)
      have hbn : bb < A0.length := bit_under hS hbit
      have HML := hid (memsN_dif hS32 hbit)
      have HDL := hid (dif_bit_lt hbit)
      clear hbb hbit
      go_wp2_with fail
      refine (list_any S _ RT.out (by omega)).mono ?_
      rintro e w1 ⟨lv, rfl, hown, hb⟩
      replace RT := hid (RT.out.below hb (Nat.le_refl _))
      replace OU := hid (OU.out.past hb (Nat.le_refl _))
      replace OA := hid (OA.out.past hb (Nat.le_refl _))
      replace BL := hid (bon BL.out hb)
      clear hb
      obtain ⟨la, lc, rfl, hlr, _, _, _, hlb⟩ := hown.rd
      have RL := hid hlr; clear hlr hown hlb
      have hml := mems_len S
      go_wp2
      go_loopw [7, 8, 10, 11, 23] (fun b l _ _ x wq => ∃ k : Nat, k ≤ (mems S).length ∧ x = .int .i64 k ∧ b = .int .i64 (optI (bestO (costV fill A S) ((memsN S).take k))) ∧ l = .int .i64 ((leastO (costV fill A S) (bestO (costV fill A S) ((memsN S).take k)) : Nat) : Int) ∧ Below w1.heap.size w1 wq) (fun _ _ _ _ x _ => (mems S).length - (intOf x).toNat)
      case atStart => exact ⟨0, Nat.zero_le _, rfl, rfl, rfl, Below.refl _ _⟩
      case round =>
        obtain ⟨k, hk2, rfl, hbe, hle, hb⟩ := hrel
        have BQ := hid hb
        replace RT := hid (RT.out.below hb (Nat.le_refl _))
        replace OU := hid (OU.out.past hb (Nat.le_refl _))
        replace OA := hid (OA.out.past hb (Nat.le_refl _))
        replace BL := hid (bon BL.out hb)
        replace RL := hid (RL.out.below hb (Nat.le_refl _))
        clear hb
        by_cases hlt : k < (mems S).length
        · subst hbe hle
          obtain ⟨lb, lo, rfl, cl⟩ := RL.out k hlt
          have hki : (k : Int) < ((mems S).length : Int) := by omega
          have hltN : k < (memsN S).length := by rw [← mems_lenN]; exact hlt
          have HS1 := hid (stepT (costV fill A S) (memsN S) k hltN)
          have hvb := (memsN_mem hS32).1 (List.getElem_mem hltN)
          have hvl := bit_under hS hvb
          clear hvb
          rw [memsN_get hlt] at cl
          generalize (memsN S)[k] = v at *
          have hAl : v < A.length := by rw [HGA.out.len]; exact hvl
          have cu := OA.out.cell v (by rw [List.length_map]; exact hAl)
          rw [List.getElem_map, ← getD_in hAl] at cu
          have hx := HGA.out.in2 v
          have HC0 := hid (show costV fill A S v = costF fill A (A.getD v 0 &&& S) from rfl)
          generalize A.getD v 0 = X at *
          have hand := u32_and_nat X S (by omega) (by omega)
          have hMM : X &&& S < 2 ^ A0.length := Nat.lt_of_le_of_lt Nat.and_le_left hx
          generalize X &&& S = MM at *
          have hvi : (v : Int) < (A0.length : Int) := by omega
          unfold maskF at cu
          have hE' := hE
          unfold Enters at hE'
          clear hAl
          go_wp2_with fail
          refine (HF.out _ _ _ A MM _ RT.out (ownM_rd OA.out) HGA.out hMM).mono ?_
          rintro e wz ⟨rfl, hb⟩
          replace RT := hid (RT.out.below hb (Nat.le_refl _))
          replace OU := hid (OU.out.past hb (Nat.le_refl _))
          replace OA := hid (OA.out.past hb (Nat.le_refl _))
          replace BL := hid (bon BL.out hb)
          replace RL := hid (RL.out.below hb (Nat.le_refl _))
          replace BQ := hid (bon BQ.out hb)
          clear hb
          clear cl cu hE'
          generalize costF fill A MM = cv at *
          have HC := hid HC0.out
          clear HC0
          cases hbo : bestO (costV fill A S) ((memsN S).take k) with
          | none =>
            rw [hbo] at HS1
            have HE := hid (show bestO (costV fill A S) ((memsN S).take (k + 1)) = some v by rw [HS1.out]; rfl)
            have e0 : optI none = -1 := rfl
            have e1 : leastO (costV fill A S) none = 0 := rfl
            rw [e0, e1]
            clear hbo e0 e1
            go_wp2
            go_roundw
            case rel => exact ⟨k + 1, by omega, by go_num, by rw [HE.out]; rfl, by rw [HE.out]; show _ = Value.int .i64 ((costV fill A S v : Nat) : Int); rw [HC.out], BQ.out⟩
            case measure => simp [intOf]; omega
          | some m =>
            rw [hbo] at HS1
            have e0 : optI (some m) = (m : Int) := rfl
            have e1 : leastO (costV fill A S) (some m) = costV fill A S m := rfl
            rw [e0, e1]
            clear hbo e0 e1
            by_cases hc : costV fill A S v < costV fill A S m
            · have HE := hid (show bestO (costV fill A S) ((memsN S).take (k + 1)) = some v by rw [HS1.out]; unfold stepB; simp only; rw [if_pos hc])
              rw [HC.out] at hc
              generalize costV fill A S m = cm at *
              have hci : (cv : Int) < (cm : Int) := by omega
              go_wp2
              go_roundw
              case rel => exact ⟨k + 1, by omega, by go_num, by rw [HE.out]; rfl, by rw [HE.out]; show _ = Value.int .i64 ((costV fill A S v : Nat) : Int); rw [HC.out], BQ.out⟩
              case measure => simp [intOf]; omega
            · have HE := hid (show bestO (costV fill A S) ((memsN S).take (k + 1)) = some m by rw [HS1.out]; unfold stepB; simp only; rw [if_neg hc])
              rw [HC.out] at hc
              obtain ⟨cm, hcm⟩ : ∃ cm, costV fill A S m = cm := ⟨_, rfl⟩
              have HCM := hid hcm
              rw [hcm] at hc
              rw [hcm]
              clear hcm
              have hci : ¬ (cv : Int) < (cm : Int) := by omega
              go_wp2
              go_roundw
              case rel => exact ⟨k + 1, by omega, by go_num, by rw [HE.out]; rfl, by rw [HE.out]; show _ = Value.int .i64 ((costV fill A S m : Nat) : Int); rw [HCM.out], BQ.out⟩
              case measure => simp [intOf]; omega
        · obtain rfl : k = (mems S).length := by omega
          have hbe2 := hbe.trans (show Value.int .i64 (optI (bestO (costV fill A S) ((memsN S).take (mems S).length))) = .int .i64 (bb : Int) by rw [mems_lenN, List.take_length, HBB.out]; rfl)
          clear hbe
          subst hbe2
          have HLE := hid hle
          clear hle
          have hbi : (bb : Int) < (A0.length : Int) := by omega
          go_wp2_with fail
          refine (eliminate_any w.heap.size gb A0.length cap A S bb _ HGA.out OA.out RT.out hS hbn).mono ?_
          rintro e we ⟨rfl, hoe, hke⟩
          have OA2 := hid hoe
          have OU2 := hid (OU.out.keptS hke (fun g hg e => by
            rcases OU.out.ne OA.out (by decide) with h1 | h1
            · rw [h1] at hg; cases hg
            · exact h1 (by rw [hg, e]; rfl)))
          have BL2 := hid (BL.out.trans (Kept.below1 hke hgb BL.out.size))
          have HGE := hid (HGA.out.elim (nearV_lt HGA.out S bb))
          clear hoe hke OA OU BL RT RL BQ
          have hs2 := BL2.out.size
          have hpw : 2 ^ bb < 65536 := Nat.pow_lt_pow_right (by decide) (show bb < 16 by omega)
          have hdf := u32_dif S (2 ^ bb) (by omega) (by omega)
          have hdl := HDL.out
          have hml2 := HML.out
          have HS2 := hid (show dif S (2 ^ bb) < 2 ^ A0.length by omega)
          have HK2 := hid (show (D ++ [bb]).length + (memsN (dif S (2 ^ bb))).length = A0.length by rw [List.length_append, List.length_singleton]; omega)
          have HO2 := hid (show (D ++ [bb]) ++ ordR fill (memsN (dif S (2 ^ bb))).length (elimA A (nearV A S bb)) (dif S (2 ^ bb)) = ordR fill A0.length A0 F0 by
            rw [List.append_assoc, List.singleton_append, ← HSTEP.out]; exact HORD.out)
          have HDL2 := hid (show dif S (2 ^ bb) < S from HDL.out)
          clear hdl hml2 HML HDL HSTEP
          generalize dif S (2 ^ bb) = S2 at *
          generalize hPP : 2 ^ bb = PP at *
          go_wp2_with (first | (go_at_call 117; refine (one_p bb PP _ (by omega) hPP).mono ?_; rintro e w' ⟨rfl, rfl⟩) | (at_builtin; refine law_push tIntsL _ rfl _ _ rfl w.heap.size _ (D.map fun i : Nat => Value.int .i64 (i : Int)) rfl OU2.out _ _ rfl ?c0 rfl ?c1 ?c2 ?_))
          case c0 => simp
          case c1 => rw [List.length_map]; omega
          case c2 => omega
          intro v' w6 h1 h2
          have OU6 := hid (show Own 3 w6 w.heap.size v' ((D ++ [bb]).map fun i : Nat => Value.int .i64 (i : Int)) by rw [List.map_append]; exact h1)
          have OA6 := hid (OA2.out.kept h2 (OA2.out.ne OU2.out (by decide)))
          have BL6 := hid (BL2.out.trans (grown_below h2 hs2 (fun g hg => OU2.out.ge g hg)))
          clear h1 h2 OU2 OA2 BL2
          have hdl2 := HDL2.out
          go_wp2
          go_roundw
          case rel => exact ⟨D ++ [bb], elimA A (nearV A S bb), S2, rfl, HS2.out, HK2.out, HO2.out, HGE.out, OU6.out, OA6.out, BL6.out⟩
          case measure => simp [intOf]; omega
end
end Go.Proofs.YtalfbldkdlanoaaDoor
