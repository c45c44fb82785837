/- PerfectOrder, ChordalIn: the program's. -/
import Derived.Test.YtlnhfafnhclolaaDoorPerfM
import Derived.Test.YtlnhfafnhclolaaDoorLeft
import Derived.Test.YtlnhfafnhclolaaDoorMiss
import Derived.Test.YtlnhfafnhclolaaDoorClique
namespace Go.Proofs.YtlnhfafnhclolaaDoor
open Go.RowKit
def castL (l : List Nat) : List Int := l.map fun i : Nat => (i : Int)
theorem castL_snoc (l : List Nat) (v : Nat) : castL (l ++ [v]) = castL l ++ [(v : Int)] := by simp [castL]
theorem castL_len (l : List Nat) : (castL l).length = l.length := by simp [castL]
def PerfPost (x : Option (List Nat)) (w : World) (E : Ending) (w' : World) : Prop :=
  (x = none ∧ E = .returned (.slice none 0 0) ∧ Below w.heap.size w w') ∨ ∃ l, x = some l ∧ RetOwn 3 ((castL l).map (.int .i64)) w E w'
theorem perf_map {A : List Nat} {S v : Nat} {D : List Nat} {x : Option (List Nat)} (hS : S < 4294967296) (h : firstP A S = some v) (hx : x = (perfR A (memsN S).length S).map (D ++ ·)) :
    x = (perfR A (memsN (dif S (2 ^ v))).length (dif S (2 ^ v))).map ((D ++ [v]) ++ ·) := by
  rw [hx, perf_step hS h, Option.map_map]
  congr 1
  funext l
  simp
set_option maxRecDepth 100000 in
set_option maxHeartbeats 2000000 in
theorem perfectOrder_any (a : Option Addr) (A : List Nat) (c n : Nat) (w : World) (x : Option (List Nat)) (hx : perfR A n (2 ^ n - 1) = x) (hlen : A.length = n) (hT : TabOk w) (hr : Rd maskF w a A) (hA : ∀ x ∈ A, x < 65536) (hAn : n ≤ 16) :
    Calls Tryd.prog 76 #[.slice a n c] w (PerfPost x w) := by
  have RT := hid hT; have RA := hid hr; have HA := hid hA
  have HLN := hid hlen
  have HM := hid (fun (s : Nat) (w : World) (hT : TabOk w) (hr : Rd maskF w a A) (hs : s < 2 ^ n) => (show Calls Tryd.prog 53 #[.slice a n c, .int .u32 s] w fun e w' => e = .returned (.int .i64 (missM A s : Nat)) ∧ Below w.heap.size w w' by
    subst hlen; exact missing_any a A c s w hT hr hA hAn hs))
  have hp : 2 ^ n ≤ 65536 := Nat.pow_le_pow_right (n := 2) (i := n) (j := 16) (by decide) hAn
  have hpos := Nat.two_pow_pos n
  have hfull := memsN_full (show n ≤ 32 by omega)
  have HX0 := hid (show x = (perfR A (memsN (2 ^ n - 1)).length (2 ^ n - 1)).map ([] ++ ·) by rw [hfull, hx]; simp)
  have HS0 := hid (show 2 ^ n - 1 < 2 ^ n by omega)
  have HFULL := hid hfull
  clear hT hr hA hx hlen hfull hpos
  have B0 := hid (alloc_below w (.cells #[] 3))
  have HO := hid (show Own 3 (w.alloc (.cells #[] 3)) w.heap.size (.slice (some ⟨w.heap.size, 0, none⟩) 0 0) ((castL []).map (.int .i64)) from own_new 3 w [] (by decide))
  generalize hF : 2 ^ n - 1 = F at *
  go_enter Tryd.func76, Tryd.ntmps76
  go_wp2_with (first | (go_at_call 72; refine (all_p _ _ _ F _ hAn hF).mono ?_; rintro e w' ⟨rfl, rfl⟩))
  go_loopw [3, 4, 5, 7] (fun o l _ _ wr => ∃ (S : Nat) (D : List Nat), l = .int .u32 S ∧ S < 2 ^ n ∧ D.length + (memsN S).length = n ∧ Own 3 wr w.heap.size o ((castL D).map (.int .i64)) ∧ x = (perfR A (memsN S).length S).map (D ++ ·) ∧ Below w.heap.size w wr) (fun _ l _ _ _ => (intOf l).toNat)
  case atStart => exact ⟨F, [], rfl, HS0.out, by rw [HFULL.out]; simp, HO.out, HX0.out, B0.out⟩
  case round =>
    obtain ⟨S, D, rfl, hS, hlen, ho, hx, hb⟩ := hrel
    have OM := hid ho; have HX := hid hx; have BL := hid hb; clear ho hx
    replace RT := hid (RT.out.below hb (Nat.le_refl _))
    replace RA := hid (RA.out.below hb (Nat.le_refl _))
    clear hb
    have hS32 : S < 4294967296 := by omega
    have BS := hid (Below.refl wr.heap.size wr)
    by_cases h0 : S = 0
    · subst h0
      have HXD := hid (show x = some D by rw [HX.out, memsN_zero]; simp [perfR])
      go_wp2
      go_ret
      exact .inr ⟨D, HXD.out, _, rfl, OM.out, BL.out⟩
    · have d0 : ((S : Int) != 0) = true := by simp; omega
      have HN0 := hid h0; clear h0
      go_wp2_with fail
      refine (list_any S _ RT.out (by omega)).mono ?_
      rintro e w1 ⟨lv, rfl, ho, hb⟩
      replace RT := hid (RT.out.below hb (Nat.le_refl _))
      replace RA := hid (RA.out.below hb (Nat.le_refl _))
      replace OM := hid (OM.out.past hb (Nat.le_refl _))
      replace BS := hid (bon BS.out hb)
      clear hb
      obtain ⟨la, lc, rfl, hlr, _, _, _, hlb⟩ := ho.rd
      have RL := hid hlr; clear hlr ho hlb
      have BL1 := hid (BL.out.trans (BS.out.mono BL.out.size))
      have hml := mems_len S
      go_wp2
      go_loopw [5, 7, 16] (fun f _ i wq => ∃ k : Nat, k ≤ (mems S).length ∧ i = .int .i64 k ∧ f = .int .i64 (-1) ∧ (∀ j (hj : j < (memsN S).length), j < k → simpB A S (memsN S)[j] = false) ∧ Below w1.heap.size w1 wq) (fun _ _ i _ => (mems S).length - (intOf i).toNat)
      case atStart => exact ⟨0, Nat.zero_le _, rfl, rfl, fun j _ hj => absurd hj (Nat.not_lt_zero j), Below.refl _ _⟩
      case round =>
        obtain ⟨k, hk, rfl, rfl, hno, hb⟩ := hrel
        have HNO := hid hno; clear hno
        have BQ := hid hb
        replace RT := hid (RT.out.below hb (Nat.le_refl _))
        replace RA := hid (RA.out.below hb (Nat.le_refl _))
        replace RL := hid (RL.out.below hb (Nat.le_refl _))
        replace OM := hid (OM.out.past hb (Nat.le_refl _))
        clear hb
        by_cases hlt : k < (mems S).length
        · obtain ⟨lb, lo, rfl, cl⟩ := RL.out k hlt
          have hki : (k : Int) < ((mems S).length : Int) := by omega
          have hltN : k < (memsN S).length := by rw [← mems_lenN]; exact hlt
          have hvb := (memsN_mem hS32).1 (List.getElem_mem hltN)
          have hvl := bit_under hS hvb
          have HFA := hid (fun (h : simpB A S (memsN S)[k] = true) => (show firstP A S = some (memsN S)[k] from find_at hltN (fun j hj => HNO.out j _ hj) h))
          have HFB := hid (fun (h : simpB A S (memsN S)[k] = false) => (show ∀ j (hj : j < (memsN S).length), j < k + 1 → simpB A S (memsN S)[j] = false from fun j hj hjk => by
            by_cases e : j = k
            · subst e; exact h
            · exact HNO.out j hj (by omega)))
          have HVB := hid hvb; clear hvb
          rw [memsN_get hlt] at cl
          generalize (memsN S)[k] = v at *
          obtain ⟨ab, ao, rfl, cv⟩ := RA.out v (by rw [HLN.out]; exact hvl)
          have hAv := HA.out _ (List.getElem_mem (show v < A.length by rw [HLN.out]; exact hvl))
          have hev : simpB A S v = (missM A (A[v]'(by rw [HLN.out]; exact hvl) &&& S) == 0) := by
            unfold simpB; rw [List.getD_eq_getElem?_getD, List.getElem?_eq_getElem (show v < A.length by rw [HLN.out]; exact hvl)]; rfl
          unfold maskF at cv
          have hvi : (v : Int) < (n : Int) := by omega
          rw [hev] at HFA HFB
          clear hev
          generalize A[v]'(by rw [HLN.out]; exact hvl) = X at *
          have hand := u32_and_nat X S (by omega) (by omega)
          have hX : X &&& S < 2 ^ n := Nat.lt_of_le_of_lt Nat.and_le_right hS
          generalize X &&& S = MX at *
          go_wp2_with fail
          refine (HM.out MX _ RT.out RA.out hX).mono ?_
          rintro e w2 ⟨rfl, hb⟩
          replace RT := hid (RT.out.below hb (Nat.le_refl _))
          replace RA := hid (RA.out.below hb (Nat.le_refl _))
          replace RL := hid (RL.out.below hb (Nat.le_refl _))
          replace OM := hid (OM.out.past hb (Nat.le_refl _))
          replace BQ := hid (bon BQ.out hb)
          replace cl := cellB hb cl (Nat.le_refl _)
          replace cv := cellB hb cv (Nat.le_refl _)
          clear hb
          generalize missM A MX = MM at *
          by_cases hz : MM = 0
          · have dz : ((MM : Int) == 0) = true := by simp; omega
            have HF1 := hid (HFA.out (by simpa using hz))
            have hvn : ¬ (v : Int) < 0 := by omega
            have HX2 := hid (perf_map hS32 HF1.out HX.out)
            have HMD := hid (memsN_dif hS32 HVB.out)
            have hdl := dif_bit_lt HVB.out
            have hpw : 2 ^ v < 65536 := Nat.pow_lt_pow_right (by decide) (show v < 16 by omega)
            have hdf := u32_dif S (2 ^ v) (by omega) (by omega)
            have HC := hid (show (castL (D ++ [v])).map (Value.int .i64) = (castL D).map (Value.int .i64) ++ [.int .i64 (v : Int)] by rw [castL_snoc, List.map_append]; rfl)
            have hDl : ((castL D).map (Value.int .i64)).length ≤ 16 := by rw [List.length_map, castL_len]; omega
            have BL2 := hid (BL1.out.trans (BQ.out.mono BL1.out.size))
            have hszz := BL2.out.size
            clear HFA HFB HNO HX HN0 hz
            generalize hPP : 2 ^ v = P at *
            go_wp2_with (first | (go_at_call 75; refine (one_p v P _ (by omega) hPP).mono ?_; rintro e w' ⟨rfl, rfl⟩) | (at_builtin; refine law_push tIntsL _ rfl _ _ rfl w.heap.size _ ((castL D).map (.int .i64)) rfl OM.out _ _ rfl ?c0 rfl ?c1 ?c2 ?_))
            case c0 => simp
            case c1 => omega
            case c2 => exact hszz
            intro v' w' h1 h2
            have HN := hid h1
            have HBB := hid (BL2.out.trans (grown_below h2 hszz (fun g hg => OM.out.ge g hg)))
            clear h1 h2
            go_wp2
            go_roundw
            case rel => exact ⟨dif S P, D ++ [v], rfl, by omega, by have := HMD.out; simp; omega, by rw [HC.out]; exact HN.out, HX2.out, HBB.out⟩
            case measure => simp [intOf]; omega
          · have dz : ((MM : Int) == 0) = false := by simp; omega
            have HF2 := hid (HFB.out (by simpa using hz))
            go_wp2
            go_roundw
            case rel => exact ⟨k + 1, by omega, by go_num, rfl, HF2.out, BQ.out⟩
            case measure => simp [intOf]; omega
        · obtain rfl : k = (mems S).length := by omega
          have HXN := hid (show x = none by
            rw [HX.out, perf_none hS32 HN0.out (find_no (fun j hj => HNO.out j hj (by rw [mems_lenN]; exact hj)))]; rfl)
          have BL2 := hid (BL1.out.trans (BQ.out.mono BL1.out.size))
          go_wp2
          go_ret
          exact .inl ⟨HXN.out, rfl, BL2.out⟩
end Go.Proofs.YtlnhfafnhclolaaDoor
