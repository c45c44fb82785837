/- The sets the other way round, step by step; the layers: the program's. -/
import Derived.Test.YtdncmloajajiaaaDoorLongI
import Derived.Test.YtdncmloajajiaaaDoorOrderI
import Derived.Test.YtdncmloajajiaaaDoorQTail
namespace Go.Proofs.YtdncmloajajiaaaDoor
open Go.RowKit
section
/-- u comes to each of L. -/
def trnR (T : List Nat) (u : Nat) (L : List Nat) : List Nat := L.foldl (fun T v => T.set v (T.getD v 0 ||| 2 ^ u)) T
theorem trnR_take (T : List Nat) (u : Nat) (L : List Nat) (k : Nat) (h : k < L.length) : trnR T u (L.take (k + 1)) = (trnR T u (L.take k)).set L[k] ((trnR T u (L.take k)).getD L[k] 0 ||| 2 ^ u) := by
  unfold trnR
  rw [List.take_succ_eq_append_getElem h, List.foldl_append]; rfl
theorem trnR_len (T : List Nat) (u : Nat) (L : List Nat) : (trnR T u L).length = T.length := by
  unfold trnR
  induction L generalizing T with
  | nil => rfl
  | cons v L ih => rw [List.foldl_cons, ih, List.length_set]
theorem trnR_bit {u : Nat} : ∀ {L : List Nat} {T : List Nat}, (∀ v ∈ L, v < T.length) → ∀ a b, bt (trnR T u L) a b = true ↔ bt T a b = true ∨ (a ∈ L ∧ b = u) := by
  intro L
  induction L with
  | nil => intro T _ a b; exact ⟨.inl, fun h => h.elim id (fun h => by cases h.1)⟩
  | cons v L ih =>
    intro T hT a b
    have hv := hT v List.mem_cons_self
    have hstep : trnR T u (v :: L) = trnR (T.set v (T.getD v 0 ||| 2 ^ u)) u L := rfl
    rw [hstep, ih (fun x hx => by rw [List.length_set]; exact hT x (List.mem_cons_of_mem _ hx)), bt_set a b hv, List.mem_cons]
    by_cases h : a = v
    · subst h
      rw [if_pos rfl, Nat.testBit_or, Bool.or_eq_true, Nat.testBit_two_pow, decide_eq_true_iff]
      unfold bt
      constructor
      · rintro ((h | h) | h)
        · exact .inl h
        · exact .inr ⟨.inl rfl, h.symm⟩
        · exact .inr ⟨.inl rfl, h.2⟩
      · rintro (h | h)
        · exact .inl (.inl h)
        · exact .inl (.inr h.2.symm)
    · rw [if_neg h]
      constructor
      · rintro (h | h)
        · exact .inl h
        · exact .inr ⟨.inr h.1, h.2⟩
      · rintro (h1 | ⟨h1 | h1, h2⟩)
        · exact .inl h1
        · exact absurd h1 h
        · exact .inr ⟨h1, h2⟩
/-- After the first so many. -/
def trnA (n : Nat) (F : List Nat) : Nat → List Nat
  | 0 => List.replicate n 0
  | k + 1 => trnR (trnA n F k) k (memsN (F.getD k 0))
theorem trnA_len (n : Nat) (F : List Nat) (k : Nat) : (trnA n F k).length = n := by
  induction k with
  | zero => simp [trnA]
  | succ k ih => show (trnR _ _ _).length = n; rw [trnR_len, ih]
theorem trnA_bit {n : Nat} {F : List Nat} (h : Dag n F) (k : Nat) (a b : Nat) : bt (trnA n F k) a b = true ↔ b < k ∧ bt F b a = true := by
  induction k with
  | zero =>
    have h0 : bt (trnA n F 0) a b = false := by
      unfold bt
      show ((List.replicate n 0).getD a 0).testBit b = false
      by_cases ha : a < n
      · rw [getD_in (by simpa using ha), List.getElem_replicate, Nat.zero_testBit]
      · rw [getD_out (by simp; omega), Nat.zero_testBit]
    rw [h0]
    exact ⟨fun h => (by cases h), fun h => absurd h.1 (Nat.not_lt_zero _)⟩
  | succ k ih =>
    show bt (trnR _ _ _) a b = true ↔ _
    rw [trnR_bit (fun v hv => by rw [trnA_len]; exact memsN_under h hv), ih, memsN_mem (by have := h.lt32 k; omega)]
    constructor
    · rintro (⟨h1, h2⟩ | ⟨h1, rfl⟩)
      · exact ⟨by omega, h2⟩
      · exact ⟨by omega, h1⟩
    · rintro ⟨h1, h2⟩
      rcases Nat.lt_or_eq_of_le (show b ≤ k by omega) with h3 | rfl
      · exact .inl ⟨h3, h2⟩
      · exact .inr ⟨h2, rfl⟩
theorem trnA_all {n : Nat} {F : List Nat} (h : Dag n F) : trnA n F n = turnF n F := by
  apply bt_ext (by rw [trnA_len, h.turn.len])
  intro a b
  rw [Bool.eq_iff_iff, trnA_bit h, turnF_bit h]
  refine ⟨fun h => h.2, fun hb => ⟨?_, hb⟩⟩
  apply Classical.byContradiction
  intro hn
  unfold bt at hb
  rw [getD_out (by rw [h.len]; omega), Nat.zero_testBit] at hb
  cases hb
theorem trn_lt {n : Nat} {F : List Nat} (h : Dag n F) {k j : Nat} (hk : k < n) (a : Nat) : (trnR (trnA n F k) k ((memsN (F.getD k 0)).take j)).getD a 0 < 2 ^ n := by
  refine mask_lt _ n (fun i hi => ?_)
  rcases (trnR_bit (fun v hv => by rw [trnA_len]; exact memsN_under h (List.mem_of_mem_take hv)) a i).1 hi with h1 | ⟨_, h1⟩
  · have := ((trnA_bit h k a i).1 h1).1; omega
  · omega
def layN (F : List Nat) (k : Nat) : List Int := (List.range k).map fun v => ((longN F v).length : Int) - 1
theorem layN_succ (F : List Nat) (k : Nat) : layN F (k + 1) = layN F k ++ [((longN F k).length : Int) - 1] := by
  unfold layN; rw [List.range_succ, List.map_append]; rfl
theorem layN_len (F : List Nat) (k : Nat) : (layN F k).length = k := by simp [layN]
end
section
set_option maxRecDepth 100000 in
set_option maxHeartbeats 4000000 in
theorem implLayersUp_any (a : Option Addr) (rs : List Row) (c : Nat) (a' : Option Addr) (qs : List Row) (c' : Nat) (w : World) (r : List Int) (hx : layersL (nums rs) (nums qs) = r) (hr : RdM w a rs) (hn : Small rs) (hq : RdM w a' qs) (hm : Small qs) (hT : TabOk w) :
    Calls Tryd.prog 11 #[.agg #[.slice a rs.length c], .slice a' qs.length c'] w (RetOwn 2 (r.map (.int .i64)) w) := by
  have RA := hid hr; have RQ := hid hq; have HX := hid hx; have RT := hid hT; have RTW := hid hT; clear hr hq hx hT
  obtain ⟨w0, hw0⟩ : ∃ w0, w0 = (w.alloc (.cells #[.slice a rs.length c] 29)) := ⟨_, rfl⟩
  have B0 := hid (show Below w.heap.size w w0 by rw [hw0]; exact ((Below.refl _ _).alloc (Nat.le_refl _) _))
  have c0 : w0.cell? ⟨w.heap.size, 0, none⟩ = some (.slice a rs.length c) := by rw [hw0]; simp [go_sem]
  replace RA := hid (RA.out.below B0.out (Nat.le_refl _))
  replace RQ := hid (RQ.out.below B0.out (Nat.le_refl _))
  replace RT := hid (RT.out.below B0.out (Nat.le_refl _))
  have HW := hid hw0; clear hw0
  by_cases ht : TransP (nums rs) (nums qs)
  · have h2 := hid (show decide (TransP (nums rs) (nums qs)) = true by simpa using ht)
    have hdag := dag_of ht
    have hi := up_iff.1 ht.1
    have hql : qs.length = rs.length := by have := hi.len; rwa [nums_length, nums_length] at this
    have h16 : rs.length ≤ 16 := by have := hi.ok.le; rwa [nums_length] at this
    rw [nums_length, ← hql] at hdag
    have HD := hid hdag
    have hq16 : qs.length ≤ 16 := by omega
    have HQV := hid (show ∀ r ∈ qs, ∀ v ∈ r.z, 0 ≤ v ∧ v < 16 from fun r hr v hv => by
      have := (hi.inc r.z (List.mem_map_of_mem hr)).1 v hv
      have := hi.ok.le
      omega)
    have HFIN := hid (show layN (turnF qs.length ((nums qs).map maskL)) qs.length = r by rw [← HX.out]; unfold layersL; rw [if_pos ht, nums_length, hql]; rfl)
    clear ht hdag hi HX hql
    go_enter Tryd.func11, Tryd.ntmps11
    go_wp2_with fail
    rw [← HW.out]
    refine (implTransitiveIn_b a rs c a' qs c' _ _ h2.out RA.out hn RQ.out hm RT.out).mono ?_
    rintro e w1 ⟨rfl, hb⟩
    replace RQ := hid (RQ.out.below hb (Nat.le_refl _))
    replace RT := hid (RT.out.below hb (Nat.le_refl _))
    replace B0 := hid (bon B0.out hb)
    clear hb
    clear RA c0
    go_wp2_with (at_make; refine law_make tVsets _ rfl _ _ rfl qs.length _ _ rfl rfl (by omega) ?_; intro w2 hown hb hsz)
    have OT := hid (show Own 69 w2 w1.heap.size (.slice (some ⟨w1.heap.size, 0, none⟩) qs.length qs.length) ((trnA qs.length ((nums qs).map maskL) 0).map maskF) by
      show Own _ _ _ _ ((List.replicate qs.length 0).map maskF)
      rw [List.map_replicate]; exact hown)
    have hs1 := B0.out.size
    replace RQ := hid (RQ.out.below hb (Nat.le_refl _))
    replace RT := hid (RT.out.below hb (Nat.le_refl _))
    replace B0 := hid (bon B0.out hb)
    clear hb
    clear hown
    refine (bagMasks_any a' qs c' _ hq16 HQV.out RQ.out hm).mono ?_
    rintro e w3 ⟨v, rfl, hown, hb⟩
    obtain ⟨sa, sc, rfl, hsr, _, _, _, hsab⟩ := Own.rd (f := netF) hown
    have RS := hid hsr.masks
    have HSA := hid (show ∀ b o, sa = some ⟨b, o, none⟩ → b ≠ w1.heap.size from fun b o h => by have h1 := (hsab b o h).1; omega)
    clear hown hsr hsab
    have OT3 := hid (OT.out.past hb (Nat.le_refl _))
    replace RT := hid (RT.out.below hb (Nat.le_refl _))
    replace B0 := hid (bon B0.out hb)
    clear hb
    have hgt := OT3.out.lt w1.heap.size rfl
    clear OT RQ
    rw [nums_length]
    generalize (nums qs).map maskL = F at *
    have hnn : ∃ n, qs.length = n := ⟨_, rfl⟩
    obtain ⟨n, hnq⟩ := hnn
    rw [hnq] at HD HFIN OT3 hq16 ⊢
    clear hnq
    have HB3 := hid B0.out
    have HRT := hid RT.out
    go_wp2
    go_loopw [6, 7, 9, 23] (fun _ _ _ x wr => ∃ k : Nat, k ≤ n ∧ x = .int .i64 k ∧ Own 69 wr w1.heap.size (.slice (some ⟨w1.heap.size, 0, none⟩) n n) ((trnA n F k).map maskF) ∧ Kept (fun g => g = w1.heap.size) w3 wr) (fun _ _ _ x _ => n - (intOf x).toNat)
    case atStart => exact ⟨0, Nat.zero_le _, rfl, OT3.out, Kept.refl _ _⟩
    case round =>
      clear OT3 RT B0
      obtain ⟨k, hk, rfl, ho, hkp⟩ := hrel
      have OT := hid ho; have KP := hid hkp
      have BL := hid (HB3.out.trans (Kept.below1 hkp hs1 HB3.out.size))
      have RT2 := hid (RTW.out.below BL.out (Nat.le_refl _))
      clear ho hkp
      by_cases hlt : k < n
      · have hkF : k < F.length := by rw [HD.out.len]; exact hlt
        obtain ⟨fb, fo, hsa, cm⟩ := RS.out k hkF
        have hfb := HSA.out fb fo hsa
        have cm2 := cellK KP.out cm (by simp only; exact hfb)
        have hat := at_slice tVsets hsa n sc k hlt
        rw [← getD_in hkF] at cm2
        have hki : (k : Int) < (n : Int) := by omega
        have HSU := hid (show trnA n F (k + 1) = trnR (trnA n F k) k (memsN (F.getD k 0)) from rfl)
        have HTL := hid (fun j b => trn_lt HD.out (j := j) hlt b)
        have HMB := hid (show ∀ j (hj : j < (memsN (F.getD k 0)).length), (memsN (F.getD k 0))[j] < n from fun j hj => memsN_under HD.out (List.getElem_mem hj))
        have HLT := hid (trnA_len n F k)
        have hM16 := HD.out.lt32 k
        clear cm hkF hfb hsa
        generalize trnA n F k = T at *
        generalize F.getD k 0 = M at *
        unfold maskF at cm2
        go_wp2_with fail
        refine (list_any M wr RT2.out hM16).mono ?_
        rintro e w4 ⟨lv, rfl, hown, hb⟩
        obtain ⟨la, lc, rfl, hlr, _, _, _, hlb⟩ := hown.rd
        have RL := hid hlr
        have HLB := hid (show ∀ b o, la = some ⟨b, o, none⟩ → b ≠ w1.heap.size from fun b o h => by have h1 := (hlb b o h).1; have h2 := OT.out.lt w1.heap.size rfl; omega)
        have OT4 := hid (OT.out.past hb (Nat.le_refl _))
        have K4 := hid (KP.out.trans (Kept.of_below _ hb))
        have HLN := hid (mems_lenN M)
        have hml := mems_len M
        clear hown hlr hlb hb OT KP BL cm2 hat RT2
        go_wp2
        go_loopw [9, 31] (fun _ x wq => ∃ j : Nat, j ≤ (mems M).length ∧ x = .int .i64 j ∧ Own 69 wq w1.heap.size (.slice (some ⟨w1.heap.size, 0, none⟩) n n) ((trnR T k ((memsN M).take j)).map maskF) ∧ Kept (fun g => g = w1.heap.size) w4 wq) (fun _ x _ => (mems M).length - (intOf x).toNat)
        case atStart => exact ⟨0, Nat.zero_le _, rfl, OT4.out, Kept.refl _ _⟩
        case round =>
          clear OT4
          obtain ⟨j, hj, rfl, ho, hkp⟩ := hrel
          have OE := hid ho; have KP := hid hkp
          clear ho hkp
          by_cases hltj : j < (mems M).length
          · obtain ⟨lb', lo', hla, cl⟩ := RL.out j hltj
            have hlb := HLB.out lb' lo' hla
            have cl2 := cellK KP.out cl (by simp only; exact hlb)
            have hatl := at_slice tIntsL hla (mems M).length lc j hltj
            have hji : (j : Int) < ((mems M).length : Int) := by omega
            have hltN : j < (memsN M).length := by rw [← HLN.out]; exact hltj
            have hul := HMB.out j hltN
            have HT := hid (trnR_take T k (memsN M) j hltN)
            have hEl : (trnR T k ((memsN M).take j)).length = n := by rw [trnR_len, HLT.out]
            have hE := HTL.out j
            rw [memsN_get hltj] at cl2
            clear cl
            generalize (memsN M)[j] = u at *
            generalize trnR T k ((memsN M).take j) = E at *
            have cu := OE.out.cell u (by rw [List.length_map, hEl]; exact hul)
            rw [List.getElem_map, ← getD_in (by rw [hEl]; exact hul)] at cu
            have hEu := hE u
            have hfr := OE.out.free u
            have hp16 : 2 ^ n ≤ 65536 := Nat.pow_le_pow_right (n := 2) (i := n) (j := 16) (by decide) hq16
            generalize E.getD u 0 = Y at *
            have hpu : 2 ^ k < 65536 := Nat.pow_lt_pow_right (by decide) (show k < 16 by omega)
            have hor := u32_or_nat Y (2 ^ k) (by omega) (by omega)
            generalize hPU : 2 ^ k = PU at *
            unfold maskF at cu
            have hui : (u : Int) < (n : Int) := by omega
            clear hla
            have BS := hid (Below.refl wr.heap.size wr)
            have HEL2 := hid hEl
            clear hEl hE
            go_wp2
            have qcl2 := fun (p : Bel _) => cellB p.h cl2 (Nat.le_refl _)
            have qcu := fun (p : Bel _) => cellB p.h cu (Nat.le_refl _)
            refine wp_quiet_tail_b 8 (by kernel_rfl) (by kernel_rfl) ?_
            simp only [List.take_succ_cons, List.take_zero, List.drop_succ_cons, List.drop_zero]
            repeat (go_big_quiet_step (first | (go_at_call 41; exact qbs (one_p k PU _ (by omega) hPU))))
            refine wpQuiet_nil ?_
            intro _ hw'
            obtain ⟨⟨w1, hb⟩, rfl⟩ := hw'
            clear qcl2 qcu
            replace OE := hid (OE.out.past hb (Nat.le_refl _))
            replace BS := hid (bon BS.out hb)
            replace cl2 := cellB hb cl2 (Nat.le_refl _)
            replace cu := cellB hb cu (Nat.le_refl _)
            clear hb
            rename_i wt
            have hst := OE.out.store u (by rw [List.length_map, HEL2.out]; exact hul) (maskF (Y ||| PU))
            rw [← List.map_set] at hst
            have OE2 := hid hst
            have hfr2 := OE.out.free u
            have K2 := hid (Kept.setCell (S := fun g => g = w1.heap.size) (KP.out.trans (Kept.of_below _ BS.out)) (p := ⟨w1.heap.size, u, none⟩) rfl (maskF (Y ||| PU)))
            unfold maskF at K2
            clear hst OE KP hfr
            go_wp2
            go_roundw
            case rel => exact ⟨j + 1, by omega, by go_num, by rw [HT.out]; exact OE2.out, K2.out⟩
            case measure => simp [intOf]; omega
          · obtain rfl : j = (mems M).length := by omega
            have OE2 := hid (show Own 69 wr w1.heap.size (.slice (some ⟨w1.heap.size, 0, none⟩) n n) ((trnA n F (k + 1)).map maskF) by rw [HSU.out]; have h := OE.out; rw [HLN.out, List.take_length] at h; exact h)
            have K2 := hid (K4.out.trans KP.out)
            clear OE KP HSU
            go_wp2
            go_roundw
            case rel => exact ⟨k + 1, by omega, by go_num, OE2.out, K2.out⟩
            case measure => simp [intOf]; omega
      · obtain rfl : k = n := by omega
        have hb := alloc_below wr (.cells #[] 2)
        have HO := hid (show Own 2 (wr.alloc (.cells #[] 2)) wr.heap.size (.slice (some ⟨wr.heap.size, 0, none⟩) 0 0) ((layN (turnF k F) 0).map (.int .i64)) from own_new 2 wr [] (by decide))
        have hszb := BL.out.size
        have RTL := hid ((ownM_rd OT.out).below hb (Nat.le_refl _))
        rw [trnA_all HD.out] at RTL
        have BL1 := hid (BL.out.trans (hb.mono hszb))
        have RT3 := hid (RT2.out.below hb (Nat.le_refl _))
        have HDT := hid HD.out.turn
        clear hb OT KP BL RT2
        go_wp2_with fail
        generalize wr.alloc (.cells #[] 2) = wa at *
        refine (longestLists_any HDT.out _ _ _ RTL.out RT3.out).mono ?_
        rintro e w5 ⟨va, vc, ps, rfl, hrp, hnp, hop, hb⟩
        have OP := hid (hop.base (B' := w.heap.size) BL1.out.size)
        have HPL := hid (show ps.length = k by have h := congrArg List.length hnp; rwa [nums_length, List.length_map, List.length_range] at h)
        have HPZ := hid (show ∀ v (hv : v < ps.length), ps[v].z.length = (longN (turnF k F) v).length by
          intro v hv
          have h : (nums ps)[v]'(by rw [nums_length]; exact hv) = ((List.range k).map (fun v => li (longN (turnF k F) v)))[v]'(by rw [List.length_map, List.length_range, ← HPL.out]; exact hv) := by simp [hnp]
          have h2 : ps[v].z = li (longN (turnF k F) v) := by simpa [nums] using h
          rw [h2, li_length])
        have OO := hid ((HO.out.past hb (Nat.le_refl _)).base (B' := w.heap.size) hszb)
        have BL5 := hid (BL1.out.trans (hb.mono BL1.out.size))
        have H17 := hid (longN_17 HDT.out)
        clear hrp hnp hb HO BL1 RTL RT3 hop
        go_wp2
        go_loopw [10, 12, 49] (fun o _ x wr => ∃ i : Nat, i ≤ k ∧ x = .int .i64 i ∧ Own 2 wr w.heap.size o ((layN (turnF k F) i).map (.int .i64)) ∧ Own 62 wr w.heap.size (.slice va k vc) (ps.map Row.val) ∧ Below w.heap.size w wr) (fun _ _ x _ => k - (intOf x).toNat)
        case atStart => exact ⟨0, Nat.zero_le _, rfl, OO.out, OP.out, BL5.out⟩
        case round =>
          clear OO OP BL5
          obtain ⟨i, hi, rfl, ho, hp, hd⟩ := hrel
          have OO := hid ho; have OP := hid hp; have BL := hid hd
          have hsz := hd.size
          clear ho hp hd
          obtain ⟨oa, oc, hov, _⟩ := Own.rd (f := Value.int .i64) OO.out
          rw [layN_len] at hov
          subst hov
          by_cases hlt : i < k
          · have hltP : i < ps.length := by rw [HPL.out]; exact hlt
            have hii : (i : Int) < (k : Int) := by omega
            obtain ⟨va', vc', hv, hrd, _⟩ := Own.rd (f := Row.val) OP.out
            rw [HPL.out] at hv
            injection hv with e1 e2 e3
            subst e1; subst e3
            clear e2
            obtain ⟨lb, lo, hva, cl⟩ := hrd i hltP
            have hat := at_slice tRowsInt hva k vc i hlt
            have HLZ := hid (HPZ.out i hltP)
            have hl17 := H17.out i
            have hl1 : 1 ≤ (longN (turnF k F) i).length := by obtain ⟨t, ht⟩ := longN_head HDT.out i; rw [ht]; simp
            unfold Row.val at cl
            rw [HLZ.out] at cl
            have HSU := hid (layN_succ (turnF k F) i)
            have hlo : ((layN (turnF k F) i).map (Value.int .i64)).length < 1099511627776 := by rw [List.length_map, layN_len]; omega
            clear hva hrd
            generalize ps[i] = q at *
            generalize (longN (turnF k F) i).length = m at *
            go_wp2_with (at_builtin; refine law_push tI64 _ rfl _ _ rfl w.heap.size _ ((layN (turnF k F) i).map (Value.int .i64)) rfl OO.out _ _ rfl ?c0 rfl hlo hsz ?_)
            case c0 => simp
            intro v' w6 h1 h2
            have OO6 := hid (show Own 2 w6 w.heap.size v' ((layN (turnF k F) (i + 1)).map (.int .i64)) by rw [HSU.out, List.map_append]; simpa using h1)
            have OP6 := hid (OP.out.kept h2 (OP.out.ne OO.out (by decide)))
            have BL6 := hid (BL.out.trans (grown_below h2 hsz (fun g hg => OO.out.ge g hg)))
            clear h1 h2
            go_wp2
            go_roundw
            case rel => exact ⟨i + 1, by omega, by go_num, OO6.out, OP6.out, BL6.out⟩
            case measure => simp [intOf]; omega
          · obtain rfl : i = k := by omega
            have OF := hid (show Own 2 wr w.heap.size (.slice oa i oc) (r.map (.int .i64)) by rw [← HFIN.out]; exact OO.out)
            clear OO OP
            go_wp2
            go_ret
            exact ⟨_, rfl, OF.out, BL.out⟩
  · have h2 := hid (show decide (TransP (nums rs) (nums qs)) = false by simpa using ht)
    have HFIN := hid (show [] = r by rw [← HX.out]; unfold layersL; rw [if_neg ht])
    clear ht HX
    go_enter Tryd.func11, Tryd.ntmps11
    go_wp2_with fail
    rw [← HW.out]
    go_wp2_with fail
    refine (implTransitiveIn_b a rs c a' qs c' _ _ h2.out RA.out hn RQ.out hm RT.out).mono ?_
    rintro e w2 ⟨rfl, hb⟩
    replace RA := hid (RA.out.below hb (Nat.le_refl _))
    replace RQ := hid (RQ.out.below hb (Nat.le_refl _))
    replace RT := hid (RT.out.below hb (Nat.le_refl _))
    replace B0 := hid (bon B0.out hb)
    replace c0 := cellB hb c0 (Nat.le_refl _)
    clear hb
    go_wp2
    go_ret
    exact ⟨_, rfl, by rw [← HFIN.out]; exact Own.nil _ _ _, B0.out⟩
end
end Go.Proofs.YtdncmloajajiaaaDoor
