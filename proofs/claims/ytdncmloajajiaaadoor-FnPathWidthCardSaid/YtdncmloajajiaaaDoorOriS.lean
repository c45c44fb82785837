/- An edge is struck: the reference's. · Orientations: the reference's. -/
import Derived.Test.YtdncmloajajiaaaDoorGreedy
import Derived.Test.YtdncmloajajiaaaDoorForM
import Derived.Test.YtdncmloajajiaaaDoorLink
import Derived.Test.YtdncmloajajiaaaDoorClsS
namespace Go.Proofs.YtdncmloajajiaaaDoor
open Go.RowKit
section
section
def lessL (v : Int) (l : List Int) : List Int := l.filter fun y => decide (y ≠ v)
theorem lessL_snoc (v : Int) (l : List Int) (k : Nat) (hk : k < l.length) : lessL v (l.take (k + 1)) = lessL v (l.take k) ++ if l[k] ≠ v then [l[k]] else [] := by
  unfold lessL
  rw [List.take_succ_eq_append_getElem hk, List.filter_append]
  split
  · rename_i h; simp [h]
  · rename_i h
    have h : l[k] = v := Classical.not_not.1 h
    simp [h]
theorem lessL_len (v : Int) (l : List Int) : (lessL v l).length ≤ l.length := List.length_filter_le _ _
theorem mems_less {m v : Nat} (hm : m < 65536) : lessL v (mems m) = mems (dif m (2 ^ v)) := by
  have hd : dif m (2 ^ v) < 65536 := Nat.lt_of_le_of_lt (dif_le _ _) hm
  unfold lessL
  apply sorted_ext ((mems_sorted m).filter _) (mems_sorted _)
  intro x
  rw [mems_mem (by omega)]
  rw [List.mem_filter, mems_mem (by omega), decide_eq_true_iff]
  constructor
  · rintro ⟨⟨i, rfl, hi⟩, hne⟩
    refine ⟨i, rfl, ?_⟩
    rw [testBit_dif, hi, Nat.testBit_two_pow]
    have : v ≠ i := fun e => hne (by rw [e])
    simp [this]
  · rintro ⟨i, rfl, hi⟩
    rw [testBit_dif, Nat.testBit_two_pow, Bool.and_eq_true, Bool.not_eq_true', decide_eq_false_iff_not] at hi
    exact ⟨⟨i, rfl, hi.1⟩, fun e => hi.2 (by omega)⟩
theorem mems_16c {m : Nat} (h : m < 65536) : (mems m).length ≤ 16 :=
  nodup_le (mems m) 16 ((mems_sorted m).imp (fun h => Int.ne_of_lt h)) (fun x hx => mems_lt16 h x hx)
set_option maxHeartbeats 1000000 in
theorem l19Less_any (a : Option Addr) (zs : List Int) (c : Nat) (v : Int) (w : World) (hr : Rd (Value.int .i64) w a zs) (hm : zs.length ≤ 1000000) :
    Calls Tryd.prog 74 #[.slice a zs.length c, .int .i64 v] w (RetOwn 2 ((lessL v zs).map (.int .i64)) w) := by
  have RZ0 := hid hr; clear hr
  have HO := hid (show Own 2 (w.alloc (.cells #[] 2)) w.heap.size (.slice (some ⟨w.heap.size, 0, none⟩) 0 0) ((lessL v (zs.take 0)).map (.int .i64)) from own_new 2 w [] (by decide))
  have HE0 := hid (alloc_below w (.cells #[] 2))
  go_enter Tryd.func74, Tryd.ntmps74
  go_wp2
  go_loopw [5, 6] (fun o kv wr => ∃ k : Nat, k ≤ zs.length ∧ kv = .int .i64 k ∧ Own 2 wr w.heap.size o ((lessL v (zs.take k)).map (.int .i64)) ∧ Below w.heap.size w wr) (fun _ kv _ => zs.length - (intOf kv).toNat)
  case atStart => exact ⟨0, Nat.zero_le _, rfl, HO.out, HE0.out⟩
  case round =>
    obtain ⟨k, hk, rfl, ho, hb⟩ := hrel
    have OI := hid ho; have LI := hid hb
    have RZ := hid (RZ0.out.below hb (Nat.le_refl _)); clear ho hb
    by_cases hlt : k < zs.length
    · have hki : (k : Int) < (zs.length : Int) := by omega
      have HS := hid (lessL_snoc v zs k hlt)
      have hlen := lessL_len v (zs.take k)
      have hlen2 : ((lessL v (zs.take k)).map (Value.int .i64)).length ≤ 1000000 := by rw [List.length_map]; rw [List.length_take] at hlen; omega
      obtain ⟨zb, zo, rfl, ck⟩ := RZ.out k hlt
      clear hlen
      generalize zs[k] = y at *
      by_cases hyv : y = v
      · have dne : (y != v) = false := by rw [hyv]; simp
        rw [if_neg (fun h => h hyv), List.append_nil] at HS
        clear hyv
        go_wp2
        go_roundw
        case rel => exact ⟨k + 1, by omega, by go_num, by rw [HS.out]; exact OI.out, LI.out⟩
        case measure => simp [intOf]; omega
      · have dne : (y != v) = true := by simpa using hyv
        rw [if_pos hyv] at HS
        have hszr := LI.out.size
        clear hyv
        go_wp2_with (at_builtin; refine law_push tI64 _ rfl _ _ rfl w.heap.size _ ((lessL v (zs.take k)).map (.int .i64)) rfl OI.out _ _ rfl ?c0 rfl ?c1 ?c2 ?_)
        try (case c0 => simp)
        try (case c1 => omega)
        try (case c2 => omega)
        intro v' w' h1 h2
        have HN := hid h1
        have HBB := hid (LI.out.trans (grown_below h2 hszr (fun g hg => OI.out.ge g hg)))
        clear h1 h2
        go_wp2
        go_roundw
        case rel => exact ⟨k + 1, by omega, by go_num, by rw [HS.out, List.map_append]; exact HN.out, HBB.out⟩
        case measure => simp [intOf]; omega
    · obtain rfl : k = zs.length := by omega
      go_wp2
      go_ret
      exact ⟨_, rfl, by have h := OI.out; rw [List.take_length] at h; exact h, LI.out⟩
/-- The row of one vertex when an edge is struck. -/
theorem partA_row {A : List Nat} {n u v k : Nat} (hA : GA n A) (hu : u < n) (hv : v < n) (huv : u ≠ v) (_hk : k < n) : (partA A u v).getD k 0 = if k = u then dif (A.getD u 0) (2 ^ v) else if k = v then dif (A.getD v 0) (2 ^ u) else A.getD k 0 := by
  have hl := hA.len
  unfold partA
  rw [setN_getD (by rw [List.length_set]; omega), setN_getD (by omega)]
  by_cases h1 : k = v
  · subst h1
    rw [if_pos rfl, if_neg (fun e => huv e.symm), if_neg (fun e => huv e.symm), if_pos rfl]
  · rw [if_neg h1, if_neg h1, setN_getD (by omega)]
theorem partA_nums {A : List Nat} {n u v : Nat} (hA : GA n A) (k : Nat) (hk : k < n) : ((partA A u v).map mems).take (k + 1) = ((partA A u v).map mems).take k ++ [mems ((partA A u v).getD k 0)] := by
  have hl : k < (partA A u v).length := by rw [partA_len, hA.len]; exact hk
  have hl2 : k < ((partA A u v).map mems).length := by rw [List.length_map]; exact hl
  rw [List.take_succ_eq_append_getElem hl2, List.getElem_map, getD_in hl]
set_option maxRecDepth 100000 in
set_option maxHeartbeats 4000000 in
theorem l19Cut_any (a : Option Addr) (rs : List Row) (c n u v : Nat) (A : List Nat) (w : World) (hA : GA n A) (hnm : nums rs = A.map mems) (hr : RdM w a rs) (hu : u < n) (hv : v < n) (huv : u ≠ v) :
    Calls Tryd.prog 34 #[.agg #[.slice a rs.length c], .int .i64 u, .int .i64 v] w (RetOwnG 33 2 ((partA A u v).map mems) w) := by
  have RA := hid hr; have HNM := hid hnm; have HGA := hid hA
  have h16 := hA.le
  have hlr : rs.length = n := by
    have h1 := congrArg List.length hnm
    rw [nums_length, List.length_map, hA.len] at h1; exact h1
  have HLR := hid hlr
  have HPL := hid (show ((partA A u v).map mems).length = n by rw [List.length_map, partA_len, hA.len])
  have HROW := hid (fun k (hk : k < n) => partA_row hA hu hv huv hk)
  have HTAKE := hid (fun k (hk : k < n) => partA_nums (u := u) (v := v) hA k hk)
  have HRZ := hid (fun k (hk : k < rs.length) => (show rs[k].z = mems (A.getD k 0) by
    have h1 : (nums rs)[k]'(by rw [nums_length]; exact hk) = (A.map mems)[k]'(by rw [List.length_map, hA.len, ← hlr]; exact hk) := by simp [hnm]
    rw [List.getElem_map] at h1
    rw [getD_in (by rw [hA.len, ← hlr]; exact hk)]
    simpa [nums] using h1))
  have HLT := hid (fun k => Nat.lt_of_lt_of_le (hA.in2 k) (Nat.pow_le_pow_right (n := 2) (i := n) (j := 16) (by decide) hA.le))
  clear hr hnm hA
  rw [hlr]
  obtain ⟨w0, hw0⟩ : ∃ w0, w0 = ((w.alloc (.cells #[.slice a n c] 29)).alloc (.cells #[.slice none 0 0] 29)) := ⟨_, rfl⟩
  have B0 := hid (show Below w.heap.size w w0 by rw [hw0]; exact (((Below.refl _ _).alloc (Nat.le_refl _) _).alloc (by simp) _))
  have c0 : w0.cell? ⟨w.heap.size, 0, none⟩ = some (.slice a n c) := by rw [hw0]; simp [go_sem]
  have c1 : w0.cell? ⟨w.heap.size + 1, 0, none⟩ = some (.slice none 0 0) := by rw [hw0]; simp [go_sem]
  have HW := hid hw0; clear hw0
  have hsz0 : w0.heap.size = w.heap.size + 2 := by rw [HW.out]; simp
  have RA0 := hid (RA.out.below B0.out (Nat.le_refl _))
  have HC0 := hid c0; have HC1 := hid c1
  have OR := hid (show Own 29 w0 (w.heap.size + 1) (.slice (some ⟨w.heap.size + 1, 0, none⟩) 1 1) [.slice none 0 0] by
    have h := own_new 29 (w.alloc (.cells #[.slice a n c] 29)) [.slice none 0 0] (by simp [maxLen])
    rw [HW.out]
    simpa using h)
  have OZ := hid (show Own 29 (w0.alloc (.cells #[.slice none 0 0] 29)) w0.heap.size (.slice (some ⟨w0.heap.size, 0, none⟩) 1 1) [.slice none 0 0] from own_new 29 w0 [.slice none 0 0] (by simp [maxLen]))
  go_enter Tryd.func34, Tryd.ntmps34
  go_wp2_with fail
  rw [← HW.out]
  have hsx : w.heap.size + 1 + 1 = w0.heap.size := by omega
  rw [hsx]
  have hsz1 : w.heap.size + 2 ≤ w0.heap.size := by omega
  clear hsx hsz0
  have HB1 := hid (alloc_below w0 (.cells #[.slice none 0 0] 29))
  have HO1 := hid (show Own 33 (w0.alloc (.cells #[.slice none 0 0] 29)) (w0.heap.size + 1) (.slice none 0 0) (([] : List Row).map Row.val) from Own.nil _ _ _)
  have hs1 : (w0.alloc (.cells #[.slice none 0 0] 29)).heap.size = w0.heap.size + 1 := by simp
  generalize w0.alloc (.cells #[.slice none 0 0] 29) = W1 at *
  have HS1 := hid hs1; clear hs1
  go_loopw [8] (fun x wr => ∃ k pv ps, k ≤ n ∧ x = .int .i64 (k : Nat) ∧ OwnM 33 2 wr (w0.heap.size + 1) pv ps ∧ nums ps = ((partA A u v).map mems).take k ∧ Own 29 wr w0.heap.size (.slice (some ⟨w0.heap.size, 0, none⟩) 1 1) [pv] ∧ Below w0.heap.size w0 wr) (fun x _ => n - (intOf x).toNat)
  case atStart => exact ⟨0, _, [], Nat.zero_le _, rfl, ⟨HO1.out, Inner.nil _ _ _⟩, rfl, OZ.out, HB1.out⟩
  case round =>
    obtain ⟨k, pv0, ps, hk, rfl, ho, hps, hoz, hb⟩ := hrel
    have OM := hid ho; have HPS := hid hps; have OZ1 := hid hoz; have LB := hid hb
    have RA1 := hid (RA0.out.below hb (Nat.le_refl _))
    have c01 := cellB hb HC0.out (Nat.le_refl _)
    have hsr := hb.size
    have hzr := hoz.lt w0.heap.size rfl
    clear ho hps hoz hb c0 c1
    by_cases hlt : k < n
    · have hki : (k : Int) < (n : Int) := by omega
      have hkr : k < rs.length := by have := HLR.out; omega
      obtain ⟨ab, ao, rfl, ck, hkok⟩ := RA1.out.at k hkr
      have HKOK := hid hkok
      have hrz := HRZ.out k hkr
      have HSU := hid (show nums ps ++ [mems ((partA A u v).getD k 0)] = ((partA A u v).map mems).take (k + 1) by
        rw [HPS.out, HTAKE.out k hlt])
      rw [HROW.out k hlt] at HSU
      have hpl : (ps.map Row.val).length < 1099511627776 := by
        have h1 := congrArg List.length HPS.out
        rw [nums_length, List.length_take, HPL.out] at h1
        rw [List.length_map]; omega
      obtain ⟨pv, pc, hpv, _⟩ := OM.out.rd
      generalize rs[k] = p at *
      have hpz16 : p.z.length ≤ 16 := by rw [hrz]; exact mems_16c (HLT.out k)
      have HPZ := hid hrz
      clear hkok hrz
      subst hpv
      by_cases hku : k = u
      · have dku : ((k : Int) == (u : Int)) = true := by rw [hku]; simp
        have dkv : ((k : Int) == (v : Int)) = false := by rw [hku]; simp; omega
        rw [if_pos hku] at HSU
        have HKU := hid hku; clear hku
        have hlm := lessL_len (v : Int) p.z
        go_wp2_with fail
        refine (l19Less_any p.a p.z p.c (v : Int) _ HKOK.out.1 (by omega)).mono ?_
        rintro e w1 ⟨nv, rfl, hown, hb⟩
        obtain ⟨qa, qc, rfl, hrd, _, _, hq2, _⟩ := Own.rd hown
        have RP := hid hrd
        replace HSU := hid (show nums ps ++ [lessL (v : Int) p.z] = ((partA A u v).map mems).take (k + 1) by rw [HPZ.out, mems_less (HLT.out k), show A.getD k 0 = A.getD u 0 from by rw [HKU.out]]; exact HSU.out)
        have hq1 : (lessL (v : Int) p.z).length ≤ 1048576 := by omega
        clear hlm hown hrd
        generalize lessL (v : Int) p.z = qz at *
        replace OM := hid (OM.out.past hb (Nat.le_refl _))
        replace OZ1 := hid (OZ1.out.past hb (Nat.le_refl _))
        replace LB := hid (bonL LB.out hb (Nat.le_refl _))
        replace c01 := cellB hb c01 (Nat.le_refl _)
        clear hb hsr hzr
        have c03 := OZ1.out.cell 0 (by simp)
        rw [List.getElem_cons_zero] at c03
        have hsr := LB.out.size
        have hzr := OZ1.out.lt w0.heap.size rfl
        have D3 : Drawn w1 w1.drew := ⟨1, rfl⟩
        have hdz : w1.heap.size ≤ w1.drew.heap.size := Nat.le_refl _
        have OM3 := hid (OM.out.past (D3.below w1.heap.size) (Nat.le_refl _))
        have OZ3 := hid (OZ1.out.past (D3.below w1.heap.size) (Nat.le_refl _))
        have LB3 := hid (LB.out.trans (D3.below w0.heap.size))
        have RP3 := hid (RP.out.below (D3.below w1.heap.size) (Nat.le_refl _))
        have f0 := dcell D3 c01
        have f1 := dcell D3 c03
        have hBw : w0.heap.size + 1 ≤ w1.drew.heap.size := by omega
        have hz0 : w.heap.size < w0.heap.size + 1 := by omega
        have hne0 : (⟨w.heap.size, 0, none⟩ : Addr).block ≠ (⟨w0.heap.size, 0, none⟩ : Addr).block := by simp only [ne_eq]; omega
        clear OM OZ1 LB RP
        go_wp2_with fail
        clear c01 c03
        go_region_law ((first | (refine step_push tRows _ (by rfl) _ _ (by rfl) (w0.heap.size + 1) _ (ps.map Row.val) (by rfl) OM4.out.outer _ _ (by rfl) (by rfl) (by rfl) hpl hBw4 ?_; intro v' w5 h1 h2; have OZ5 := hid (OZ4.out.kept h2 (OZ4.out.ne OM4.out.outer (by decide))); have hfr5 : w5.frozen? ⟨w0.heap.size, 0, none⟩ = false := OZ5.out.free 0; have k1 : w5.cell? ⟨w0.heap.size, 0, none⟩ = some (.slice pv ps.length pc) := OZ5.out.cell 0 (by simp); have LP5 := hid (grown_below h2 hBw4 (fun g hg => OM4.out.outer.ge g hg)); have k0 := (LP5.out.cell (p := ⟨w.heap.size, 0, none⟩) hz0).trans g0; have LB5 := hid (LB4.out.trans (LP5.out.mono (by omega))); have OM5 := hid (rows_push (by decide) OM4.out.outer IN4.out h1 h2); clear h1 h2; obtain ⟨va, vc, hva, _⟩ := OM5.out.rd; subst hva) | (go_simp; go_at_call 73; refine (l1Copy_any _ _ _ _ RP3.out hq1 hq2).mono ?_; rintro e w4 ⟨cv, rfl, hown, hb⟩; obtain ⟨ca, cc, rfl, _⟩ := Own.rd hown; have g0 := cellB hb f0 (Nat.le_refl _); have g1 := cellB hb f1 (Nat.le_refl _); have ga1 := fun ob => cellB (alloc_below w4 ob) g1 (Nat.le_refl _); have OM4 := hid (OM3.out.past hb (Nat.le_refl _)); have IN4 := hid (OM3.out.inner.snoc hb hBw ⟨ca, qz, cc⟩ hown); have OZ4 := hid (OZ3.out.past hb (Nat.le_refl _)); have hs4 := hb.size; have hBw4 := Nat.le_trans hBw hs4; have LB4 := hid (LB3.out.trans (hb.mono (by omega))); clear hown hb; go_wp2_with fail)))
        all_goals (
          have OM6 := hid (OM5.out.setCell_below (p := ⟨w0.heap.size, 0, none⟩) (Nat.lt_succ_self _) (.slice va (ps ++ [(⟨ca, qz, cc⟩ : Row)]).length vc))
          have OZ6 := hid (OZ5.out.store 0 (by simp) (.slice va (ps ++ [(⟨ca, qz, cc⟩ : Row)]).length vc))
          have LB6 := hid (Below.setCell LB5.out (p := ⟨w0.heap.size, 0, none⟩) (Nat.le_refl _) (.slice va (ps ++ [(⟨ca, qz, cc⟩ : Row)]).length vc))
          have HNS := hid (show nums (ps ++ [⟨ca, qz, cc⟩]) = ((partA A u v).map mems).take (k + 1) by rw [← HSU.out]; simp [nums])
          have e1 : (ps ++ [(⟨ca, qz, cc⟩ : Row)]).length = ps.length + 1 := by simp
          rw [e1] at OM6 OZ6 LB6
          clear e1 g0 g1 ga1 k0 k1 hfr5 OM5 OZ5 LB5 LP5 HSU
          go_wp2
          go_roundw
          case rel => exact ⟨k + 1, _, _, by omega, by go_num, OM6.out, HNS.out, OZ6.out, LB6.out⟩
          case measure => simp [intOf]; omega)
      · have dku : ((k : Int) == (u : Int)) = false := by simp; omega
        rw [if_neg hku] at HSU
        by_cases hkv : k = v
        · have dkv : ((k : Int) == (v : Int)) = true := by rw [hkv]; simp
          rw [if_pos hkv] at HSU
          have HKV := hid hkv; clear hkv hku
          have hlm := lessL_len (u : Int) p.z
          go_wp2_with fail
          refine (l19Less_any p.a p.z p.c (u : Int) _ HKOK.out.1 (by omega)).mono ?_
          rintro e w1 ⟨nv, rfl, hown, hb⟩
          obtain ⟨qa, qc, rfl, hrd, _, _, hq2, _⟩ := Own.rd hown
          have RP := hid hrd
          replace HSU := hid (show nums ps ++ [lessL (u : Int) p.z] = ((partA A u v).map mems).take (k + 1) by rw [HPZ.out, mems_less (HLT.out k), show A.getD k 0 = A.getD v 0 from by rw [HKV.out]]; exact HSU.out)
          have hq1 : (lessL (u : Int) p.z).length ≤ 1048576 := by omega
          clear hlm hown hrd
          generalize lessL (u : Int) p.z = qz at *
          replace OM := hid (OM.out.past hb (Nat.le_refl _))
          replace OZ1 := hid (OZ1.out.past hb (Nat.le_refl _))
          replace LB := hid (bonL LB.out hb (Nat.le_refl _))
          replace c01 := cellB hb c01 (Nat.le_refl _)
          clear hb hsr hzr
          have c03 := OZ1.out.cell 0 (by simp)
          rw [List.getElem_cons_zero] at c03
          have hsr := LB.out.size
          have hzr := OZ1.out.lt w0.heap.size rfl
          have D3 : Drawn w1 w1.drew := ⟨1, rfl⟩
          have hdz : w1.heap.size ≤ w1.drew.heap.size := Nat.le_refl _
          have OM3 := hid (OM.out.past (D3.below w1.heap.size) (Nat.le_refl _))
          have OZ3 := hid (OZ1.out.past (D3.below w1.heap.size) (Nat.le_refl _))
          have LB3 := hid (LB.out.trans (D3.below w0.heap.size))
          have RP3 := hid (RP.out.below (D3.below w1.heap.size) (Nat.le_refl _))
          have f0 := dcell D3 c01
          have f1 := dcell D3 c03
          have hBw : w0.heap.size + 1 ≤ w1.drew.heap.size := by omega
          have hz0 : w.heap.size < w0.heap.size + 1 := by omega
          have hne0 : (⟨w.heap.size, 0, none⟩ : Addr).block ≠ (⟨w0.heap.size, 0, none⟩ : Addr).block := by simp only [ne_eq]; omega
          clear OM OZ1 LB RP
          go_wp2_with fail
          clear c01 c03
          go_region_law ((first | (refine step_push tRows _ (by rfl) _ _ (by rfl) (w0.heap.size + 1) _ (ps.map Row.val) (by rfl) OM4.out.outer _ _ (by rfl) (by rfl) (by rfl) hpl hBw4 ?_; intro v' w5 h1 h2; have OZ5 := hid (OZ4.out.kept h2 (OZ4.out.ne OM4.out.outer (by decide))); have hfr5 : w5.frozen? ⟨w0.heap.size, 0, none⟩ = false := OZ5.out.free 0; have k1 : w5.cell? ⟨w0.heap.size, 0, none⟩ = some (.slice pv ps.length pc) := OZ5.out.cell 0 (by simp); have LP5 := hid (grown_below h2 hBw4 (fun g hg => OM4.out.outer.ge g hg)); have k0 := (LP5.out.cell (p := ⟨w.heap.size, 0, none⟩) hz0).trans g0; have LB5 := hid (LB4.out.trans (LP5.out.mono (by omega))); have OM5 := hid (rows_push (by decide) OM4.out.outer IN4.out h1 h2); clear h1 h2; obtain ⟨va, vc, hva, _⟩ := OM5.out.rd; subst hva) | (go_simp; go_at_call 73; refine (l1Copy_any _ _ _ _ RP3.out hq1 hq2).mono ?_; rintro e w4 ⟨cv, rfl, hown, hb⟩; obtain ⟨ca, cc, rfl, _⟩ := Own.rd hown; have g0 := cellB hb f0 (Nat.le_refl _); have g1 := cellB hb f1 (Nat.le_refl _); have ga1 := fun ob => cellB (alloc_below w4 ob) g1 (Nat.le_refl _); have OM4 := hid (OM3.out.past hb (Nat.le_refl _)); have IN4 := hid (OM3.out.inner.snoc hb hBw ⟨ca, qz, cc⟩ hown); have OZ4 := hid (OZ3.out.past hb (Nat.le_refl _)); have hs4 := hb.size; have hBw4 := Nat.le_trans hBw hs4; have LB4 := hid (LB3.out.trans (hb.mono (by omega))); clear hown hb; go_wp2_with fail)))
          all_goals (
            have OM6 := hid (OM5.out.setCell_below (p := ⟨w0.heap.size, 0, none⟩) (Nat.lt_succ_self _) (.slice va (ps ++ [(⟨ca, qz, cc⟩ : Row)]).length vc))
            have OZ6 := hid (OZ5.out.store 0 (by simp) (.slice va (ps ++ [(⟨ca, qz, cc⟩ : Row)]).length vc))
            have LB6 := hid (Below.setCell LB5.out (p := ⟨w0.heap.size, 0, none⟩) (Nat.le_refl _) (.slice va (ps ++ [(⟨ca, qz, cc⟩ : Row)]).length vc))
            have HNS := hid (show nums (ps ++ [⟨ca, qz, cc⟩]) = ((partA A u v).map mems).take (k + 1) by rw [← HSU.out]; simp [nums])
            have e1 : (ps ++ [(⟨ca, qz, cc⟩ : Row)]).length = ps.length + 1 := by simp
            rw [e1] at OM6 OZ6 LB6
            clear e1 g0 g1 ga1 k0 k1 hfr5 OM5 OZ5 LB5 LP5 HSU
            go_wp2
            go_roundw
            case rel => exact ⟨k + 1, _, _, by omega, by go_num, OM6.out, HNS.out, OZ6.out, LB6.out⟩
            case measure => simp [intOf]; omega)
        · have dkv : ((k : Int) == (v : Int)) = false := by simp; omega
          rw [if_neg hkv, ← HPZ.out] at HSU
          clear hku hkv
          have RP := hid HKOK.out.1
          have hq2 := HKOK.out.2.2.2
          have hq1 : p.z.length ≤ 1048576 := by omega
          obtain ⟨w1, rfl⟩ : ∃ z, z = wr := ⟨_, rfl⟩
          clear HKOK HPZ hpz16
          obtain ⟨qa, qz, qc⟩ := p
          clear hsr hzr
          have c03 := OZ1.out.cell 0 (by simp)
          rw [List.getElem_cons_zero] at c03
          have hsr := LB.out.size
          have hzr := OZ1.out.lt w0.heap.size rfl
          have D3 : Drawn w1 w1.drew := ⟨1, rfl⟩
          have hdz : w1.heap.size ≤ w1.drew.heap.size := Nat.le_refl _
          have OM3 := hid (OM.out.past (D3.below w1.heap.size) (Nat.le_refl _))
          have OZ3 := hid (OZ1.out.past (D3.below w1.heap.size) (Nat.le_refl _))
          have LB3 := hid (LB.out.trans (D3.below w0.heap.size))
          have RP3 := hid (RP.out.below (D3.below w1.heap.size) (Nat.le_refl _))
          have f0 := dcell D3 c01
          have f1 := dcell D3 c03
          have hBw : w0.heap.size + 1 ≤ w1.drew.heap.size := by omega
          have hz0 : w.heap.size < w0.heap.size + 1 := by omega
          have hne0 : (⟨w.heap.size, 0, none⟩ : Addr).block ≠ (⟨w0.heap.size, 0, none⟩ : Addr).block := by simp only [ne_eq]; omega
          clear OM OZ1 LB RP
          go_wp2_with fail
          clear c01 c03
          go_region_law ((first | (refine step_push tRows _ (by rfl) _ _ (by rfl) (w0.heap.size + 1) _ (ps.map Row.val) (by rfl) OM4.out.outer _ _ (by rfl) (by rfl) (by rfl) hpl hBw4 ?_; intro v' w5 h1 h2; have OZ5 := hid (OZ4.out.kept h2 (OZ4.out.ne OM4.out.outer (by decide))); have hfr5 : w5.frozen? ⟨w0.heap.size, 0, none⟩ = false := OZ5.out.free 0; have k1 : w5.cell? ⟨w0.heap.size, 0, none⟩ = some (.slice pv ps.length pc) := OZ5.out.cell 0 (by simp); have LP5 := hid (grown_below h2 hBw4 (fun g hg => OM4.out.outer.ge g hg)); have k0 := (LP5.out.cell (p := ⟨w.heap.size, 0, none⟩) hz0).trans g0; have LB5 := hid (LB4.out.trans (LP5.out.mono (by omega))); have OM5 := hid (rows_push (by decide) OM4.out.outer IN4.out h1 h2); clear h1 h2; obtain ⟨va, vc, hva, _⟩ := OM5.out.rd; subst hva) | (go_simp; go_at_call 73; refine (l1Copy_any _ _ _ _ RP3.out hq1 hq2).mono ?_; rintro e w4 ⟨cv, rfl, hown, hb⟩; obtain ⟨ca, cc, rfl, _⟩ := Own.rd hown; have g0 := cellB hb f0 (Nat.le_refl _); have g1 := cellB hb f1 (Nat.le_refl _); have ga1 := fun ob => cellB (alloc_below w4 ob) g1 (Nat.le_refl _); have OM4 := hid (OM3.out.past hb (Nat.le_refl _)); have IN4 := hid (OM3.out.inner.snoc hb hBw ⟨ca, qz, cc⟩ hown); have OZ4 := hid (OZ3.out.past hb (Nat.le_refl _)); have hs4 := hb.size; have hBw4 := Nat.le_trans hBw hs4; have LB4 := hid (LB3.out.trans (hb.mono (by omega))); clear hown hb; go_wp2_with fail)))
          all_goals (
            have OM6 := hid (OM5.out.setCell_below (p := ⟨w0.heap.size, 0, none⟩) (Nat.lt_succ_self _) (.slice va (ps ++ [(⟨ca, qz, cc⟩ : Row)]).length vc))
            have OZ6 := hid (OZ5.out.store 0 (by simp) (.slice va (ps ++ [(⟨ca, qz, cc⟩ : Row)]).length vc))
            have LB6 := hid (Below.setCell LB5.out (p := ⟨w0.heap.size, 0, none⟩) (Nat.le_refl _) (.slice va (ps ++ [(⟨ca, qz, cc⟩ : Row)]).length vc))
            have HNS := hid (show nums (ps ++ [⟨ca, qz, cc⟩]) = ((partA A u v).map mems).take (k + 1) by rw [← HSU.out]; simp [nums])
            have e1 : (ps ++ [(⟨ca, qz, cc⟩ : Row)]).length = ps.length + 1 := by simp
            rw [e1] at OM6 OZ6 LB6
            clear e1 g0 g1 ga1 k0 k1 hfr5 OM5 OZ5 LB5 LP5 HSU
            go_wp2
            go_roundw
            case rel => exact ⟨k + 1, _, _, by omega, by go_num, OM6.out, HNS.out, OZ6.out, LB6.out⟩
            case measure => simp [intOf]; omega)
    · obtain rfl : k = n := by omega
      have HPF := hid (show nums ps = (partA A u v).map mems by rw [HPS.out, List.take_of_length_le (by rw [HPL.out]; exact Nat.le_refl _)])
      obtain ⟨va, vc, hva, _⟩ := OM.out.rd
      subst hva
      have OR2 := hid (OR.out.past LB.out (Nat.le_refl _))
      have c1 := OR2.out.cell 0 (by simp)
      rw [List.getElem_cons_zero] at c1
      have hfr := OR2.out.free 0
      have c03 := OZ1.out.cell 0 (by simp)
      rw [List.getElem_cons_zero] at c03
      have OM2 := hid ((OM.out.setCell_below (p := ⟨w.heap.size + 1, 0, none⟩) (by simp only; omega) (.slice va ps.length vc)).base (B' := w.heap.size) (by omega))
      have LB2 := hid (show Below w.heap.size w (wr.setCell ⟨w.heap.size + 1, 0, none⟩ (.slice va ps.length vc)) from Below.setCell (B0.out.trans (LB.out.mono (by omega))) (p := ⟨w.heap.size + 1, 0, none⟩) (by simp only; omega) _)
      have c110 : (wr.setCell ⟨w.heap.size + 1, 0, none⟩ (.slice va ps.length vc)).cell? ⟨w.heap.size + 1, 0, none⟩ = some (.slice va ps.length vc) := by
        have h := (OR2.out.store 0 (by simp) (.slice va ps.length vc)).cell 0 (by simp)
        simpa using h
      have HC110 := hid c110
      clear c110 OM OZ1 LB RA1
      go_wp2
      refine bodyPost_ret (ret_cell rfl _ _ _ ⟨w.heap.size + 1, 0, none⟩ (.agg #[.slice va ps.length vc]) rfl ?_) rfl ⟨_, _, rfl, HPF.out, OM2.out, LB2.out⟩
      have c110 := HC110.out
      clear OM2 LB2
      go_simp
end
end
section
section
/-- Outside some blocks. -/
def NotIn (S : Nat → Prop) (a : Option Addr) (n : Nat) : Prop := 0 < n → ∀ ad, a = some ad → ¬ S ad.block
structure RdX (S : Nat → Prop) (w : World) (a : Option Addr) (rs : List Row) : Prop where
  rd : RdM w a rs
  out : NotIn S a rs.length
  rows : ∀ r ∈ rs, NotIn S r.a r.z.length
theorem rd_kept {α : Type} {f : α → Value} {S : Nat → Prop} {w w' : World} {a : Option Addr} {zs : List α} (h : Rd f w a zs) (ho : NotIn S a zs.length) (hk : Kept S w w') : Rd f w' a zs := by
  intro i hi
  obtain ⟨b, o, ha, hc⟩ := h i hi
  exact ⟨b, o, ha, cellK hk hc (fun hs => ho (by omega) _ ha hs)⟩
theorem RdX.kept {S : Nat → Prop} {w w' : World} {a : Option Addr} {rs : List Row} (h : RdX S w a rs) (hk : Kept S w w') : RdX S w' a rs :=
  ⟨⟨rd_kept h.rd.top h.out hk, fun r hr => ⟨rd_kept (h.rd.row r hr).1 (h.rows r hr) hk, (h.rd.row r hr).2⟩⟩, h.out, h.rows⟩
theorem notIn_old {α : Type} {f : α → Value} {S : Nat → Prop} {w : World} {a : Option Addr} {zs : List α} (h : Rd f w a zs) (hS : ∀ k, S k → w.heap.size ≤ k) : NotIn S a zs.length := by
  intro h0 ad ha hs
  obtain ⟨b, o, hb, hc⟩ := h 0 h0
  rw [ha] at hb
  injection hb with hb
  have h1 := World.block_lt_of_cell? _ _ hc
  have h2 := hS _ hs
  rw [hb] at h2
  simp only at h1 h2
  omega
theorem RdX.of_old {S : Nat → Prop} {w w' : World} {a : Option Addr} {rs : List Row} (h : RdM w a rs) (h' : RdM w' a rs) (hS : ∀ k, S k → w.heap.size ≤ k) : RdX S w' a rs :=
  ⟨h', notIn_old h.top hS, fun r hr => notIn_old (h.row r hr).1 hS⟩
theorem notIn_own {α : Type} {f : α → Value} {e : TypeId} {S : Nat → Prop} {w : World} {B n c : Nat} {a : Option Addr} {zs : List α} (h : Own e w B (.slice a n c) (zs.map f)) (hS : ∀ k, S k → k < B) (m : Nat) : NotIn S a m := by
  intro _ ad ha hs
  rcases h.form with ⟨h1, _⟩ | ⟨g, cap, sp, h1, hg, _⟩
  · injection h1 with h1
    rw [h1] at ha; cases ha
  · injection h1 with h1
    rw [h1] at ha
    injection ha with ha
    rw [← ha] at hs
    have := hS _ hs
    simp only at this
    omega
theorem OwnM.rdx {eo ei : TypeId} {S : Nat → Prop} {w : World} {B n c : Nat} {a : Option Addr} {rs : List Row} (h : OwnM eo ei w B (.slice a n c) rs) (hS : ∀ k, S k → k < B) : RdX S w a rs :=
  ⟨h.rdm, notIn_own h.outer hS _, fun r hr => notIn_own (h.inner.own r hr) hS _⟩
/-- How long a row of a graph in a cell is. -/
def lenAt (w : World) (g u : Nat) : Nat := match w.cell? ⟨g, 0, none⟩ with
  | some (.slice (some ⟨b, o, none⟩) _ _) => match w.cell? ⟨b, o + u, none⟩ with
    | some (.slice _ m _) => m
    | _ => 0
  | _ => 0
theorem lenAt_eq {w : World} {g u b o n c m k : Nat} {a : Option Addr} (h1 : w.cell? ⟨g, 0, none⟩ = some (.slice (some ⟨b, o, none⟩) n c)) (h2 : w.cell? ⟨b, o + u, none⟩ = some (.slice a m k)) : lenAt w g u = m := by
  unfold lenAt
  rw [h1]
  simp only
  rw [h2]
theorem bits_fewer {x y : Nat} (hx : x < 65536) (hy : y < 65536) (h : ∀ i, x.testBit i = true → y.testBit i = true) {k : Nat} (h1 : y.testBit k = true) (h2 : x.testBit k = false) : (mems x).length < (mems y).length := by
  have hn : (mems x).Nodup := (mems_sorted x).imp fun h => Int.ne_of_lt h
  have hk : (k : Int) ∉ mems x := fun hm => by
    obtain ⟨i, hi, hb⟩ := (mems_mem (by omega)).1 hm
    obtain rfl : k = i := by omega
    rw [h2] at hb; cases hb
  have hn2 : ((k : Int) :: mems x).Nodup := List.nodup_cons.2 ⟨hk, hn⟩
  have := hn2.length_le_of_subset (l₂ := mems y) (fun z hz => by
    rcases List.mem_cons.1 hz with rfl | hz
    · exact (mems_mem (by omega)).2 ⟨k, rfl, h1⟩
    · obtain ⟨i, rfl, hb⟩ := (mems_mem (by omega)).1 hz
      exact (mems_mem (by omega)).2 ⟨i, rfl, h i hb⟩)
  simp at this
  omega
theorem OrB.ga {n : Nat} {A H L A' H' : List Nat} (h : OrB n A H L A' H') (hA : GA n A) : GA n A' where
  len := h.la
  pos := hA.pos
  le := hA.le
  irr a := by
    rw [Bool.eq_false_iff]
    intro h1
    have := ((h.ba a a).1 h1).1
    rw [hA.irr] at this; cases this
  sym a b := by
    rw [Bool.eq_iff_iff, h.ba, h.ba, hA.sym a b]
    exact ⟨fun h => ⟨h.1, h.2.2, h.2.1⟩, fun h => ⟨h.1, h.2.2, h.2.1⟩⟩
theorem orA_nums {us : List Row} {H : List Nat} {u v : Nat} (h : nums us = H.map mems) {r : Row} (hr : r.z = mems (H.getD u 0 ||| 2 ^ v)) : nums (us.set u r) = (orA H u v).map mems := by
  unfold orA nums at *
  rw [List.map_set, List.map_set, h, hr]
/-- What all the loops hold. -/
structure OrS (n : Nat) (w0 wr : World) (ub lb : Nat) (la : Option Addr) (lc : Nat) (ls us : List Row) (A H : List Nat) : Prop where
  left : RdX (fun g => g = ub ∨ g = lb) wr la ls
  nl : nums ls = A.map mems
  cell : Own 29 wr w0.heap.size (.slice (some ⟨lb, 0, none⟩) 1 1) [.slice la n lc]
  up : OwnM 33 2 wr w0.heap.size (.slice (some ⟨ub, 0, none⟩) n n) us
  nu : nums us = H.map mems
  below : Below w0.heap.size w0 wr
theorem OrS.past {n : Nat} {w0 wr w' : World} {ub lb : Nat} {la : Option Addr} {lc : Nat} {ls us : List Row} {A H : List Nat} (h : OrS n w0 wr ub lb la lc ls us A H) (hb : Below wr.heap.size wr w') : OrS n w0 w' ub lb la lc ls us A H :=
  ⟨h.left.kept (Kept.of_below _ hb), h.nl, h.cell.past hb (Nat.le_refl _), h.up.past hb (Nat.le_refl _), h.nu, bonL h.below hb (Nat.le_refl _)⟩
/-- The orientation of a graph, if there is one. -/
noncomputable def oriG (g : List (List Int)) : Option (List Nat) := if GOk g then oriN g.length (g.map maskL) else none
def SOriPost (g : List (List Int)) (w : World) (e : Ending) (w' : World) : Prop :=
  Below w.heap.size w w' ∧ ((∃ H a c us, oriG g = some H ∧ e = .returned (.tuple #[.slice a us.length c, .bool true]) ∧ OwnM 33 2 w' w.heap.size (.slice a us.length c) us ∧ nums us = H.map mems) ∨ (oriG g = none ∧ ∃ a c, e = .returned (.tuple #[.slice a 0 c, .bool false]) ∧ OwnM 33 2 w' w.heap.size (.slice a 0 c) []))
theorem OrB.endK {n : Nat} {A H A' H' : List Nat} {u : Nat} (h : OrB n A H (clsK A u) A' H') (hA : GA n A) (h0 : A.getD u 0 ≠ 0) (hin : ∀ a b, bt H a b = true → a < n ∧ b < n) : A' = cutK n A (clsK A u) ∧ H' = addK n H (clsK A u) := by
  have h256 := frst_lt hA h0
  have hl := low16 hA h0
  have h16 := hA.le
  have hQ : QOk (bqE A (frst A u)) := bq_ok h256 256
  have hd : frst A u / 16 = u ∧ frst A u % 16 = low (A.getD u 0) := by unfold frst; exact ⟨cod_div (by omega), cod_mod (by omega)⟩
  have hQi : QIn n (bqE A (frst A u)) := bq_in hA (by rw [hd.1]; exact hl.2.2) (by rw [hd.2]; exact hl.2.1) 256
  exact h.done hA hin hQ hQi (fun p hp => (keyL_mem hQ p).1 hp) (fun p hp => (keyL_mem hQ p).2 hp)
theorem badK_of {K : List Nat} (h : ∀ p ∈ K, opp p ∉ K) : badK K = false := by
  unfold badK
  rw [List.any_eq_false]
  intro p hp hd
  exact h p hp (of_decide_eq_true hd)
theorem badK_yes {K : List Nat} {p : Nat} (h : p ∈ K) (h2 : opp p ∈ K) : badK K = true := by
  unfold badK
  rw [List.any_eq_true]
  exact ⟨p, h, decide_eq_true h2⟩
theorem OI.of_to {n u : Nat} {A0 A H : List Nat} (hA : GA n A0) (h : oriTo n A0 u = some (A, H)) : OI n A0 A H :=
  (oriTo_inv (P := fun A1 H1 => OI n A0 A1 H1) (fun _ _ h => h.ga) (OI.start hA) (fun _ _ _ hP h0 hb => hP.step hA (clsK_is hP.ga h0) (badK_no hb)) u A H h).1
theorem OI.h16 {n : Nat} {A0 A H : List Nat} (hA : GA n A0) (h : OI n A0 A H) (x : Nat) : H.getD x 0 < 65536 := by
  refine Nat.lt_of_lt_of_le (mask_lt _ n (fun i hi => (h.lt hA (a := x) (b := i) hi).2)) ?_
  exact Nat.pow_le_pow_right (n := 2) (i := n) (j := 16) (by decide) hA.le
theorem rows_z {us : List Row} {H : List Nat} (h : nums us = H.map mems) {k : Nat} (hk : k < us.length) : us[k].z = mems (H.getD k 0) := by
  have hl : us.length = H.length := by have := congrArg List.length h; simpa [nums] using this
  have h1 : (nums us)[k]'(by rw [nums_length]; exact hk) = (H.map mems)[k]'(by rw [List.length_map, ← hl]; exact hk) := by simp [h]
  rw [List.getElem_map] at h1
  rw [getD_in (by rw [← hl]; exact hk)]
  simpa [nums] using h1
theorem rows_len {us : List Row} {H : List Nat} {n : Nat} (h : nums us = H.map mems) (hl : H.length = n) : us.length = n := by
  have := congrArg List.length h
  rw [nums_length, List.length_map, hl] at this; exact this
theorem cut_fewer {n : Nat} {A : List Nat} {u : Nat} (h : GA n A) (h0 : A.getD u 0 ≠ 0) : (mems ((cutK n A (clsK A u)).getD u 0)).length < (mems (A.getD u 0)).length := by
  have hp : 2 ^ n ≤ 65536 := Nat.pow_le_pow_right (n := 2) (i := n) (j := 16) (by decide) h.le
  refine bits_fewer (k := low (A.getD u 0)) (Nat.lt_of_lt_of_le ((h.cutK _).in2 u) hp) (Nat.lt_of_lt_of_le (h.in2 u) hp) (fun i hi => ((cutK_bit h u i).1 hi).1) (low16 h h0).1 ?_
  rw [Bool.eq_false_iff]
  intro hi
  exact ((cutK_bit h u _).1 hi).2.1 (clsK_first h h0)
theorem l13Class_n (a : Option Addr) (rs : List Row) (l c n : Nat) (A : List Nat) (p q x : Nat) (w : World) (hl : rs.length = l) (hx : cod p q = x) (hA : GA n A) (hnm : nums rs = A.map mems) (hr : RdM w a rs) (hp : p < n) (hq : q < n) :
    Calls Tryd.prog 31 #[.agg #[.slice a l c], .int .i64 p, .int .i64 q] w (ClPost A x w) := by
  subst hl; exact l13Class_any a rs c n A p q x w hx hA hnm hr hp hq
theorem l19Cut_n (a : Option Addr) (rs : List Row) (l c n u v : Nat) (A : List Nat) (w : World) (hl : rs.length = l) (hA : GA n A) (hnm : nums rs = A.map mems) (hr : RdM w a rs) (hu : u < n) (hv : v < n) (huv : u ≠ v) :
    Calls Tryd.prog 34 #[.agg #[.slice a l c], .int .i64 u, .int .i64 v] w (RetOwnG 33 2 ((partA A u v).map mems) w) := by
  subst hl; exact l19Cut_any a rs c n u v A w hA hnm hr hu hv huv
theorem l19Has_n (a : Option Addr) (qs : List Row) (l c : Nat) (L : List Nat) (u v x : Nat) (w : World) (b : Bool) (hl0 : qs.length = l) (hn : nums qs = L.map prI) (hr : RdM w a qs) (hx : cod u v = x) (hv : v < 16) (hb : decide (x ∈ L) = b) (hl : qs.length ≤ 16777216) :
    Calls Tryd.prog 32 #[.slice a l c, .int .i64 u, .int .i64 v] w fun e w' => e = .returned (.bool b) ∧ w = w' := by
  subst hl0; exact l19Has_any a qs c L u v x w b hn hr hx hv hb hl
attribute [local irreducible] frL bq addAll bqE keyL
set_option maxRecDepth 100000 in
set_option maxHeartbeats 1000000 in
theorem specOriented_any (a : Option Addr) (rs : List Row) (c : Nat) (w : World) (hr : RdM w a rs) (hn : Small rs) :
    Calls Tryd.prog 9 #[.agg #[.slice a rs.length c]] w (SOriPost (nums rs) w) := by
  have RA := hid hr; clear hr
  obtain ⟨w0, hw0⟩ : ∃ w0, w0 = (w.alloc (.cells #[.slice a rs.length c] 29)) := ⟨_, rfl⟩
  have B0 := hid (show Below w.heap.size w w0 by rw [hw0]; exact ((Below.refl _ _).alloc (Nat.le_refl _) _))
  have c0 : w0.cell? ⟨w.heap.size, 0, none⟩ = some (.slice a rs.length c) := by rw [hw0]; simp [go_sem]
  replace RA := hid (RA.out.below B0.out (Nat.le_refl _))
  have HW := hid hw0; clear hw0
  have hle0 : w.heap.size ≤ w0.heap.size := B0.out.size
  have HRO := hid RA.out
  by_cases hg : GOk (nums rs)
  · have H1 := hid (show decide (GOk (nums rs)) = true by simpa using hg)
    have HGA := hid (show GA rs.length ((nums rs).map maskL) by have := GA.of hg; rwa [nums_length] at this)
    have HNM := hid (show nums rs = ((nums rs).map maskL).map mems by
      rw [List.map_map]
      apply List.ext_getElem (by simp)
      intro i h1 h2
      have hi : i < (nums rs).length := h1
      have h3 := mems_maskL (hg.inc i hi) (by have := hg.le; omega)
      rw [row_nat _ _ hi] at h3
      simp [h3])
    have HE := hid (show oriG (nums rs) = oriN rs.length ((nums rs).map maskL) by unfold oriG; rw [if_pos hg, nums_length])
    have h16 := HGA.out.le
    have hpos := HGA.out.pos
    clear hg
    generalize (nums rs).map maskL = A0 at *
    go_enter Tryd.func9, Tryd.ntmps9
    go_wp2_with fail
    rw [← HW.out]
    go_wp2_with fail
    refine (specGraphOk_b a rs c _ true H1.out RA.out hn).mono ?_
    rintro e w1 ⟨rfl, hb⟩
    replace RA := hid (RA.out.below hb (Nat.le_refl _))
    replace B0 := hid (bon B0.out hb)
    replace c0 := cellB hb c0 (Nat.le_refl _)
    clear hb
    have HRA1 := hid RA.out; have HC1 := hid c0; have HB1 := hid B0.out
    have hs1 := B0.out.size
    have hw1 : w.heap.size < w1.heap.size := World.block_lt_of_cell? _ _ c0
    go_wp2_with (at_make; refine law_make tRows _ rfl _ _ rfl rs.length _ _ rfl rfl (by omega) ?_; intro wn hown hb hsn; have cm := cellB hb c0 (Nat.le_refl _); have HOW := hid hown; have HBN := hid hb; clear hown hb)
    have HUP := hid (show Own 33 wn w1.heap.size (.slice (some ⟨w1.heap.size, 0, none⟩) rs.length rs.length) ((List.replicate rs.length (⟨none, [], 0⟩ : Row)).map Row.val) by
      rw [List.map_replicate]; exact HOW.out)
    have hb := HBN.out
    have HBN1 := hid (show Below w1.heap.size w1 wn from HBN.out)
    replace RA := hid (RA.out.below hb (Nat.le_refl _))
    replace B0 := hid (bon B0.out hb)
    replace c0 := cellB hb c0 (Nat.le_refl _)
    clear hb
    clear cm HOW HBN
    have hsn1 : w1.heap.size < wn.heap.size := by omega
    have OS0 := hid (show OrS rs.length w1 (wn.alloc (.cells #[.slice a rs.length c] 29)) w1.heap.size wn.heap.size a c rs (List.replicate rs.length (⟨none, [], 0⟩ : Row)) A0 (List.replicate rs.length 0) from by
      have hb := alloc_below wn (.cells #[.slice a rs.length c] 29)
      refine ⟨RdX.of_old HRA1.out (RA.out.below hb (Nat.le_refl _)) ?_, HNM.out, (own_new 29 wn [.slice a rs.length c] (by simp [maxLen])).base (by omega), ⟨HUP.out.past hb (Nat.le_refl _), ⟨?_, ?_⟩⟩, ?_, bonL HBN1.out hb (Nat.le_refl _)⟩
      · rintro k (rfl | rfl) <;> omega
      · intro r hr
        obtain ⟨_, rfl⟩ := List.mem_replicate.1 hr
        exact Own.nil _ _ _
      · rw [List.map_replicate, List.pairwise_replicate]
        exact .inr (.inl rfl)
      · unfold nums
        rw [List.map_replicate, List.map_replicate, mems_zero])
    clear HUP RA HRA1
    generalize hwb : wn.alloc (.cells #[.slice a rs.length c] 29) = wb at *
    clear hwb
    generalize hub : w1.heap.size = ub at *
    generalize hlb : wn.heap.size = lb at *
    clear hlb
    go_loopw [6] (fun x wr => ∃ (u : Nat) (A H : List Nat) (la : Option Addr) (lc : Nat) (ls us : List Row), u ≤ rs.length ∧ x = .int .i64 u ∧ oriTo rs.length A0 u = some (A, H) ∧ OrS rs.length w1 wr ub lb la lc ls us A H) (fun x _ => rs.length - (intOf x).toNat)
    case atStart => exact ⟨0, A0, _, a, c, rs, _, Nat.zero_le _, rfl, rfl, OS0.out⟩
    case round =>
      obtain ⟨u, A, H, la, lc, ls, us, hu, rfl, hto, hos⟩ := hrel
      have OS := hid hos; have HTO := hid hto
      have cg := cellB hos.below HC1.out (Nat.le_refl _)
      have HOI := hid (OI.of_to HGA.out hto)
      clear hos hto OS0
      by_cases hlt : u < rs.length
      · have hui : (u : Int) < (rs.length : Int) := by omega
        have HIN0 := hid (show oriIn rs.length A H u = oriTo rs.length A0 (u + 1) from by
          show _ = (oriTo rs.length A0 u).bind _
          rw [HTO.out]; rfl)
        go_wp2
        go_loopw [7] (fun _ wr => ∃ (A H : List Nat) (la : Option Addr) (lc : Nat) (ls us : List Row), oriIn rs.length A H u = oriTo rs.length A0 (u + 1) ∧ OI rs.length A0 A H ∧ OrS rs.length w1 wr ub lb la lc ls us A H) (fun _ wr => lenAt wr lb u)
        case atStart => exact ⟨A, H, la, lc, ls, us, HIN0.out, HOI.out, OS.out⟩
        case round =>
          clear OS HTO HOI HIN0 cg
          clear A H la lc ls us
          obtain ⟨A, H, la, lc, ls, us, hin, hoi, hos⟩ := hrel
          have OS := hid hos; have HOI := hid hoi; have HIN := hid hin
          have HGA1 := hid hoi.ga
          have hll := rows_len hos.nl hoi.ga.len
          have HLL := hid hll
          obtain ⟨gb, go, rfl, crow, hrok⟩ := hos.left.rd.at u (by rw [hll]; exact hlt)
          have hrz := rows_z hos.nl (k := u) (by rw [hll]; exact hlt)
          have ccell := hos.cell.cell 0 (by simp)
          rw [List.getElem_cons_zero] at ccell
          have HME := hid (lenAt_eq ccell crow)
          have hX16 := Nat.lt_of_lt_of_le (hoi.ga.in2 u) (Nat.pow_le_pow_right (n := 2) (i := rs.length) (j := 16) (by decide) h16)
          rw [hrz] at crow HME
          have HRR := hid (hrz ▸ hrok.1)
          clear hin hoi hos hrok hrz
          generalize ls[u].a = ra at *
          generalize ls[u].c = rc at *
          clear hll
          by_cases h0 : A.getD u 0 = 0
          · have HT1 := hid (show oriTo rs.length A0 (u + 1) = some (A, H) by rw [← HIN.out, oriIn_zero h0])
            have hz0 : (mems (A.getD u 0)).length = 0 := by rw [h0, mems_zero]; rfl
            generalize (mems (A.getD u 0)).length = m0 at *
            subst hz0
            clear h0
            go_wp2
            go_roundw
            case rel => exact ⟨u + 1, A, H, _, lc, ls, us, by omega, by go_num, HT1.out, OS.out⟩
            case measure => simp [intOf]; omega
          · have hcons := mems_cons h0 (show A.getD u 0 < 4294967296 by omega)
            have hmlen : 0 < (mems (A.getD u 0)).length := by rw [hcons]; simp
            have hl16 := low16 HGA1.out h0
            have HFR := hid (show cod u (low (A.getD u 0)) = frst A u from rfl)
            have HH0 := hid h0
            obtain ⟨rb, ro, hra, e0⟩ := HRR.out 0 hmlen
            have e0' : wr.cell? ⟨rb, ro, none⟩ = some (.int .i64 (low (A.getD u 0) : Nat)) := by
              have h9 : (mems (A.getD u 0))[0]'hmlen = ((low (A.getD u 0) : Nat) : Int) := by simp only [hcons, List.getElem_cons_zero]
              rw [h9, Nat.add_zero] at e0
              exact e0
            subst hra
            have hlow : low (A.getD u 0) < rs.length := hl16.2.1
            clear e0 hcons hl16 h0
            generalize hML : (mems (A.getD u 0)).length = ml at *
            generalize low (A.getD u 0) = lo at *
            have HMLE := hid hML
            clear hML
            have hmi : (0 : Int) < (ml : Int) := by omega
            have hmd : decide (0 < ml) = true := by rw [decide_eq_true_iff]; exact hmlen
            have hgo : go + u = go + u := rfl
            have D3 : Drawn wr wr.drew := ⟨1, rfl⟩
            have OS3 := hid (OS.out.past (D3.below wr.heap.size))
            have f0 := dcell D3 ccell
            have f1 := dcell D3 crow
            have f2 := dcell D3 e0'
            clear hgo HRR
            go_wp2_with fail
            clear ccell crow e0'
            go_region_with ((first | (go_at_call 31; refine (l13Class_n _ ls _ lc rs.length A u lo (frst A u) _ HLL.out HFR.out HGA1.out OS3.out.nl OS3.out.left.rd hlt hlow).mono ?_; rintro e w4 ⟨cv, qs, rfl, hown, hnq, ⟨ca, cc, rfl⟩, hb⟩; have OS4 := hid (OS3.out.past hb); have HNQ := hid hnq; have RQ := hid (hown.rdx (S := fun g => g = ub ∨ g = lb) (by
              have k1 := OS3.out.up.outer.lt ub rfl
              have k2 := OS3.out.cell.lt lb rfl
              rintro k (rfl | rfl) <;> omega)); clear hown hnq hb)))
            all_goals (
              clear f0 f1 f2 OS3
              have HIK := hid (clsK_is HGA1.out HH0.out)
              have HSTP := hid (fun hb => oriIn_step (n := rs.length) (H := H) HGA1.out HH0.out hb)
              have HEK := hid (fun A' H' (h : OrB rs.length A H (clsK A u) A' H') => h.endK HGA1.out HH0.out (fun a b hb => HOI.out.lt HGA.out hb))
              have HBD := hid (fun hb => oriIn_bad (n := rs.length) (H := H) HH0.out hb)
              have HFW := hid (show (mems ((cutK rs.length A (clsK A u)).getD u 0)).length < ml by rw [← HMLE.out]; exact cut_fewer HGA1.out HH0.out)
              have HNK := hid (show nums qs = (clsK A u).map prI from HNQ.out)
              have HKL := hid (show (clsK A u).length ≤ 256 from keyL_len _)
              have ORB0 := hid (OrB.start HGA1.out HOI.out.len (fun x => HOI.out.h16 HGA.out x))
              have HKX := hid (fun (hno : ∀ p ∈ clsK A u, opp p ∉ clsK A u) => badK_of hno)
              have hqk : qs.length = (clsK A u).length := by have := congrArg List.length HNK.out; simpa [nums] using this
              have HQK := hid hqk
              clear HNQ hqk
              generalize clsK A u = K at *
              have hk256 := HKL.out
              rw [HQK.out]
              go_wp2
              go_loopw [8] (fun x wr => ∃ (i : Nat) (A' H' : List Nat) (la : Option Addr) (lc : Nat) (ls us : List Row), i ≤ K.length ∧ x = .int .i64 i ∧ OrB rs.length A H (K.take i) A' H' ∧ (∀ p ∈ K.take i, opp p ∉ K) ∧ RdX (fun g => g = ub ∨ g = lb) wr (some ca) qs ∧ OrS rs.length w1 wr ub lb la lc ls us A' H') (fun x _ => K.length - (intOf x).toNat)
              case atStart => exact ⟨0, A, H, _, lc, ls, us, Nat.zero_le _, rfl, by rw [List.take_zero]; exact ORB0.out, (fun p hp => by rw [List.take_zero] at hp; cases hp), RQ.out, OS4.out⟩
              case round =>
                clear OS4 RQ ORB0 OS HLL
                obtain ⟨i, A', H', la, lc, ls, us, hi, rfl, hor, hno, hrq, hos⟩ := hrel
                have ORB := hid hor; have NO := hid hno; have RQ := hid hrq; have OS := hid hos
                clear hor hno hos
                by_cases hik : i < K.length
                · have hii : (i : Int) < (K.length : Int) := by omega
                  obtain ⟨cb, co, ra, rc, hca, ck, hrd, rb, ro, hra, e0, e1⟩ := row_pr hrq.rd HNK.out hik
                  injection hca with hca
                  subst hca; subst hra
                  have HPK := hid (List.getElem_mem hik)
                  have HTK := hid (List.take_succ_eq_append_getElem hik)
                  have hed := HIK.out.edge _ (List.getElem_mem hik)
                  have hpl := edA_lt HGA1.out hed
                  have hp256 := edA_256 HGA1.out hed
                  have hirr := HGA1.out.irr (K[i] % 16)
                  have HED := hid hed
                  generalize K[i] = p at *
                  obtain ⟨pa, hpa⟩ : ∃ pa, pa = p / 16 := ⟨_, rfl⟩
                  obtain ⟨pb, hpb⟩ : ∃ pb, pb = p % 16 := ⟨_, rfl⟩
                  have hpc : cod pa pb = p := by rw [hpa, hpb]; exact cod_self p
                  have HOC := hid (show cod pb pa = opp p by unfold opp; rw [hpa, hpb])
                  rw [← hpa] at e0 hpl
                  rw [← hpb] at e1 hpl hirr
                  have hpab : pa ≠ pb := by
                    intro e
                    have h1 := HED.out
                    unfold edA at h1
                    rw [← hpa, ← hpb, e, hirr] at h1
                    cases h1
                  have hpan := hpl.1
                  have hpbn := hpl.2
                  clear hpa hpb hpl hirr hed hrq hrd
                  have HPC := hid hpc
                  clear hpc
                  by_cases hbad : opp p ∈ K
                  · have HDB := hid (show decide (opp p ∈ K) = true by rw [decide_eq_true_iff]; exact hbad)
                    have HNN := hid (show oriG (nums rs) = none from by
                      rw [HE.out]
                      exact oriN_none (u := u + 1) hlt (by rw [← HIN.out]; exact HBD.out (badK_yes HPK.out hbad)))
                    clear hbad
                    have hqm : qs.length ≤ 16777216 := by rw [HQK.out]; omega
                    have HQM := hid hqm
                    clear hqm
                    have HSZ := hid (show w.heap.size ≤ wr.heap.size from Nat.le_trans HB1.out.size OS.out.below.size)
                    have ON := hid (own_new 33 wr [] (by decide))
                    have HBW := hid (show Below w.heap.size w (wr.alloc (.cells #[] 33)) from (HB1.out.trans (OS.out.below.mono HB1.out.size)).alloc HSZ.out _)
                    go_wp2_with (first | (go_at_call 32; refine (l19Has_n _ qs _ _ K pb pa (opp p) _ true HQK.out HNK.out RQ.out.rd HOC.out (by omega) HDB.out HQM.out).mono ?_; rintro e w' ⟨rfl, rfl⟩))
                    go_ret2
                    exact ⟨HBW.out, .inr ⟨HNN.out, _, _, rfl, ⟨ON.out.base HSZ.out, Inner.nil _ _ _⟩⟩⟩
                  · have HDB := hid (show decide (opp p ∈ K) = false by rw [decide_eq_false_iff_not]; exact hbad)
                    have HNO2 := hid (show ∀ q ∈ K.take (i + 1), opp q ∉ K from by
                      intro q hq
                      rw [HTK.out] at hq
                      rcases List.mem_append.1 hq with h | h
                      · exact NO.out q h
                      · have : q = p := by simpa using h
                        rw [this]; exact hbad)
                    clear hbad
                    have hqm : qs.length ≤ 16777216 := by rw [HQK.out]; omega
                    have HQM := hid hqm
                    clear hqm
                    have hul := rows_len OS.out.nu ORB.out.lh
                    have hupa : pa < us.length := by rw [hul]; exact hpan
                    obtain ⟨ub1, uo1, hub1, cup, huok⟩ := OS.out.up.rdm.at pa hupa
                    obtain ⟨rfl, rfl⟩ : ub = ub1 ∧ 0 = uo1 := by simp at hub1; exact hub1
                    rw [Nat.zero_add] at cup
                    have HUOK := hid huok
                    have HUZ := hid (rows_z OS.out.nu hupa)
                    have HAF := hid (OS.out.up.aform us[pa] (List.getElem_mem hupa))
                    have HULE := hid (show us[pa].z.length ≤ 16 by rw [HUZ.out]; exact mems_16c (ORB.out.h16 pa))
                    have HPUT := hid (fun (w4 : World) (r : Row) (hb : Below wr.heap.size wr w4) (hr : r = us[pa] ∨ Own 2 w4 wr.heap.size r.val (r.z.map (.int .i64))) => OS.out.up.put (by decide) pa hupa r hb OS.out.below.size hr)
                    have HUPA := hid hupa
                    have HGAB := hid (ORB.out.ga HGA1.out)
                    have HSTEP := hid (ORB.out.step HGA1.out hpan hpbn)
                    rw [HPC.out, ← HTK.out] at HSTEP
                    have HLS := hid (rows_len OS.out.nl ORB.out.la)
                    have hpb16 : pb < 16 := by omega
                    have hpai : (pa : Int) < (rs.length : Int) := by omega
                    have HH16 := hid (ORB.out.h16 pa)
                    have HNU := hid OS.out.nu
                    have cl := OS.out.cell.cell 0 (by simp)
                    rw [List.getElem_cons_zero] at cl
                    have HSZ1 := hid OS.out.below.size
                    have HLBL := hid (OS.out.cell.lt lb rfl)
                    have HUBL := hid (OS.out.up.outer.lt ub rfl)
                    clear hub1 huok hul
                    have hno19 : True := trivial
                    generalize hq : us[pa] = q at *
                    clear hq
                    go_wp2_with (first | (go_at_call 32; refine (l19Has_n _ qs _ _ K pb pa (opp p) _ false HQK.out HNK.out RQ.out.rd HOC.out (by omega) HDB.out HQM.out).mono ?_; rintro e w' ⟨rfl, rfl⟩) | (go_at_call 33; refine (l1Into_row q (H'.getD pa 0) pb _ HUZ.out HH16.out hpb16 HUOK.out HAF.out HULE.out).mono ?_; rintro e w4 ⟨r, rfl, hz, hcase, hb⟩; have cup4 := cellB hb cup (Nat.le_refl _); have UP5 := hid (show OwnM 33 2 (w4.setCell ⟨ub, pa, none⟩ (.slice r.a r.z.length r.c)) w1.heap.size (.slice (some ⟨ub, 0, none⟩) rs.length rs.length) (us.set pa r) from HPUT.out w4 r hb hcase); have HZ5 := hid hz; have hfr := (OS.out.up.outer.past hb (Nat.le_refl _)).free pa; have K5 := hid (Kept.setCell (S := fun g => g = ub ∨ g = lb) (Kept.of_below _ hb) (p := ⟨ub, pa, none⟩) (.inl rfl) (.slice r.a r.z.length r.c)); have CE5 := hid ((OS.out.cell.past hb (Nat.le_refl _)).setCell_other ⟨ub, pa, none⟩ (.slice r.a r.z.length r.c) (.inr (by simp [Value.ownBlock]; omega))); have cl5 := CE5.out.cell 0 (by simp); rw [List.getElem_cons_zero] at cl5; have BL5 := hid (Below.setCell (bonL OS.out.below hb (Nat.le_refl _)) (p := ⟨ub, pa, none⟩) (by simp only; omega) (.slice r.a r.z.length r.c)); have HS45 := hid hb.size; clear hz hcase hb))
                    have HNU5 := hid (orA_nums (v := pb) HNU.out HZ5.out)
                    have hs5 : (w4.setCell ⟨ub, pa, none⟩ (.slice r.a r.z.length r.c)).heap.size = w4.heap.size := by simp [World.setCell]
                    have HS5 := hid hs5
                    clear hs5 cup cup4 hfr cl
                    generalize w4.setCell ⟨ub, pa, none⟩ (.slice r.a r.z.length r.c) = w5 at *
                    refine (l19Cut_n la ls _ lc rs.length pa pb A' _ HLS.out HGAB.out OS.out.nl (OS.out.left.kept K5.out).rd hpan hpbn hpab).mono ?_
                    rintro e w6 ⟨v6, ls6, rfl, hn6, ho6, hb6⟩
                    have hl6 := rows_len hn6 (show (partA A' pa pb).length = rs.length by rw [partA_len]; exact ORB.out.la)
                    obtain ⟨a6, c6, hv6, _⟩ := ho6.rd
                    rw [hl6] at hv6
                    subst hv6
                    have CE6 := hid (CE5.out.past hb6 (Nat.le_refl _))
                    have cl6 := CE6.out.cell 0 (by simp)
                    rw [List.getElem_cons_zero] at cl6
                    have hfr6 := CE6.out.free 0
                    have K7 := hid (Kept.setCell (S := fun g => g = ub ∨ g = lb) (Kept.refl _ w6) (p := ⟨lb, 0, none⟩) (.inr rfl) (.slice a6 rs.length c6))
                    have RQ7 := hid (((RQ.out.kept K5.out).kept (Kept.of_below _ hb6)).kept K7.out)
                    have hw5u := UP5.out.outer.lt ub rfl
                    have hw5l := CE5.out.lt lb rfl
                    have OS7 := hid (show OrS rs.length w1 (w6.setCell ⟨lb, 0, none⟩ (.slice a6 rs.length c6)) ub lb a6 c6 ls6 (us.set pa r) (partA A' pa pb) (orA H' pa pb) from
                      ⟨(ho6.rdx (by rintro k (rfl | rfl) <;> assumption)).kept K7.out, hn6, by have h9 := CE6.out.store 0 (by simp) (.slice a6 rs.length c6); simpa using h9, (UP5.out.past hb6 (Nat.le_refl _)).setCell_typed CE6.out (by decide) (by decide) 0 (.slice a6 rs.length c6), HNU5.out, Below.setCell (bonL BL5.out hb6 (Nat.le_refl _)) (p := ⟨lb, 0, none⟩) (by simp only; omega) (.slice a6 rs.length c6)⟩)
                    clear hn6 ho6 hl6 hb6 hw5u hw5l cl5
                    go_wp2
                    go_roundw
                    case rel => exact ⟨i + 1, _, _, a6, c6, ls6, _, by omega, by go_num, HSTEP.out, HNO2.out, RQ7.out, OS7.out⟩
                    case measure => simp [intOf]; omega
                · obtain rfl : i = K.length := by omega
                  rw [List.take_length] at ORB NO
                  obtain ⟨he1, he2⟩ := HEK.out A' H' ORB.out
                  subst he1; subst he2
                  have HB0 := hid (HKX.out NO.out)
                  have HIN2 := hid (show oriIn rs.length (cutK rs.length A K) (addK rs.length H K) u = oriTo rs.length A0 (u + 1) by rw [← HSTP.out HB0.out]; exact HIN.out)
                  have HOI2 := hid (HOI.out.step HGA.out HIK.out (badK_no HB0.out))
                  have hll2 := rows_len OS.out.nl ORB.out.la
                  have hu2 : u < ls.length := by rw [hll2]; exact hlt
                  obtain ⟨gb2, go2, rfl, crow2, _⟩ := OS.out.left.rd.at u hu2
                  have hrz2 := rows_z OS.out.nl (k := u) hu2
                  have ccell2 := OS.out.cell.cell 0 (by simp)
                  rw [List.getElem_cons_zero] at ccell2
                  have HME2 := hid (lenAt_eq ccell2 crow2)
                  rw [hrz2] at HME2
                  clear crow2 hrz2 ccell2 hll2
                  go_wp2
                  go_roundw
                  case rel => exact ⟨_, _, _, lc, ls, us, HIN2.out, HOI2.out, OS.out⟩
                  case measure =>
                    rw [HME2.out, HME.out]
                    exact HFW.out)
      · obtain rfl : u = rs.length := by omega
        have HEE := hid (show oriG (nums rs) = some H by rw [HE.out]; unfold oriN; rw [HTO.out]; rfl)
        have hul := rows_len OS.out.nu HOI.out.len
        have hup := OS.out.up
        rw [← hul] at hup
        have HUP := hid (hup.base (B' := w.heap.size) HB1.out.size)
        have HBB := hid (HB1.out.trans (OS.out.below.mono HB1.out.size))
        have HUL := hid hul
        clear hul hup
        go_wp2
        go_ret2
        exact ⟨HBB.out, .inl ⟨H, _, _, us, HEE.out, by rw [HUL.out]; rfl, HUP.out, OS.out.nu⟩⟩
  · have H1 := hid (show decide (GOk (nums rs)) = false by simpa using hg)
    have HR := hid (show oriG (nums rs) = none by unfold oriG; rw [if_neg hg])
    clear hg
    go_enter Tryd.func9, Tryd.ntmps9
    go_wp2_with fail
    rw [← HW.out]
    go_wp2_with fail
    refine (specGraphOk_b a rs c _ false H1.out RA.out hn).mono ?_
    rintro e w2 ⟨rfl, hb⟩
    replace RA := hid (RA.out.below hb (Nat.le_refl _))
    replace B0 := hid (bon B0.out hb)
    replace c0 := cellB hb c0 (Nat.le_refl _)
    clear hb
    have ON := hid (own_new 33 w2 [] (by decide))
    have hsz := B0.out.size
    go_wp2
    go_ret2
    exact ⟨B0.out.alloc hsz _, .inr ⟨HR.out, _, _, rfl, ⟨ON.out.base hsz, Inner.nil _ _ _⟩⟩⟩
end
end
end Go.Proofs.YtdncmloajajiaaaDoor
