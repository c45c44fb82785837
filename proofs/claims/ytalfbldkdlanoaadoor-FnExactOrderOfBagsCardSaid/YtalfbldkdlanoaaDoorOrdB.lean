/- OrderOfBags: both. -/
import Derived.Test.YtalfbldkdlanoaaDoorPathB
import Derived.Test.YtalfbldkdlanoaaDoorPathBI
import Derived.Test.YtalfbldkdlanoaaDoorBagM
import Derived.Test.YtalfbldkdlanoaaDoorLeft
namespace Go.Proofs.YtalfbldkdlanoaaDoor
open Go.RowKit
noncomputable def fresh (out b : List Int) : List Int := b.filter fun v => decide (v ∉ out)
noncomputable def ordTo (bs : List (List Int)) : List Int := bs.foldl (fun out b => out ++ fresh out b) []
theorem ordTo_snoc (bs : List (List Int)) (k : Nat) (h : k < bs.length) : ordTo (bs.take (k + 1)) = ordTo (bs.take k) ++ fresh (ordTo (bs.take k)) bs[k] := by
  unfold ordTo
  rw [List.take_succ_eq_append_getElem h, List.foldl_append]
  rfl
theorem fresh_snoc (out b : List Int) (j : Nat) (h : j < b.length) : fresh out (b.take (j + 1)) = fresh out (b.take j) ++ if b[j] ∉ out then [b[j]] else [] := by
  unfold fresh
  rw [List.take_succ_eq_append_getElem h, List.filter_append]
  by_cases hm : b[j] ∈ out <;> simp [hm]
theorem fresh_len (out b : List Int) : (fresh out b).length ≤ b.length := List.length_filter_le _ _
theorem ordTo_small (bs : List (List Int)) (n : Nat) (h : ∀ b ∈ bs, Inc n b) : (ordTo bs).Nodup ∧ ∀ x ∈ ordTo bs, 0 ≤ x ∧ x < n := by
  suffices H : ∀ (bs : List (List Int)) (o : List Int), (∀ b ∈ bs, Inc n b) → o.Nodup → (∀ x ∈ o, 0 ≤ x ∧ x < n) → (bs.foldl (fun out b => out ++ fresh out b) o).Nodup ∧ ∀ x ∈ bs.foldl (fun out b => out ++ fresh out b) o, 0 ≤ x ∧ x < n from
    H bs [] h (by simp) (by simp)
  intro bs
  induction bs with
  | nil => intro o _ h1 h2; exact ⟨h1, h2⟩
  | cons b bs ih =>
    intro o hb h1 h2
    have hbi := hb b (by simp)
    refine ih _ (fun c hc => hb c (List.mem_cons_of_mem _ hc)) ?_ ?_
    · rw [List.nodup_append]
      refine ⟨h1, (inc_nodup hbi).filter _, ?_⟩
      intro x hx y hy
      have := (List.mem_filter.1 hy).2
      rintro rfl
      simp at this; exact this hx
    · intro x hx
      rcases List.mem_append.1 hx with hx | hx
      · exact h2 x hx
      · exact hbi.1 x (List.mem_filter.1 hx).1
theorem fresh_mask {n : Int} {b : List Int} (hb : Inc n b) (hn : n ≤ 16) {out : List Int} (ho : ∀ x ∈ out, 0 ≤ x) : mems (dif (maskL b) (maskL out)) = fresh out b := by
  have hi : Inc n (fresh out b) := ⟨fun x hx => hb.1 x (List.mem_filter.1 hx).1, hb.2.filter _⟩
  rw [← mems_maskL hi hn]
  congr 1
  apply Nat.eq_of_testBit_eq
  intro i
  rw [testBit_dif, testBit_maskL b i (fun v hv => (hb.1 v hv).1), testBit_maskL out i ho, testBit_maskL _ i (fun v hv => (hi.1 v hv).1)]
  unfold fresh
  rw [Bool.eq_iff_iff]
  simp
theorem maskL_append (a b : List Int) (ha : ∀ x ∈ a, 0 ≤ x) (hb : ∀ x ∈ b, 0 ≤ x) : maskL (a ++ b) = maskL a ||| maskL b := by
  apply Nat.eq_of_testBit_eq
  intro i
  rw [Nat.testBit_or, testBit_maskL _ i (fun v hv => by rcases List.mem_append.1 hv with h | h; exact ha v h; exact hb v h), testBit_maskL a i ha, testBit_maskL b i hb, Bool.eq_iff_iff]
  simp
theorem mask_fresh {a b : List Int} (ha : ∀ x ∈ a, 0 ≤ x) (hb : ∀ x ∈ b, 0 ≤ x) : maskL (a ++ fresh a b) = maskL a ||| maskL b := by
  apply Nat.eq_of_testBit_eq
  intro i
  have hf : ∀ x ∈ fresh a b, 0 ≤ x := fun x hx => hb x (List.mem_filter.1 hx).1
  rw [maskL_append a _ ha hf, Nat.testBit_or, Nat.testBit_or, testBit_maskL a i ha, testBit_maskL b i hb, testBit_maskL _ i hf, Bool.eq_iff_iff]
  unfold fresh
  simp
  constructor
  · rintro (h | h)
    · exact .inl h
    · exact .inr h.1
  · rintro (h | h)
    · exact .inl h
    · by_cases h2 : (i : Int) ∈ a
      · exact .inl h2
      · exact .inr ⟨h, h2⟩
noncomputable def ordL (g bs : List (List Int)) : List Int := if PathP g bs then ordTo bs else []
theorem ordL_len (g bs : List (List Int)) : (ordL g bs).length ≤ 1048576 := by
  unfold ordL
  split
  · rename_i h
    obtain ⟨h1, h2⟩ := ordTo_small bs g.length (fun b hb => (h.rows b hb).2)
    have := nodup_le _ g.length h1 h2
    have := h.ok.le
    omega
  · simp
/-- Of bags that are right, at each bag. -/
theorem ord_at {n : Nat} {bs : List (List Int)} (h : ∀ b ∈ bs, Inc n b) (hn : n ≤ 16) (k : Nat) : (ordTo (bs.take k)).length ≤ 16 ∧ ∀ x ∈ ordTo (bs.take k), 0 ≤ x := by
  obtain ⟨h1, h2⟩ := ordTo_small (bs.take k) n (fun b hb => h b (List.mem_of_mem_take hb))
  have := nodup_le _ n h1 h2
  exact ⟨by omega, fun x hx => (h2 x hx).1⟩
set_option maxRecDepth 100000 in
set_option maxHeartbeats 2000000 in
theorem specOrderOfBags_any (a : Option Addr) (rs : List Row) (c : Nat) (b : Option Addr) (qs : List Row) (d : Nat) (w : World) (r : List Int) (hx : ordL (nums rs) (nums qs) = r) (hr : RdM w a rs) (hn : Small rs) (hq : RdM w b qs) (hm : Small qs) :
    Calls Tryd.prog 25 #[.agg #[.slice a rs.length c], .slice b qs.length d] w (RetOwn 2 (r.map (.int .i64)) w) := by
  have RA := hid hr; have RQ := hid hq; have HX := hid hx; clear hr hq hx
  have hqs := hm.1
  obtain ⟨w0, hw0⟩ : ∃ w0, w0 = (w.alloc (.cells #[.slice a rs.length c] 29)) := ⟨_, rfl⟩
  have B0 := hid (show Below w.heap.size w w0 by rw [hw0]; exact ((Below.refl _ _).alloc (Nat.le_refl _) _))
  have c0 : w0.cell? ⟨w.heap.size, 0, none⟩ = some (.slice a rs.length c) := by rw [hw0]; simp [go_sem]
  replace RA := hid (RA.out.below B0.out (Nat.le_refl _))
  replace RQ := hid (RQ.out.below B0.out (Nat.le_refl _))
  have HW := hid hw0; clear hw0
  have hsz : w0.heap.size = w.heap.size + 1 := by rw [HW.out]; simp
  have HNEW := hid (show Own 2 (w0.alloc (.cells #[] 2)) (w.heap.size + 1) (.slice (some ⟨w.heap.size + 1, 0, none⟩) 0 0) ((ordTo ((nums qs).take 0)).map (.int .i64)) by have h := own_new 2 w0 [] (by decide); rw [hsz] at h; exact h)
  have HE0 := hid (alloc_below w0 (.cells #[] 2))
  by_cases hp : PathP (nums rs) (nums qs)
  · have h1 := hid (show decide (PathP (nums rs) (nums qs)) = true by simpa using hp)
    have HROW := hid (show ∀ b ∈ nums qs, Inc (nums rs).length b from fun b hb => (hp.rows b hb).2)
    have HL16 := hid (show (nums rs).length ≤ 16 from hp.ok.le)
    have HAT := hid (ord_at HROW.out HL16.out)
    have HNQ := hid (nums_length qs)
    have HR := hid (show ordTo (nums qs) = r by rw [← HX.out]; unfold ordL; rw [if_pos hp])
    clear hp HX
    go_enter Tryd.func25, Tryd.ntmps25
    go_wp2_with fail
    rw [← HW.out]
    refine (specPathBagsOk_b a rs c b qs d _ _ h1.out (RA.out.below HE0.out (Nat.le_refl _)) hn (RQ.out.below HE0.out (Nat.le_refl _)) hm).mono ?_
    rintro e w1 ⟨rfl, hb⟩
    have HO1 := hid (HNEW.out.past hb (Nat.le_refl _))
    have BA := hid (HE0.out.trans (hb.mono HE0.out.size))
    clear hb
    go_wp2
    go_loopw [5, 6, 7] (fun o kv _ wr => ∃ k : Nat, k ≤ qs.length ∧ kv = .int .i64 k ∧ Own 2 wr (w.heap.size + 1) o ((ordTo ((nums qs).take k)).map (.int .i64)) ∧ Below w0.heap.size w0 wr) (fun _ kv _ _ => qs.length - (intOf kv).toNat)
    case atStart => exact ⟨0, Nat.zero_le _, rfl, HO1.out, BA.out⟩
    case round =>
      obtain ⟨k, hk, rfl, ho, hb⟩ := hrel
      have OM := hid ho; have BL := hid hb; clear ho hb
      by_cases hlt : k < qs.length
      · have hki : (k : Int) < (qs.length : Int) := by omega
        have HSN := hid (ordTo_snoc (nums qs) k (by rw [HNQ.out]; exact hlt))
        rw [show (nums qs)[k]'(by rw [HNQ.out]; exact hlt) = qs[k].z by simp [nums]] at HSN
        have HI := hid (HROW.out qs[k].z (List.mem_map.2 ⟨qs[k], List.getElem_mem hlt, rfl⟩))
        obtain ⟨lb, lo, rfl, ck0, hkok⟩ := RQ.out.at k hlt
        have RP0 := hid hkok.1
        have hz := hm.2 _ (List.getElem_mem hlt)
        have hz16 : qs[k].z.length ≤ 16 := by
          have h2 := nodup_le _ (nums rs).length (inc_nodup HI.out) HI.out.1
          have := HL16.out; omega
        have hT := HAT.out k
        clear hkok
        generalize qs[k] = p at *
        generalize ordTo ((nums qs).take k) = T at *
        have HT := hid hT.2
        have hTl := hT.1
        clear hT
        have HS0 := hid (show Own 2 wr (w.heap.size + 1) _ ((T ++ fresh T (p.z.take 0)).map (.int .i64)) by
          have h := OM.out
          rwa [← List.append_nil T] at h)
        go_wp2
        go_loopw [5, 7] (fun o jv wq => ∃ j : Nat, j ≤ p.z.length ∧ jv = .int .i64 j ∧ Own 2 wq (w.heap.size + 1) o ((T ++ fresh T (p.z.take j)).map (.int .i64)) ∧ Below w0.heap.size w0 wq) (fun _ jv _ => p.z.length - (intOf jv).toNat)
        case atStart => exact ⟨0, Nat.zero_le _, rfl, HS0.out, BL.out⟩
        case round =>
          clear HS0 OM BL
          obtain ⟨j, hj, rfl, ho, hb⟩ := hrel
          have OM := hid ho; have BL := hid hb
          have RP := hid (RP0.out.below hb (Nat.le_refl _)); have ck := cellB hb ck0 (Nat.le_refl _)
          have hszr := hb.size
          clear ho hb
          by_cases hlj : j < p.z.length
          · have hji : (j : Int) < (p.z.length : Int) := by omega
            obtain ⟨pb, po, hpa, cj⟩ := RP.out j hlj
            have hatj := at_slice tI64 hpa p.z.length p.c j hlj
            have HPA := hid hpa; clear hpa
            have HFS := hid (fresh_snoc T p.z j hlj)
            have hnd := inc_nodup HI.out
            have HMM := hid (show p.z[j] ∈ T ++ fresh T (p.z.take j) ↔ p.z[j] ∈ T by
              constructor
              · intro h
                rcases List.mem_append.1 h with h | h
                · exact h
                · exfalso
                  have h2 := (List.mem_filter.1 h).1
                  obtain ⟨i, hi, he⟩ := List.mem_iff_getElem.1 h2
                  rw [List.length_take] at hi
                  rw [List.getElem_take] at he
                  exact List.pairwise_iff_getElem.1 hnd i j (by omega) hlj (by omega) he
              · exact fun h => List.mem_append_left _ h)
            have hfl := fresh_len T (p.z.take j)
            rw [List.length_take] at hfl
            have hTT : (T ++ fresh T (p.z.take j)).length ≤ 32 := by rw [List.length_append]; omega
            clear hnd
            generalize p.z[j] = y at *
            obtain ⟨U, hU⟩ : ∃ U, T ++ fresh T (p.z.take j) = U := ⟨_, rfl⟩
            rw [hU] at OM HMM hTT
            obtain ⟨oa, oc, rfl, hor, _⟩ := Own.rd OM.out
            have RU := hid hor; clear hor
            have hUl : (U.map (Value.int .i64)).length ≤ 32 := by rw [List.length_map]; exact hTT
            by_cases hy : y ∈ T
            · have HM := hid (show decide (y ∈ U) = true by simpa using HMM.out.2 hy)
              have HF := hid (show T ++ fresh T (p.z.take (j + 1)) = U by rw [HFS.out, if_neg (fun h => h hy), List.append_nil, hU])
              clear hy hU
              go_wp2_with (first | (go_at_call 72; refine (l1Has_b _ _ _ _ _ _ HM.out RU.out (by omega)).mono ?_; rintro e w' ⟨rfl, rfl⟩))
              go_wp2
              go_roundw
              case rel => exact ⟨j + 1, by omega, by go_num, by rw [HF.out]; exact OM.out, BL.out⟩
              case measure => simp [intOf]; omega
            · have HM := hid (show decide (y ∈ U) = false by simpa using fun h => hy (HMM.out.1 h))
              have HF := hid (show T ++ fresh T (p.z.take (j + 1)) = U ++ [y] by rw [HFS.out, if_pos hy, ← List.append_assoc, hU])
              clear hy hU
              go_wp2_with (first | (go_at_call 72; refine (l1Has_b _ _ _ _ _ _ HM.out RU.out (by omega)).mono ?_; rintro e w' ⟨rfl, rfl⟩) | (at_builtin; refine law_push tI64 _ rfl _ _ rfl (w.heap.size + 1) _ (U.map (.int .i64)) rfl OM.out _ _ rfl ?c0 rfl ?c1 ?c2 ?_))
              case c0 => simp
              case c1 => omega
              case c2 => omega
              intro v' w' h1 h2
              have HN := hid h1
              have HBB := hid (BL.out.trans (grown_below h2 hszr (fun g hg => by have := OM.out.ge g hg; omega)))
              clear h1 h2
              go_wp2
              go_roundw
              case rel => exact ⟨j + 1, by omega, by go_num, by rw [HF.out, List.map_append]; exact HN.out, HBB.out⟩
              case measure => simp [intOf]; omega
          · obtain rfl : j = p.z.length := by omega
            have HF := hid (show ordTo ((nums qs).take (k + 1)) = T ++ fresh T (p.z.take p.z.length) by rw [List.take_length]; exact HSN.out)
            go_wp2
            go_roundw
            case rel => exact ⟨k + 1, by omega, by go_num, by rw [HF.out]; exact OM.out, BL.out⟩
            case measure => simp [intOf]; omega
      · obtain rfl : k = qs.length := by omega
        have HF := hid (show ordTo ((nums qs).take qs.length) = r by rw [← HNQ.out, List.take_length]; exact HR.out)
        have B1 := hid (bon B0.out BL.out)
        rw [HF.out] at OM
        go_wp2
        go_ret
        exact ⟨_, rfl, OM.out.base (by omega), B1.out⟩
  · have h1 := hid (show decide (PathP (nums rs) (nums qs)) = false by simpa using hp)
    have HR := hid (show [] = r by rw [← HX.out]; unfold ordL; rw [if_neg hp])
    clear hp HX
    go_enter Tryd.func25, Tryd.ntmps25
    go_wp2_with fail
    rw [← HW.out]
    refine (specPathBagsOk_b a rs c b qs d _ _ h1.out (RA.out.below HE0.out (Nat.le_refl _)) hn (RQ.out.below HE0.out (Nat.le_refl _)) hm).mono ?_
    rintro e w1 ⟨rfl, hb⟩
    have HO1 := hid (HNEW.out.past hb (Nat.le_refl _))
    have BA := hid (bon B0.out (HE0.out.trans (hb.mono HE0.out.size)))
    clear hb
    go_wp2
    go_ret
    rw [← HR.out]
    exact ⟨_, rfl, HO1.out.base (by omega), BA.out⟩
set_option maxRecDepth 100000 in
set_option maxHeartbeats 2000000 in
theorem implOrderOfBags_any (a : Option Addr) (rs : List Row) (c : Nat) (b : Option Addr) (qs : List Row) (d : Nat) (w : World) (r : List Int) (hx : ordL (nums rs) (nums qs) = r) (hr : RdM w a rs) (hn : Small rs) (hq : RdM w b qs) (hm : Small qs) (hT : TabOk w) :
    Calls Tryd.prog 27 #[.agg #[.slice a rs.length c], .slice b qs.length d] w (RetOwn 2 (r.map (.int .i64)) w) := by
  have RA := hid hr; have RQ := hid hq; have HX := hid hx; have RT := hid hT; clear hr hq hx hT
  have hqs := hm.1
  obtain ⟨w0, hw0⟩ : ∃ w0, w0 = (w.alloc (.cells #[.slice a rs.length c] 29)) := ⟨_, rfl⟩
  have B0 := hid (show Below w.heap.size w w0 by rw [hw0]; exact ((Below.refl _ _).alloc (Nat.le_refl _) _))
  have c0 : w0.cell? ⟨w.heap.size, 0, none⟩ = some (.slice a rs.length c) := by rw [hw0]; simp [go_sem]
  replace RA := hid (RA.out.below B0.out (Nat.le_refl _))
  replace RQ := hid (RQ.out.below B0.out (Nat.le_refl _))
  replace RT := hid (RT.out.below B0.out (Nat.le_refl _))
  have HW := hid hw0; clear hw0
  by_cases hp : PathP (nums rs) (nums qs)
  · have h1 := hid (show decide (PathP (nums rs) (nums qs)) = true by simpa using hp)
    have HROW := hid (show ∀ b ∈ nums qs, Inc (nums rs).length b from fun b hb => (hp.rows b hb).2)
    have HL16 := hid (show (nums rs).length ≤ 16 from hp.ok.le)
    have HAT := hid (ord_at HROW.out HL16.out)
    have HNQ := hid (nums_length qs)
    have HQ16 := hid (show qs.length ≤ 16 by have := hp.few; rwa [nums_length] at this)
    have HV := hid (show ∀ r ∈ qs, ∀ v ∈ r.z, 0 ≤ v ∧ v < 16 from fun r hr v hv => by
      have h2 := (HROW.out r.z (List.mem_map.2 ⟨r, hr, rfl⟩)).1 v hv
      have := HL16.out; omega)
    have HR := hid (show ordTo (nums qs) = r by rw [← HX.out]; unfold ordL; rw [if_pos hp])
    clear hp HX
    go_enter Tryd.func27, Tryd.ntmps27
    go_wp2_with fail
    rw [← HW.out]
    go_wp2_with fail
    refine (implPathBagsOk_b a rs c b qs d _ _ h1.out RA.out hn RQ.out hm).mono ?_
    rintro e w1 ⟨rfl, hb⟩
    replace RA := hid (RA.out.below hb (Nat.le_refl _))
    replace RQ := hid (RQ.out.below hb (Nat.le_refl _))
    replace RT := hid (RT.out.below hb (Nat.le_refl _))
    replace B0 := hid (bon B0.out hb)
    replace c0 := cellB hb c0 (Nat.le_refl _)
    clear hb
    have HO := hid (show Own 3 (w1.alloc (.cells #[] 3)) w1.heap.size (.slice (some ⟨w1.heap.size, 0, none⟩) 0 0) ((ordTo ((nums qs).take 0)).map (.int .i64)) from own_new 3 w1 [] (by decide))
    have HE := hid (alloc_below w1 (.cells #[] 3))
    have RQ1 := hid (RQ.out.below HE.out (Nat.le_refl _)); have RT1 := hid (RT.out.below HE.out (Nat.le_refl _)); have B1 := hid (bon B0.out HE.out)
    go_wp2_with fail
    refine (bagMasks_any b qs d _ HQ16.out HV.out RQ1.out hm).mono ?_
    rintro e w2 ⟨v, rfl, hown, hb⟩
    obtain ⟨na, nc, rfl, _⟩ := Own.rd (f := netF) hown
    rw [nums_length] at hown ⊢
    have BS := hid (HE.out.trans (hb.mono HE.out.size))
    have HO2 := hid (HO.out.past hb (Nat.le_refl _))
    have HM2 := hid (hown.base (B' := w1.heap.size) (by simp))
    clear hown hb HE HO RQ1 RT1 B1
    have hmk0 : (0 : Int) = ((maskL (ordTo ((nums qs).take 0)) : Nat) : Int) := rfl
    go_wp2
    go_loopw [5, 6, 8, 17] (fun o sv _ kv wr => ∃ k : Nat, k ≤ qs.length ∧ kv = .int .i64 k ∧ sv = .int .u32 (maskL (ordTo ((nums qs).take k)) : Nat) ∧ Own 3 wr w1.heap.size o ((ordTo ((nums qs).take k)).map (.int .i64)) ∧ Own 82 wr w1.heap.size (.slice na qs.length nc) (netsV (nums qs)) ∧ Below w1.heap.size w1 wr) (fun _ _ _ kv _ => qs.length - (intOf kv).toNat)
    case atStart => exact ⟨0, Nat.zero_le _, rfl, rfl, HO2.out, HM2.out, BS.out⟩
    case round =>
      obtain ⟨k, hk, rfl, rfl, ho, hmk, hb⟩ := hrel
      have OM := hid ho; have OK := hid hmk; have BL := hid hb
      have RT1 := hid (RT.out.below hb (Nat.le_refl _)); have B1 := hid (bon B0.out hb)
      have hszr := hb.size
      obtain ⟨na', nc', hsl, hsr, _⟩ := Own.rd (f := netF) hmk
      obtain ⟨rfl, hll, rfl⟩ := slice_inj hsl
      have RN := hid hsr.masks
      clear ho hmk hb hsr hsl hll
      have hT := ordTo_small ((nums qs).take k) (nums rs).length (fun b hb => HROW.out b (List.mem_of_mem_take hb))
      have hTl := (HAT.out k).1
      have hl16 := HL16.out
      by_cases hlt : k < qs.length
      · have hki : (k : Int) < (qs.length : Int) := by omega
        have HSN := hid (ordTo_snoc (nums qs) k (by rw [HNQ.out]; exact hlt))
        have hkm : k < ((nums qs).map maskL).length := by rw [List.length_map, HNQ.out]; exact hlt
        obtain ⟨mb, mo, rfl, ck⟩ := RN.out k hkm
        rw [show ((nums qs).map maskL)[k]'hkm = maskL ((nums qs)[k]'(by rw [HNQ.out]; exact hlt)) by simp] at ck
        have HI := hid (HROW.out _ (List.getElem_mem (show k < (nums qs).length by rw [HNQ.out]; exact hlt)))
        generalize (nums qs)[k]'(by rw [HNQ.out]; exact hlt) = p at *
        have hTn : ∀ x ∈ ordTo ((nums qs).take k), 0 ≤ x := fun x hx => (hT.2 x hx).1
        have hS16 : maskL (ordTo ((nums qs).take k)) < 65536 := maskL_lt _ 16 (fun v hv => by have := hT.2 v hv; omega)
        have hP16 : maskL p < 65536 := maskL_lt _ 16 (fun v hv => by have := HI.out.1 v hv; omega)
        have HMF := hid (mask_fresh hTn (fun x hx => (HI.out.1 x hx).1) : maskL (ordTo ((nums qs).take k) ++ fresh (ordTo ((nums qs).take k)) p) = _)
        have HFM := hid (fresh_mask HI.out (show ((nums rs).length : Int) ≤ 16 by omega) hTn)
        rw [← HSN.out] at HMF
        have hfl := fresh_len (ordTo ((nums qs).take k)) p
        have hpl : p.length ≤ 16 := by
          have h2 := nodup_le _ (nums rs).length (inc_nodup HI.out) HI.out.1
          omega
        clear hT hTn
        unfold maskF at ck
        generalize ordTo ((nums qs).take k) = T at *
        generalize hT2 : ordTo ((nums qs).take (k + 1)) = T2 at *
        have HT2 := hid hT2; clear hT2
        have hdf := u32_dif (maskL p) (maskL T) (by omega) (by omega)
        have hor := u32_or_nat (maskL T) (maskL p) (by omega) (by omega)
        rw [← HMF.out] at hor
        have hd16 := dif_le (maskL p) (maskL T)
        generalize hS2 : maskL T2 = S2 at *
        have HS2 := hid hS2; clear hS2
        generalize dif (maskL p) (maskL T) = Z at *
        generalize maskL T = S at *
        generalize maskL p = X at *
        go_wp2_with fail
        refine (list_any Z _ RT1.out (by omega)).mono ?_
        rintro e w3 ⟨lv, rfl, hown, hb⟩
        rw [HFM.out] at hown
        obtain ⟨la, lc, rfl, hlr, _, _, hln, _⟩ := Own.rd hown
        have RL := hid hlr
        have OM3 := hid (OM.out.past hb (Nat.le_refl _)); have OK3 := hid (OK.out.past hb (Nat.le_refl _)); have BL3 := hid (BL.out.trans (hb.mono hszr))
        have hs3 := hb.size
        clear hown hb hlr OM OK BL RN RT1 B1
        have hxl : (T.map (Value.int .i64)).length + (fresh T p).length ≤ 1099511627776 := by rw [List.length_map]; omega
        go_wp2_with (at_builtin; refine law_append tIntsL _ rfl _ _ rfl (Value.int .i64) w1.heap.size _ (T.map (.int .i64)) rfl OM3.out la lc (fresh T p) rfl RL.out hln ?c0 ?c1 ?c2 ?_)
        case c0 => intro y _; rfl
        case c1 => exact hxl
        case c2 => omega
        intro v' w' h1 h2
        have OM4 := hid (show Own 3 w' w1.heap.size v' (T2.map (.int .i64)) by rw [HSN.out, List.map_append]; exact h1)
        have OK4 := hid (OK3.out.kept h2 (OK3.out.ne OM3.out (by decide)))
        have BL4 := hid (BL3.out.trans (grown_below h2 (by omega) (fun g hg => OM3.out.ge g hg)))
        clear h1 h2
        go_wp2
        go_roundw
        case rel => exact ⟨k + 1, by omega, by go_num, by rw [HT2.out, HS2.out], by rw [HT2.out]; exact OM4.out, OK4.out, BL4.out⟩
        case measure => simp [intOf]; omega
      · obtain rfl : k = qs.length := by omega
        have HF := hid (show ordTo ((nums qs).take qs.length) = r by rw [← HNQ.out, List.take_length]; exact HR.out)
        rw [HF.out] at OM
        obtain ⟨oa, oc, rfl, hor, _⟩ := Own.rd OM.out
        have RO := hid hor
        have hrl : r.length ≤ 16 := by rw [← HF.out]; exact hTl
        clear hor
        go_wp2_with fail
        refine (wide_any _ _ _ _ RO.out (by omega)).mono ?_
        rintro e w6 ⟨qv, rfl, hown, hb⟩
        have OQ := hid (hown.base (B' := w.heap.size) (by have := B1.out.size; omega))
        have B6 := hid (bon B1.out hb)
        clear hown hb
        go_wp2
        go_ret
        exact ⟨_, rfl, OQ.out, B6.out⟩
  · have h1 := hid (show decide (PathP (nums rs) (nums qs)) = false by simpa using hp)
    have HR := hid (show [] = r by rw [← HX.out]; unfold ordL; rw [if_neg hp])
    clear hp HX
    go_enter Tryd.func27, Tryd.ntmps27
    go_wp2_with fail
    rw [← HW.out]
    go_wp2_with fail
    refine (implPathBagsOk_b a rs c b qs d _ _ h1.out RA.out hn RQ.out hm).mono ?_
    rintro e w2 ⟨rfl, hb⟩
    replace RA := hid (RA.out.below hb (Nat.le_refl _))
    replace RQ := hid (RQ.out.below hb (Nat.le_refl _))
    replace RT := hid (RT.out.below hb (Nat.le_refl _))
    replace B0 := hid (bon B0.out hb)
    replace c0 := cellB hb c0 (Nat.le_refl _)
    clear hb
    go_wp2
    go_ret
    rw [← HR.out]
    exact ⟨_, rfl, Own.nil _ _ _, B0.out⟩
end Go.Proofs.YtalfbldkdlanoaaDoor
