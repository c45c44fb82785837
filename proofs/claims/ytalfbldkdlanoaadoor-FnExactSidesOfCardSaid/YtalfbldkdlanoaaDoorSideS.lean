/- The parts of a graph: the reference's. -/
import Derived.Test.YtalfbldkdlanoaaDoorSideM
import Derived.Test.YtalfbldkdlanoaaDoorAroA
import Derived.Test.YtalfbldkdlanoaaDoorQTail
import Derived.Test.YtalfbldkdlanoaaDoorSepA
import Derived.Maps.AppendAt
import Derived.Deep.RegionHeld3
namespace Go.Proofs.YtalfbldkdlanoaaDoor
open Go.RowKit
section
variable {P : Program} {ops : Array Oper} {rest : List Oper} {o : Oper} {a : Act} {Q : Exit → Act → World → Prop}
/-- append(s, x...): the slice stays in its block, or lies in a new one. -/
theorem law_append_w {t e : TypeId} {z : Value} (hT : SliceT P t e z) (w : World) (hg : o.guard = none) (s x : Operand) (hop : o.op = .call { callee := .builtin .append, args := #[s, x], argTypes := #[t, t] })
    {α : Type} (f : α → Value) (B : Nat) (v : Value) (xs : List Value) (hs : a.eval s = v) (hown : Own e w B v xs) (ax : Option Addr) (n c : Nat) (zs : List α) (hnz : zs.length = n) (hx : a.eval x = .slice ax n c) (hr : Rd f w ax zs) (h1 : 0 < zs.length)
    (hf : ∀ y ∈ zs, (f y).oneCell' = true) (hn : xs.length + zs.length ≤ 1099511627776) (hB : B ≤ w.heap.size)
    (hK : ∀ v' w', Own e w' B v' (xs ++ zs.map f) → w.grownBy w' v.ownBlock → (v'.ownBlock = v.ownBlock ∨ v'.ownBlock = some w.heap.size) → wpList P ops Q rest (a.put o.dst v') w') : wpList P ops Q (o :: rest) a w := by
  subst hnz
  obtain ⟨ht, bytes, hby, hi0, hz⟩ := hT
  obtain ⟨i, hi, hz0, hz1, hz2⟩ := info_parts hi0
  obtain ⟨b, off, rfl, _⟩ := hr 0 h1
  refine wpList_append_own_at (w := w) hg s x t hop B e i z 1 bytes ht hi hz0 hz1 hz2 (by rw [hz]; rfl) (by decide) v xs.length xs hs hown ⟨b, off, none⟩ zs.length c (zs.map f) hx (by simp) (fun j u hj => ?_) (fun u hu => ?_) (by unfold maxLen; omega) ?_ hB fun v' w' h1 h2 _ h3 => hK v' w' (by simpa [Own] using h1) h2 h3
  · have hj' : j < zs.length := by
      rcases Nat.lt_or_ge j zs.length with h | h
      · exact h
      · simp [List.getElem?_eq_none h] at hj
    obtain ⟨b', off', hbo, hc⟩ := hr j hj'
    cases hbo
    have : u = f zs[j] := by simpa [List.getElem?_eq_getElem hj'] using hj.symm
    rw [this, ← hc]
    by_cases hj0 : j = 0
    · subst hj0; simp [Addr.add]
    · simp [Addr.add, hj0]
  · obtain ⟨y, hy, rfl⟩ := List.mem_map.1 hu
    exact hf y hy
  · exact Nat.le_trans (Nat.mul_le_mul_left _ hby) (by omega)
end
noncomputable def partsTo (g : List (List Int)) (k : Nat) : List (List Int) := (rootsTo g k).map (partV g)
noncomputable def doneTo (g : List (List Int)) (k : Nat) : List Int := (partsTo g k).flatten
theorem partsTo_root {g : List (List Int)} {k : Nat} (h : rootV g k = k) : partsTo g (k + 1) = partsTo g k ++ [partV g k] := by unfold partsTo; rw [rootsTo_succ, if_pos h, List.map_append]; rfl
theorem partsTo_not {g : List (List Int)} {k : Nat} (h : rootV g k ≠ k) : partsTo g (k + 1) = partsTo g k := by unfold partsTo; rw [rootsTo_succ, if_neg h, List.append_nil]
theorem doneTo_mem {g : List (List Int)} {k v : Nat} (hv : v < g.length) : (v : Int) ∈ doneTo g k ↔ rootV g v < k := by
  unfold doneTo partsTo
  rw [List.mem_flatten]
  constructor
  · rintro ⟨l, hl, hx⟩
    obtain ⟨r, hr, rfl⟩ := List.mem_map.1 hl
    obtain ⟨u, _, h2, h3⟩ := partV_mem.1 hx
    have : u = v := by omega
    subst this
    rw [h2]; exact (rootsTo_mem.1 hr).1
  · intro h
    exact ⟨partV g (rootV g v), List.mem_map.2 ⟨rootV g v, rootsTo_mem.2 ⟨h, root_idem g v⟩, rfl⟩, partV_mem.2 ⟨v, hv, rfl, rfl⟩⟩
theorem partV_len (g : List (List Int)) (r : Nat) : (partV g r).length ≤ g.length := by
  unfold partV
  rw [List.length_map]
  have := List.length_filter_le (fun v => decide (rootV g v = r)) (List.range g.length)
  rwa [List.length_range] at this
theorem partsTo_len (g : List (List Int)) (k : Nat) : (partsTo g k).length ≤ k := by unfold partsTo; rw [List.length_map]; exact rootsTo_len g k
theorem doneTo_len (g : List (List Int)) (k : Nat) : (doneTo g k).length ≤ k * g.length := by
  induction k with
  | zero => simp [doneTo, partsTo, rootsTo]
  | succ k ih =>
    have := partV_len g k
    have e : (k + 1) * g.length = k * g.length + g.length := by rw [Nat.succ_mul]
    by_cases h : rootV g k = k
    · unfold doneTo at ih ⊢
      rw [partsTo_root h, List.flatten_append, List.length_append]
      have e2 : [partV g k].flatten = partV g k := by simp
      rw [e2]; omega
    · unfold doneTo at ih ⊢
      rw [partsTo_not h]; omega
theorem root_part {g : List (List Int)} {r : Nat} (hr : r < g.length) (hroot : rootV g r = r) : (r : Int) ∈ partV g r := partV_mem.2 ⟨r, hr, hroot, rfl⟩
theorem allL_get (n k : Nat) (h : k < (allL n).length) : (allL n)[k] = (k : Int) := by simp [allL]
set_option maxRecDepth 100000 in
set_option maxHeartbeats 4000000 in
theorem l3Parts_any (a : Option Addr) (rs : List Row) (c : Nat) (a2 : Option Addr) (ys : List Int) (c2 : Nat) (w : World) (hg : GOk (nums rs)) (hr : RdM w a rs) (hn : Small rs) (hy : Rd (Value.int .i64) w a2 ys) (hys : ys = allL rs.length) :
    Calls Tryd.prog 138 #[.agg #[.slice a rs.length c], .slice a2 ys.length c2] w (RetOwnM 26 2 (partsV (nums rs)) w) := by
  have RA := hid hr; have RY := hid hy; clear hr hy
  have HYS := hid hys
  have hyl : ys.length = rs.length := by rw [hys, allL_len]
  have HYL := hid hyl
  have HYK := hid (fun k (hk : k < ys.length) => (show ys[k] = (k : Int) by subst hys; exact allL_get _ _ hk))
  have h16 : rs.length ≤ 16 := by have := hg.le; rwa [nums_length] at this
  have HDN := hid (fun k (hk : k ≤ rs.length) => (show (doneTo (nums rs) k).length ≤ 16 * 16 from Nat.le_trans (doneTo_len (nums rs) k) (by rw [nums_length]; exact Nat.mul_le_mul (by omega) h16)))
  have HPN := hid (fun k (hk : k ≤ rs.length) => (show (partsTo (nums rs) k).length ≤ 16 from Nat.le_trans (partsTo_len (nums rs) k) (by omega)))
  have HMEM := hid (fun k v (hv : v < rs.length) => doneTo_mem (g := nums rs) (k := k) (v := v) (by rw [nums_length]; exact hv))
  have HPP := hid (fun r (hr : r < rs.length) (h : rootV (nums rs) r = r) => (show partL (nums rs) ys (r : Int) = partV (nums rs) r by
    rw [hys]; have := partV_part hg (by rw [nums_length]; exact hr) h; rwa [nums_length] at this))
  have HPL := hid (fun r => (show (partV (nums rs) r).length ≤ 16 from Nat.le_trans (partV_len _ _) (by rw [nums_length]; exact h16)))
  have HIN := hid (fun r (hr : r < rs.length) (h : rootV (nums rs) r = r) => (show 0 < (partV (nums rs) r).length from List.length_pos_of_mem (root_part (by rw [nums_length]; exact hr) h)))
  have HPV := hid (show partsV (nums rs) = partsTo (nums rs) rs.length by unfold partsV partsTo; rw [nums_length])
  have hy16 : ys.length ≤ 1048576 := by omega
  clear hys hyl
  obtain ⟨w0, hw0⟩ : ∃ w0, w0 = (w.alloc (.cells #[.slice a rs.length c] 29)) := ⟨_, rfl⟩
  have B0 := hid (show Below w.heap.size w w0 by rw [hw0]; exact ((Below.refl _ _).alloc (Nat.le_refl _) _))
  have c0 : w0.cell? ⟨w.heap.size, 0, none⟩ = some (.slice a rs.length c) := by rw [hw0]; simp [go_sem]
  replace RA := hid (RA.out.below B0.out (Nat.le_refl _))
  replace RY := hid (RY.out.below B0.out (Nat.le_refl _))
  have HW := hid hw0; clear hw0
  have hsz : w0.heap.size = w.heap.size + 1 := by rw [HW.out]; simp
  have OP := hid (show Own 26 ((w0.alloc (.cells #[] 26)).alloc (.cells #[] 2)) w0.heap.size (.slice (some ⟨w.heap.size + 1, 0, none⟩) 0 0) [] by
    have h := (own_new 26 w0 [] (by decide)).past (alloc_below _ (.cells #[] 2)) (Nat.le_refl _)
    rw [hsz] at h ⊢
    exact h)
  have OD := hid (show Own 2 ((w0.alloc (.cells #[] 26)).alloc (.cells #[] 2)) w0.heap.size (.slice (some ⟨w.heap.size + 1 + 1, 0, none⟩) 0 0) [] by
    have e : (w0.alloc (.cells #[] 26)).heap.size = w.heap.size + 1 + 1 := by simp [hsz]
    have h := (own_new 2 (w0.alloc (.cells #[] 26)) [] (by decide)).base (B' := w0.heap.size) (by simp)
    rw [e] at h
    exact h)
  have BL := hid (show Below w0.heap.size w0 ((w0.alloc (.cells #[] 26)).alloc (.cells #[] 2)) from ((alloc_below w0 _).alloc (by simp) _))
  have RA00 := hid RA.out; have RY00 := hid RY.out; have B00 := hid B0.out; have c00 := hid c0
  have hsz1 : w.heap.size + 1 ≤ w0.heap.size := by omega
  clear RA RY B0 c0
  go_enter Tryd.func138, Tryd.ntmps138
  go_wp2
  rw [← HW.out]
  clear hsz HW
  go_loopw [5, 6, 7, 8] (fun p d x _ wr => ∃ (k : Nat) (ps : List Row), k ≤ rs.length ∧ x = .int .i64 k ∧ OwnM 26 2 wr w0.heap.size p ps ∧ nums ps = partsTo (nums rs) k ∧ Own 2 wr w0.heap.size d ((doneTo (nums rs) k).map (.int .i64)) ∧ (∀ r ∈ ps, r.val.ownBlock = none ∨ r.val.ownBlock ≠ d.ownBlock) ∧ Below w0.heap.size w0 wr) (fun _ _ x _ _ => rs.length - (intOf x).toNat)
  case atStart => exact ⟨0, [], Nat.zero_le _, rfl, ⟨OP.out, Inner.nil _ _ _⟩, rfl, OD.out, (fun _ h => absurd h List.not_mem_nil), BL.out⟩
  case round =>
    clear OP OD BL
    obtain ⟨k, ps, hk, rfl, hom, hnp, hod, hsep, hb⟩ := hrel
    have OM := hid hom; have OD := hid hod; have HSE := hid hsep; have BL := hid hb; have HNP := hid hnp
    have RA := hid (RA00.out.below hb (Nat.le_refl _))
    have RY := hid (RY00.out.below hb (Nat.le_refl _))
    have B0 := hid (B00.out.trans (hb.mono (by omega)))
    have c0 := cellB hb c00.out (Nat.le_refl _)
    clear hom hod hsep hb hnp
    by_cases hlt : k < rs.length
    · have hky : k < ys.length := by rw [HYL.out]; exact hlt
      have hki : (k : Int) < (ys.length : Int) := by omega
      obtain ⟨yb, yo, hya, cy⟩ := RY.out k hky
      rw [HYK.out k hky] at cy
      obtain ⟨da, dc, hdv, hdr, _⟩ := Own.rd OD.out
      subst hdv
      have RD := hid hdr; clear hdr
      have hdl := HDN.out k (by omega)
      by_cases hroot : rootV (nums rs) k = k
      · have HB := hid (show decide ((k : Int) ∈ doneTo (nums rs) k) = false by
          rw [decide_eq_false_iff_not, HMEM.out k k hlt, hroot]; omega)
        have HPT := hid (partsTo_root hroot)
        have HDT := hid (show doneTo (nums rs) (k + 1) = doneTo (nums rs) k ++ partV (nums rs) k by unfold doneTo; rw [HPT.out, List.flatten_append]; simp)
        have HPK := hid (HPP.out k hlt hroot)
        have hpl := HPL.out k
        have hp0 := HIN.out k hlt hroot
        subst hya
        clear hroot
        go_wp2_with (first | (go_at_call 72; refine (l1Has_b _ _ _ _ _ _ HB.out RD.out (by omega)).mono ?_; rintro e w' ⟨rfl, rfl⟩))
        obtain ⟨w1, rfl⟩ : ∃ z, z = wr := ⟨_, rfl⟩
        have D3 : Drawn w1 w1.drew := ⟨1, rfl⟩
        have f0 := dcell D3 c0
        have f1 := dcell D3 cy
        have RA3 := hid (RA.out.drawn D3); have RY3 := hid (RY.out.below (D3.below w1.heap.size) (Nat.le_refl _))
        have OM3 := hid (OM.out.past (D3.below w1.heap.size) (Nat.le_refl _))
        have OD3 := hid (OD.out.past (D3.below w1.heap.size) (Nat.le_refl _))
        have BL3 := hid (bon BL.out (D3.below w1.heap.size))
        clear OM OD BL RA RY RD c0 cy
        go_region_held3 (fun w' => w'.cell? ⟨w.heap.size, 0, none⟩ = some (.slice a rs.length c) ∧ w'.cell? ⟨yb, yo + k, none⟩ = some (.int .i64 k)) (first | exact ⟨f0, f1⟩ | exact ⟨g0, g1⟩) ((first | (go_at_call 161; refine (l3Part_any a rs c k _ ys c2 _ hg RA3.out hn RY3.out hy16 hlt).mono ?_; rintro e w4 ⟨qv, rfl, hown, hb⟩; rw [HPK.out] at hown; have g0 := cellB hb f0 (Nat.le_refl _); have g1 := cellB hb f1 (Nat.le_refl _); have OQ4 := hid hown; have BQ4 := hid hb; clear hown hb)))
        clear g0 g1 f0 f1 RA3 RY3
        obtain ⟨qa, qc, hqv, hqr, hqcap, _, hqn, hqb⟩ := Own.rd OQ4.out
        subst hqv
        have RQ4 := hid hqr; clear hqr hqcap hqb
        have OM4 := hid (OM3.out.past BQ4.out (Nat.le_refl _))
        have IN4 := hid (OM3.out.inner.snoc BQ4.out BL3.out.size ⟨qa, partV (nums rs) k, qc⟩ OQ4.out)
        have OD4 := hid (OD3.out.past BQ4.out (Nat.le_refl _))
        have BL4 := hid (bon BL3.out BQ4.out)
        have hs4 := BL4.out.size
        have HSE4 := hid (show ∀ r ∈ ps ++ [(⟨qa, partV (nums rs) k, qc⟩ : Row)], r.val.ownBlock = none ∨ r.val.ownBlock ≠ (Value.slice da (doneTo (nums rs) k).length dc).ownBlock from fun r hr => by
          rcases List.mem_append.1 hr with h | h
          · exact HSE.out r h
          · have : r = ⟨qa, partV (nums rs) k, qc⟩ := by simpa using h
            subst this
            cases hv : (Row.val ⟨qa, partV (nums rs) k, qc⟩).ownBlock with
            | none => exact .inl rfl
            | some z =>
              right; intro e
              have h1 := OQ4.out.ge z hv
              have h2 := OD3.out.lt z e.symm
              omega)
        have hpsl : (ps.map Row.val).length < 1099511627776 := by
          have h1 := congrArg List.length HNP.out
          rw [nums_length] at h1
          have := HPN.out k (by omega)
          rw [List.length_map]; omega
        clear OM3 OD3 BL3 BQ4 OQ4
        go_wp2_with (at_builtin; refine law_push tRows _ rfl _ _ rfl w0.heap.size _ (ps.map Row.val) rfl OM4.out.outer _ _ rfl ?c0 rfl ?c1 ?c2 ?_)
        case c0 => simp
        case c1 => exact hpsl
        case c2 => exact hs4
        intro v' w5 h1 h2
        have OM5 := hid (rows_push (by decide) OM4.out.outer IN4.out h1 h2)
        have OD5 := hid (OD4.out.kept h2 (OD4.out.ne OM4.out.outer (by decide)))
        have BL5 := hid (BL4.out.trans (grown_below h2 hs4 (fun g hg => OM4.out.outer.ge g hg)))
        have RQ5 := hid (show Rd (Value.int .i64) w5 qa (partV (nums rs) k) from (OM5.out.inner.own ⟨qa, partV (nums rs) k, qc⟩ (by simp)).rd.elim (fun _ h => h.elim (fun _ h => by
          obtain ⟨h3, h4, _⟩ := h
          obtain ⟨h5, _, _⟩ := slice_inj h3
          have h6 : qa = _ := h5
          rw [h6]; exact h4)))
        clear h1 h2 OM4 IN4 OD4 BL4 RQ4
        have hs5 := BL5.out.size
        have hql : (partV (nums rs) k).length ≤ 16 := hpl
        go_wp2_with (at_builtin; refine law_append_w tI64 _ rfl _ _ rfl (Value.int .i64) w0.heap.size _ ((doneTo (nums rs) k).map (.int .i64)) rfl OD5.out qa (partV (nums rs) k).length qc (partV (nums rs) k) rfl rfl RQ5.out hp0 ?c0 ?c1 hs5 ?_)
        case c0 => intro y _; rfl
        case c1 => rw [List.length_map]; omega
        intro d' w6 h1 h2 h3
        have OD6 := hid (show Own 2 w6 w0.heap.size d' ((doneTo (nums rs) (k + 1)).map (.int .i64)) by rw [HDT.out, List.map_append]; exact h1)
        have OM6 := hid (OwnM.mk (OM5.out.outer.kept h2 (OM5.out.outer.ne OD5.out (by decide))) (OM5.out.inner.kept_sep h2 HSE4.out))
        have HSE6 := hid (show ∀ r ∈ ps ++ [(⟨qa, partV (nums rs) k, qc⟩ : Row)], r.val.ownBlock = none ∨ r.val.ownBlock ≠ d'.ownBlock from fun r hr => by
          rcases h3 with h3 | h3
          · rw [h3]; exact HSE4.out r hr
          · rw [h3]
            cases hv : r.val.ownBlock with
            | none => exact .inl rfl
            | some z =>
              right; intro e
              injection e with e
              have := (OM5.out.inner.own r hr).lt z hv
              omega)
        have BL6 := hid (BL5.out.trans (grown_below h2 hs5 (fun g hg => OD5.out.ge g hg)))
        have HN6 := hid (show nums (ps ++ [(⟨qa, partV (nums rs) k, qc⟩ : Row)]) = partsTo (nums rs) (k + 1) by rw [nums_push, HNP.out, HPT.out])
        clear h1 h2 h3 OM5 OD5 BL5 HSE4 RQ5
        go_wp2
        go_roundw
        case rel => exact ⟨k + 1, _, by omega, by go_num, OM6.out, HN6.out, OD6.out, HSE6.out, BL6.out⟩
        case measure => simp [intOf]; omega
      · have hlr : rootV (nums rs) k < k := by have := (root_spec (nums rs) k).2.1; omega
        have HB := hid (show decide ((k : Int) ∈ doneTo (nums rs) k) = true by
          rw [decide_eq_true_iff, HMEM.out k k hlt]; exact hlr)
        have HPT := hid (partsTo_not hroot)
        have HDT := hid (show doneTo (nums rs) (k + 1) = doneTo (nums rs) k by unfold doneTo; rw [HPT.out])
        subst hya
        clear hroot hlr
        go_wp2_with (first | (go_at_call 72; refine (l1Has_b _ _ _ _ _ _ HB.out RD.out (by omega)).mono ?_; rintro e w' ⟨rfl, rfl⟩))
        go_roundw
        case rel => exact ⟨k + 1, ps, by omega, by go_num, OM.out, by rw [HNP.out, HPT.out], by rw [HDT.out]; exact OD.out, HSE.out, BL.out⟩
        case measure => simp [intOf]; omega
    · obtain rfl : k = rs.length := by omega
      have hki : ¬ ((rs.length : Nat) : Int) < (ys.length : Int) := by rw [HYL.out]; omega
      go_wp2
      go_ret
      exact ⟨_, _, rfl, by rw [HNP.out, HPV.out], OM.out.base (by omega), B0.out⟩
set_option maxRecDepth 100000 in
set_option maxHeartbeats 4000000 in
theorem specPartsOf_any (a : Option Addr) (rs : List Row) (c : Nat) (w : World) (hg : GOk (nums rs)) (hr : RdM w a rs) (hn : Small rs) :
    Calls Tryd.prog 91 #[.agg #[.slice a rs.length c]] w (RetOwnM 26 2 (partsV (nums rs)) w) := by
  have RA := hid hr; clear hr
  have hn1 := hn.1
  have h16 : rs.length ≤ 16 := by have := hg.le; rwa [nums_length] at this
  have h1 := hid (show decide (GOk (nums rs)) = true by simpa using hg)
  obtain ⟨w0, hw0⟩ : ∃ w0, w0 = (w.alloc (.cells #[.slice a rs.length c] 29)) := ⟨_, rfl⟩
  have B0 := hid (show Below w.heap.size w w0 by rw [hw0]; exact ((Below.refl _ _).alloc (Nat.le_refl _) _))
  have c0 : w0.cell? ⟨w.heap.size, 0, none⟩ = some (.slice a rs.length c) := by rw [hw0]; simp [go_sem]
  replace RA := hid (RA.out.below B0.out (Nat.le_refl _))
  have HW := hid hw0; clear hw0
  obtain ⟨ys, hys⟩ : ∃ ys, ys = allL rs.length := ⟨_, rfl⟩
  have HYS := hid hys
  have hll : ys.length ≤ 1048576 := by rw [hys, allL_len]; omega
  have HAL := hid (fun (w' : World) => (show Calls Tryd.prog 106 #[.int .i64 rs.length] w' (RetOwn 2 (ys.map (.int .i64)) w') by rw [hys]; exact l1All_any rs.length w' h16))
  clear hys
  go_enter Tryd.func91, Tryd.ntmps91
  go_wp2_with fail
  rw [← HW.out]
  go_wp2_with fail
  refine (specGraphOk_b a rs c _ _ h1.out RA.out hn).mono ?_
  rintro e w1 ⟨rfl, hb⟩
  replace RA := hid (RA.out.below hb (Nat.le_refl _))
  replace B0 := hid (bon B0.out hb)
  replace c0 := cellB hb c0 (Nat.le_refl _)
  clear hb
  go_wp2_with fail
  have D3 : Drawn w1 w1.drew := ⟨1, rfl⟩
  have f0 := dcell D3 c0
  have RA3 := hid (RA.out.drawn D3)
  have B3 := hid (bon B0.out (D3.below w1.heap.size))
  clear RA B0 c0
  go_region_held3 (fun w' => w'.cell? ⟨w.heap.size, 0, none⟩ = some (.slice a rs.length c)) (first | exact f0 | exact g0 | exact k0 | exact m0) ((first | (go_at_call 90; refine (l1Size_any a rs c _ hn1).mono ?_; rintro e w4 ⟨rfl, hb⟩; have g0 := cellB hb f0 (Nat.le_refl _); have RA4 := hid (RA3.out.below hb (Nat.le_refl _)); have B4 := hid (bon B3.out hb); clear hb) | (go_at_call 106; refine (HAL.out _).mono ?_; rintro e w5 ⟨yv, rfl, hown, hb⟩; obtain ⟨ya, yc, rfl, hyr, _⟩ := Own.rd hown; have RY5 := hid hyr; have k0 := cellB hb g0 (Nat.le_refl _); have RA5 := hid (RA4.out.below hb (Nat.le_refl _)); have B5 := hid (bon B4.out hb); clear hown hyr hb) | (go_at_call 138; refine (l3Parts_any a rs c ya ys yc _ hg RA5.out hn RY5.out HYS.out).mono ?_; rintro e w6 ⟨pv, ps, rfl, hnp, hom, hb⟩; have m0 := cellB hb k0 (Nat.le_refl _); have OM6 := hid (hom.base B5.out.size); have B6 := hid (bon B5.out hb); have HNP := hid hnp; clear hom hb hnp)))
  go_wp2
  go_ret
  exact ⟨_, _, rfl, HNP.out, OM6.out, B6.out⟩
end Go.Proofs.YtalfbldkdlanoaaDoor
