/- The layers: the reference's. -/
import Derived.Test.YtahibjikcijnfaaDoorLupI
import Derived.Test.YtahibjikcijnfaaDoorAroA
namespace Go.Proofs.YtahibjikcijnfaaDoor
open Go.RowKit
section
theorem step_push1 {P : Program} {ops : Array Oper} {o : Oper} {a : Act} {K : Act → World → Prop} {Q : Exit → Act → World → Prop} {E : Prop} {t e : TypeId} {z : Value} (hT : SliceT P t e z) (W : World) (hg : o.guard = none) (s x : Operand) (hop : o.op = .call { callee := .builtin .append, args := #[s, x], argTypes := #[t, t] })
    (B : Nat) (v : Value) (xs : List Value) (hs : a.eval s = v) (hown : Own e W B v xs) (u : Value) (gx : Nat) (hx : a.eval x = .slice (some ⟨gx, 0, none⟩) 1 1) (hgx : W.heap[gx]? = some (.cells #[u] e (0, 0))) (hu : u.oneCell' = true) (n : Nat) (hxn : xs.length = n) (hn : n < 1099511627776) (hB : B ≤ W.heap.size)
    (hK : ∀ g cap w', Own e w' B (.slice (some ⟨g, 0, none⟩) (n + 1) cap) (xs ++ [u]) → W.grownBy w' v.ownBlock → (v.ownBlock = some g ∨ g = W.heap.size) → K (a.put o.dst (.slice (some ⟨g, 0, none⟩) (n + 1) cap)) w') :
    if Region.wanted o (yielded ops a.tmps) = true then Oper.wp P o a W K Q else E := by
  subst hxn
  obtain ⟨ht, bytes, hby, hi0, hz⟩ := hT
  obtain ⟨i, hi, hz0, hz1, hz2⟩ := info_parts hi0
  refine step_append_lies W hg s x t hop B e i z 1 bytes ht hi hz0 hz1 hz2 (by rw [hz]; rfl) (by decide) v xs.length xs hs hown ⟨gx, 0, none⟩ 1 1 [u] hx (by simp) (fun j y hj => ?_) (fun y hy => ?_) (by omega) (by unfold maxLen; omega) ?_ hB _ rfl fun g cap w' h1 h2 h3 _ => ?_
  · have hj0 : j = 0 := by
      rcases Nat.eq_zero_or_pos j with h | h
      · exact h
      · rw [List.getElem?_eq_none (by simp; omega)] at hj; cases hj
    subst hj0
    have : u = y := by simpa using hj
    subst this
    simp [Addr.add, World.cell?, hgx]
  · simp at hy; subst hy; exact hu
  · exact Nat.le_trans (Nat.mul_le_mul_left _ hby) (by omega)
  · exact hK g cap w' (by simpa [Own] using h1) h2 h3
theorem apart_sym {l : List Value} (h : l.Pairwise fun r s => r.ownBlock = none ∨ r.ownBlock ≠ s.ownBlock) {i j : Nat} (hi : i < l.length) (hj : j < l.length) (hne : i ≠ j) : l[i].ownBlock = none ∨ l[i].ownBlock ≠ l[j].ownBlock := by
  rcases Nat.lt_or_gt_of_ne hne with h1 | h1
  · exact List.pairwise_iff_getElem.1 h i j hi hj h1
  · have h2 := List.pairwise_iff_getElem.1 h j i hj hi h1
    cases hv : l[i].ownBlock with
    | none => exact .inl rfl
    | some k =>
      right; intro e
      rcases h2 with h3 | h3
      · rw [h3] at e; cases e
      · exact h3 (by rw [hv]; exact e.symm)
theorem OwnM.pushAt {eo ei : TypeId} (hne : ei ≠ eo) {W w' : World} {B g n c : Nat} {ps : List Row} (h : OwnM eo ei W B (.slice (some ⟨g, 0, none⟩) n c) ps) (i : Nat) (hi : i < ps.length) (r : Row)
    (ho : Own ei w' B r.val (r.z.map (.int .i64))) (hg : W.grownBy w' ps[i].val.ownBlock) (hloc : ∀ k, r.val.ownBlock = some k → ps[i].val.ownBlock = some k ∨ W.heap.size ≤ k) :
    OwnM eo ei (w'.setCell ⟨g, i, none⟩ r.val) B (.slice (some ⟨g, 0, none⟩) n c) (ps.set i r) := by
  have hio := h.inner.own ps[i] (List.getElem_mem hi)
  have ho' := h.outer.kept hg (h.outer.ne hio hne.symm)
  have hap : ∀ j (hj : j < ps.length), j ≠ i → ps[j].val.ownBlock = none ∨ ps[j].val.ownBlock ≠ ps[i].val.ownBlock := by
    intro j hj hji
    have := apart_sym h.inner.apart (i := j) (j := i) (by rw [List.length_map]; exact hj) (by rw [List.length_map]; exact hi) hji
    simpa using this
  refine ⟨?_, ?_⟩
  · have := ho'.store i (by rw [List.length_map]; exact hi) r.val
    rwa [← List.map_set] at this
  · have hlt : ∀ j (hj : j < ps.length), ∀ k, ps[j].val.ownBlock = some k → k < W.heap.size := fun j hj k hk => (h.inner.own _ (List.getElem_mem hj)).lt k hk
    have hrj : ∀ j (hj : j < ps.length), j ≠ i → ∀ k, r.val.ownBlock = some k → ps[j].val.ownBlock ≠ some k := by
      intro j hj hji k hk e
      rcases hloc k hk with h1 | h1
      · rcases hap j hj hji with h2 | h2
        · rw [h2] at e; cases e
        · exact h2 (by rw [e, h1])
      · have := hlt j hj k e; omega
    have hin : Inner ei w' B (ps.set i r) := by
      refine ⟨?_, ?_⟩
      · intro q hq
        obtain ⟨j, hj, rfl⟩ := List.mem_iff_getElem.1 hq
        rw [List.length_set] at hj
        by_cases hji : i = j
        · subst hji; rw [List.getElem_set_self]; exact ho
        · rw [List.getElem_set_ne hji]
          exact (h.inner.own _ (List.getElem_mem hj)).kept hg (hap j hj (fun e => hji e.symm))
      · rw [List.pairwise_iff_getElem]
        intro a b ha hb' hab
        rw [List.length_map, List.length_set] at ha hb'
        rw [List.getElem_map, List.getElem_map, List.getElem_set, List.getElem_set]
        by_cases hia : i = a
        · rw [if_pos hia, if_neg (by omega)]
          cases hv : r.val.ownBlock with
          | none => exact .inl rfl
          | some k => right; intro e; exact hrj b hb' (by omega) k hv e.symm
        · rw [if_neg hia]
          by_cases hib : i = b
          · rw [if_pos hib]
            cases hv : ps[a].val.ownBlock with
            | none => exact .inl rfl
            | some k => right; intro e; exact hrj a ha (by omega) k e.symm hv
          · rw [if_neg hib]
            have h1 := List.pairwise_iff_getElem.1 h.inner.apart a b (by rw [List.length_map]; exact ha) (by rw [List.length_map]; exact hb') hab
            rw [List.getElem_map, List.getElem_map] at h1
            exact h1
    exact hin.setCell_outer ho' hne r.val
theorem inner_rep (ei : TypeId) (w : World) (B n : Nat) : Inner ei w B (List.replicate n (⟨none, [], 0⟩ : Row)) := by
  refine ⟨fun r hr => ?_, ?_⟩
  · obtain rfl := (List.mem_replicate.1 hr).2
    exact Own.nil _ _ _
  · rw [List.map_replicate, List.pairwise_replicate]
    exact .inr (.inl rfl)
theorem own_rowv {w : World} {B g cap : Nat} {z : List Int} {x : Int} (h : Own 2 w B (.slice (some ⟨g, 0, none⟩) (z.length + 1) cap) (z.map (.int .i64) ++ [.int .i64 x])) :
    Own 2 w B (Row.val ⟨some ⟨g, 0, none⟩, z ++ [x], cap⟩) ((z ++ [x]).map (.int .i64)) := by
  unfold Row.val
  simp only [List.length_append, List.length_singleton, List.map_append, List.map_singleton]
  exact h
theorem loc_row {g cap H : Nat} {v : Value} {z : List Int} (h : v.ownBlock = some g ∨ g = H) : ∀ k, (Row.val ⟨some ⟨g, 0, none⟩, z, cap⟩).ownBlock = some k → v.ownBlock = some k ∨ H ≤ k := by
  intro k hk
  have : g = k := by simpa [Row.val, Value.ownBlock] using hk
  subst this
  exact h.imp id (fun h => Nat.le_of_eq h.symm)
theorem pushAfter {wr W w' : World} {B gd n c g cap : Nat} {ps : List Row} {q : Row} {x : Int} (h2 : W.grownBy w' q.val.ownBlock) (h3 : q.val.ownBlock = some g ∨ g = W.heap.size) (h1 : Own 2 w' B (.slice (some ⟨g, 0, none⟩) (q.z.length + 1) cap) (q.z.map (.int .i64) ++ [.int .i64 x])) (hb : Below wr.heap.size wr W)
    (h : OwnM 25 2 wr B (.slice (some ⟨gd, 0, none⟩) n c) ps) (i : Nat) (hi : i < ps.length) (hq : ps[i] = q) :
    OwnM 25 2 (w'.setCell ⟨gd, i, none⟩ (.slice (some ⟨g, 0, none⟩) (q.z.length + 1) cap)) B (.slice (some ⟨gd, 0, none⟩) n c) (ps.set i ⟨some ⟨g, 0, none⟩, q.z ++ [x], cap⟩) := by
  subst hq
  have := OwnM.pushAt (by decide) (h.past hb (Nat.le_refl _)) i hi ⟨some ⟨g, 0, none⟩, ps[i].z ++ [x], cap⟩ (own_rowv h1) h2 (loc_row h3)
  unfold Row.val at this
  simpa only [List.length_append, List.length_singleton] using this
theorem kept_grown {S : Nat → Prop} {w w' : World} {row : Option Nat} (hg : w.grownBy w' row) (hS : ∀ g, row = some g → S g) : Kept S w w' :=
  ⟨hg.os, hg.tape, hg.output, hg.size, fun k hk hn => hg.block k hk (fun e => hn (hS k e.symm))⟩
theorem memsN_top {m u : Nat} (hm : m < 2 ^ u) (hu : u < 32) : memsN (m ||| 2 ^ u) = memsN m ++ [u] := by
  have hlt : m ||| 2 ^ u < 2 ^ (u + 1) := Nat.or_lt_two_pow (by rw [Nat.pow_succ]; omega) (Nat.pow_lt_pow_right (by decide) (by omega))
  rw [memsN_left hlt (by omega), memsN_left hm (by omega), leftN_succ]
  have h1 : (m ||| 2 ^ u).testBit u = true := by rw [Nat.testBit_or, Nat.testBit_two_pow]; simp
  rw [if_pos h1]
  congr 1
  unfold leftN
  apply List.filter_congr
  intro i hi
  have hi' := List.mem_range.1 hi
  rw [Nat.testBit_or, Nat.testBit_two_pow]
  have : ¬ u = i := by omega
  simp [this]
theorem mems_top {m u : Nat} (hm : m < 2 ^ u) (hu : u < 32) : mems (m ||| 2 ^ u) = mems m ++ [(u : Int)] := by
  unfold mems; rw [memsN_top hm hu, List.map_append]; rfl
theorem trn_low {n : Nat} {F : List Nat} (h : Dag n F) {k j : Nat} (hj : j < (memsN (F.getD k 0)).length) : (trnR (trnA n F k) k ((memsN (F.getD k 0)).take j)).getD (memsN (F.getD k 0))[j] 0 < 2 ^ k := by
  refine mask_lt _ k (fun i hi => ?_)
  rcases (trnR_bit (fun v hv => by rw [trnA_len]; exact memsN_under h (List.mem_of_mem_take hv)) _ i).1 hi with h1 | ⟨h1, _⟩
  · exact ((trnA_bit h k _ i).1 h1).1
  · exfalso
    obtain ⟨q, hq, he⟩ := List.mem_iff_getElem.1 h1
    rw [List.length_take] at hq
    rw [List.getElem_take] at he
    exact List.pairwise_iff_getElem.1 (memsN_nodup (F.getD k 0)) q j (by omega) hj (by omega) he
end
section
set_option maxRecDepth 100000 in
set_option maxHeartbeats 4000000 in
theorem specLayersUp_any (a : Option Addr) (rs : List Row) (c : Nat) (a' : Option Addr) (qs : List Row) (c' : Nat) (w : World) (r : List Int) (hx : layersL (nums rs) (nums qs) = r) (hr : RdM w a rs) (hn : Small rs) (hq : RdM w a' qs) (hm : Small qs) :
    Calls Tryd.prog 35 #[.agg #[.slice a rs.length c], .slice a' qs.length c'] w (RetOwn 2 (r.map (.int .i64)) w) := by
  have RA := hid hr; have RQ := hid hq; have HX := hid hx; clear hr hq hx
  obtain ⟨w0, hw0⟩ : ∃ w0, w0 = (w.alloc (.cells #[.slice a rs.length c] 28)) := ⟨_, rfl⟩
  have B0 := hid (show Below w.heap.size w w0 by rw [hw0]; exact ((Below.refl _ _).alloc (Nat.le_refl _) _))
  have c0 : w0.cell? ⟨w.heap.size, 0, none⟩ = some (.slice a rs.length c) := by rw [hw0]; simp [go_sem]
  replace RA := hid (RA.out.below B0.out (Nat.le_refl _))
  replace RQ := hid (RQ.out.below B0.out (Nat.le_refl _))
  have HW := hid hw0; clear hw0
  have HSZW := hid (show w0.heap.size = w.heap.size + 1 by rw [HW.out]; simp)
  have HO := hid (show Own 2 (w0.alloc (.cells #[] 2)) w0.heap.size (.slice (some ⟨w0.heap.size, 0, none⟩) 0 0) ((layN [] 0).map (.int .i64)) from own_new 2 w0 [] (by decide))
  by_cases ht : TransP (nums rs) (nums qs)
  · have h2 := hid (show decide (TransP (nums rs) (nums qs)) = true by simpa using ht)
    have hdag := dag_of ht
    have hi := up_iff.1 ht.1
    have hql : qs.length = rs.length := by have := hi.len; rwa [nums_length, nums_length] at this
    have h16 : rs.length ≤ 16 := by have := hi.ok.le; rwa [nums_length] at this
    rw [nums_length, ← hql] at hdag
    have HD := hid hdag
    have HD16 := hid hdag.turn.rk16
    have hq16 : qs.length ≤ 16 := by omega
    have HQ := hid (show ∀ v (hv : v < qs.length), qs[v].z = mems (((nums qs).map maskL).getD v 0) by
      intro v hv
      have h1 := rows_dag hi.inc hi.ok.le v (by rw [nums_length]; exact hv)
      rw [← h1]; simp [nums])
    have HFIN := hid (show layN (turnF qs.length ((nums qs).map maskL)) qs.length = r by rw [← HX.out]; unfold layersL; rw [if_pos ht, nums_length, hql]; rfl)
    clear ht hdag hi HX hql
    generalize (nums qs).map maskL = F at *
    go_enter Tryd.func35, Tryd.ntmps35
    go_wp2_with fail
    rw [← HW.out]
    have hb := alloc_below w0 (.cells #[] 2)
    replace RA := hid (RA.out.below hb (Nat.le_refl _))
    replace RQ := hid (RQ.out.below hb (Nat.le_refl _))
    replace B0 := hid (bon B0.out hb)
    replace c0 := cellB hb c0 (Nat.le_refl _)
    clear hb
    have hx0 : w.heap.size + 1 = w0.heap.size := HSZW.out.symm
    rw [hx0]
    have hle0 : w.heap.size ≤ w0.heap.size := by omega
    clear hx0
    generalize w0.alloc (.cells #[] 2) = w1 at *
    refine (specTransitiveIn_b a rs c a' qs c' _ true h2.out RA.out hn RQ.out hm).mono ?_
    rintro e w2 ⟨rfl, hb⟩
    have OB := hid (HO.out.past hb (Nat.le_refl _))
    replace RQ := hid (RQ.out.below hb (Nat.le_refl _))
    replace B0 := hid (bon B0.out hb)
    clear hb
    clear HO RA c0
    have hs0 := OB.out.lt w0.heap.size rfl
    go_wp2_with (at_make; refine law_make tRows _ rfl _ _ rfl qs.length _ _ rfl rfl (by omega) ?_; intro w3 hown hb hsz)
    have OD := hid (show OwnM 25 2 w3 w2.heap.size (.slice (some ⟨w2.heap.size, 0, none⟩) qs.length qs.length) (List.replicate qs.length (⟨none, [], 0⟩ : Row)) from ⟨by
      rw [List.map_replicate]; exact hown, inner_rep _ _ _ _⟩)
    have HND := hid (show nums (List.replicate qs.length (⟨none, [], 0⟩ : Row)) = (trnA qs.length F 0).map mems by
      show _ = (List.replicate qs.length 0).map mems
      rw [List.map_replicate, mems_zero]; simp [nums])
    have hs2 := B0.out.size
    have BL3 := hid hb
    have HB2 := hid B0.out
    have RQ2 := hid RQ.out
    clear hown hb RQ B0
    go_wp2
    go_loopw [7, 8] (fun v _ wr => ∃ (k : Nat) (ps : List Row), k ≤ qs.length ∧ v = .int .i64 k ∧ OwnM 25 2 wr w2.heap.size (.slice (some ⟨w2.heap.size, 0, none⟩) qs.length qs.length) ps ∧ nums ps = (trnA qs.length F k).map mems ∧ Below w2.heap.size w2 wr) (fun v _ _ => qs.length - (intOf v).toNat)
    case atStart => exact ⟨0, _, Nat.zero_le _, rfl, OD.out, HND.out, BL3.out⟩
    case round =>
      clear OD HND BL3
      obtain ⟨k, ps, hk, rfl, ho, hnp, hd⟩ := hrel
      have OD := hid ho; have HND := hid hnp; have BL := hid hd
      have RQ := hid (RQ2.out.below hd (Nat.le_refl _))
      clear ho hnp hd
      by_cases hlt : k < qs.length
      · have hki : (k : Int) < (qs.length : Int) := by omega
        have hzl : qs[k].z.length = (memsN (F.getD k 0)).length := by rw [HQ.out k hlt, mems_lenN]
        have HZL := hid hzl
        have hm32 := memsN_len (F.getD k 0)
        have HSU := hid (show trnA qs.length F (k + 1) = trnR (trnA qs.length F k) k (memsN (F.getD k 0)) from rfl)
        have HQZ := hid (HQ.out k hlt)
        have HMB := hid (show ∀ j (hj : j < (memsN (F.getD k 0)).length), (memsN (F.getD k 0))[j] < qs.length from fun j hj => memsN_under HD.out (List.getElem_mem hj))
        have HLOW := hid (fun j (hj : j < (memsN (F.getD k 0)).length) => trn_low HD.out hj)
        have HLT := hid (trnA_len qs.length F k)
        have HEL := hid (show ∀ j (hj : j < (memsN (F.getD k 0)).length) (h' : j < qs[k].z.length), qs[k].z[j] = (((memsN (F.getD k 0))[j] : Nat) : Int) by
          intro j hj h'
          have hjz : j < (mems (F.getD k 0)).length := by rw [mems_lenN]; exact hj
          have h1 : qs[k].z[j] = (mems (F.getD k 0))[j] := by simp [HQZ.out]
          rw [h1, memsN_get hjz])
        obtain ⟨ab, ao, rfl, ck, hok⟩ := RQ2.out.at k hlt
        have HCK := hid ck; have HOK := hid hok.1
        have HT0 := hid (show trnR (trnA qs.length F k) k ((memsN (F.getD k 0)).take 0) = trnA qs.length F k from rfl)
        clear ck hok hzl RQ HQZ
        generalize trnA qs.length F k = T at *
        generalize memsN (F.getD k 0) = L at *
        generalize qs[k] = qk at *
        go_wp2
        go_loopw [8] (fun i wq => ∃ (j : Nat) (ps : List Row), j ≤ L.length ∧ i = .int .i64 j ∧ OwnM 25 2 wq w2.heap.size (.slice (some ⟨w2.heap.size, 0, none⟩) qs.length qs.length) ps ∧ nums ps = (trnR T k (L.take j)).map mems ∧ Below w2.heap.size w2 wq) (fun i _ => L.length - (intOf i).toNat)
        case atStart => exact ⟨0, ps, Nat.zero_le _, rfl, OD.out, by rw [HT0.out]; exact HND.out, BL.out⟩
        case round =>
          clear OD HND BL
          obtain ⟨j, ps, hj, rfl, ho, hnp, hd⟩ := hrel
          have OD := hid ho; have HND := hid hnp; have BL := hid hd
          have ck := cellB hd HCK.out (Nat.le_refl _)
          rw [HZL.out] at ck
          have hszr := hd.size
          clear ho hnp hd
          have hpl : ps.length = qs.length := by
            have h := congrArg List.length HND.out
            rwa [nums_length, List.length_map, trnR_len, HLT.out] at h
          by_cases hltj : j < L.length
          · have hji : (j : Int) < (L.length : Int) := by omega
            have hjz : j < qk.z.length := by rw [HZL.out]; exact hltj
            obtain ⟨rb, ro, hra, ce0⟩ := HOK.out j hjz
            rw [HEL.out j hltj hjz] at ce0
            have ce := cellB BL.out ce0 (Nat.le_refl _)
            rw [hra] at ck
            have ckw := HCK.out
            rw [HZL.out, hra] at ckw
            have CKW := hid ckw
            have CEW := hid ce0
            clear ckw
            have hun := HMB.out j hltj
            have hlow := HLOW.out j hltj
            have HT := hid (trnR_take T k L j hltj)
            have hTl : (trnR T k (L.take j)).length = qs.length := by rw [trnR_len, HLT.out]
            clear ce0 hra hjz
            generalize L[j] = u at *
            generalize trnR T k (L.take j) = E at *
            have hup : u < ps.length := by omega
            have huE : u < E.length := by omega
            have hui : (u : Int) < (qs.length : Int) := by omega
            obtain ⟨q, hqe⟩ : ∃ q, ps[u] = q := ⟨_, rfl⟩
            have HQE := hid hqe
            have hqz : q.z = mems (E.getD u 0) := by
              have h1 : (nums ps)[u]'(by rw [nums_length]; exact hup) = (E.map mems)[u]'(by rw [List.length_map]; exact huE) := by simp [HND.out]
              rw [List.getElem_map, ← getD_in huE] at h1
              rw [← h1, ← hqe]; simp [nums]
            have HTOP := hid (show mems (E.getD u 0 ||| 2 ^ k) = q.z ++ [(k : Int)] by rw [hqz]; exact mems_top hlow (by omega))
            have hqlen : q.z.length < 1099511627776 := by
              have h1 := mems_len (E.getD u 0)
              rw [hqz]; omega
            have cd := OD.out.outer.cell u (by rw [List.length_map]; exact hup)
            rw [List.getElem_map, hqe] at cd
            unfold Row.val at cd
            have hqo := OD.out.inner.own q (by rw [← hqe]; exact List.getElem_mem hup)
            have HQO := hid hqo
            have HUP := hid hup
            have HPU := hid (show u < (ps.map Row.val).length by rw [List.length_map]; exact hup)
            have HSE := hid (show E.set u (E.getD u 0 ||| 2 ^ k) = trnR T k (L.take (j + 1)) from HT.out.symm)
            clear hqz hqo huE hqe hlow hTl hpl HT
            have X1 := hid (alloc_below wr (.cells #[.int .i64 (k : Int)] 2))
            have k0 : wr.drew.cell? ⟨ab, ao + k, none⟩ = _ := ck
            have k1 : (wr.alloc (.cells #[.int .i64 (k : Int)] 2)).cell? ⟨ab, ao + k, none⟩ = _ := cellB X1.out ck (Nat.le_refl _)
            have k2 : (wr.alloc (.cells #[.int .i64 (k : Int)] 2)).drew.cell? ⟨ab, ao + k, none⟩ = _ := k1
            have e0 : wr.drew.cell? ⟨rb, ro + j, none⟩ = _ := ce
            have e1 : (wr.alloc (.cells #[.int .i64 (k : Int)] 2)).cell? ⟨rb, ro + j, none⟩ = _ := cellB X1.out ce (Nat.le_refl _)
            have e2 : (wr.alloc (.cells #[.int .i64 (k : Int)] 2)).drew.cell? ⟨rb, ro + j, none⟩ = _ := e1
            have d0 : wr.drew.cell? ⟨w2.heap.size, u, none⟩ = _ := cd
            have d1 : (wr.alloc (.cells #[.int .i64 (k : Int)] 2)).cell? ⟨w2.heap.size, u, none⟩ = _ := cellB X1.out cd (Nat.le_refl _)
            have d2 : (wr.alloc (.cells #[.int .i64 (k : Int)] 2)).drew.cell? ⟨w2.heap.size, u, none⟩ = _ := d1
            go_wp2_with fail
            go_region_law ((first | (refine step_push1 tI64 _ rfl _ _ rfl w2.heap.size q.val (q.z.map (.int .i64)) rfl (HQO.out.past (B' := wr.heap.size) (by repeat (first | exact Below.refl _ _ | refine belowD ?_ | refine Below.alloc ?_ (Nat.le_refl _) _)) (Nat.le_refl _)) (.int .i64 (k : Int)) _ rfl (by exact blkN _ _ _ rfl) rfl q.z.length (by rw [List.length_map]) hqlen (Nat.le_trans hszr (Below.size (B := wr.heap.size) (w := wr) (by repeat (first | exact Below.refl _ _ | refine belowD ?_ | refine Below.alloc ?_ (Nat.le_refl _) _)))) ?_; intro g cap w5 h1 h2 h3; have OD5 := hid ((OD.out.outer.past (B' := wr.heap.size) (by repeat (first | exact Below.refl _ _ | refine belowD ?_ | refine Below.alloc ?_ (Nat.le_refl _) _)) (Nat.le_refl _)).kept h2 ((OD.out.outer.past (B' := wr.heap.size) (by repeat (first | exact Below.refl _ _ | refine belowD ?_ | refine Below.alloc ?_ (Nat.le_refl _) _)) (Nat.le_refl _)).ne (HQO.out.past (B' := wr.heap.size) (by repeat (first | exact Below.refl _ _ | refine belowD ?_ | refine Below.alloc ?_ (Nat.le_refl _) _)) (Nat.le_refl _)) (by decide))); have hfr5 := OD5.out.free u; have co5 := OD5.out.cell u HPU.out; have HB5 := hid (show Below w2.heap.size wr w5 from Below.trans (b := _) (Below.mono (B := wr.heap.size) (by repeat (first | exact Below.refl _ _ | refine belowD ?_ | refine Below.alloc ?_ (Nat.le_refl _) _)) hszr) (grown_below h2 (Nat.le_trans hszr (Below.size (B := wr.heap.size) (w := wr) (by repeat (first | exact Below.refl _ _ | refine belowD ?_ | refine Below.alloc ?_ (Nat.le_refl _) _)))) (fun g hg => HQO.out.ge g hg))); have HB25 := hid (BL.out.trans HB5.out); have k5 := cellB HB25.out CKW.out (Nat.le_refl _); have e5 := cellB HB25.out CEW.out (Nat.le_refl _); have HM5 := hid (pushAfter h2 h3 h1 (by repeat (first | exact Below.refl _ _ | refine belowD ?_ | refine Below.alloc ?_ (Nat.le_refl _) _)) OD.out u HUP.out HQE.out))))
            all_goals (
              have BL5 := hid (HB25.out.setCell (p := ⟨w2.heap.size, u, none⟩) (Nat.le_refl _) (.slice (some ⟨g, 0, none⟩) (q.z.length + 1) cap))
              have HN5 := hid (show nums (ps.set u ⟨some ⟨g, 0, none⟩, q.z ++ [(k : Int)], cap⟩) = (trnR T k (L.take (j + 1))).map mems by
                have h := HND.out
                unfold nums at h ⊢
                rw [List.map_set, h, ← HSE.out, List.map_set, HTOP.out])
              clear k0 k1 k2 e0 e1 e2 d0 d1 d2 k5 e5 hfr5 co5 h1 h2 h3 OD5 HB5 HB25 ck ce cd OD
              go_wp2
              go_roundw
              case rel => exact ⟨j + 1, _, by omega, by go_num, HM5.out, HN5.out, BL5.out⟩
              case measure => simp [intOf]; omega)
          · obtain rfl : j = L.length := by omega
            have HND2 := hid (show nums ps = (trnA qs.length F (k + 1)).map mems by rw [HSU.out]; have h := HND.out; rwa [List.take_length] at h)
            clear HND HSU
            go_wp2
            go_roundw
            case rel => exact ⟨k + 1, ps, by omega, by go_num, OD.out, HND2.out, BL.out⟩
            case measure => simp [intOf]; omega
      · obtain rfl : k = qs.length := by omega
        have hpl : ps.length = qs.length := by
          have h := congrArg List.length HND.out
          rwa [nums_length, List.length_map, trnA_len] at h
        have HTF := hid (show nums ps = (turnF qs.length F).map mems by rw [HND.out, trnA_all HD.out])
        have HQ2 := hid (show ∀ v (hv : v < ps.length), ps[v].z = mems ((turnF qs.length F).getD v 0) by
          intro v hv
          have hv2 : v < (turnF qs.length F).length := by rw [HD.out.turn.len, ← hpl]; exact hv
          have h : (nums ps)[v]'(by rw [nums_length]; exact hv) = ((turnF qs.length F).map mems)[v]'(by rw [List.length_map]; exact hv2) := by simp [HTF.out]
          rw [List.getElem_map, ← getD_in hv2] at h
          rw [← h]; simp [nums])
        have HDT := hid HD.out.turn
        have HPL := hid hpl
        have OBW := hid (OB.out.below BL.out (fun g hg => by have := own_blk hg; omega))
        have BF := hid (HB2.out.trans (BL.out.mono hs2))
        have HBK := hid (OD.out.blocks)
        have H17 := hid (longN_17 HDT.out)
        have HL0 := hid (show (layN [] 0 : List Int) = layN (turnF qs.length F) 0 from rfl)
        rw [HL0.out] at OBW
        clear hpl HND HTF OB RQ HL0
        obtain ⟨wd, hwd⟩ : ∃ wd, wd = wr := ⟨_, rfl⟩
        rw [← hwd]
        rw [← hwd] at OD OBW BF HBK BL
        clear hwd
        have hsd := BL.out.size
        go_wp2
        go_loopw [5, 9] (fun o x wq => ∃ i : Nat, i ≤ qs.length ∧ x = .int .i64 i ∧ Own 2 wq w0.heap.size o ((layN (turnF qs.length F) i).map (.int .i64)) ∧ (∀ g, o.ownBlock = some g → g < w2.heap.size ∨ wd.heap.size ≤ g) ∧ Kept (fun g => g < w2.heap.size ∨ wd.heap.size ≤ g) wd wq ∧ Below w.heap.size w wq) (fun _ x _ => qs.length - (intOf x).toNat)
        case atStart => exact ⟨0, Nat.zero_le _, rfl, OBW.out, fun g hg => .inl (by have := own_blk hg; omega), Kept.refl _ _, BF.out⟩
        case round =>
          clear OBW BF BL
          obtain ⟨i, hi, rfl, ho, hob, hkp, hd⟩ := hrel
          have OO := hid ho; have HOB := hid hob; have KP := hid hkp; have BF := hid hd
          have RD := hid ((OD.out.keptS hkp (HBK.out.mono (fun g hg hh => by omega))).rdm)
          have hszf := hd.size
          have hszk := hkp.size
          clear ho hob hkp hd
          obtain ⟨oa, oc, hov, _⟩ := Own.rd (f := Value.int .i64) OO.out
          rw [layN_len] at hov
          subst hov
          by_cases hlt : i < qs.length
          · have hii : (i : Int) < (qs.length : Int) := by omega
            have hrk := HD16.out i
            have hl17 := H17.out i
            have hl1 : 1 ≤ (longN (turnF qs.length F) i).length := by obtain ⟨t, ht⟩ := longN_head HDT.out i; rw [ht]; simp
            have HSU := hid (layN_succ (turnF qs.length F) i)
            have hlo : ((layN (turnF qs.length F) i).map (Value.int .i64)).length < 1099511627776 := by rw [List.length_map, layN_len]; omega
            have HLG := hid (fun w' (h : RdM w' (some ⟨w2.heap.size, 0, none⟩) ps) => l13Long_any HDT.out (some ⟨w2.heap.size, 0, none⟩) ps qs.length HPL.out HQ2.out 17 i w' (by omega) hlt h)
            go_wp2_with fail
            refine (HLG.out _ RD.out).mono ?_
            rintro e w5 ⟨xv, rfl, hown, hb⟩
            obtain ⟨xa, xc, hxv, _⟩ := Own.rd (f := Value.int .i64) hown
            rw [li_length] at hxv
            subst hxv
            have OO5 := hid (OO.out.past hb (Nat.le_refl _))
            have K5 := hid (KP.out.trans (Kept.of_below _ hb))
            have BF5 := hid (BF.out.trans (hb.mono hszf))
            have hsz5 := hb.size
            have hB5 : w0.heap.size ≤ w5.heap.size := by omega
            clear hown hb OO KP BF RD
            generalize (longN (turnF qs.length F) i).length = m at *
            go_wp2_with (at_builtin; refine law_push_w tI64 _ rfl _ _ rfl w0.heap.size _ ((layN (turnF qs.length F) i).map (Value.int .i64)) rfl OO5.out _ _ rfl ?c0 rfl hlo hB5 ?_)
            case c0 => simp
            intro v' w6 h1 h2 hwh
            have OO6 := hid (show Own 2 w6 w0.heap.size v' ((layN (turnF qs.length F) (i + 1)).map (.int .i64)) by rw [HSU.out, List.map_append]; simpa using h1)
            have HOB6 := hid (show ∀ g, v'.ownBlock = some g → g < w2.heap.size ∨ wd.heap.size ≤ g from fun g hg => by
              rcases hwh with h | ⟨k, h, hk⟩
              · exact HOB.out g (by rw [← h]; exact hg)
              · rw [h] at hg; injection hg with hg; omega)
            have K6 := hid (K5.out.trans (kept_grown h2 (fun g hg => HOB.out g hg)))
            have BF6 := hid (BF5.out.trans (grown_below h2 (by omega) (fun g hg => Nat.le_trans hle0 (OO5.out.ge g hg))))
            clear h1 h2 hwh
            go_wp2
            go_roundw
            case rel => exact ⟨i + 1, by omega, by go_num, OO6.out, HOB6.out, K6.out, BF6.out⟩
            case measure => simp [intOf]; omega
          · obtain rfl : i = qs.length := by omega
            have OF := hid (show Own 2 wr w.heap.size (.slice oa qs.length oc) (r.map (.int .i64)) by rw [← HFIN.out]; exact OO.out.base hle0)
            clear OO
            go_wp2
            go_ret
            exact ⟨_, rfl, OF.out, BF.out⟩
  · have h2 := hid (show decide (TransP (nums rs) (nums qs)) = false by simpa using ht)
    have HFIN := hid (show [] = r by rw [← HX.out]; unfold layersL; rw [if_neg ht])
    clear ht HX
    go_enter Tryd.func35, Tryd.ntmps35
    go_wp2_with fail
    rw [← HW.out]
    have hb := alloc_below w0 (.cells #[] 2)
    replace RA := hid (RA.out.below hb (Nat.le_refl _))
    replace RQ := hid (RQ.out.below hb (Nat.le_refl _))
    replace B0 := hid (bon B0.out hb)
    replace c0 := cellB hb c0 (Nat.le_refl _)
    clear hb
    have hx0 : w.heap.size + 1 = w0.heap.size := HSZW.out.symm
    rw [hx0]
    have hle0 : w.heap.size ≤ w0.heap.size := by omega
    clear hx0
    generalize w0.alloc (.cells #[] 2) = w1 at *
    refine (specTransitiveIn_b a rs c a' qs c' _ false h2.out RA.out hn RQ.out hm).mono ?_
    rintro e w2 ⟨rfl, hb⟩
    have OF := hid (show Own 2 w2 w.heap.size (.slice (some ⟨w0.heap.size, 0, none⟩) 0 0) (r.map (.int .i64)) by rw [← HFIN.out]; exact (HO.out.past hb (Nat.le_refl _)).base (by omega))
    replace B0 := hid (bon B0.out hb)
    clear hb
    clear HO RA c0
    go_wp2
    go_ret
    exact ⟨_, rfl, OF.out, B0.out⟩
end
end Go.Proofs.YtahibjikcijnfaaDoor
