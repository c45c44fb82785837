/- All of a list become neighbours, in a graph of one's own: the reference's. · A graph is copied: the reference's. · The order that takes the cheapest: the reference's. -/
import Derived.Test.YtdncmloajajiaaaDoorElimM
import Derived.Test.YtdncmloajajiaaaDoorMem3
import Derived.Test.YtdncmloajajiaaaDoorAroA
import Derived.Deep.RegionLaw
import Derived.Test.YtdncmloajajiaaaDoorDegS
import Derived.Test.YtdncmloajajiaaaDoorGone
namespace Go.Proofs.YtdncmloajajiaaaDoor
open Go.RowKit
section
theorem Rd.keptS {α : Type} {f : α → Value} {S : Nat → Prop} {w w' : World} {a : Option Addr} {zs : List α} (h : Rd f w a zs) (hk : Kept S w w') (hS : ∀ b o, a = some ⟨b, o, none⟩ → ¬ S b) : Rd f w' a zs := by
  intro i hi
  obtain ⟨b, o, h1, h2⟩ := h i hi
  exact ⟨b, o, h1, cellK hk h2 (hS b o h1)⟩
theorem setCell_id {w : World} {b o : Nat} {v : Value} (h : w.cell? ⟨b, o, none⟩ = some v) : w.setCell ⟨b, o, none⟩ v = w := by
  have e : (w.heap.modify b fun
      | .cells c elem frozen => .cells (if (none : Option Nat).isSome then c else c.setIfInBounds o v) elem frozen
      | ob => ob) = w.heap := by
    apply Array.ext
    · simp
    · intro i h1 h2
      rw [Array.getElem_modify]
      split
      · rename_i hib
        subst hib
        unfold World.cell? at h
        simp only at h
        rw [Array.getElem?_eq_getElem h2] at h
        cases hw : w.heap[b] with
        | cells c elem frozen =>
          rw [hw] at h
          simp at h ⊢
          apply Array.ext
          · simp
          · intro j g1 g2
            rw [Array.getElem_setIfInBounds]
            split
            · rename_i hj; subst hj
              rw [Array.getElem?_eq_getElem g2] at h
              injection h with h; exact h.symm
            · rfl
        | _ => rfl
      · rfl
  unfold World.setCell
  exact congrArg (fun hp => { w with heap := hp }) e
end
section
set_option maxRecDepth 100000 in
set_option maxHeartbeats 1000000 in
theorem l1CopyGraph_any (a : Option Addr) (rs : List Row) (c : Nat) (w : World) (hr : RdM w a rs) (hn : Small rs) :
    Calls Tryd.prog 64 #[.agg #[.slice a rs.length c]] w (RetOwnG 33 2 (nums rs) w) := by
  have RA := hid hr; clear hr
  have hn1 := hn.1
  obtain ⟨w0, hw0⟩ : ∃ w0, w0 = ((w.alloc (.cells #[.slice a rs.length c] 29)).alloc (.cells #[.slice none 0 0] 29)) := ⟨_, rfl⟩
  have B0 := hid (show Below w.heap.size w w0 by rw [hw0]; exact (((Below.refl _ _).alloc (Nat.le_refl _) _).alloc (by simp) _))
  have c0 : w0.cell? ⟨w.heap.size, 0, none⟩ = some (.slice a rs.length c) := by rw [hw0]; simp [go_sem]
  have c1 : w0.cell? ⟨w.heap.size + 1, 0, none⟩ = some (.slice none 0 0) := by rw [hw0]; simp [go_sem]
  have HW := hid hw0; clear hw0
  have hsz0 : w0.heap.size = w.heap.size + 2 := by rw [HW.out]; simp
  have RA0 := hid (RA.out.below B0.out (Nat.le_refl _))
  have HC0 := hid c0; have HC1 := hid c1
  have OR := hid (show Own 29 w0 (w.heap.size + 1) (.slice (some ⟨w.heap.size + 1, 0, none⟩) 1 1) [.slice none 0 0] by
    have h := own_new 29 (w.alloc (.cells #[.slice a rs.length c] 29)) [.slice none 0 0] (by simp [maxLen])
    rw [HW.out]
    simpa using h)
  have OZ := hid (show Own 29 (w0.alloc (.cells #[.slice none 0 0] 29)) w0.heap.size (.slice (some ⟨w0.heap.size, 0, none⟩) 1 1) [.slice none 0 0] from own_new 29 w0 [.slice none 0 0] (by simp [maxLen]))
  go_enter Tryd.func64, Tryd.ntmps64
  go_wp2_with fail
  rw [← HW.out]
  have hsx : w.heap.size + 1 + 1 = w0.heap.size := by omega
  rw [hsx]
  have hsz1 : w.heap.size + 2 ≤ w0.heap.size := by omega
  clear hsx hsz0
  have HB1 := hid (alloc_below w0 (.cells #[.slice none 0 0] 29))
  have HO1 := hid (show Own 33 (w0.alloc (.cells #[.slice none 0 0] 29)) (w0.heap.size + 1) (.slice none 0 0) (([] : List Row).map Row.val) from Own.nil _ _ _)
  have hs1 : (w0.alloc (.cells #[.slice none 0 0] 29)).heap.size = w0.heap.size + 1 := by simp
  generalize w0.alloc (.cells #[.slice none 0 0] 29) = W1 at *
  have HS1 := hid hs1; clear hs1
  go_loopw [4] (fun x wr => ∃ k v ps, k ≤ rs.length ∧ x = .int .i64 (k : Nat) ∧ OwnM 33 2 wr (w0.heap.size + 1) v ps ∧ nums ps = (nums rs).take k ∧ Own 29 wr w0.heap.size (.slice (some ⟨w0.heap.size, 0, none⟩) 1 1) [v] ∧ Below w0.heap.size w0 wr) (fun x _ => rs.length - (intOf x).toNat)
  case atStart => exact ⟨0, _, [], Nat.zero_le _, rfl, ⟨HO1.out, Inner.nil _ _ _⟩, rfl, OZ.out, HB1.out⟩
  case round =>
    obtain ⟨k, v, ps, hk, rfl, ho, hps, hoz, hb⟩ := hrel
    have OM := hid ho; have HPS := hid hps; have OZ1 := hid hoz; have LB := hid hb
    have RA1 := hid (RA0.out.below hb (Nat.le_refl _))
    have c01 := cellB hb HC0.out (Nat.le_refl _)
    have c03 := hoz.cell 0 (by simp)
    rw [List.getElem_cons_zero] at c03
    have hsr := hb.size
    have hzr := hoz.lt w0.heap.size rfl
    clear ho hps hoz hb c0 c1
    by_cases hlt : k < rs.length
    · have hki : (k : Int) < (rs.length : Int) := by omega
      obtain ⟨ab, ao, rfl, ck, hkok⟩ := RA1.out.at k hlt
      have hca0 : ab < w0.heap.size := by
        obtain ⟨ab1, ao1, e1, ck1, _⟩ := RA0.out.at k hlt
        have h1 := World.block_lt_of_cell? _ _ ck1
        simp at e1
        rw [e1.1]; exact h1
      have hzk := hn.2 _ (List.getElem_mem hlt)
      have HSU := hid (show nums ps ++ [rs[k].z] = (nums rs).take (k + 1) by
        rw [HPS.out, List.take_succ_eq_append_getElem (by rw [nums_length]; exact hlt)]
        simp [nums])
      have hpl : (ps.map Row.val).length < 1099511627776 := by
        have h1 := congrArg List.length HPS.out
        rw [nums_length, List.length_take, nums_length] at h1
        rw [List.length_map]; omega
      obtain ⟨pv, pc, hpv, _⟩ := OM.out.rd
      obtain ⟨w1, rfl⟩ : ∃ z, z = wr := ⟨_, rfl⟩
      have D3 : Drawn w1 w1.drew := ⟨1, rfl⟩
      have hdz : w1.heap.size ≤ w1.drew.heap.size := Nat.le_refl _
      have OM3 := hid (OM.out.past (D3.below w1.heap.size) (Nat.le_refl _))
      have OZ3 := hid (OZ1.out.past (D3.below w1.heap.size) (Nat.le_refl _))
      have LB3 := hid (LB.out.trans (D3.below w0.heap.size))
      have RP3 := hid (hkok.1.below (D3.below w1.heap.size) (Nat.le_refl _))
      have hca := hkok.2.2.2
      have f0 := dcell D3 c01
      have f1 := dcell D3 c03
      have f2 := dcell D3 ck
      have hBw : w0.heap.size + 1 ≤ w1.drew.heap.size := by omega
      generalize rs[k] = p at *
      clear OM OZ1 LB RA1 hkok
      have hz0 : w.heap.size < w0.heap.size + 1 := by omega
      have hz2 : ab < w0.heap.size + 1 := by have := hca0; omega
      have hne0 : (⟨w.heap.size, 0, none⟩ : Addr).block ≠ (⟨w0.heap.size, 0, none⟩ : Addr).block := by simp only [ne_eq]; omega
      have hne2 : (⟨ab, ao + k, none⟩ : Addr).block ≠ (⟨w0.heap.size, 0, none⟩ : Addr).block := by have := hca0; simp only [ne_eq]; omega
      subst hpv
      go_wp2_with fail
      go_region_law ((first | (refine step_push tRows _ (by rfl) _ _ (by rfl) (w0.heap.size + 1) _ (ps.map Row.val) (by rfl) OM4.out.outer _ _ (by rfl) (by rfl) (by rfl) hpl hBw4 ?_; intro v' w5 h1 h2; have OZ5 := hid (OZ4.out.kept h2 (OZ4.out.ne OM4.out.outer (by decide))); have hfr5 : w5.frozen? ⟨w0.heap.size, 0, none⟩ = false := OZ5.out.free 0; have k1 : w5.cell? ⟨w0.heap.size, 0, none⟩ = some (.slice pv ps.length pc) := OZ5.out.cell 0 (by simp); have LP5 := hid (grown_below h2 hBw4 (fun g hg => OM4.out.outer.ge g hg)); have k0 := (LP5.out.cell (p := ⟨w.heap.size, 0, none⟩) hz0).trans g0; have k2 := (LP5.out.cell (p := ⟨ab, ao + k, none⟩) hz2).trans g2; have LB5 := hid (LB4.out.trans (LP5.out.mono (by omega))); have OM5 := hid (rows_push (by decide) OM4.out.outer IN4.out h1 h2); clear h1 h2; obtain ⟨va, vc, hva, _⟩ := OM5.out.rd; subst hva) | (go_simp; go_at_call 73; refine (l1Copy_any _ _ _ _ RP3.out hzk hca).mono ?_; rintro e w4 ⟨cv, rfl, hown, hb⟩; obtain ⟨ca, cc, rfl, _⟩ := Own.rd hown; have g0 := cellB hb f0 (Nat.le_refl _); have g1 := cellB hb f1 (Nat.le_refl _); have g2 := cellB hb f2 (Nat.le_refl _); have ga1 := fun ob => cellB (alloc_below w4 ob) g1 (Nat.le_refl _); have OM4 := hid (OM3.out.past hb (Nat.le_refl _)); have IN4 := hid (OM3.out.inner.snoc hb hBw ⟨ca, p.z, cc⟩ hown); have OZ4 := hid (OZ3.out.past hb (Nat.le_refl _)); have hs4 := hb.size; have hBw4 := Nat.le_trans hBw hs4; have LB4 := hid (LB3.out.trans (hb.mono (by omega))); clear hown hb; go_wp2_with fail)))
      all_goals (
        have OM6 := hid (OM5.out.setCell_below (p := ⟨w0.heap.size, 0, none⟩) (Nat.lt_succ_self _) (.slice va (ps ++ [(⟨ca, p.z, cc⟩ : Row)]).length vc))
        have OZ6 := hid (OZ5.out.store 0 (by simp) (.slice va (ps ++ [(⟨ca, p.z, cc⟩ : Row)]).length vc))
        have LB6 := hid (Below.setCell LB5.out (p := ⟨w0.heap.size, 0, none⟩) (Nat.le_refl _) (.slice va (ps ++ [(⟨ca, p.z, cc⟩ : Row)]).length vc))
        have HNS := hid (show nums (ps ++ [⟨ca, p.z, cc⟩]) = (nums rs).take (k + 1) by rw [← HSU.out]; simp [nums])
        have e1 : (ps ++ [(⟨ca, p.z, cc⟩ : Row)]).length = ps.length + 1 := by simp
        rw [e1] at OM6 OZ6 LB6
        clear e1 g0 g1 g2 ga1 k0 k1 k2 hfr5 OM5 OZ5 LB5 LP5 HSU
        go_wp2
        go_roundw
        case rel => exact ⟨k + 1, _, _, by omega, by go_num, OM6.out, HNS.out, OZ6.out, LB6.out⟩
        case measure => simp [intOf]; omega)
    · obtain rfl : k = rs.length := by omega
      have HPF := hid (show nums ps = nums rs by rw [HPS.out, List.take_of_length_le (by rw [nums_length]; exact Nat.le_refl _)])
      obtain ⟨va, vc, hva, _⟩ := OM.out.rd
      subst hva
      have OR2 := hid (OR.out.past LB.out (Nat.le_refl _))
      have c1 := OR2.out.cell 0 (by simp)
      rw [List.getElem_cons_zero] at c1
      have hfr := OR2.out.free 0
      have OM2 := hid ((OM.out.setCell_below (p := ⟨w.heap.size + 1, 0, none⟩) (by simp only; omega) (.slice va ps.length vc)).base (B' := w.heap.size) (by omega))
      have LB2 := hid (show Below w.heap.size w (wr.setCell ⟨w.heap.size + 1, 0, none⟩ (.slice va ps.length vc)) from Below.setCell (B0.out.trans (LB.out.mono (by omega))) (p := ⟨w.heap.size + 1, 0, none⟩) (by simp only; omega) _)
      have c110 : (wr.setCell ⟨w.heap.size + 1, 0, none⟩ (.slice va ps.length vc)).cell? ⟨w.heap.size + 1, 0, none⟩ = some (.slice va ps.length vc) := by
        have h := (OR2.out.store 0 (by simp) (.slice va ps.length vc)).cell 0 (by simp)
        simpa using h
      have HC110 := hid c110
      clear c110 OM OZ1 LB RA1
      go_wp2
      refine bodyPost_ret (ret_cell rfl _ _ _ ⟨w.heap.size + 1, 0, none⟩ (.agg #[.slice va ps.length vc]) rfl ?_) rfl ⟨_, _, rfl, HPF.out, OM2.out, LB2.out⟩
      have c110 := HC110.out
      clear OM2 LB2
      go_simp
end
section
theorem OwnG.push {P : Nat → Prop} {w w' : World} {B B' gb n cap : Nat} {A : List Nat} {v v' : Value} {xs : List Value} (h : OwnG P w B gb n cap A) (ho : Own 2 w B' v xs) (hP : ∀ k, v.ownBlock = some k → P k) (h2 : w.grownBy w' v.ownBlock)
    (hwh : v'.ownBlock = v.ownBlock ∨ ∃ k, v'.ownBlock = some k ∧ w.heap.size ≤ k) : OwnG (fun k => v'.ownBlock = some k) w' B gb n cap A := by
  obtain ⟨ps, hom, hnp, hps⟩ := h
  refine ⟨ps, OwnM.mk (hom.outer.kept h2 (hom.outer.ne ho (by decide))) (hom.inner.kept_sep h2 fun r hr => ?_), hnp, fun r hr k hk hpk => ?_⟩
  · cases hk : r.val.ownBlock with
    | none => exact .inl rfl
    | some k => exact .inr fun e => hps r hr k hk (hP k e.symm)
  · rcases hwh with h | ⟨q, h, hq⟩
    · exact hps r hr k hk (hP k (by rw [← h]; exact hpk))
    · have := (hom.inner.own r hr).lt k hk
      rw [h] at hpk
      injection hpk with hpk
      omega
theorem OwnG.mono {P P' : Nat → Prop} {w : World} {B B' gb n cap : Nat} {A : List Nat} (h : OwnG P w B gb n cap A) (hB : B' ≤ B) (hP : ∀ k, P' k → P k ∨ w.heap.size ≤ k) : OwnG P' w B' gb n cap A := by
  obtain ⟨ps, hom, hnp, hps⟩ := h
  refine ⟨ps, hom.base hB, hnp, fun r hr k hk hpk => ?_⟩
  rcases hP k hpk with h1 | h1
  · exact hps r hr k hk h1
  · have := (hom.inner.own r hr).lt k hk; omega
theorem OwnG.out {P : Nat → Prop} {w : World} {B gb n cap : Nat} {A : List Nat} (h : OwnG P w B gb n cap A) (hA : GA n A) : ∃ ps : List Row, RdM w (some ⟨gb, 0, none⟩) ps ∧ Small ps ∧ ps.length = n ∧ nums ps = A.map mems := by
  obtain ⟨ps, hom, hnp, _⟩ := h
  have hl : ps.length = n := by
    have h1 := congrArg List.length hnp
    rw [nums_length, List.length_map, hA.len] at h1; exact h1
  have h16 := hA.le
  refine ⟨ps, hom.rdm, ⟨by omega, fun r hr => ?_⟩, hl, hnp⟩
  have h1 : r.z ∈ nums ps := List.mem_map_of_mem hr
  rw [hnp] at h1
  obtain ⟨m, hm, he⟩ := List.mem_map.1 h1
  have := mems16 (hA.in16 m hm)
  rw [← he]; omega
theorem OwnG.lt {P : Nat → Prop} {w : World} {B gb n cap : Nat} {A : List Nat} (h : OwnG P w B gb n cap A) : gb < w.heap.size := by
  obtain ⟨ps, hom, _⟩ := h
  exact hom.outer.lt gb rfl
theorem OwnG.apart {P : Nat → Prop} {e : TypeId} {w : World} {B B' gb n cap : Nat} {A : List Nat} {v : Value} {xs : List Value} (h : OwnG P w B gb n cap A) (ho : Own e w B' v xs) (hne : e ≠ 33) : ∀ g, v.ownBlock = some g → ¬ g = gb := by
  obtain ⟨ps, hom, _⟩ := h
  intro g hg e
  rcases ho.ne hom.outer hne with h1 | h1
  · rw [h1] at hg; cases hg
  · exact h1 (by rw [hg, e]; rfl)
theorem OwnG.setCell_typed {P : Nat → Prop} {e : TypeId} {w : World} {B B' gb n cap g m c : Nat} {A : List Nat} {xs : List Value} (h : OwnG P w B gb n cap A) (ho : Own e w B' (.slice (some ⟨g, 0, none⟩) m c) xs) (h1 : 33 ≠ e) (h2 : 2 ≠ e) (i : Nat) (u : Value) : OwnG P (w.setCell ⟨g, i, none⟩ u) B gb n cap A := by
  obtain ⟨ps, hom, hnp, hps⟩ := h
  exact ⟨ps, hom.setCell_typed ho h1 h2 i u, hnp, hps⟩
theorem Own.setCell_typed {e e' : TypeId} {w : World} {B B' g m c : Nat} {v : Value} {xs ys : List Value} (h : Own e w B v xs) (ho : Own e' w B' (.slice (some ⟨g, 0, none⟩) m c) ys) (hne : e ≠ e') (i : Nat) (u : Value) : Own e (w.setCell ⟨g, i, none⟩ u) B v xs :=
  h.setCell_other _ _ (by simpa [Value.ownBlock] using h.ne ho hne)
theorem mems_incN {m n : Nat} (h : m < 2 ^ n) (hn : n ≤ 16) : Inc n (mems m) := by
  have hp : 2 ^ n ≤ 65536 := Nat.pow_le_pow_right (n := 2) (i := n) (j := 16) (by decide) hn
  refine ⟨fun x hx => ?_, mems_sorted _⟩
  obtain ⟨i, rfl, hi⟩ := (mems_mem (show m < 4294967296 by omega)).1 hx
  have := bit_under h hi
  omega
end
end Go.Proofs.YtdncmloajajiaaaDoor
