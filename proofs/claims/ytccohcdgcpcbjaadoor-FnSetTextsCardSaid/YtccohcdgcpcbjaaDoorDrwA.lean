/- A graph drawn, bent sometimes: the reference's. -/
import Derived.Test.YtccohcdgcpcbjaaDoorDrw
import Derived.Deep.RegionLaw
import Derived.Deep.AppendLies
import Derived.Deep.RegionHeld3
import Derived.Deep.RegionWith
namespace Go.Proofs.YtccohcdgcpcbjaaDoor
open Go.RowKit
section
theorem step_pushD {P : Program} {ops : Array Oper} {o : Oper} {a : Act} {K : Act → World → Prop} {Q : Exit → Act → World → Prop} {E : Prop} {t e : TypeId} {z : Value} (hT : SliceT P t e z) (W : World) (hg : o.guard = none) (s x : Operand) (hop : o.op = .call { callee := .builtin .append, args := #[s, x], argTypes := #[t, t] })
    (B : Nat) (v : Value) (xs : List Value) (hs : a.eval s = v) (hown : Own e W B v xs) (u : Value) (gx : Nat) (hx : a.eval x = .slice (some ⟨gx, 0, none⟩) 1 1) (hgx : W.heap[gx]? = some (.cells #[u] e (0, 0))) (hu : u.oneCell' = true) (n : Nat) (hxn : xs.length = n) (hn : n < 1099511627776) (hB : B ≤ W.heap.size)
    (hK : ∀ g cap w', Own e w' B (.slice (some ⟨g, 0, none⟩) (n + 1) cap) (xs ++ [u]) → W.grownBy w' v.ownBlock → (v.ownBlock = some g ∨ g = W.heap.size) → K (a.put o.dst (.slice (some ⟨g, 0, none⟩) (n + 1) cap)) w') :
    if Region.wanted o (yielded ops a.tmps) = true then Oper.wp P o a W K Q else E := by
  subst hxn
  obtain ⟨ht, bytes, hby, hi0, hz⟩ := hT
  obtain ⟨i, hi, hz0, hz1, hz2⟩ := info_parts hi0
  refine step_append_lies W hg s x t hop B e i z 1 bytes ht hi hz0 hz1 hz2 (by rw [hz]; rfl) (by decide) v xs.length xs hs hown ⟨gx, 0, none⟩ 1 1 [u] hx (by simp) (fun j y hj => ?_) (fun y hy => ?_) (by omega) (by unfold maxLen; omega) ?_ hB _ rfl fun g cap w' h1 h2 h3 _ => ?_
  · have hj0 : j = 0 := by
      rcases Nat.eq_zero_or_pos j with h | h
      · exact h
      · rw [List.getElem?_eq_none (by simp; omega)] at hj; cases hj
    subst hj0
    have : u = y := by simpa using hj
    subst this
    simp [Addr.add, World.cell?, hgx]
  · simp at hy; subst hy; exact hu
  · exact Nat.le_trans (Nat.mul_le_mul_left _ hby) (by omega)
  · exact hK g cap w' (by simpa [Own] using h1) h2 h3
theorem belowE {B : Nat} {a W : World} (h : Below B a W) : Below B a W.drew := h.trans (Drawn.below (a := W) (b := W.drew) ⟨1, rfl⟩ B)
theorem blkD (w : World) (o : Obj) (g : Nat) (h : g = w.heap.size) : (w.alloc o).heap[g]? = some o := by subst h; show (w.heap.push o)[w.heap.size]? = some o; simp
theorem l1Empty_i (n : Nat) (x : Int) (w : World) (hx : x = (n : Int)) (h0 : 1 ≤ n) (h17 : n ≤ 17) :
    Calls Tryd.prog 58 #[.int .i64 x] w fun e w' => ∃ gb cap, e = .returned (.agg #[.slice (some ⟨gb, 0, none⟩) n cap]) ∧ OwnG (fun _ => False) w' w.heap.size gb n cap (List.replicate n 0) ∧ Below w.heap.size w w' := by
  subst hx; exact l1Empty_17 n w h0 h17
/-- A graph's place has been drawn. -/
def APost (g : Nat) (w : World) (e : Ending) (w' : World) : Prop := ∃ (a : Option Addr) (n cap : Nat), e = .returned (.agg #[.slice a n cap]) ∧ n ≤ 17 ∧ Cur w' g ∧ Kept (fun k => k = g) w w'
theorem Cur.belowB {w w' : World} {g B : Nat} (h : Cur w g) (hb : Below B w w') (hg : g < B) : Cur w' g :=
  h.keep (S := fun j => B ≤ j) ⟨hb.os, hb.tape, hb.output, hb.size, fun k _ hn => hb.block k (by omega)⟩ (fun j hj hn => by omega)
theorem Kept.belowT {S : Nat → Prop} {a b c : World} (h : Kept S a b) {B : Nat} (hb : Below B b c) (hB : a.heap.size ≤ B) : Kept S a c :=
  ⟨hb.os.trans h.os, hb.tape.trans h.tape, hb.output.trans h.output, Nat.le_trans h.size hb.size, fun k hk hn => (hb.block k (by omega)).trans (h.block k hk hn)⟩
theorem Own.outB {e : TypeId} {w w' : World} {B g n c D : Nat} {xs : List Value} (h : Own e w B (.slice (some ⟨g, 0, none⟩) n c) xs) (hb : Below D w w') (hg : g < D) : Own e w' B (.slice (some ⟨g, 0, none⟩) n c) xs :=
  h.below hb (fun k hk => by simp [Value.ownBlock] at hk; omega)
/-- The row at v. -/
theorem Box.row {S : Nat → Prop} {w0 w : World} {lb gb n cap : Nat} {C : List Nat} (h : Box S w0 lb gb n cap C w) {v : Nat} (hv : v < n) :
    ∃ (xs : List Value) (q : Row), Own 30 w w0.heap.size (.slice (some ⟨gb, 0, none⟩) n cap) xs ∧ (∀ w' : World, Own 30 w' w0.heap.size (.slice (some ⟨gb, 0, none⟩) n cap) xs → w'.cell? ⟨gb, v, none⟩ = some (.slice q.a q.z.length q.c)) ∧ Own 2 w w0.heap.size q.val (q.z.map (.int .i64)) ∧ q.z.length ≤ 32 := by
  obtain ⟨ps, hom, hnp, _⟩ := h.og
  have hpl : ps.length = n := by
    have h1 := congrArg List.length hnp
    rw [nums_length, List.length_map, h.ga.len] at h1; exact h1
  refine ⟨ps.map Row.val, ps[v], hom.outer, fun w' hw => (by
    have h := hw.cell v (by rw [List.length_map]; omega)
    rw [List.getElem_map] at h
    exact h), hom.inner.own _ (List.getElem_mem _), ?_⟩
  have h1 : ps[v].z ∈ nums ps := List.mem_map_of_mem (List.getElem_mem _)
  rw [hnp] at h1
  obtain ⟨m, _, he⟩ := List.mem_map.1 h1
  rw [← he]; exact mems_len m
set_option maxRecDepth 100000 in
set_option maxHeartbeats 8000000 in
theorem l1DrawAny_any (g : Nat) (w : World) (hc : Cur w g) : Calls Tryd.prog 35 #[.pointer (some ⟨g, 0, none⟩)] w (APost g w) := by
  have hgw := hc.lt
  have CU := hid hc
  clear hc
  obtain ⟨w0, hw0⟩ : ∃ w0, w0 = (w.alloc (.cells #[.slice none 0 0] 24)) := ⟨_, rfl⟩
  have B0 := hid (show Below w.heap.size w w0 by rw [hw0]; exact ((Below.refl _ _).alloc (Nat.le_refl _) _))
  have c0 : w0.cell? ⟨w.heap.size, 0, none⟩ = some (.slice none 0 0) := by rw [hw0]; simp [go_sem]
  have HW := hid hw0; clear hw0
  have hsz0 : w0.heap.size = w.heap.size + 1 := by rw [HW.out]; simp
  have OR := hid (box_new w w0 HW.out)
  have Kw := hid (Kept.of_below (fun k => k = g) B0.out)
  have CU0 := hid (CU.out.past B0.out (Nat.le_refl _))
  have hszw : w.heap.size < w0.heap.size := by omega
  clear c0 B0 CU hsz0
  go_enter Tryd.func35, Tryd.ntmps35
  go_wp2_with fail
  rw [← HW.out]
  refine (l1Draw_any g _ CU0.out).mono ?_
  rintro e w1 ⟨gb, n, cap, A, rfl, hla, hog, hcu, hk⟩
  have hs1 := hk.size
  have hb3 := alloc_below w1 (.cells #[.slice (some ⟨gb, 0, none⟩) n cap] 24)
  have BX := hid (show Box (fun k => k = g) w0 w1.heap.size gb n cap A (w1.alloc (.cells #[.slice (some ⟨gb, 0, none⟩) n cap] 24)) from
    ⟨hla, hog.past hb3 (Nat.le_refl _), own_new 24 w1 [.slice (some ⟨gb, 0, none⟩) n cap] (by simp [maxLen]), hk.trans (Kept.of_below _ hb3), hs1⟩)
  have CU := hid (hcu.past hb3 (Nat.le_refl _))
  have OR1 := hid ((OR.out.keptS hk (fun j hj hs => by simp [Value.ownBlock] at hj; omega)).past hb3 (Nat.le_refl _))
  have hn1 := hla.pos
  have hn16 := hla.le
  clear hog hcu hk hb3 OR CU0 hla
  go_wp2_with fail
  generalize w1.alloc (.cells #[.slice (some ⟨gb, 0, none⟩) n cap] 24) = wb at *
  generalize w1.heap.size = lb at *
  have hlb0 := BX.out.lb0
  have hgb0 := BX.out.gb0
  refine (l1Once_any g 12 _ CU.out (by decide) (by decide)).mono ?_
  rintro e w2 ⟨t, rfl, hc, hk⟩
  replace BX := hid (BX.out.roll hk (fun j hj hs => by omega))
  replace CU := hid hc
  replace OR1 := hid (OR1.out.keptS hk (fun j hj hs => by simp [Value.ownBlock] at hj; omega))
  clear hc hk
  have hne := BX.out.ne
  cases t
  · have OCX := hid BX.out.oc
    have ORX := hid OR1.out
    have CUX := hid CU.out
    have KX := hid (Kw.out.trans BX.out.kp)
    have cl := OCX.out.cell 0 (by simp)
    rw [List.getElem_cons_zero] at cl
    have c1 := ORX.out.cell 0 (by simp)
    rw [List.getElem_cons_zero] at c1
    have hfrR := ORX.out.free 0
    have HC1 := hid (show (World.setCell (w2) ⟨w.heap.size, 0, none⟩ (.slice (some ⟨gb, 0, none⟩) n cap)).cell? ⟨w.heap.size, 0, none⟩ = some (.slice (some ⟨gb, 0, none⟩) n cap) by
      have h := (ORX.out.store 0 (by simp) (.slice (some ⟨gb, 0, none⟩) n cap)).cell 0 (by simp)
      simpa using h)
    have CUY := hid (CUX.out.setc (p := ⟨w.heap.size, 0, none⟩) hgw (.slice (some ⟨gb, 0, none⟩) n cap))
    have KY := hid (KX.out.setCell_new (p := ⟨w.heap.size, 0, none⟩) (Nat.le_refl _) (.slice (some ⟨gb, 0, none⟩) n cap))
    clear OCX ORX CUX KX BX CU OR1
    skip
    go_wp2
    refine bodyPost_ret (ret_cell rfl _ _ _ ⟨w.heap.size, 0, none⟩ (.agg #[.slice (some ⟨gb, 0, none⟩) n cap]) rfl ?_) rfl ⟨_, _, _, rfl, by omega, CUY.out, KY.out⟩
    have c110 := HC1.out
    clear CUY KY
    go_simp
  · have cl := BX.out.cell
    go_wp2_with fail
    refine (l1Below_any g n _ _ rfl CU.out (by omega) (by omega)).mono ?_
    rintro e w3 ⟨v, rfl, hv, hc, hk⟩
    replace BX := hid (BX.out.roll hk (fun j hj hs => by omega))
    replace CU := hid hc
    replace OR1 := hid (OR1.out.keptS hk (fun j hj hs => by simp [Value.ownBlock] at hj; omega))
    clear hc hk cl
    go_wp2_with fail
    refine (l1Below_any g 5 _ _ rfl CU.out (by decide) (by decide)).mono ?_
    rintro e w4 ⟨x, rfl, hx, hc, hk⟩
    replace BX := hid (BX.out.roll hk (fun j hj hs => by omega))
    replace CU := hid hc
    replace OR1 := hid (OR1.out.keptS hk (fun j hj hs => by simp [Value.ownBlock] at hj; omega))
    clear hc hk
    have hvi : (v : Int) < (n : Int) := by omega
    have cl := BX.out.cell
    obtain ⟨xs, q, od, hxv, hq, hql⟩ := BX.out.row hv
    have OD := hid od; have HQ := hid hq; have HXV := hid hxv
    have cd := hxv _ od
    have hfr := od.free v
    have hs4 := BX.out.kp.size
    clear od hq hxv
    by_cases h0 : x = 0
    · subst h0
      have D3 : Drawn w4 w4.drew := ⟨1, rfl⟩
      have f0 := dcell D3 cl
      have f1 := dcell D3 cd
      have CU3 := hid (CU.out.past (D3.below w4.heap.size) (Nat.le_refl _))
      have OC3 := hid (BX.out.oc.past (D3.below w4.heap.size) (Nat.le_refl _))
      have OR3 := hid (OR1.out.past (D3.below w4.heap.size) (Nat.le_refl _))
      have OD3 := hid (OD.out.past (D3.below w4.heap.size) (Nat.le_refl _))
      have HQ3 := hid (HQ.out.past (D3.below w4.heap.size) (Nat.le_refl _))
      have K3 := hid ((Kw.out.trans BX.out.kp).trans (Kept.of_below _ (D3.below w4.heap.size)))
      have hs3 : w0.heap.size ≤ w4.drew.heap.size := hs4
      have hql2 : q.z.length < 1099511627776 := by omega
      clear OD HQ OR1 D3
      go_wp2_with fail
      go_region_law ((first | (go_simp; go_at_call 57; refine (l1Num_any g 16 _ _ rfl CU3.out (by decide)).mono ?_; rintro e w5 ⟨z, rfl, hc, hk⟩; have CU5 := hid hc; have K5 := hid hk; have g0 := cellK hk f0 (by show ¬ lb = g; omega); have g1 := cellK hk f1 (by show ¬ gb = g; omega); have gA0 := cellB (alloc_below w5 (.cells #[.int .i64 z] 2)) g0 (Nat.le_refl _); have gA1 := cellB (alloc_below w5 (.cells #[.int .i64 z] 2)) g1 (Nat.le_refl _); have OC5 := hid (OC3.out.keptS hk (fun j hj hs => by simp [Value.ownBlock] at hj; omega)); have OR5 := hid (OR3.out.keptS hk (fun j hj hs => by simp [Value.ownBlock] at hj; omega)); have OD5 := hid (OD3.out.keptS hk (fun j hj hs => by simp [Value.ownBlock] at hj; omega)); have HQ5 := hid (HQ3.out.keptS hk (fun j hj hs => by have := HQ3.out.ge j hj; omega)); have hs5 := Nat.le_trans hs3 hk.size; clear hc hk) | (refine step_pushD tI64 _ (by rfl) _ _ (by rfl) w0.heap.size _ (q.z.map (.int .i64)) (by rfl) (HQ5.out.past (B' := w5.heap.size) (by repeat (first | exact Below.refl _ _ | refine belowE ?_ | refine Below.alloc ?_ (Nat.le_refl _) _)) (Nat.le_refl _)) (.int .i64 z) _ (by rfl) (by exact blkD _ _ _ rfl) (by rfl) q.z.length (by rw [List.length_map]) hql2 (Nat.le_trans hs5 (Below.size (B := w5.heap.size) (w := w5) (by repeat (first | exact Below.refl _ _ | refine belowE ?_ | refine Below.alloc ?_ (Nat.le_refl _) _)))) ?_; intro g' cap' w6 h1 h2 h3; have OD6 := hid ((OD5.out.past (B' := w5.heap.size) (by repeat (first | exact Below.refl _ _ | refine belowE ?_ | refine Below.alloc ?_ (Nat.le_refl _) _)) (Nat.le_refl _)).kept h2 ((OD5.out.past (B' := w5.heap.size) (by repeat (first | exact Below.refl _ _ | refine belowE ?_ | refine Below.alloc ?_ (Nat.le_refl _) _)) (Nat.le_refl _)).ne (HQ5.out.past (B' := w5.heap.size) (by repeat (first | exact Below.refl _ _ | refine belowE ?_ | refine Below.alloc ?_ (Nat.le_refl _) _)) (Nat.le_refl _)) (by decide))); have OC6 := hid ((OC5.out.past (B' := w5.heap.size) (by repeat (first | exact Below.refl _ _ | refine belowE ?_ | refine Below.alloc ?_ (Nat.le_refl _) _)) (Nat.le_refl _)).kept h2 ((OC5.out.past (B' := w5.heap.size) (by repeat (first | exact Below.refl _ _ | refine belowE ?_ | refine Below.alloc ?_ (Nat.le_refl _) _)) (Nat.le_refl _)).ne (HQ5.out.past (B' := w5.heap.size) (by repeat (first | exact Below.refl _ _ | refine belowE ?_ | refine Below.alloc ?_ (Nat.le_refl _) _)) (Nat.le_refl _)) (by decide))); have OR6 := hid ((OR5.out.past (B' := w5.heap.size) (by repeat (first | exact Below.refl _ _ | refine belowE ?_ | refine Below.alloc ?_ (Nat.le_refl _) _)) (Nat.le_refl _)).kept h2 ((OR5.out.past (B' := w5.heap.size) (by repeat (first | exact Below.refl _ _ | refine belowE ?_ | refine Below.alloc ?_ (Nat.le_refl _) _)) (Nat.le_refl _)).ne (HQ5.out.past (B' := w5.heap.size) (by repeat (first | exact Below.refl _ _ | refine belowE ?_ | refine Below.alloc ?_ (Nat.le_refl _) _)) (Nat.le_refl _)) (by decide))); have B6 := hid (show Below w0.heap.size w5 w6 from Below.trans (b := _) (Below.mono (B := w5.heap.size) (by repeat (first | exact Below.refl _ _ | refine belowE ?_ | refine Below.alloc ?_ (Nat.le_refl _) _)) hs5) (grown_below h2 (Nat.le_trans hs5 (Below.size (B := w5.heap.size) (w := w5) (by repeat (first | exact Below.refl _ _ | refine belowE ?_ | refine Below.alloc ?_ (Nat.le_refl _) _)))) (fun g hg => HQ5.out.ge g hg))); have hfr6 := OD6.out.free v; have co6 := HXV.out _ OD6.out; have cl6 := OC6.out.cell 0 (by simp); rw [List.getElem_cons_zero] at cl6; clear h1 h2 h3)))
      all_goals (
        have OCX := hid (OC6.out.setCell_other ⟨gb, v, none⟩ (.slice (some ⟨g', 0, none⟩) (q.z.length + 1) cap') (.inr (by simp [Value.ownBlock]; omega)))
        have ORX := hid (OR6.out.setCell_other ⟨gb, v, none⟩ (.slice (some ⟨g', 0, none⟩) (q.z.length + 1) cap') (.inr (by simp [Value.ownBlock]; omega)))
        have CUX := hid ((CU5.out.belowB B6.out (by omega)).setc (p := ⟨gb, v, none⟩) (by show g < gb; omega) (.slice (some ⟨g', 0, none⟩) (q.z.length + 1) cap'))
        have KX := hid (((K3.out.trans K5.out).belowT B6.out (by omega)).setCell_new (p := ⟨gb, v, none⟩) (by show _ ≤ gb; omega) (.slice (some ⟨g', 0, none⟩) (q.z.length + 1) cap'))
        have cl := OCX.out.cell 0 (by simp)
        rw [List.getElem_cons_zero] at cl
        have c1 := ORX.out.cell 0 (by simp)
        rw [List.getElem_cons_zero] at c1
        have hfrR := ORX.out.free 0
        have HC1 := hid (show (World.setCell (w6.setCell ⟨gb, v, none⟩ (.slice (some ⟨g', 0, none⟩) (q.z.length + 1) cap')) ⟨w.heap.size, 0, none⟩ (.slice (some ⟨gb, 0, none⟩) n cap)).cell? ⟨w.heap.size, 0, none⟩ = some (.slice (some ⟨gb, 0, none⟩) n cap) by
          have h := (ORX.out.store 0 (by simp) (.slice (some ⟨gb, 0, none⟩) n cap)).cell 0 (by simp)
          simpa using h)
        have CUY := hid (CUX.out.setc (p := ⟨w.heap.size, 0, none⟩) hgw (.slice (some ⟨gb, 0, none⟩) n cap))
        have KY := hid (KX.out.setCell_new (p := ⟨w.heap.size, 0, none⟩) (Nat.le_refl _) (.slice (some ⟨gb, 0, none⟩) n cap))
        clear OCX ORX CUX KX BX CU
        clear OC6 OR6 OD6 B6 CU5 K5 K3 f0 f1 g0 g1 gA0 gA1
        go_wp2
        refine bodyPost_ret (ret_cell rfl _ _ _ ⟨w.heap.size, 0, none⟩ (.agg #[.slice (some ⟨gb, 0, none⟩) n cap]) rfl ?_) rfl ⟨_, _, _, rfl, by omega, CUY.out, KY.out⟩
        have c110 := HC1.out
        clear CUY KY
        go_simp)
    · have e0 : ((x : Int) == 0) = false := by rw [beq_eq_false_iff_ne]; omega
      by_cases h1 : x = 1
      · subst h1
        have hbA := alloc_below w4 (.cells #[.int .i64 (v : Nat)] 2)
        have ODA := hid (OD.out.past hbA (Nat.le_refl _))
        have cdA := HXV.out _ ODA.out
        have hfrA := ODA.out.free v
        have clA := cellB hbA cl (Nat.le_refl _)
        have OCX := hid ((BX.out.oc.past hbA (Nat.le_refl _)).setCell_other ⟨gb, v, none⟩ (.slice (some ⟨w4.heap.size, 0, none⟩) 1 1) (.inr (by simp [Value.ownBlock]; omega)))
        have ORX := hid ((OR1.out.past hbA (Nat.le_refl _)).setCell_other ⟨gb, v, none⟩ (.slice (some ⟨w4.heap.size, 0, none⟩) 1 1) (.inr (by simp [Value.ownBlock]; omega)))
        have CUX := hid ((CU.out.past hbA (Nat.le_refl _)).setc (p := ⟨gb, v, none⟩) (by show g < gb; omega) (.slice (some ⟨w4.heap.size, 0, none⟩) 1 1))
        have KX := hid (((Kw.out.trans BX.out.kp).trans (Kept.of_below _ hbA)).setCell_new (p := ⟨gb, v, none⟩) (by show _ ≤ gb; omega) (.slice (some ⟨w4.heap.size, 0, none⟩) 1 1))
        have cl := OCX.out.cell 0 (by simp)
        rw [List.getElem_cons_zero] at cl
        have c1 := ORX.out.cell 0 (by simp)
        rw [List.getElem_cons_zero] at c1
        have hfrR := ORX.out.free 0
        have HC1 := hid (show (World.setCell ((w4.alloc (.cells #[.int .i64 (v : Nat)] 2)).setCell ⟨gb, v, none⟩ (.slice (some ⟨w4.heap.size, 0, none⟩) 1 1)) ⟨w.heap.size, 0, none⟩ (.slice (some ⟨gb, 0, none⟩) n cap)).cell? ⟨w.heap.size, 0, none⟩ = some (.slice (some ⟨gb, 0, none⟩) n cap) by
          have h := (ORX.out.store 0 (by simp) (.slice (some ⟨gb, 0, none⟩) n cap)).cell 0 (by simp)
          simpa using h)
        have CUY := hid (CUX.out.setc (p := ⟨w.heap.size, 0, none⟩) hgw (.slice (some ⟨gb, 0, none⟩) n cap))
        have KY := hid (KX.out.setCell_new (p := ⟨w.heap.size, 0, none⟩) (Nat.le_refl _) (.slice (some ⟨gb, 0, none⟩) n cap))
        clear OCX ORX CUX KX BX CU OR1
        clear OD HQ HXV hbA ODA
        go_wp2
        refine bodyPost_ret (ret_cell rfl _ _ _ ⟨w.heap.size, 0, none⟩ (.agg #[.slice (some ⟨gb, 0, none⟩) n cap]) rfl ?_) rfl ⟨_, _, _, rfl, by omega, CUY.out, KY.out⟩
        have c110 := HC1.out
        clear CUY KY
        go_simp
      · have e1 : ((x : Int) == 1) = false := by rw [beq_eq_false_iff_ne]; omega
        by_cases h2 : x = 2
        · subst h2
          go_wp2_with fail
          refine (l1Below_any g 2 _ _ rfl CU.out (by decide) (by decide)).mono ?_
          rintro e w5 ⟨y, rfl, hy, hc, hk⟩
          replace BX := hid (BX.out.roll hk (fun j hj hs => by omega))
          replace CU := hid hc
          replace OR1 := hid (OR1.out.keptS hk (fun j hj hs => by simp [Value.ownBlock] at hj; omega))
          clear hc hk cl cd hfr OD HQ HXV
          go_wp2_with fail
          refine (l1Empty_i (16 + y) _ _ (by omega) (by omega) (by omega)).mono ?_
          rintro e w6 ⟨gb2, cap2, rfl, _, hb⟩
          have hs5 := BX.out.kp.size
          have OC6 := hid (BX.out.oc.past hb (Nat.le_refl _))
          have clb := OC6.out.cell 0 (by simp)
          rw [List.getElem_cons_zero] at clb
          have hfrb := OC6.out.free 0
          have OCX := hid (show Own 24 (w6.setCell ⟨lb, 0, none⟩ (.slice (some ⟨gb2, 0, none⟩) (16 + y) cap2)) lb (.slice (some ⟨lb, 0, none⟩) 1 1) [(.slice (some ⟨gb2, 0, none⟩) (16 + y) cap2)] by have h := OC6.out.store 0 (by simp) (.slice (some ⟨gb2, 0, none⟩) (16 + y) cap2); simpa using h)
          have ORX := hid ((OR1.out.past hb (Nat.le_refl _)).setCell_other ⟨lb, 0, none⟩ (.slice (some ⟨gb2, 0, none⟩) (16 + y) cap2) (.inr (by simp [Value.ownBlock]; omega)))
          have CUX := hid ((CU.out.past hb (Nat.le_refl _)).setc (p := ⟨lb, 0, none⟩) (by show g < lb; omega) (.slice (some ⟨gb2, 0, none⟩) (16 + y) cap2))
          have KX := hid (((Kw.out.trans BX.out.kp).trans (Kept.of_below _ hb)).setCell_new (p := ⟨lb, 0, none⟩) (by show _ ≤ lb; omega) (.slice (some ⟨gb2, 0, none⟩) (16 + y) cap2))
          have cl := OCX.out.cell 0 (by simp)
          rw [List.getElem_cons_zero] at cl
          have c1 := ORX.out.cell 0 (by simp)
          rw [List.getElem_cons_zero] at c1
          have hfrR := ORX.out.free 0
          have HC1 := hid (show (World.setCell (w6.setCell ⟨lb, 0, none⟩ (.slice (some ⟨gb2, 0, none⟩) (16 + y) cap2)) ⟨w.heap.size, 0, none⟩ (.slice (some ⟨gb2, 0, none⟩) (16 + y) cap2)).cell? ⟨w.heap.size, 0, none⟩ = some (.slice (some ⟨gb2, 0, none⟩) (16 + y) cap2) by
            have h := (ORX.out.store 0 (by simp) (.slice (some ⟨gb2, 0, none⟩) (16 + y) cap2)).cell 0 (by simp)
            simpa using h)
          have CUY := hid (CUX.out.setc (p := ⟨w.heap.size, 0, none⟩) hgw (.slice (some ⟨gb2, 0, none⟩) (16 + y) cap2))
          have KY := hid (KX.out.setCell_new (p := ⟨w.heap.size, 0, none⟩) (Nat.le_refl _) (.slice (some ⟨gb2, 0, none⟩) (16 + y) cap2))
          clear OCX ORX CUX KX BX CU OR1
          clear OC6 hb
          go_wp2
          refine bodyPost_ret (ret_cell rfl _ _ _ ⟨w.heap.size, 0, none⟩ (.agg #[.slice (some ⟨gb2, 0, none⟩) (16 + y) cap2]) rfl ?_) rfl ⟨_, _, _, rfl, by omega, CUY.out, KY.out⟩
          have c110 := HC1.out
          clear CUY KY
          go_simp
        · have e2 : ((x : Int) == 2) = false := by rw [beq_eq_false_iff_ne]; omega
          by_cases h3 : x = 3
          · subst h3
            have hfrb := BX.out.oc.free 0
            have OCX := hid (show Own 24 (w4.setCell ⟨lb, 0, none⟩ (.slice none 0 0)) lb (.slice (some ⟨lb, 0, none⟩) 1 1) [(.slice none 0 0)] by have h := BX.out.oc.store 0 (by simp) (.slice none 0 0); simpa using h)
            have ORX := hid (OR1.out.setCell_other ⟨lb, 0, none⟩ (.slice none 0 0) (.inr (by simp [Value.ownBlock]; omega)))
            have CUX := hid (CU.out.setc (p := ⟨lb, 0, none⟩) (by show g < lb; omega) (.slice none 0 0))
            have KX := hid ((Kw.out.trans BX.out.kp).setCell_new (p := ⟨lb, 0, none⟩) (by show _ ≤ lb; omega) (.slice none 0 0))
            have cl := OCX.out.cell 0 (by simp)
            rw [List.getElem_cons_zero] at cl
            have c1 := ORX.out.cell 0 (by simp)
            rw [List.getElem_cons_zero] at c1
            have hfrR := ORX.out.free 0
            have HC1 := hid (show (World.setCell (w4.setCell ⟨lb, 0, none⟩ (.slice none 0 0)) ⟨w.heap.size, 0, none⟩ (.slice none 0 0)).cell? ⟨w.heap.size, 0, none⟩ = some (.slice none 0 0) by
              have h := (ORX.out.store 0 (by simp) (.slice none 0 0)).cell 0 (by simp)
              simpa using h)
            have CUY := hid (CUX.out.setc (p := ⟨w.heap.size, 0, none⟩) hgw (.slice none 0 0))
            have KY := hid (KX.out.setCell_new (p := ⟨w.heap.size, 0, none⟩) (Nat.le_refl _) (.slice none 0 0))
            clear OCX ORX CUX KX BX CU OR1
            clear OD HQ HXV
            go_wp2
            refine bodyPost_ret (ret_cell rfl _ _ _ ⟨w.heap.size, 0, none⟩ (.agg #[.slice none 0 0]) rfl ?_) rfl ⟨_, _, _, rfl, by omega, CUY.out, KY.out⟩
            have c110 := HC1.out
            clear CUY KY
            go_simp
          · have e3 : ((x : Int) == 3) = false := by rw [beq_eq_false_iff_ne]; omega
            obtain rfl : x = 4 := by omega
            have hbA := alloc_below w4 (.cells #[] 2)
            have ODA := hid (OD.out.past hbA (Nat.le_refl _))
            have cdA := HXV.out _ ODA.out
            have hfrA := ODA.out.free v
            have clA := cellB hbA cl (Nat.le_refl _)
            have OCX := hid ((BX.out.oc.past hbA (Nat.le_refl _)).setCell_other ⟨gb, v, none⟩ (.slice (some ⟨w4.heap.size, 0, none⟩) 0 0) (.inr (by simp [Value.ownBlock]; omega)))
            have ORX := hid ((OR1.out.past hbA (Nat.le_refl _)).setCell_other ⟨gb, v, none⟩ (.slice (some ⟨w4.heap.size, 0, none⟩) 0 0) (.inr (by simp [Value.ownBlock]; omega)))
            have CUX := hid ((CU.out.past hbA (Nat.le_refl _)).setc (p := ⟨gb, v, none⟩) (by show g < gb; omega) (.slice (some ⟨w4.heap.size, 0, none⟩) 0 0))
            have KX := hid (((Kw.out.trans BX.out.kp).trans (Kept.of_below _ hbA)).setCell_new (p := ⟨gb, v, none⟩) (by show _ ≤ gb; omega) (.slice (some ⟨w4.heap.size, 0, none⟩) 0 0))
            have cl := OCX.out.cell 0 (by simp)
            rw [List.getElem_cons_zero] at cl
            have c1 := ORX.out.cell 0 (by simp)
            rw [List.getElem_cons_zero] at c1
            have hfrR := ORX.out.free 0
            have HC1 := hid (show (World.setCell ((w4.alloc (.cells #[] 2)).setCell ⟨gb, v, none⟩ (.slice (some ⟨w4.heap.size, 0, none⟩) 0 0)) ⟨w.heap.size, 0, none⟩ (.slice (some ⟨gb, 0, none⟩) n cap)).cell? ⟨w.heap.size, 0, none⟩ = some (.slice (some ⟨gb, 0, none⟩) n cap) by
              have h := (ORX.out.store 0 (by simp) (.slice (some ⟨gb, 0, none⟩) n cap)).cell 0 (by simp)
              simpa using h)
            have CUY := hid (CUX.out.setc (p := ⟨w.heap.size, 0, none⟩) hgw (.slice (some ⟨gb, 0, none⟩) n cap))
            have KY := hid (KX.out.setCell_new (p := ⟨w.heap.size, 0, none⟩) (Nat.le_refl _) (.slice (some ⟨gb, 0, none⟩) n cap))
            clear OCX ORX CUX KX BX CU OR1
            clear OD HQ HXV hbA ODA
            go_wp2
            refine bodyPost_ret (ret_cell rfl _ _ _ ⟨w.heap.size, 0, none⟩ (.agg #[.slice (some ⟨gb, 0, none⟩) n cap]) rfl ?_) rfl ⟨_, _, _, rfl, by omega, CUY.out, KY.out⟩
            have c110 := HC1.out
            clear CUY KY
            go_simp
end
end Go.Proofs.YtccohcdgcpcbjaaDoor
