/- ByDegree, ByFill: both sides. -/
import Derived.Test.YtalfbldkdlanoaaDoorOrderI
import Derived.Test.YtalfbldkdlanoaaDoorGreedy
namespace Go.Proofs.YtalfbldkdlanoaaDoor
open Go.RowKit
noncomputable def byDegreeL (g : List (List Int)) : List Int := orderL false g
noncomputable def byFillL (g : List (List Int)) : List Int := orderL true g
theorem ordR_len (fill : Bool) : ∀ (k : Nat) (A : List Nat) (S : Nat), (ordR fill k A S).length = k := by
  intro k
  induction k with
  | zero => intro A S; rfl
  | succ k ih => intro A S; simp [ordR, ih]
theorem orderL_len (fill : Bool) (g : List (List Int)) : (orderL fill g).length ≤ 1048576 := by
  unfold orderL
  split
  · rename_i h
    rw [List.length_map, ordR_len]
    have := h.le; omega
  · exact Nat.zero_le _
theorem byDegreeL_len (g : List (List Int)) : (byDegreeL g).length ≤ 1048576 := orderL_len _ _
theorem byFillL_len (g : List (List Int)) : (byFillL g).length ≤ 1048576 := orderL_len _ _
theorem orderL_ok {fill : Bool} {g : List (List Int)} (hg : GOk g) : (orderL fill g).map (Value.int .i64) = (ordR fill g.length (g.map maskL) (2 ^ g.length - 1)).map fun i : Nat => Value.int .i64 (i : Int) := by
  unfold orderL
  rw [if_pos hg, List.map_map]
  rfl
theorem orderL_no {fill : Bool} {g : List (List Int)} (hg : ¬ GOk g) : orderL fill g = [] := by unfold orderL; rw [if_neg hg]
theorem specByDegree_any (a : Option Addr) (rs : List Row) (c : Nat) (w : World) (r : List Int) (hx : byDegreeL (nums rs) = r) (hr : RdM w a rs) (hn : Small rs) :
    Calls Tryd.prog 35 #[.agg #[.slice a rs.length c]] w (RetOwn 2 (r.map (.int .i64)) w) := by
  subst hx
  have RA := hid hr; clear hr
  have hn1 := hn.1
  obtain ⟨w0, hw0⟩ : ∃ w0, w0 = (w.alloc (.cells #[.slice a rs.length c] 29)) := ⟨_, rfl⟩
  have B0 := hid (show Below w.heap.size w w0 by rw [hw0]; exact ((Below.refl _ _).alloc (Nat.le_refl _) _))
  have c0 : w0.cell? ⟨w.heap.size, 0, none⟩ = some (.slice a rs.length c) := by rw [hw0]; simp [go_sem]
  replace RA := hid (RA.out.below B0.out (Nat.le_refl _))
  have HW := hid hw0; clear hw0
  by_cases hg : GOk (nums rs)
  · have h1 := hid (show decide (GOk (nums rs)) = true by simpa using hg)
    have HR := hid (orderL_ok (fill := false) hg)
    go_enter Tryd.func35, Tryd.ntmps35
    go_wp2_with fail
    rw [← HW.out]
    go_wp2_with fail
    refine (specGraphOk_b a rs c _ _ h1.out RA.out hn).mono ?_
    rintro e w1 ⟨rfl, hb⟩
    replace RA := hid (RA.out.below hb (Nat.le_refl _))
    replace B0 := hid (bon B0.out hb)
    replace c0 := cellB hb c0 (Nat.le_refl _)
    clear hb
    go_wp2_with fail
    refine (l7Greedy_any a rs c false _ hg RA.out hn).mono ?_
    rintro e wz ⟨v, rfl, hown, hb⟩
    rw [nums_length] at HR
    have OU := hid (hown.base B0.out.size)
    have BB := hid (B0.out.trans (hb.mono B0.out.size))
    clear hown hb
    rw [← HR.out] at OU
    go_wp2
    go_ret
    exact ⟨_, rfl, OU.out, BB.out⟩
  · have h1 := hid (show decide (GOk (nums rs)) = false by simpa using hg)
    have HR := hid (show byDegreeL (nums rs) = [] from orderL_no hg)
    go_enter Tryd.func35, Tryd.ntmps35
    go_wp2_with fail
    rw [← HW.out]
    go_wp2_with fail
    refine (specGraphOk_b a rs c _ _ h1.out RA.out hn).mono ?_
    rintro e w2 ⟨rfl, hb⟩
    replace RA := hid (RA.out.below hb (Nat.le_refl _))
    replace B0 := hid (bon B0.out hb)
    replace c0 := cellB hb c0 (Nat.le_refl _)
    clear hb
    have HE := hid (own_new 2 w2 [] (by decide))
    have hb := alloc_below w2 (.cells #[] 2)
    have BB := hid (bon B0.out hb)
    go_wp2
    go_ret
    exact ⟨_, rfl, by rw [HR.out]; exact HE.out.base B0.out.size, BB.out⟩
theorem specByFill_any (a : Option Addr) (rs : List Row) (c : Nat) (w : World) (r : List Int) (hx : byFillL (nums rs) = r) (hr : RdM w a rs) (hn : Small rs) :
    Calls Tryd.prog 37 #[.agg #[.slice a rs.length c]] w (RetOwn 2 (r.map (.int .i64)) w) := by
  subst hx
  have RA := hid hr; clear hr
  have hn1 := hn.1
  obtain ⟨w0, hw0⟩ : ∃ w0, w0 = (w.alloc (.cells #[.slice a rs.length c] 29)) := ⟨_, rfl⟩
  have B0 := hid (show Below w.heap.size w w0 by rw [hw0]; exact ((Below.refl _ _).alloc (Nat.le_refl _) _))
  have c0 : w0.cell? ⟨w.heap.size, 0, none⟩ = some (.slice a rs.length c) := by rw [hw0]; simp [go_sem]
  replace RA := hid (RA.out.below B0.out (Nat.le_refl _))
  have HW := hid hw0; clear hw0
  by_cases hg : GOk (nums rs)
  · have h1 := hid (show decide (GOk (nums rs)) = true by simpa using hg)
    have HR := hid (orderL_ok (fill := true) hg)
    go_enter Tryd.func37, Tryd.ntmps37
    go_wp2_with fail
    rw [← HW.out]
    go_wp2_with fail
    refine (specGraphOk_b a rs c _ _ h1.out RA.out hn).mono ?_
    rintro e w1 ⟨rfl, hb⟩
    replace RA := hid (RA.out.below hb (Nat.le_refl _))
    replace B0 := hid (bon B0.out hb)
    replace c0 := cellB hb c0 (Nat.le_refl _)
    clear hb
    go_wp2_with fail
    refine (l7Greedy_any a rs c true _ hg RA.out hn).mono ?_
    rintro e wz ⟨v, rfl, hown, hb⟩
    rw [nums_length] at HR
    have OU := hid (hown.base B0.out.size)
    have BB := hid (B0.out.trans (hb.mono B0.out.size))
    clear hown hb
    rw [← HR.out] at OU
    go_wp2
    go_ret
    exact ⟨_, rfl, OU.out, BB.out⟩
  · have h1 := hid (show decide (GOk (nums rs)) = false by simpa using hg)
    have HR := hid (show byFillL (nums rs) = [] from orderL_no hg)
    go_enter Tryd.func37, Tryd.ntmps37
    go_wp2_with fail
    rw [← HW.out]
    go_wp2_with fail
    refine (specGraphOk_b a rs c _ _ h1.out RA.out hn).mono ?_
    rintro e w2 ⟨rfl, hb⟩
    replace RA := hid (RA.out.below hb (Nat.le_refl _))
    replace B0 := hid (bon B0.out hb)
    replace c0 := cellB hb c0 (Nat.le_refl _)
    clear hb
    have HE := hid (own_new 2 w2 [] (by decide))
    have hb := alloc_below w2 (.cells #[] 2)
    have BB := hid (bon B0.out hb)
    go_wp2
    go_ret
    exact ⟨_, rfl, by rw [HR.out]; exact HE.out.base B0.out.size, BB.out⟩
theorem costs_degree : Costs Tryd.prog 87 false := by
  intro b n cap A M w _ _ hA hM
  have hp : 2 ^ n ≤ 65536 := Nat.pow_le_pow_right (n := 2) (i := n) (j := 16) (by decide) hA.le
  have hM16 : M < 65536 := by omega
  clear hA hM hp
  go_enter Tryd.func87, Tryd.ntmps87
  go_wp2_with fail
  refine (size_any M _ hM16).mono ?_
  rintro e w' ⟨rfl, hd⟩
  have BB := hid (Drawn.bel hd)
  clear hd
  go_wp2
  go_ret
  exact ⟨rfl, BB.out⟩
theorem costs_fill : Costs Tryd.prog 89 true := by
  intro b n cap A M w hT hr hA hM
  obtain rfl := hA.len
  exact missing_any b A cap M w hT hr hA.in16 hA.le hM
theorem implByDegree_any (a : Option Addr) (rs : List Row) (c : Nat) (w : World) (r : List Int) (hx : byDegreeL (nums rs) = r) (hr : RdM w a rs) (hn : Small rs) (hT : TabOk w) :
    Calls Tryd.prog 36 #[.agg #[.slice a rs.length c]] w (RetOwn 2 (r.map (.int .i64)) w) := by
  subst hx
  have RA := hid hr; have RT := hid hT; clear hr hT
  have hn1 := hn.1
  obtain ⟨w0, hw0⟩ : ∃ w0, w0 = (w.alloc (.cells #[.slice a rs.length c] 29)) := ⟨_, rfl⟩
  have B0 := hid (show Below w.heap.size w w0 by rw [hw0]; exact ((Below.refl _ _).alloc (Nat.le_refl _) _))
  have c0 : w0.cell? ⟨w.heap.size, 0, none⟩ = some (.slice a rs.length c) := by rw [hw0]; simp [go_sem]
  replace RA := hid (RA.out.below B0.out (Nat.le_refl _))
  replace RT := hid (RT.out.below B0.out (Nat.le_refl _))
  have HW := hid hw0; clear hw0
  by_cases hg : GOk (nums rs)
  · have h1 := hid (show decide (GOk (nums rs)) = true by simpa using hg)
    have HR := hid (orderL_ok (fill := false) hg)
    have HGA := hid (GA.of hg)
    have HE := hid (enters_of Tryd.func87 (by kernel_rfl) (by kernel_rfl))
    go_enter Tryd.func36, Tryd.ntmps36
    go_wp2_with fail
    rw [← HW.out]
    go_wp2_with fail
    refine (implGraphOk_b a rs c _ _ h1.out RA.out hn).mono ?_
    rintro e w1 ⟨rfl, hb⟩
    replace RA := hid (RA.out.below hb (Nat.le_refl _))
    replace RT := hid (RT.out.below hb (Nat.le_refl _))
    replace B0 := hid (bon B0.out hb)
    replace c0 := cellB hb c0 (Nat.le_refl _)
    clear hb
    go_wp2_with fail
    refine (netsOf_any a rs c _ hg RA.out hn).mono ?_
    rintro e w2 ⟨v, rfl, hown, hb⟩
    replace RA := hid (RA.out.below hb (Nat.le_refl _))
    replace RT := hid (RT.out.below hb (Nat.le_refl _))
    replace B0 := hid (bon B0.out hb)
    replace c0 := cellB hb c0 (Nat.le_refl _)
    clear hb
    obtain ⟨na, nc, rfl, hsr, _, _, hnone, _⟩ := Own.rd (f := netF) hown
    have RN := hid hsr.masks; clear hown hsr
    go_wp2_with fail
    refine (orderBy_any false _ na ((nums rs).map maskL) (nums rs).length nc _ HGA.out RN.out hnone RT.out HE.out costs_degree).mono ?_
    rintro e wy ⟨v, rfl, hown, hb⟩
    rw [← HR.out] at hown
    obtain ⟨pa, pc, rfl, hpr, _⟩ := Own.rd hown
    have RP := hid hpr
    have BB := hid (bon B0.out hb)
    have hln := orderL_len false (nums rs)
    clear hown hpr hb
    go_wp2_with fail
    refine (wide_any pa (orderL false (nums rs)) pc _ RP.out hln).mono ?_
    rintro e wz ⟨v, rfl, hown, hb⟩
    have OU := hid (hown.base BB.out.size)
    have BC := hid (bon BB.out hb)
    clear hown hb
    go_wp2
    go_ret
    exact ⟨_, rfl, OU.out, BC.out⟩
  · have h1 := hid (show decide (GOk (nums rs)) = false by simpa using hg)
    have HR := hid (show byDegreeL (nums rs) = [] from orderL_no hg)
    go_enter Tryd.func36, Tryd.ntmps36
    go_wp2_with fail
    rw [← HW.out]
    go_wp2_with fail
    refine (implGraphOk_b a rs c _ _ h1.out RA.out hn).mono ?_
    rintro e w3 ⟨rfl, hb⟩
    replace RA := hid (RA.out.below hb (Nat.le_refl _))
    replace RT := hid (RT.out.below hb (Nat.le_refl _))
    replace B0 := hid (bon B0.out hb)
    replace c0 := cellB hb c0 (Nat.le_refl _)
    clear hb
    go_wp2
    go_ret
    exact ⟨_, rfl, by rw [HR.out]; exact Own.nil _ _ _, B0.out⟩
theorem implByFill_any (a : Option Addr) (rs : List Row) (c : Nat) (w : World) (r : List Int) (hx : byFillL (nums rs) = r) (hr : RdM w a rs) (hn : Small rs) (hT : TabOk w) :
    Calls Tryd.prog 38 #[.agg #[.slice a rs.length c]] w (RetOwn 2 (r.map (.int .i64)) w) := by
  subst hx
  have RA := hid hr; have RT := hid hT; clear hr hT
  have hn1 := hn.1
  obtain ⟨w0, hw0⟩ : ∃ w0, w0 = (w.alloc (.cells #[.slice a rs.length c] 29)) := ⟨_, rfl⟩
  have B0 := hid (show Below w.heap.size w w0 by rw [hw0]; exact ((Below.refl _ _).alloc (Nat.le_refl _) _))
  have c0 : w0.cell? ⟨w.heap.size, 0, none⟩ = some (.slice a rs.length c) := by rw [hw0]; simp [go_sem]
  replace RA := hid (RA.out.below B0.out (Nat.le_refl _))
  replace RT := hid (RT.out.below B0.out (Nat.le_refl _))
  have HW := hid hw0; clear hw0
  by_cases hg : GOk (nums rs)
  · have h1 := hid (show decide (GOk (nums rs)) = true by simpa using hg)
    have HR := hid (orderL_ok (fill := true) hg)
    have HGA := hid (GA.of hg)
    have HE := hid (enters_of Tryd.func89 (by kernel_rfl) (by kernel_rfl))
    go_enter Tryd.func38, Tryd.ntmps38
    go_wp2_with fail
    rw [← HW.out]
    go_wp2_with fail
    refine (implGraphOk_b a rs c _ _ h1.out RA.out hn).mono ?_
    rintro e w1 ⟨rfl, hb⟩
    replace RA := hid (RA.out.below hb (Nat.le_refl _))
    replace RT := hid (RT.out.below hb (Nat.le_refl _))
    replace B0 := hid (bon B0.out hb)
    replace c0 := cellB hb c0 (Nat.le_refl _)
    clear hb
    go_wp2_with fail
    refine (netsOf_any a rs c _ hg RA.out hn).mono ?_
    rintro e w2 ⟨v, rfl, hown, hb⟩
    replace RA := hid (RA.out.below hb (Nat.le_refl _))
    replace RT := hid (RT.out.below hb (Nat.le_refl _))
    replace B0 := hid (bon B0.out hb)
    replace c0 := cellB hb c0 (Nat.le_refl _)
    clear hb
    obtain ⟨na, nc, rfl, hsr, _, _, hnone, _⟩ := Own.rd (f := netF) hown
    have RN := hid hsr.masks; clear hown hsr
    go_wp2_with fail
    refine (orderBy_any true _ na ((nums rs).map maskL) (nums rs).length nc _ HGA.out RN.out hnone RT.out HE.out costs_fill).mono ?_
    rintro e wy ⟨v, rfl, hown, hb⟩
    rw [← HR.out] at hown
    obtain ⟨pa, pc, rfl, hpr, _⟩ := Own.rd hown
    have RP := hid hpr
    have BB := hid (bon B0.out hb)
    have hln := orderL_len true (nums rs)
    clear hown hpr hb
    go_wp2_with fail
    refine (wide_any pa (orderL true (nums rs)) pc _ RP.out hln).mono ?_
    rintro e wz ⟨v, rfl, hown, hb⟩
    have OU := hid (hown.base BB.out.size)
    have BC := hid (bon BB.out hb)
    clear hown hb
    go_wp2
    go_ret
    exact ⟨_, rfl, OU.out, BC.out⟩
  · have h1 := hid (show decide (GOk (nums rs)) = false by simpa using hg)
    have HR := hid (show byFillL (nums rs) = [] from orderL_no hg)
    go_enter Tryd.func38, Tryd.ntmps38
    go_wp2_with fail
    rw [← HW.out]
    go_wp2_with fail
    refine (implGraphOk_b a rs c _ _ h1.out RA.out hn).mono ?_
    rintro e w3 ⟨rfl, hb⟩
    replace RA := hid (RA.out.below hb (Nat.le_refl _))
    replace RT := hid (RT.out.below hb (Nat.le_refl _))
    replace B0 := hid (bon B0.out hb)
    replace c0 := cellB hb c0 (Nat.le_refl _)
    clear hb
    go_wp2
    go_ret
    exact ⟨_, rfl, by rw [HR.out]; exact Own.nil _ _ _, B0.out⟩
end Go.Proofs.YtalfbldkdlanoaaDoor
