/- A set and an order drawn by the reference's cursor. -/
import Derived.Test.YtccohcdgcpcbjaaDoorDrwA
namespace Go.Proofs.YtccohcdgcpcbjaaDoor
open Go.RowKit
section
section
variable {P : Program} {ops : Array Oper} {rest : List Oper} {o : Oper} {a : Act} {Q : Exit → Act → World → Prop}
/-- append(s, x): the slice stays in its block, or lies in a new one. -/
theorem law_pushD {t e : TypeId} {z : Value} (hT : SliceT P t e z) (w : World) (hg : o.guard = none) (s x : Operand) (hop : o.op = .call { callee := .builtin .append, args := #[s, x], argTypes := #[t, t] })
    (B : Nat) (v : Value) (xs : List Value) (hs : a.eval s = v) (hown : Own e w B v xs) (u : Value) (g : Nat) (hx : a.eval x = .slice (some ⟨g, 0, none⟩) 1 1) (hgs : g = w.heap.size) (hu : u.oneCell' = true) (hn : xs.length < 1099511627776) (hB : B ≤ w.heap.size)
    (hK : ∀ v' w', Own e w' B v' (xs ++ [u]) → w.grownBy w' v.ownBlock → (v'.ownBlock = v.ownBlock ∨ ∃ k, v'.ownBlock = some k ∧ w.heap.size ≤ k) → wpList P ops Q rest (a.put o.dst v') w') :
    wpList P ops Q (o :: rest) a (w.alloc (.cells #[u] e)) := by
  subst hgs
  obtain ⟨ht, bytes, hby, hi0, hz⟩ := hT
  obtain ⟨i, hi, hz0, hz1, hz2⟩ := info_parts hi0
  have hown2 : (w.alloc (.cells #[u] e)).ownsRow B e 1 v xs.length xs := World.ownsRow.alloc hown _
  have hnews : ∀ j y, [u][j]? = some y → (w.alloc (.cells #[u] e)).cell? ((⟨w.heap.size, 0, none⟩ : Addr).add j) = some y := by
    intro j y hj
    have hj0 : j = 0 := by
      rcases Nat.eq_zero_or_pos j with h | h
      · exact h
      · rw [List.getElem?_eq_none (by simp; omega)] at hj; cases hj
    subst hj0
    have : u = y := by simpa using hj
    subst this
    simp [Addr.add]
  have hone : ∀ y ∈ [u], y.oneCell' = true := by intro y hy; simp at hy; subst hy; exact hu
  have hbytes : (xs.length + 1) * bytes ≤ 140737488355328 := Nat.le_trans (Nat.mul_le_mul_left _ hby) (by omega)
  obtain ⟨v', w', hr, h2, h3, _⟩ := run_append_own (P := P) (w.alloc (.cells #[u] e)) B t o.type e i z 1 bytes ht hi hz0 hz1 hz2 (by rw [hz]; rfl) (by decide) v xs.length xs hown2 ⟨w.heap.size, 0, none⟩ 1 1 [u] (by simp) hnews hone (by unfold maxLen; omega) hbytes (by simp; omega)
  have hwh : v'.ownBlock = v.ownBlock ∨ ∃ k, v'.ownBlock = some k ∧ w.heap.size ≤ k := by
    rcases hown2.2 with ⟨hv, _⟩ | ⟨g, cap, cur, hv, hbg, hgg, hnc, hcm, hcs, htake⟩
    · subst hv
      have hr2 := run_append_nil (P := P) (w.alloc (.cells #[u] e)) t o.type e i z ht hi hz0 ⟨w.heap.size, 0, none⟩ 1 1 [u] (by simp [hz1]) hnews (by decide) (by decide) (by rw [hz2]; omega)
      rw [hr2] at hr
      injection hr with e1 e2
      exact .inr ⟨_, by rw [← e1]; rfl, by simp⟩
    · subst hv
      by_cases hroom : xs.length + 1 ≤ cap
      · have hr2 := run_append_room (P := P) (w.alloc (.cells #[u] e)) t o.type e i ht hi g xs.length cap cur hgg ⟨w.heap.size, 0, none⟩ 1 1 [u] (by simp [hz1]) hnews hone hroom (by rw [hz1, hcs]; simp; omega)
        rw [hr2] at hr
        injection hr with e1 e2
        exact .inl (by rw [← e1]; rfl)
      · have hr2 := run_append_grow (P := P) (w.alloc (.cells #[u] e)) t o.type e i z ht hi hz0 ⟨g, 0, none⟩ xs.length cap xs (by rw [hz1]; simp) (hown2.cells (g := g) rfl) ⟨w.heap.size, 0, none⟩ 1 1 [u] (by simp [hz1]) hnews (by omega) (by omega) (by rw [hz2]; exact growslice_fits (by omega) hbytes)
        rw [hr2] at hr
        injection hr with e1 e2
        exact .inr ⟨_, by rw [← e1]; rfl, by simp⟩
  refine wpList_plain hg fun K hKK => ?_
  unfold Oper.wp execOp
  simp only [hop, resolve, invoke, builtin, Sem.run_bind, Sem.run_pure, Result.andThen_ok, List.map_toArray, List.map_cons, List.map_nil, hs, hx, hr]
  refine hKK _ _ (hK v' w' (by simpa [Own] using h2) ?_ hwh)
  exact ⟨h3.os, h3.tape, h3.output, Nat.le_trans (by simp) h3.size, fun k hk hne => (h3.block k (by simp; omega) hne).trans (Below.heap_alloc w _ k hk)⟩
end
theorem step_appD {P : Program} {ops : Array Oper} {o : Oper} {a : Act} {K : Act → World → Prop} {Q : Exit → Act → World → Prop} {E : Prop} {t e : TypeId} {z : Value} (hT : SliceT P t e z) (W : World) (hg : o.guard = none) (s x : Operand) (hop : o.op = .call { callee := .builtin .append, args := #[s, x], argTypes := #[t, t] })
    {α : Type} (f : α → Value) (B : Nat) (v : Value) (xs : List Value) (hs : a.eval s = v) (hown : Own e W B v xs) (b off n c : Nat) (zs : List α) (hx : a.eval x = .slice (some ⟨b, off, none⟩) n c) (hzn : zs.length = n) (hr : Rd f W (some ⟨b, off, none⟩) zs)
    (hf : ∀ y ∈ zs, (f y).oneCell' = true) (hn : xs.length + n ≤ 1099511627776) (hB : B ≤ W.heap.size)
    (hK : ∀ v' w', Own e w' B v' (xs ++ zs.map f) → W.grownBy w' v.ownBlock → K (a.put o.dst v') w') :
    if Region.wanted o (yielded ops a.tmps) = true then Oper.wp P o a W K Q else E := by
  subst hzn
  have hw : Region.wanted o (yielded ops a.tmps) = true := by simp [Region.wanted, hg]
  rw [if_pos hw]
  obtain ⟨ht, bytes, hby, hi0, hz⟩ := hT
  obtain ⟨i, hi, hz0, hz1, hz2⟩ := info_parts hi0
  refine wp_append_own W s x t hop B e i z 1 bytes ht hi hz0 hz1 hz2 (by rw [hz]; rfl) (by decide) v xs.length xs hs hown ⟨b, off, none⟩ zs.length c (zs.map f) hx (by simp) (fun j u hj => ?_) (fun u hu => ?_) (by unfold maxLen; omega) ?_ hB fun v' w' h1 h2 _ => hK v' w' (by simpa [Own] using h1) h2
  · have hj' : j < zs.length := by
      rcases Nat.lt_or_ge j zs.length with h | h
      · exact h
      · simp [List.getElem?_eq_none h] at hj
    obtain ⟨b', off', hbo, hc⟩ := hr j hj'
    cases hbo
    have : u = f zs[j] := by simpa [List.getElem?_eq_getElem hj'] using hj.symm
    rw [this, ← hc]
    by_cases hj0 : j = 0
    · subst hj0; simp [Addr.add]
    · simp [Addr.add, hj0]
  · obtain ⟨y, hy, rfl⟩ := List.mem_map.1 hu
    exact hf y hy
  · exact Nat.le_trans (Nat.mul_le_mul_left _ hby) (by omega)
def lenV : Value → Nat
  | .slice _ n _ => n
  | _ => 0
/-- A list has been drawn. -/
def SPost (g m : Nat) (w : World) (e : Ending) (w' : World) : Prop := ∃ (a : Option Addr) (zs : List Int) (c : Nat), e = .returned (.slice a zs.length c) ∧ Own 2 w' w.heap.size (.slice a zs.length c) (zs.map (.int .i64)) ∧ zs.length ≤ m ∧ Cur w' g ∧ Kept (fun k => k = g) w w'
set_option maxHeartbeats 4000000 in
theorem l1All_len (n : Nat) (w : World) (hn : n ≤ 17) : Calls Tryd.prog 59 #[.int .i64 n] w fun e w' => ∃ (a : Option Addr) (zs : List Int) (c : Nat), e = .returned (.slice a n c) ∧ zs.length = n ∧ Own 2 w' w.heap.size (.slice a n c) (zs.map (.int .i64)) ∧ Below w.heap.size w w' := by
  have HO := hid (show Own 2 (w.alloc (.cells #[] 2)) w.heap.size (.slice (some ⟨w.heap.size, 0, none⟩) 0 0) [] from own_new 2 w [] (by decide))
  have HE0 := hid (alloc_below w (.cells #[] 2))
  go_enter Tryd.func59, Tryd.ntmps59
  go_wp2
  go_loopw [3, 4] (fun o x wr => ∃ (k : Nat) (zs : List Int), k ≤ n ∧ zs.length = k ∧ x = .int .i64 k ∧ Own 2 wr w.heap.size o (zs.map (.int .i64)) ∧ Below w.heap.size w wr) (fun _ x _ => n - (intOf x).toNat)
  case atStart => exact ⟨0, [], Nat.zero_le _, rfl, rfl, HO.out, HE0.out⟩
  case round =>
    obtain ⟨k, zs, hk, hzl, rfl, ho, hb⟩ := hrel
    have OM := hid ho; have LB := hid hb; have HZL := hid hzl; clear ho hb hzl
    by_cases hlt : k < n
    · have hki : (k : Int) < (n : Int) := by omega
      have hsz := LB.out.size
      have hxl : (zs.map (Value.int .i64)).length ≤ 17 := by rw [List.length_map, HZL.out]; omega
      go_wp2_with (at_builtin; refine law_push tI64 _ rfl _ _ rfl w.heap.size _ (zs.map (.int .i64)) rfl OM.out _ _ rfl ?c0 rfl ?c1 ?c2 ?_)
      try (case c0 => simp)
      try (case c1 => exact Nat.lt_of_le_of_lt hxl (by decide))
      try (case c2 => exact hsz)
      intro v' w' h1 h2
      have HN := hid (show Own 2 w' w.heap.size v' ((zs ++ [(k : Int)]).map (.int .i64)) by rw [List.map_append]; exact h1)
      have HBB := hid (LB.out.trans (grown_below h2 hsz (fun g hg => OM.out.ge g hg)))
      have HL := hid (show (zs ++ [(k : Int)]).length = k + 1 by rw [List.length_append, HZL.out]; rfl)
      clear h1 h2
      go_wp2
      go_roundw
      case rel => exact ⟨k + 1, _, by omega, HL.out, by go_num, HN.out, HBB.out⟩
      case measure => simp [intOf]; omega
    · obtain rfl : k = n := by omega
      obtain ⟨a, c, hv, _⟩ := OM.out.rd
      rw [HZL.out] at hv
      subst hv
      go_wp2
      go_ret
      exact ⟨a, zs, c, rfl, HZL.out, OM.out, LB.out⟩
set_option maxRecDepth 100000 in
set_option maxHeartbeats 4000000 in
theorem l1DrawSet_any (g : Nat) (a : Option Addr) (n cc : Nat) (w : World) (hc : Cur w g) (hn : n ≤ 17) :
    Calls Tryd.prog 38 #[.pointer (some ⟨g, 0, none⟩), .agg #[.slice a n cc]] w (SPost g 18 w) := by
  have hgw := hc.lt
  have CU := hid hc
  clear hc
  obtain ⟨w0, hw0⟩ : ∃ w0, w0 = (w.alloc (.cells #[.slice a n cc] 24)) := ⟨_, rfl⟩
  have B0 := hid (show Below w.heap.size w w0 by rw [hw0]; exact ((Below.refl _ _).alloc (Nat.le_refl _) _))
  have c0 : w0.cell? ⟨w.heap.size, 0, none⟩ = some (.slice a n cc) := by rw [hw0]; simp [go_sem]
  have HW := hid hw0; clear hw0
  have hsz0 : w0.heap.size = w.heap.size + 1 := by rw [HW.out]; simp
  have Kw := hid (Kept.of_below (fun k => k = g) B0.out)
  have CU0 := hid (CU.out.past B0.out (Nat.le_refl _))
  have hszw : w.heap.size < w0.heap.size := by omega
  have C00 := hid c0
  have HO := hid (show Own 2 (w0.alloc (.cells #[] 2)) w0.heap.size (.slice (some ⟨w0.heap.size, 0, none⟩) 0 0) (([] : List Int).map (.int .i64)) from own_new 2 w0 [] (by decide))
  have HB := hid (alloc_below w0 (.cells #[] 2))
  have CU1 := hid (CU0.out.past HB.out (Nat.le_refl _))
  have hsx : w.heap.size + 1 = w0.heap.size := hsz0.symm
  clear CU B0 hsz0 c0 CU0
  go_enter Tryd.func38, Tryd.ntmps38
  go_wp2
  rw [← HW.out]
  try rw [hsx]
  clear hsx
  generalize w0.alloc (.cells #[] 2) = w1 at *
  go_loopw [5, 6] (fun s x wr => ∃ (k : Nat) (zs : List Int), k ≤ n ∧ zs.length ≤ k ∧ x = .int .i64 k ∧ Own 2 wr w0.heap.size s (zs.map (.int .i64)) ∧ Cur wr g ∧ Kept (fun k => k = g) w0 wr) (fun _ x _ => n - (intOf x).toNat)
  case atStart => exact ⟨0, [], Nat.zero_le _, Nat.le_refl _, rfl, HO.out, CU1.out, Kept.of_below _ HB.out⟩
  case round =>
    clear HO CU1 HB
    obtain ⟨k, zs, hk, hzl, rfl, ho, hcu, hkp⟩ := hrel
    have OM := hid ho; have CU := hid hcu; have KP := hid hkp; have HZL := hid hzl
    have cg := cellK hkp C00.out (by show ¬ w.heap.size = g; omega)
    have hsr := hkp.size
    have hxl : (zs.map (Value.int .i64)).length ≤ 17 := by rw [List.length_map]; omega
    obtain ⟨sa, sc, hsv, _⟩ := ho.rd
    subst hsv
    clear ho hcu hkp hzl
    obtain ⟨wj, rfl⟩ : ∃ z, z = wr := ⟨_, rfl⟩
    by_cases hlt : k < n
    · have hki : (k : Int) < (n : Int) := by omega
      go_wp2_with fail
      refine (l1Once_any g 2 _ CU.out (by decide) (by decide)).mono ?_
      rintro e w2 ⟨t, rfl, hc, hk2⟩
      have CU2 := hid hc
      have KP2 := hid (KP.out.trans hk2)
      have OM2 := hid (OM.out.keptS hk2 (fun j hj hs => by have := OM.out.ge j hj; omega))
      have hs2 := KP2.out.size
      clear hc hk2 CU KP OM
      cases t
      · go_wp2
        go_roundw
        case rel => exact ⟨k + 1, zs, by omega, by have := HZL.out; omega, by go_num, OM2.out, CU2.out, KP2.out⟩
        case measure => simp [intOf]; omega
      · go_wp2_with (at_builtin; refine law_push tI64 _ rfl _ _ rfl w0.heap.size _ (zs.map (.int .i64)) rfl OM2.out _ _ rfl ?c0 rfl ?c1 ?c2 ?_)
        try (case c0 => simp)
        try (case c1 => exact Nat.lt_of_le_of_lt hxl (by decide))
        try (case c2 => exact hs2)
        intro v3 w3 h1 h2
        have HN := hid (show Own 2 w3 w0.heap.size v3 ((zs ++ [(k : Int)]).map (.int .i64)) by rw [List.map_append]; exact h1)
        have HBB := hid (grown_below h2 hs2 (fun g hg => OM2.out.ge g hg))
        have CU3 := hid (CU2.out.belowB HBB.out (by omega))
        have KP3 := hid (KP2.out.belowT HBB.out (Nat.le_refl _))
        have HL := hid (show (zs ++ [(k : Int)]).length ≤ k + 1 by rw [List.length_append]; have := HZL.out; simp; omega)
        clear h1 h2 CU2 KP2 OM2 HBB
        go_wp2
        go_roundw
        case rel => exact ⟨k + 1, _, by omega, HL.out, by go_num, HN.out, CU3.out, KP3.out⟩
        case measure => simp [intOf]; omega
    · obtain rfl : k = n := by omega
      go_wp2_with fail
      refine (l1Once_any g 15 _ CU.out (by decide) (by decide)).mono ?_
      rintro e w2 ⟨t, rfl, hc, hk2⟩
      have CU2 := hid hc
      have KP2 := hid (KP.out.trans hk2)
      have OM2 := hid (OM.out.keptS hk2 (fun j hj hs => by have := OM.out.ge j hj; omega))
      have cg2 := cellK hk2 cg (by show ¬ w.heap.size = g; omega)
      clear hc hk2 CU KP OM cg
      cases t
      · go_wp2
        go_ret
        exact ⟨sa, zs, sc, rfl, OM2.out.base (by omega), by have := HZL.out; omega, CU2.out, Kw.out.trans KP2.out⟩
      · go_wp2_with fail
        refine (l1Num_any g k _ _ rfl CU2.out (by omega)).mono ?_
        rintro e w3 ⟨z, rfl, hc, hk3⟩
        have CU3 := hid hc
        have KP3 := hid (KP2.out.trans hk3)
        have OM3 := hid (OM2.out.keptS hk3 (fun j hj hs => by have := OM2.out.ge j hj; omega))
        have hs3 := KP3.out.size
        clear hc hk3 CU2 KP2 OM2 cg2
        go_wp2_with (at_builtin; refine law_push tI64 _ rfl _ _ rfl w0.heap.size _ (zs.map (.int .i64)) rfl OM3.out _ _ rfl ?c0 rfl ?c1 ?c2 ?_)
        try (case c0 => simp)
        try (case c1 => exact Nat.lt_of_le_of_lt hxl (by decide))
        try (case c2 => exact hs3)
        intro v4 w4 h1 h2
        have HN := hid (show Own 2 w4 w0.heap.size v4 ((zs ++ [z]).map (.int .i64)) by rw [List.map_append]; exact h1)
        have HBB := hid (grown_below h2 hs3 (fun g hg => OM3.out.ge g hg))
        have CU4 := hid (CU3.out.belowB HBB.out (by omega))
        have KP4 := hid (KP3.out.belowT HBB.out (Nat.le_refl _))
        have HL := hid (show (zs ++ [z]).length ≤ 18 by rw [List.length_append]; have := HZL.out; simp; omega)
        clear h1 h2 CU3 KP3 OM3 HBB
        obtain ⟨ra, rc, hrv, _⟩ := HN.out.rd
        subst hrv
        go_wp2
        go_ret
        exact ⟨ra, _, rc, rfl, HN.out.base (by omega), HL.out, CU4.out, Kw.out.trans KP4.out⟩
end
end Go.Proofs.YtccohcdgcpcbjaaDoor
