/- Separation: both. -/
import Derived.Test.YtdncmloajajiaaaDoorSepO
import Derived.Deep.RegionWith
namespace Go.Proofs.YtdncmloajajiaaaDoor
open Go.RowKit
/-- The most that are open after i of the order's steps or fewer. -/
def sepTo (A : List Nat) (l : List Int) : Nat → Nat
  | 0 => 0
  | i + 1 => max (sepTo A l i) (opN A (maskL (l.take (i + 1))))
theorem sepTo_le (A : List Nat) (l : List Int) (i : Nat) : sepTo A l i ≤ 16 := by
  induction i with
  | zero => exact Nat.zero_le _
  | succ i ih => exact Nat.max_le.2 ⟨ih, opN_le _ _⟩
noncomputable def sepL (g : List (List Int)) (l : List Int) : Int := if OrdP g l then (sepTo (g.map maskL) l l.length : Nat) else -1
theorem opM_len {A : List Nat} {S : Nat} (hS : S < 65536) : (mems (opM A S)).length = opN A S := by
  rw [← opM_size hS, pcN_filter, mems_lenN, memsN_left (n := 16) (opM_lt hS) (by decide)]; rfl
theorem l12Open_len (a : Option Addr) (rs : List Row) (c : Nat) (a' : Option Addr) (l : List Int) (n' c' : Nat) (w : World) (o : Nat) (hln : l.length = n') (hg : GOk (nums rs)) (hl : ∀ x ∈ l, 0 ≤ x ∧ x < (rs.length : Int)) (hl16 : n' ≤ 16) (hr : RdM w a rs) (hn : Small rs) (hz : Rd (Value.int .i64) w a' l) (ho : (mems (opM ((nums rs).map maskL) (maskL l))).length = o) :
    Calls Tryd.prog 61 #[.agg #[.slice a rs.length c], .slice a' n' c'] w fun e w' => ∃ qa qc, e = .returned (.slice qa o qc) ∧ Below w.heap.size w w' :=
  (l12Open_any a rs c a' l n' c' w hln hg hl hl16 hr hn hz).mono fun _ _ ⟨r, he, hz, hb⟩ => ⟨r.a, r.c, by rw [he, hz, ho], hb⟩
set_option maxRecDepth 100000 in
set_option maxHeartbeats 4000000 in
theorem specSeparation_b (a : Option Addr) (rs : List Row) (c : Nat) (a' : Option Addr) (zs : List Int) (c' : Nat) (w : World) (r : Int) (hx : sepL (nums rs) zs = r) (hr : RdM w a rs) (hn : Small rs) (hz : Rd (Value.int .i64) w a' zs) (hm : zs.length ≤ 1048576) (hc' : zs.length ≤ c') :
    Calls Tryd.prog 24 #[.agg #[.slice a rs.length c], .slice a' zs.length c'] w fun e w' => e = .returned (.int .i64 r) ∧ Below w.heap.size w w' := by
  have RA := hid hr; have RZ := hid hz; have HX := hid hx; clear hr hz hx
  obtain ⟨w0, hw0⟩ : ∃ w0, w0 = (w.alloc (.cells #[.slice a rs.length c] 29)) := ⟨_, rfl⟩
  have B0 := hid (show Below w.heap.size w w0 by rw [hw0]; exact ((Below.refl _ _).alloc (Nat.le_refl _) _))
  have c0 : w0.cell? ⟨w.heap.size, 0, none⟩ = some (.slice a rs.length c) := by rw [hw0]; simp [go_sem]
  replace RA := hid (RA.out.below B0.out (Nat.le_refl _))
  replace RZ := hid (RZ.out.below B0.out (Nat.le_refl _))
  have HW := hid hw0; clear hw0
  by_cases hg : GOk (nums rs)
  · have h1 := hid (show decide (GOk (nums rs)) = true by simpa using hg)
    have h16 : rs.length ≤ 16 := by have := hg.le; rwa [nums_length] at this
    have HG := hid hg; clear hg
    by_cases ho : OrdP (nums rs) zs
    · have h2 := hid (show decide (OrdP (nums rs) zs) = true by simpa using ho)
      have HFIN := hid (show ((sepTo ((nums rs).map maskL) zs zs.length : Nat) : Int) = r by rw [← HX.out]; unfold sepL; rw [if_pos ho])
      have HLE := hid (show zs.length = rs.length by rw [ho.2.1, nums_length])
      have HRG := hid (show ∀ x ∈ zs, 0 ≤ x ∧ x < (rs.length : Int) by have := ho.2.2.1; rwa [nums_length] at this)
      have hz16 : zs.length ≤ 16 := by have := HLE.out; omega
      clear ho HX
      go_enter Tryd.func24, Tryd.ntmps24
      go_wp2_with fail
      rw [← HW.out]
      refine (specGraphOk_b a rs c _ true h1.out RA.out hn).mono ?_
      rintro e w1 ⟨rfl, hb⟩
      replace RA := hid (RA.out.below hb (Nat.le_refl _))
      replace RZ := hid (RZ.out.below hb (Nat.le_refl _))
      replace B0 := hid (bon B0.out hb)
      replace c0 := cellB hb c0 (Nat.le_refl _)
      clear hb
      go_wp2_with fail
      refine (specOrderOk_b a rs c a' zs c' _ true h2.out RA.out hn RZ.out hm hc').mono ?_
      rintro e w2 ⟨rfl, hb⟩
      replace RA := hid (RA.out.below hb (Nat.le_refl _))
      replace RZ := hid (RZ.out.below hb (Nat.le_refl _))
      replace B0 := hid (bon B0.out hb)
      replace c0 := cellB hb c0 (Nat.le_refl _)
      clear hb
      go_wp2
      clear HW
      have RA0 := hid RA.out; have RZ0 := hid RZ.out; have B00 := hid B0.out; have c00 := hid c0
      go_loopw [5, 6] (fun m y wr => ∃ i : Nat, i ≤ zs.length + 1 ∧ y = .int .i64 i ∧ m = .int .i64 (sepTo ((nums rs).map maskL) zs (i - 1) : Nat) ∧ Below w2.heap.size w2 wr) (fun _ y _ => zs.length + 1 - (intOf y).toNat)
      case atStart => exact ⟨0, Nat.zero_le _, rfl, rfl, Below.refl _ _⟩
      case round =>
        clear RA RZ B0 c0
        obtain ⟨i, hi, rfl, rfl, hd⟩ := hrel
        have RA := hid (RA0.out.below hd (Nat.le_refl _)); have RZ := hid (RZ0.out.below hd (Nat.le_refl _)); have B0 := hid (bon B00.out hd); have c0 := cellB hd c00.out (Nat.le_refl _)
        have BL := hid hd
        clear hd
        by_cases hlt : i < zs.length + 1
        · have hi0 : (i : Int) ≤ (zs.length : Int) := by omega
          have hic : i ≤ c' := by omega
          have hici : (i : Int) ≤ (c' : Int) := by omega
          have hz16n : i ≤ 16 := by omega
          have hM16 : maskL (zs.take i) < 65536 := maskL_lt _ 16 fun x hx => by have := HRG.out x (List.mem_of_mem_take hx); omega
          have HLM := hid (opM_len (A := (nums rs).map maskL) hM16)
          have HSU := hid (show max (sepTo ((nums rs).map maskL) zs (i - 1)) (opN ((nums rs).map maskL) (maskL (zs.take i))) = sepTo ((nums rs).map maskL) zs (i + 1 - 1) by
            rcases Nat.eq_zero_or_pos i with rfl | h0
            · rw [List.take_zero, show maskL [] = 0 from rfl, opN_zero]; rfl
            · obtain ⟨j, rfl⟩ : ∃ j, i = j + 1 := ⟨i - 1, by omega⟩
              rfl)
          have hs16 := sepTo_le ((nums rs).map maskL) zs (i - 1)
          have ho16 := opN_le ((nums rs).map maskL) (maskL (zs.take i))
          generalize sepTo ((nums rs).map maskL) zs (i - 1) = s at *
          obtain ⟨w3, rfl⟩ : ∃ z, z = wr := ⟨_, rfl⟩
          have D3 : Drawn w3 w3.drew := ⟨1, rfl⟩
          have RA3 := hid (RA.out.below (D3.below w3.heap.size) (Nat.le_refl _)); have RZ3 := hid (RZ.out.below (D3.below w3.heap.size) (Nat.le_refl _))
          have BL3 := hid (bon BL.out (D3.below w3.heap.size))
          have f0 := dcell D3 c0
          have hil : (zs.take i).length = i := by rw [List.length_take]; omega
          have HLQ := hid (fun (w : World) hr hz => l12Open_len a rs c a' (zs.take i) i c' w _ hil HG.out (fun x hx => HRG.out x (List.mem_of_mem_take hx)) hz16n hr hn hz HLM.out)
          clear RA RZ BL B0
          generalize opN ((nums rs).map maskL) (maskL (zs.take i)) = o at *
          go_wp2_with fail
          go_region_with ((first | (go_at_call 61; refine (HLQ.out _ RA3.out (RZ3.out.take i)).mono ?_; rintro e w4 ⟨qa, qc, rfl, hb⟩; have g0 := cellB hb f0 (Nat.le_refl _); have BL4 := hid (bon BL3.out hb); clear hb) | (go_at_call 60; refine (l1Max_any _ _ _).mono ?_; rintro e w5 ⟨rfl, rfl⟩)))
          have BL := BL4
          clear f0 g0 BL3 BL4
          go_wp2
          go_roundw
          case rel => exact ⟨i + 1, by omega, by go_num, by rw [← HSU.out]; (apply congrArg; omega), BL.out⟩
          case measure => simp [intOf]; omega
        · obtain rfl : i = zs.length + 1 := by omega
          have HR := hid (show ((sepTo ((nums rs).map maskL) zs (zs.length + 1 - 1) : Nat) : Int) = r from HFIN.out)
          generalize sepTo ((nums rs).map maskL) zs (zs.length + 1 - 1) = s at *
          go_wp2
          go_ret
          exact ⟨ret_int HR.out, B0.out⟩
    · have h2 := hid (show decide (OrdP (nums rs) zs) = false by simpa using ho)
      have HFIN := hid (show (-1 : Int) = r by rw [← HX.out]; unfold sepL; rw [if_neg ho])
      clear ho HX
      go_enter Tryd.func24, Tryd.ntmps24
      go_wp2_with fail
      rw [← HW.out]
      refine (specGraphOk_b a rs c _ true h1.out RA.out hn).mono ?_
      rintro e w1 ⟨rfl, hb⟩
      replace RA := hid (RA.out.below hb (Nat.le_refl _))
      replace RZ := hid (RZ.out.below hb (Nat.le_refl _))
      replace B0 := hid (bon B0.out hb)
      replace c0 := cellB hb c0 (Nat.le_refl _)
      clear hb
      go_wp2_with fail
      refine (specOrderOk_b a rs c a' zs c' _ false h2.out RA.out hn RZ.out hm hc').mono ?_
      rintro e w2 ⟨rfl, hb⟩
      replace RA := hid (RA.out.below hb (Nat.le_refl _))
      replace RZ := hid (RZ.out.below hb (Nat.le_refl _))
      replace B0 := hid (bon B0.out hb)
      replace c0 := cellB hb c0 (Nat.le_refl _)
      clear hb
      go_wp2
      go_ret
      exact ⟨ret_int HFIN.out, B0.out⟩
  · have h1 := hid (show decide (GOk (nums rs)) = false by simpa using hg)
    have HFIN := hid (show (-1 : Int) = r by rw [← HX.out]; unfold sepL; rw [if_neg (fun h => hg h.1)])
    clear hg HX
    go_enter Tryd.func24, Tryd.ntmps24
    go_wp2_with fail
    rw [← HW.out]
    refine (specGraphOk_b a rs c _ false h1.out RA.out hn).mono ?_
    rintro e w1 ⟨rfl, hb⟩
    replace RA := hid (RA.out.below hb (Nat.le_refl _))
    replace RZ := hid (RZ.out.below hb (Nat.le_refl _))
    replace B0 := hid (bon B0.out hb)
    replace c0 := cellB hb c0 (Nat.le_refl _)
    clear hb
    go_wp2
    go_ret
    exact ⟨ret_int HFIN.out, B0.out⟩
end Go.Proofs.YtdncmloajajiaaaDoor
