/- PerfectOrder, ChordalIn: the program's, whole. -/
import Derived.Test.YtlnhfafnhclolaaDoorPerf
namespace Go.Proofs.YtlnhfafnhclolaaDoor
open Go.RowKit
def RetOwnB (e : TypeId) (xs : List Value) (b : Bool) (w : World) (E : Ending) (w' : World) : Prop := ∃ v, E = .returned (.tuple #[v, .bool b]) ∧ Own e w' w.heap.size v xs ∧ Below w.heap.size w w'
theorem perfL_ok {g : List (List Int)} (h : GOk g) : perfL g = (perfR (g.map maskL) g.length (2 ^ g.length - 1)).map castL := by unfold perfL; rw [if_pos h]; rfl
theorem perfL_no {g : List (List Int)} (h : ¬ GOk g) : perfL g = none := by unfold perfL; rw [if_neg h]
set_option maxRecDepth 100000 in
set_option maxHeartbeats 2000000 in
theorem implChordalIn_b (a : Option Addr) (rs : List Row) (c : Nat) (w : World) (b : Bool) (hx : (perfL (nums rs)).isSome = b) (hr : RdM w a rs) (hn : Small rs) (hT : TabOk w) :
    Calls Tryd.prog 34 #[.agg #[.slice a rs.length c]] w fun e w' => e = .returned (.bool b) ∧ Below w.heap.size w w' := by
  have RA := hid hr; have HX := hid hx; have RT := hid hT; clear hr hx hT
  obtain ⟨w0, hw0⟩ : ∃ w0, w0 = (w.alloc (.cells #[.slice a rs.length c] 28)) := ⟨_, rfl⟩
  have B0 := hid (show Below w.heap.size w w0 by rw [hw0]; exact ((Below.refl _ _).alloc (Nat.le_refl _) _))
  have c0 : w0.cell? ⟨w.heap.size, 0, none⟩ = some (.slice a rs.length c) := by rw [hw0]; simp [go_sem]
  replace RA := hid (RA.out.below B0.out (Nat.le_refl _))
  replace RT := hid (RT.out.below B0.out (Nat.le_refl _))
  have HW := hid hw0; clear hw0
  by_cases hg : GOk (nums rs)
  · have h1 := hid (show decide (GOk (nums rs)) = true by simpa using hg)
    have HG := hid hg
    have h16 : rs.length ≤ 16 := by have := hg.le; rwa [nums_length] at this
    have h01 : 1 ≤ rs.length := by have := hg.pos; rwa [nums_length] at this
    obtain ⟨x, hxx⟩ : ∃ x, perfR ((nums rs).map maskL) rs.length (2 ^ rs.length - 1) = x := ⟨_, rfl⟩
    have HXX := hid hxx
    have HB := hid (show x.isSome = b by rw [← HX.out, perfL_ok hg, nums_length, hxx]; cases x <;> rfl)
    have HA16 := hid (in16_of hg)
    have HLR := hid (show ((nums rs).map maskL).length = rs.length by rw [List.length_map, nums_length])
    clear HX hg hxx
    go_enter Tryd.func34, Tryd.ntmps34
    go_wp2_with fail
    rw [← HW.out]
    go_wp2_with fail
    refine (implGraphOk_b a rs c _ true h1.out RA.out hn).mono ?_
    rintro e w1 ⟨rfl, hb⟩
    replace RA := hid (RA.out.below hb (Nat.le_refl _))
    replace RT := hid (RT.out.below hb (Nat.le_refl _))
    replace B0 := hid (bon B0.out hb)
    replace c0 := cellB hb c0 (Nat.le_refl _)
    clear hb
    go_wp2_with fail
    refine (netsOf_any a rs c _ HG.out RA.out hn).mono ?_
    rintro e w2 ⟨v, rfl, hown, hb⟩
    replace RA := hid (RA.out.below hb (Nat.le_refl _))
    replace RT := hid (RT.out.below hb (Nat.le_refl _))
    replace B0 := hid (bon B0.out hb)
    replace c0 := cellB hb c0 (Nat.le_refl _)
    clear hb
    obtain ⟨na, nc, rfl, hsr, _, _, _, _⟩ := Own.rd (f := netF) hown
    have RN := hid hsr.masks; clear hown hsr
    rw [nums_length]
    go_wp2_with fail
    refine (perfectOrder_any na _ nc rs.length _ x HXX.out HLR.out RT.out RN.out HA16.out h16).mono ?_
    rintro e w' (⟨hxn, rfl, hb⟩ | ⟨l, hxl, v, rfl, hown, hb⟩)
    · have B1 := hid (bon B0.out hb); clear hb
      have HF := hid (show false = b by rw [← HB.out, hxn]; rfl)
      go_wp2
      go_ret
      exact ⟨ret_bool HF.out, B1.out⟩
    · have B1 := hid (bon B0.out hb); clear hb
      have HF := hid (show true = b by rw [← HB.out, hxl]; rfl)
      have hll : l.length = rs.length := perfR_len (HXX.out.trans hxl)
      obtain ⟨la, lc, rfl, _, h3, _, h5, _⟩ := Own.rd hown
      have hls : ∃ ad, la = some ad := by
        cases la with
        | none => have := h5 rfl; rw [castL_len] at h3; omega
        | some ad => exact ⟨ad, rfl⟩
      obtain ⟨ad, rfl⟩ := hls
      clear h3 h5 hown
      go_wp2
      go_ret
      exact ⟨ret_bool HF.out, B1.out⟩
  · have h1 := hid (show decide (GOk (nums rs)) = false by simpa using hg)
    have HF := hid (show false = b by rw [← HX.out, perfL_no hg]; rfl)
    clear hg HX
    go_enter Tryd.func34, Tryd.ntmps34
    go_wp2_with fail
    rw [← HW.out]
    go_wp2_with fail
    refine (implGraphOk_b a rs c _ false h1.out RA.out hn).mono ?_
    rintro e w3 ⟨rfl, hb⟩
    replace RA := hid (RA.out.below hb (Nat.le_refl _))
    replace RT := hid (RT.out.below hb (Nat.le_refl _))
    replace B0 := hid (bon B0.out hb)
    replace c0 := cellB hb c0 (Nat.le_refl _)
    clear hb
    go_wp2
    go_ret
    exact ⟨ret_bool HF.out, B0.out⟩
set_option maxRecDepth 100000 in
set_option maxHeartbeats 2000000 in
theorem implPerfectOrder_any (a : Option Addr) (rs : List Row) (c : Nat) (w : World) (r0 : List Int) (r1 : Bool) (hx0 : (perfL (nums rs)).getD [] = r0) (hx1 : (perfL (nums rs)).isSome = r1) (hr : RdM w a rs) (hn : Small rs) (hT : TabOk w) :
    Calls Tryd.prog 43 #[.agg #[.slice a rs.length c]] w (RetOwnB 2 (r0.map (.int .i64)) r1 w) := by
  have RA := hid hr; have HX0 := hid hx0; have HX1 := hid hx1; have RT := hid hT; clear hr hx0 hx1 hT
  obtain ⟨w0, hw0⟩ : ∃ w0, w0 = (w.alloc (.cells #[.slice a rs.length c] 28)) := ⟨_, rfl⟩
  have B0 := hid (show Below w.heap.size w w0 by rw [hw0]; exact ((Below.refl _ _).alloc (Nat.le_refl _) _))
  have c0 : w0.cell? ⟨w.heap.size, 0, none⟩ = some (.slice a rs.length c) := by rw [hw0]; simp [go_sem]
  replace RA := hid (RA.out.below B0.out (Nat.le_refl _))
  replace RT := hid (RT.out.below B0.out (Nat.le_refl _))
  have HW := hid hw0; clear hw0
  cases hps : perfL (nums rs) with
  | none =>
    have HP := hid (show (perfL (nums rs)).isSome = false by rw [hps]; rfl)
    have HF0 := hid (show [] = r0 by rw [← HX0.out, hps]; rfl)
    have HF1 := hid (show false = r1 by rw [← HX1.out, hps]; rfl)
    clear hps HX0 HX1
    go_enter Tryd.func43, Tryd.ntmps43
    go_wp2_with fail
    rw [← HW.out]
    go_wp2_with fail
    refine (implChordalIn_b a rs c _ false HP.out RA.out hn RT.out).mono ?_
    rintro e w1 ⟨rfl, hb⟩
    replace RA := hid (RA.out.below hb (Nat.le_refl _))
    replace RT := hid (RT.out.below hb (Nat.le_refl _))
    replace B0 := hid (bon B0.out hb)
    replace c0 := cellB hb c0 (Nat.le_refl _)
    clear hb
    go_wp2
    go_ret2
    rw [← HF0.out, ← HF1.out]
    exact ⟨_, rfl, Own.nil _ _ _, B0.out⟩
  | some L =>
    have HP := hid (show (perfL (nums rs)).isSome = true by rw [hps]; rfl)
    have HF0 := hid (show L = r0 by rw [← HX0.out, hps]; rfl)
    have HF1 := hid (show true = r1 by rw [← HX1.out, hps]; rfl)
    have hg : GOk (nums rs) := by
      apply Classical.byContradiction
      intro h
      rw [perfL_no h] at hps; cases hps
    have HG := hid hg
    have h16 : rs.length ≤ 16 := by have := hg.le; rwa [nums_length] at this
    obtain ⟨x, hxx⟩ : ∃ x, perfR ((nums rs).map maskL) rs.length (2 ^ rs.length - 1) = x := ⟨_, rfl⟩
    have HXX := hid hxx
    have HB := hid (show x.map castL = some L by rw [← hps, perfL_ok hg, nums_length, hxx])
    have HA16 := hid (in16_of hg)
    have HLR := hid (show ((nums rs).map maskL).length = rs.length by rw [List.length_map, nums_length])
    clear HX0 HX1 hg hxx hps
    go_enter Tryd.func43, Tryd.ntmps43
    go_wp2_with fail
    rw [← HW.out]
    go_wp2_with fail
    refine (implChordalIn_b a rs c _ true HP.out RA.out hn RT.out).mono ?_
    rintro e w2 ⟨rfl, hb⟩
    replace RA := hid (RA.out.below hb (Nat.le_refl _))
    replace RT := hid (RT.out.below hb (Nat.le_refl _))
    replace B0 := hid (bon B0.out hb)
    replace c0 := cellB hb c0 (Nat.le_refl _)
    clear hb
    go_wp2_with fail
    refine (netsOf_any a rs c _ HG.out RA.out hn).mono ?_
    rintro e w3 ⟨v, rfl, hown, hb⟩
    replace RA := hid (RA.out.below hb (Nat.le_refl _))
    replace RT := hid (RT.out.below hb (Nat.le_refl _))
    replace B0 := hid (bon B0.out hb)
    replace c0 := cellB hb c0 (Nat.le_refl _)
    clear hb
    obtain ⟨na, nc, rfl, hsr, _, _, _, _⟩ := Own.rd (f := netF) hown
    have RN := hid hsr.masks; clear hown hsr
    rw [nums_length]
    go_wp2_with fail
    refine (perfectOrder_any na _ nc rs.length _ x HXX.out HLR.out RT.out RN.out HA16.out h16).mono ?_
    rintro e w' (⟨hxn, rfl, hb⟩ | ⟨l, hxl, v, rfl, hown, hb⟩)
    · have := HB.out; rw [hxn] at this; cases this
    · have B1 := hid (bon B0.out hb); clear hb
      have HL := hid (show castL l = L by have := HB.out; rw [hxl] at this; simpa using this)
      have hll : l.length = rs.length := perfR_len (HXX.out.trans hxl)
      obtain ⟨la, lc, rfl, hrd, _⟩ := Own.rd hown
      have RL := hid hrd; clear hrd hown
      go_wp2_with fail
      refine (wide_any _ _ _ _ RL.out (by rw [castL_len]; omega)).mono ?_
      rintro e w6 ⟨qv, rfl, hown, hb⟩
      have OQ := hid (hown.base B1.out.size)
      have B6 := hid (bon B1.out hb)
      clear hown hb
      rw [HL.out] at OQ
      go_wp2
      go_ret2
      rw [← HF0.out, ← HF1.out]
      exact ⟨_, rfl, OQ.out, B6.out⟩
end Go.Proofs.YtlnhfafnhclolaaDoor
