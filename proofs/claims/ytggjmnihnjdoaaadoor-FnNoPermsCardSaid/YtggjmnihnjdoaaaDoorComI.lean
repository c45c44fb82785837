/- ComparabilityIn: both sides. -/
import Derived.Test.YtggjmnihnjdoaaaDoorOriI
import Derived.Test.YtggjmnihnjdoaaaDoorOriS
namespace Go.Proofs.YtggjmnihnjdoaaaDoor
open Go.RowKit
section
theorem neq_nilN (a : Option Addr) (l c : Nat) (w : World) : (binOp .neq 74 (.slice a l c) (.slice none 0 0)).run Tryd.prog w = .ok (.bool (!a.isNone)) w := by
  simp only [binOp]
  simp [run_equal_slice_nil w 74 89 a l c Tryd.underlying74]
set_option maxHeartbeats 1000000 in
theorem specComparabilityIn_c (a : Option Addr) (rs : List Row) (c : Nat) (w : World) (b : Bool) (hb : (oriG (nums rs)).isSome = b) (hr : RdM w a rs) (hn : Small rs) :
    Calls Tryd.prog 29 #[.agg #[.slice a rs.length c]] w fun e w' => e = .returned (.bool b) ∧ Below w.heap.size w w' := by
  have RA := hid hr; have HB := hid hb; clear hr hb
  obtain ⟨w0, hw0⟩ : ∃ w0, w0 = (w.alloc (.cells #[.slice a rs.length c] 28)) := ⟨_, rfl⟩
  have B0 := hid (show Below w.heap.size w w0 by rw [hw0]; exact ((Below.refl _ _).alloc (Nat.le_refl _) _))
  have c0 : w0.cell? ⟨w.heap.size, 0, none⟩ = some (.slice a rs.length c) := by rw [hw0]; simp [go_sem]
  replace RA := hid (RA.out.below B0.out (Nat.le_refl _))
  have HW := hid hw0; clear hw0
  go_enter Tryd.func29, Tryd.ntmps29
  go_wp2_with fail
  rw [← HW.out]
  refine (specOriented_any a rs c _ RA.out hn).mono ?_
  rintro e w1 ⟨hbl, ⟨H, a', c', us, ho, rfl, _, _⟩ | ⟨ho, a', c', rfl, _⟩⟩
  · have HBB := hid (bon B0.out hbl)
    rw [ho] at HB
    have hbt : true = b := HB.out
    subst hbt
    clear hbl ho
    go_wp2
    go_ret
    exact ⟨rfl, HBB.out⟩
  · have HBB := hid (bon B0.out hbl)
    rw [ho] at HB
    have hbt : false = b := HB.out
    subst hbt
    clear hbl ho
    go_wp2
    go_ret
    exact ⟨rfl, HBB.out⟩
set_option maxHeartbeats 1000000 in
theorem implComparabilityIn_c (a : Option Addr) (rs : List Row) (c : Nat) (w : World) (b : Bool) (hb : (oriG (nums rs)).isSome = b) (hr : RdM w a rs) (hn : Small rs) (hT : TabOk w) :
    Calls Tryd.prog 30 #[.agg #[.slice a rs.length c]] w fun e w' => e = .returned (.bool b) ∧ Below w.heap.size w w' := by
  have RA := hid hr; have RT := hid hT; have HB := hid hb; clear hr hb hT
  obtain ⟨w0, hw0⟩ : ∃ w0, w0 = (w.alloc (.cells #[.slice a rs.length c] 28)) := ⟨_, rfl⟩
  have B0 := hid (show Below w.heap.size w w0 by rw [hw0]; exact ((Below.refl _ _).alloc (Nat.le_refl _) _))
  have c0 : w0.cell? ⟨w.heap.size, 0, none⟩ = some (.slice a rs.length c) := by rw [hw0]; simp [go_sem]
  replace RA := hid (RA.out.below B0.out (Nat.le_refl _))
  replace RT := hid (RT.out.below B0.out (Nat.le_refl _))
  have HW := hid hw0; clear hw0
  by_cases hg : GOk (nums rs)
  · have H1 := hid (show decide (GOk (nums rs)) = true by simpa using hg)
    have HG := hid hg
    have HGA := hid (show GA rs.length ((nums rs).map maskL) by have := GA.of hg; rwa [nums_length] at this)
    have HE := hid (show oriG (nums rs) = oriN rs.length ((nums rs).map maskL) by unfold oriG; rw [if_pos hg, nums_length])
    clear hg
    go_enter Tryd.func30, Tryd.ntmps30
    go_wp2_with fail
    rw [← HW.out]
    go_wp2_with fail
    refine (implGraphOk_b a rs c _ true H1.out RA.out hn).mono ?_
    rintro e w1 ⟨rfl, hb⟩
    replace RA := hid (RA.out.below hb (Nat.le_refl _))
    replace RT := hid (RT.out.below hb (Nat.le_refl _))
    replace B0 := hid (bon B0.out hb)
    replace c0 := cellB hb c0 (Nat.le_refl _)
    clear hb
    go_wp2_with fail
    refine (netsOf_any a rs c _ HG.out RA.out hn).mono ?_
    rintro e w2 ⟨nv, rfl, hown, hb⟩
    obtain ⟨na, nc, rfl, hsr, _, _, _, _⟩ := Own.rd (f := netF) hown
    have RN := hid hsr.masks
    rw [nums_length]
    have BV2 := hid (bon B0.out hb); have RT2 := hid (RT.out.below hb (Nat.le_refl _))
    obtain ⟨nb, no, hna⟩ : ∃ b o, na = some ⟨b, o, none⟩ := by
      obtain ⟨b, o, h1, _⟩ := RN.out 0 (by rw [HGA.out.len]; exact HGA.out.pos)
      exact ⟨b, o, h1⟩
    subst hna
    clear hown hsr hb c0
    go_wp2_with fail
    refine (oriented_any nb no nc rs.length _ _ HGA.out RN.out RT2.out).mono ?_
    rintro e w3 ⟨hbl, ⟨H, g, cap, ho, rfl, _⟩ | ⟨ho, rfl⟩⟩
    · have HBB := hid (bon BV2.out hbl)
      rw [HE.out, ho] at HB
      have hbt : true = b := HB.out
      subst hbt
      have hne := neq_nilN (some ⟨g, 0, none⟩) rs.length cap w3
      clear hbl ho
      go_wp2
      go_ret
      exact ⟨rfl, HBB.out⟩
    · have HBB := hid (bon BV2.out hbl)
      rw [HE.out, ho] at HB
      have hbt : false = b := HB.out
      subst hbt
      have hne := neq_nilN none 0 0 w3
      clear hbl ho
      go_wp2
      go_ret
      exact ⟨rfl, HBB.out⟩
  · have H1 := hid (show decide (GOk (nums rs)) = false by simpa using hg)
    have HE := hid (show oriG (nums rs) = none by unfold oriG; rw [if_neg hg])
    rw [HE.out] at HB
    have hbt : false = b := HB.out
    subst hbt
    clear hg
    go_enter Tryd.func30, Tryd.ntmps30
    go_wp2_with fail
    rw [← HW.out]
    go_wp2_with fail
    refine (implGraphOk_b a rs c _ false H1.out RA.out hn).mono ?_
    rintro e w2 ⟨rfl, hb⟩
    replace RA := hid (RA.out.below hb (Nat.le_refl _))
    replace RT := hid (RT.out.below hb (Nat.le_refl _))
    replace B0 := hid (bon B0.out hb)
    replace c0 := cellB hb c0 (Nat.le_refl _)
    clear hb
    go_wp2
    go_ret
    exact ⟨rfl, B0.out⟩
end
end Go.Proofs.YtggjmnihnjdoaaaDoor
