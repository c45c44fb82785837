/- The tree width by the reference. -/
import Derived.Test.YtdncmloajajiaaaDoorTwD
import Derived.Test.YtdncmloajajiaaaDoorGOk
import Derived.Deep.RegionWith
namespace Go.Proofs.YtdncmloajajiaaaDoor
open Go.RowKit
section
theorem specGraphOk_n (a : Option Addr) (rs : List Row) (n c : Nat) (w : World) (hn : rs.length = n) (hg : GOk (nums rs)) (hr : RdM w a rs) (hs : Small rs) :
    Calls Tryd.prog 30 #[.agg #[.slice a n c]] w fun e w' => e = .returned (.bool true) ∧ Below w.heap.size w w' := by
  subst hn
  exact specGraphOk_b a rs c w true (by simpa using hg) hr hs
set_option maxHeartbeats 1000000 in
theorem l10Wide_any (a : Option Addr) (rs : List Row) (n c : Nat) (w : World) (hn : rs.length = n) (hg : GOk (nums rs)) (hr : RdM w a rs) (hs : Small rs) (h10 : n ≤ 10) :
    Calls Tryd.prog 88 #[.agg #[.slice a n c]] w fun e w' => e = .returned (.bool true) ∧ Below w.heap.size w w' := by
  have RA := hid hr; have HG := hid hg; have HN := hid hn; have HS := hid hs
  have h10i : (n : Int) ≤ 10 := by omega
  clear hr hg hn hs
  obtain ⟨w0, hw0⟩ : ∃ w0, w0 = (w.alloc (.cells #[.slice a n c] 29)) := ⟨_, rfl⟩
  have B0 := hid (show Below w.heap.size w w0 by rw [hw0]; exact ((Below.refl _ _).alloc (Nat.le_refl _) _))
  have c0 : w0.cell? ⟨w.heap.size, 0, none⟩ = some (.slice a n c) := by rw [hw0]; simp [go_sem]
  replace RA := hid (RA.out.below B0.out (Nat.le_refl _))
  have HW := hid hw0; clear hw0
  go_enter Tryd.func88, Tryd.ntmps88
  go_wp2_with fail
  rw [← HW.out]
  refine (specGraphOk_n a rs n c w0 HN.out HG.out RA.out HS.out).mono ?_
  rintro e w1 ⟨rfl, hb⟩
  replace c0 := cellB hb c0 (Nat.le_refl _)
  have B1 := hid (bon B0.out hb)
  clear hb
  go_wp2_with fail
  refine (l1Size_n a n c w1 (by omega)).mono ?_
  rintro e w2 ⟨rfl, hb⟩
  have B2 := hid (bon B1.out hb)
  clear hb
  go_wp2
  go_ret
  exact ⟨ret_bool (by simp), B2.out⟩
def TwPost (A : List Nat) (n : Nat) (w : World) (e : Ending) (w' : World) : Prop :=
  e = .returned (.int .i64 (twV (bhN A) (2 ^ n - 1) 0 : Nat)) ∧ Below w.heap.size w w'
theorem kept_two {w w' : World} {gm km B : Nat} (h : Kept (fun k => k = gm ∨ k = km) w w') (hB : B ≤ w.heap.size) (h1 : B ≤ gm) (h2 : B ≤ km) : Below B w w' :=
  h.below B hB fun k hk hs => by omega
set_option maxRecDepth 100000 in
set_option maxHeartbeats 8000000 in
theorem specWidthFrom_none (a : Option Addr) (rs : List Row) (c : Nat) (A : List Nat) (n : Nat) (a2 : Option Addr) (c2 : Nat) (w : World) (hA : GA n A) (hq : nums rs = A.map mems) (hn : rs.length = n) (hr : RdM w a rs) (hs : Small rs) (h10 : n ≤ 10) :
    Calls Tryd.prog 62 #[.agg #[.slice a n c], .slice a2 0 c2] w (TwPost A n w) := by
  have RA := hid hr; have HQ := hid hq; have HN := hid hn; have HS := hid hs; have HGA := hid hA
  have HG := hid (show GOk (nums rs) by rw [hq]; exact hA.gok)
  have h1n := hA.pos
  have h16 : n ≤ 16 := by omega
  have hp := Nat.two_pow_pos n
  clear hr hq hn hs hA
  obtain ⟨w0, hw0⟩ : ∃ w0, w0 = (w.alloc (.cells #[.slice a n c] 29)) := ⟨_, rfl⟩
  have B0 := hid (show Below w.heap.size w w0 by rw [hw0]; exact ((Below.refl _ _).alloc (Nat.le_refl _) _))
  have c0 : w0.cell? ⟨w.heap.size, 0, none⟩ = some (.slice a n c) := by rw [hw0]; simp [go_sem]
  replace RA := hid (RA.out.below B0.out (Nat.le_refl _))
  have HW := hid hw0; clear hw0
  go_enter Tryd.func62, Tryd.ntmps62
  go_wp2_with fail
  rw [← HW.out]
  refine (l10Wide_any a rs n c w0 HN.out HG.out RA.out HS.out h10).mono ?_
  rintro e w1 ⟨rfl, hb⟩
  replace c0 := cellB hb c0 (Nat.le_refl _)
  have B1 := hid (bon B0.out hb)
  have RA1 := hid (RA.out.below hb (Nat.le_refl _))
  clear hb
  go_wp2_with fail
  refine (l1Size_n a n c w1 (by omega)).mono ?_
  rintro e w2 ⟨rfl, hb⟩
  replace c0 := cellB hb c0 (Nat.le_refl _)
  have B2 := hid (bon B1.out hb)
  have RA2 := hid (RA1.out.below hb (Nat.le_refl _))
  clear hb
  go_wp2_with fail
  refine (l1Set_b a2 [] c2 (n : Int) w2 true (by rw [decide_eq_true_iff]; exact inc_nil _) (Rd.nil _ _ _) (by simp) (by omega) (by omega)).mono ?_
  rintro e w3 ⟨rfl, hd⟩
  have hb := hd.bel
  replace c0 := cellB hb c0 (Nat.le_refl _)
  have B3 := hid (bon B2.out hb)
  have RA3 := hid (RA2.out.below hb (Nat.le_refl _))
  clear hb hd
  have D : Drawn w3 w3.drew := ⟨1, rfl⟩
  have f0 := dcell D c0
  have LB0 := hid (D.below w3.heap.size)
  clear D
  go_wp2_with fail
  go_region_with ((first | (go_at_call 90; refine (l10Marks_none a n c a2 c2 _ h1n h16).mono ?_; rintro e wm ⟨gm, rfl, og, hb⟩; (first | (have OKf := hid (OKt.out.past hb (Nat.le_refl _)); have LBf := hid (LBt.out.trans (hb.mono LBt.out.size)); have OGf := hid (og.base LBt.out.size); have f2 := cellB hb f1 (Nat.le_refl _)) | (have OGm := hid (og.base LB0.out.size); have LBm := hid (LB0.out.trans (hb.mono LB0.out.size)); have f1 := cellB hb f0 (Nat.le_refl _))); clear og hb) | (go_at_call 91; refine (l10Table_any a n c _ h16).mono ?_; rintro e wt ⟨km, rfl, og, hb⟩; (first | (have OGf := hid (OGm.out.past hb (Nat.le_refl _)); have LBf := hid (LBm.out.trans (hb.mono LBm.out.size)); have OKf := hid (og.base LBm.out.size); have f2 := cellB hb f1 (Nat.le_refl _)) | (have OKt := hid (og.base LB0.out.size); have LBt := hid (LB0.out.trans (hb.mono LB0.out.size)); have f1 := cellB hb f0 (Nat.le_refl _))); clear og hb) | (go_at_call 89; refine (l10From_any a rs c A n (2 ^ n) w3 gm km HGA.out HQ.out HN.out rfl RA3.out (OGf.out.ge gm rfl) (OKf.out.ge km rfl) _ 0 _ _ rfl hp (MemoOk.start A n (2 ^ n)) OGf.out OKf.out LBf.out).mono ?_; rintro e w9 ⟨K9, rfl, hk9, ho1, ho2, hkp⟩; have BF := hid (LBf.out.trans (kept_two hkp LBf.out.size (OGf.out.ge gm rfl) (OKf.out.ge km rfl))); clear hk9 ho1 ho2 hkp)))
  all_goals (
    go_wp2
    go_ret
    exact ⟨rfl, bon B3.out BF.out⟩)
end
end Go.Proofs.YtdncmloajajiaaaDoor
