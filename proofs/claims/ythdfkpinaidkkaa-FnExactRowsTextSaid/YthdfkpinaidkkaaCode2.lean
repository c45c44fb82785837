/- CodeOf: the program's. -/
import Derived.Test.YthdfkpinaidkkaaCode
namespace Go.Proofs.Ythdfkpinaidkkaa
open Go.RowKit
/-- A set as a value. -/
def netF (l : List Int) : Value := .int .u32 (maskL l : Nat)
theorem row_mask_lt {g : List (List Int)} (h : GOk g) (v : Nat) (hv : v < g.length) : maskL (row g (v : Int)) < 2 ^ 16 :=
  maskL_lt _ 16 fun x hx => by
    have := gok_range h (u := (v : Int)) (by omega) (by omega) hx
    have := h.le
    omega
theorem row_mask_bit {g : List (List Int)} (h : GOk g) (v u : Nat) (hv : v < g.length) : (maskL (row g (v : Int))).testBit u = decide ((u : Int) ∈ row g (v : Int)) :=
  testBit_maskL _ _ fun x hx => (gok_range h (u := (v : Int)) (by omega) (by omega) hx).1
set_option maxHeartbeats 4000000 in
theorem codeOf_any (a : Option Addr) (g : List (List Int)) (c : Nat) (w : World) (hg : GOk g) (hr : Rd netF w a g) :
    Calls Try.prog 53 #[.slice a g.length c] w (RetOwn 2 ((codeTo g g.length).map (.int .i64)) w) := by
  have h16 := hg.le
  have HG := hid hg
  have RW := hid hr; clear hr hg
  have B0 := hid (alloc_below w (.cells #[] 2))
  have HO := hid (show Own 2 (w.alloc (.cells #[] 2)) w.heap.size (.slice (some ⟨w.heap.size, 0, none⟩) 0 0) [] by
    simpa using (own_new 2 w [] (by decide)))
  go_enter Try.func53, Try.ntmps53
  go_wp2
  go_loopw [3, 4, 5, 9, 13] (fun o _ _ x _ wr => ∃ v : Nat, v ≤ g.length ∧ x = .int .i64 v ∧ Own 2 wr w.heap.size o ((codeTo g v).map (.int .i64)) ∧ Below w.heap.size w wr) (fun _ _ _ x _ _ => g.length - (intOf x).toNat)
  case atStart => exact ⟨0, Nat.zero_le _, rfl, HO.out, B0.out⟩
  case round =>
    obtain ⟨v, hv, rfl, ho, hb⟩ := hrel
    have OO := hid ho
    have LB := hid hb
    clear ho hb
    by_cases hlt : v < g.length
    · have HSUC := hid (codeTo_succ g v)
      have HLEN := hid (codeTo_len g v (by omega))
      have hml := row_mask_lt HG.out v hlt
      have HBT := hid (fun u => row_mask_bit HG.out v u hlt)
      have HGV := hid (row_nat g v hlt)
      go_wp2
      go_loopw [3, 5, 13] (fun o _ y wr => ∃ u : Nat, u ≤ v ∧ y = .int .i64 u ∧ Own 2 wr w.heap.size o ((codeTo g v ++ codeRow g v u).map (.int .i64)) ∧ Below w.heap.size w wr) (fun _ _ y _ => v - (intOf y).toNat)
      case atStart => exact ⟨0, Nat.zero_le _, rfl, by simpa [codeRow] using OO.out, LB.out⟩
      case round =>
        obtain ⟨u, hu, rfl, ho, hb⟩ := hrel
        have OI := hid ho
        have LI := hid hb
        clear ho hb
        by_cases hlu : u < v
        · obtain ⟨b', o', rfl, hc⟩ := (RW.out.below LI.out (Nat.le_refl _)) v hlt
          have hi0 : (v : Int) < (g.length : Int) := by omega
          unfold netF at hc
          rw [← HGV.out] at hc
          have hml2 : maskL (row g (v : Int)) < 4294967296 := Nat.lt_trans hml (by decide)
          obtain ⟨b4, hb4⟩ : ∃ b4, (maskL (row g (v : Int))).testBit u = b4 := ⟨_, rfl⟩
          have H4 := hid hb4
          have HS := hid (show codeRow g v (u + 1) = codeRow g v u ++ [if b4 then 1 else 0] by
            rw [codeRow_succ, ← hb4, HBT.out]
            have hs := gok_sym HG.out (u := (u : Int)) (v := (v : Int)) (by omega) (by omega) (by omega) (by omega)
            by_cases h : (v : Int) ∈ row g (u : Int)
            · rw [if_pos h]; simp [hs.1 h]
            · rw [if_neg h]; have h2 : ¬ (u : Int) ∈ row g (v : Int) := fun h' => h (hs.2 h'); simp [h2])
          clear hb4
          have hlen : ((codeTo g v ++ codeRow g v u).map (Value.int .i64)).length ≤ 300 := by rw [List.length_map, List.length_append, codeRow_len]; have := HLEN.out; omega
          generalize maskL (row g (v : Int)) = M at *
          cases b4
          · go_wp2_with (first | (go_at_call 76; refine (has_b _ _ _ _ H4.out hml2 (by omega)).mono ?_; rintro e w' ⟨rfl, rfl⟩) | (at_builtin; refine law_push tI64 _ rfl _ _ rfl w.heap.size _ ((codeTo g v ++ codeRow g v u).map (.int .i64)) rfl OI.out _ _ rfl ?c0 rfl ?c1 ?c2 ?_))
            case c0 => simp
            case c1 => omega
            case c2 => exact LI.out.size
            intro v' w' h1 h2
            have HN := hid h1
            have HBB := hid (LI.out.trans (grown_below h2 LI.out.size (fun g hg => OI.out.ge g hg)))
            clear h1 h2
            go_wp2
            go_roundw
            case rel => exact ⟨u + 1, by omega, by go_num, by rw [HS.out]; simpa using HN.out, HBB.out⟩
            case measure => simp [intOf]; omega
          · go_wp2_with (first | (go_at_call 76; refine (has_b _ _ _ _ H4.out hml2 (by omega)).mono ?_; rintro e w' ⟨rfl, rfl⟩) | (at_builtin; refine law_push tI64 _ rfl _ _ rfl w.heap.size _ ((codeTo g v ++ codeRow g v u).map (.int .i64)) rfl OI.out _ _ rfl ?c0 rfl ?c1 ?c2 ?_))
            case c0 => simp
            case c1 => omega
            case c2 => exact LI.out.size
            intro v' w' h1 h2
            have HN := hid h1
            have HBB := hid (LI.out.trans (grown_below h2 LI.out.size (fun g hg => OI.out.ge g hg)))
            clear h1 h2
            go_wp2
            go_roundw
            case rel => exact ⟨u + 1, by omega, by go_num, by rw [HS.out]; simpa using HN.out, HBB.out⟩
            case measure => simp [intOf]; omega
        · obtain rfl : u = v := by omega
          go_wp2
          go_roundw
          case rel => exact ⟨u + 1, by omega, by go_num, by rw [HSUC.out]; exact OI.out, LI.out⟩
          case measure => simp [intOf]; omega
    · obtain rfl : v = g.length := by omega
      go_wp2
      go_ret
      exact ⟨_, rfl, OO.out, LB.out⟩

set_option maxHeartbeats 1000000 in
theorem specCodeOf_any (a : Option Addr) (rs : List Row) (c : Nat) (w : World) (r : List Int) (hx : codeOr (nums rs) = r) (hr : RdM w a rs) (hn : Small rs) :
    Calls Try.prog 24 #[.agg #[.slice a rs.length c]] w (RetOwn 2 (r.map (.int .i64)) w) := by
  subst hx
  have RA := hid hr; clear hr
  obtain ⟨w0, hw0⟩ : ∃ w0, w0 = (w.alloc (.cells #[.slice a rs.length c] 27)) := ⟨_, rfl⟩
  have B0 := hid (show Below w.heap.size w w0 by rw [hw0]; exact ((Below.refl _ _).alloc (Nat.le_refl _) _))
  have c0 : w0.cell? ⟨w.heap.size, 0, none⟩ = some (.slice a rs.length c) := by rw [hw0]; simp [go_sem]
  replace RA := hid (RA.out.below B0.out (Nat.le_refl _))
  have HW := hid hw0; clear hw0
  by_cases hg : GOk (nums rs)
  · have h1 := hid (show decide (GOk (nums rs)) = true by simpa using hg)
    have HG := hid hg; clear hg
    have HE := hid (show codeOr (nums rs) = codeTo (nums rs) rs.length by unfold codeOr; rw [if_pos HG.out, nums_length])
    go_enter Try.func24, Try.ntmps24
    go_wp2_with fail
    rw [← HW.out]
    go_wp2_with fail
    refine (specGraphOk_b a rs c _ true h1.out RA.out hn).mono ?_
    rintro e w1 ⟨rfl, hb⟩
    replace RA := hid (RA.out.below hb (Nat.le_refl _))
    replace B0 := hid (bon B0.out hb)
    replace c0 := cellB hb c0 (Nat.le_refl _)
    clear hb
    have BW := hid B0.out
    go_wp2_with fail
    refine (l4Code_any a rs c _ HG.out RA.out hn).mono ?_
    rintro e w2 ⟨v, rfl, ho, hb⟩
    replace RA := hid (RA.out.below hb (Nat.le_refl _))
    replace B0 := hid (bon B0.out hb)
    replace c0 := cellB hb c0 (Nat.le_refl _)
    clear hb
    have HO := hid ho; clear ho
    go_wp2
    go_ret
    exact ⟨v, rfl, by rw [HE.out]; exact HO.out.base BW.out.size, B0.out⟩
  · have h1 := hid (show decide (GOk (nums rs)) = false by simpa using hg)
    have HE := hid (show codeOr (nums rs) = [] by unfold codeOr; rw [if_neg hg])
    clear hg
    go_enter Try.func24, Try.ntmps24
    go_wp2_with fail
    rw [← HW.out]
    go_wp2_with fail
    refine (specGraphOk_b a rs c _ false h1.out RA.out hn).mono ?_
    rintro e w3 ⟨rfl, hb⟩
    replace RA := hid (RA.out.below hb (Nat.le_refl _))
    replace B0 := hid (bon B0.out hb)
    replace c0 := cellB hb c0 (Nat.le_refl _)
    clear hb
    have BW := hid B0.out
    go_wp2
    go_ret
    exact ⟨_, rfl, by rw [HE.out]; exact (own_new 2 _ [] (by decide)).base BW.out.size, BW.out.trans ((alloc_below _ _).mono BW.out.size)⟩
set_option maxHeartbeats 1000000 in
theorem implCodeOf_any (a : Option Addr) (rs : List Row) (c : Nat) (w : World) (r : List Int) (hx : codeOr (nums rs) = r) (hr : RdM w a rs) (hn : Small rs) :
    Calls Try.prog 25 #[.agg #[.slice a rs.length c]] w (RetOwn 2 (r.map (.int .i64)) w) := by
  subst hx
  have RA := hid hr; clear hr
  obtain ⟨w0, hw0⟩ : ∃ w0, w0 = (w.alloc (.cells #[.slice a rs.length c] 27)) := ⟨_, rfl⟩
  have B0 := hid (show Below w.heap.size w w0 by rw [hw0]; exact ((Below.refl _ _).alloc (Nat.le_refl _) _))
  have c0 : w0.cell? ⟨w.heap.size, 0, none⟩ = some (.slice a rs.length c) := by rw [hw0]; simp [go_sem]
  replace RA := hid (RA.out.below B0.out (Nat.le_refl _))
  have HW := hid hw0; clear hw0
  by_cases hg : GOk (nums rs)
  · have h1 := hid (show decide (GOk (nums rs)) = true by simpa using hg)
    have HG := hid hg; clear hg
    have HE := hid (show codeOr (nums rs) = codeTo (nums rs) (nums rs).length by unfold codeOr; rw [if_pos HG.out])
    go_enter Try.func25, Try.ntmps25
    go_wp2_with fail
    rw [← HW.out]
    go_wp2_with fail
    refine (implGraphOk_b a rs c _ true h1.out RA.out hn).mono ?_
    rintro e w1 ⟨rfl, hb⟩
    replace RA := hid (RA.out.below hb (Nat.le_refl _))
    replace B0 := hid (bon B0.out hb)
    replace c0 := cellB hb c0 (Nat.le_refl _)
    clear hb
    go_wp2_with fail
    refine (netsOf_any a rs c _ HG.out RA.out hn).mono ?_
    rintro e w2 ⟨v, rfl, ho, hb⟩
    replace RA := hid (RA.out.below hb (Nat.le_refl _))
    replace B0 := hid (bon B0.out hb)
    replace c0 := cellB hb c0 (Nat.le_refl _)
    clear hb
    obtain ⟨an, cn, rfl, hrd, _⟩ := Own.rd (f := netF) ho
    have BW := hid B0.out
    have HRD := hid hrd; clear hrd ho
    go_wp2_with fail
    refine (codeOf_any an (nums rs) cn _ HG.out HRD.out).mono ?_
    rintro e w3 ⟨v, rfl, ho, hb⟩
    replace RA := hid (RA.out.below hb (Nat.le_refl _))
    replace B0 := hid (bon B0.out hb)
    replace c0 := cellB hb c0 (Nat.le_refl _)
    clear hb
    have HO := hid ho; clear ho
    go_wp2
    go_ret
    exact ⟨v, rfl, by rw [HE.out]; exact HO.out.base BW.out.size, B0.out⟩
  · have h1 := hid (show decide (GOk (nums rs)) = false by simpa using hg)
    have HE := hid (show codeOr (nums rs) = [] by unfold codeOr; rw [if_neg hg])
    clear hg
    go_enter Try.func25, Try.ntmps25
    go_wp2_with fail
    rw [← HW.out]
    go_wp2_with fail
    refine (implGraphOk_b a rs c _ false h1.out RA.out hn).mono ?_
    rintro e w4 ⟨rfl, hb⟩
    replace RA := hid (RA.out.below hb (Nat.le_refl _))
    replace B0 := hid (bon B0.out hb)
    replace c0 := cellB hb c0 (Nat.le_refl _)
    clear hb
    go_wp2
    go_ret
    exact ⟨_, rfl, by rw [HE.out]; exact Own.nil _ _ _, B0.out⟩
end Go.Proofs.Ythdfkpinaidkkaa
