/- Ranges, membership and sorted sets: the reference's and the program's. · GraphOk: the reference's and the program's. -/
import Derived.Test.YtccohcdgcpcbjaaDoorMem
import Derived.Test.YtccohcdgcpcbjaaDoorMask
import Derived.Test.YtccohcdgcpcbjaaDoorGr
namespace Go.Proofs.YtccohcdgcpcbjaaDoor
open Go.RowKit
section

theorem l1In_b (x lo hi : Int) (w : World) (b : Bool) (hb : decide (lo ≤ x ∧ x ≤ hi) = b) : Calls Tryd.prog 40 #[.int .i64 x, .int .i64 lo, .int .i64 hi] w fun e w' => e = .returned (.bool b) ∧ w = w' := by
  have HB := hid hb; clear hb
  by_cases h1 : lo ≤ x
  all_goals by_cases h2 : x ≤ hi
  all_goals
    go_enter Tryd.func40, Tryd.ntmps40
    go_wp2
    go_ret
    exact ⟨ret_bool (by rw [← HB.out]; simp [h1, h2] <;> omega), rfl⟩
theorem inRange_b (x lo hi : Int) (w : World) (b : Bool) (hb : decide (lo ≤ x ∧ x ≤ hi) = b) : Calls Tryd.prog 33 #[.int .i64 x, .int .i64 lo, .int .i64 hi] w fun e w' => e = .returned (.bool b) ∧ w = w' := by
  have HB := hid hb; clear hb
  by_cases h1 : lo ≤ x
  all_goals by_cases h2 : x ≤ hi
  all_goals
    go_enter Tryd.func33, Tryd.ntmps33
    go_wp2
    go_ret
    exact ⟨ret_bool (by rw [← HB.out]; simp [h1, h2] <;> omega), rfl⟩
theorem mem_take_succ (zs : List Int) (k : Nat) (hk : k < zs.length) (x : Int) : x ∈ zs.take (k + 1) ↔ x ∈ zs.take k ∨ x = zs[k] := by
  rw [List.take_succ_eq_append_getElem hk, List.mem_append, List.mem_singleton]
set_option maxHeartbeats 1000000 in
theorem l1Has_b (a : Option Addr) (zs : List Int) (c : Nat) (x : Int) (w : World) (b : Bool) (hb : decide (x ∈ zs) = b) (hr : Rd (Value.int .i64) w a zs) (hn : zs.length ≤ 16777216) :
    Calls Tryd.prog 46 #[.slice a zs.length c, .int .i64 x] w fun e w' => e = .returned (.bool b) ∧ w = w' := by
  have HR := hid hr; have HB := hid hb; clear hr hb
  go_enter Tryd.func46, Tryd.ntmps46
  go_wp2
  go_loop [5] (fun i => ∃ k : Nat, k ≤ zs.length ∧ i = .int .i64 k ∧ x ∉ zs.take k) (fun i => zs.length - (intOf i).toNat)
  case atStart => exact ⟨0, Nat.zero_le _, rfl, by simp⟩
  case round =>
    obtain ⟨k, hk, rfl, hx⟩ := hrel
    have HX := hid hx; clear hx
    by_cases hlt : k < zs.length
    · obtain ⟨b', o, rfl, hc⟩ := HR.out k hlt
      have HS := hid (mem_take_succ zs k hlt)
      have HM := hid (List.getElem_mem hlt)
      generalize zs[k] = y at *
      by_cases he : y = x
      · subst he
        have hb : (y == y) = true := by simp
        go_wp2
        go_ret
        exact ⟨ret_bool (by rw [← HB.out]; simpa using HM.out), rfl⟩
      · have hb : (y == x) = false := by simpa using he
        have HE := hid he; clear he
        go_wp2
        go_round
        case rel => exact ⟨k + 1, by omega, by go_num, by rw [HS.out]; exact fun h => h.elim HX.out fun h => HE.out h.symm⟩
        case measure => simp [intOf]; omega
    · go_wp2
      go_ret
      refine ⟨ret_bool ?_, rfl⟩
      have := HX.out
      rw [List.take_of_length_le (by omega)] at this
      rw [← HB.out]; simpa using this
def IdxP (zs : List Int) (x : Int) (w : World) (e : Ending) (w' : World) : Prop := ∃ i : Int, e = .returned (.int .i64 i) ∧ decide (0 ≤ i) = decide (x ∈ zs) ∧ w = w'
set_option maxHeartbeats 1000000 in
theorem index_any (a : Option Addr) (zs : List Int) (c : Nat) (x : Int) (w : World) (hr : Rd (Value.int .i64) w a zs) (hn : zs.length ≤ 16777216) :
    Calls Tryd.prog 66 #[.slice a zs.length c, .int .i64 x] w (IdxP zs x w) := by
  have HR := hid hr; clear hr
  go_enter Tryd.func66, Tryd.ntmps66
  go_wp2
  go_loop [5, 8] (fun _ i => ∃ k : Nat, k ≤ zs.length ∧ i = .int .i64 k ∧ x ∉ zs.take k) (fun _ i => zs.length - (intOf i).toNat)
  case atStart => exact ⟨0, Nat.zero_le _, rfl, by simp⟩
  case round =>
    obtain ⟨k, hk, rfl, hx⟩ := hrel
    have HX := hid hx; clear hx
    by_cases hlt : k < zs.length
    · obtain ⟨b', o, rfl, hc⟩ := HR.out k hlt
      have HS := hid (mem_take_succ zs k hlt)
      have HM := hid (List.getElem_mem hlt)
      generalize zs[k] = y at *
      by_cases he : x = y
      · subst he
        have hb : (x == x) = true := by simp
        go_wp2
        go_ret
        exact ⟨k, rfl, by simp [HM.out], rfl⟩
      · have hb : (x == y) = false := by simpa using he
        have HE := hid he; clear he
        go_wp2
        go_round
        case rel => exact ⟨k + 1, by omega, by go_num, by rw [HS.out]; exact fun h => h.elim HX.out fun h => HE.out h⟩
        case measure => simp [intOf]; omega
    · go_wp2
      go_ret
      refine ⟨-1, rfl, ?_, rfl⟩
      have := HX.out
      rw [List.take_of_length_le (by omega)] at this
      simp [this]
set_option maxHeartbeats 1000000 in
theorem contains_b (a : Option Addr) (zs : List Int) (c : Nat) (x : Int) (w : World) (b : Bool) (hb : decide (x ∈ zs) = b) (hr : Rd (Value.int .i64) w a zs) (hn : zs.length ≤ 16777216) :
    Calls Tryd.prog 51 #[.slice a zs.length c, .int .i64 x] w fun e w' => e = .returned (.bool b) ∧ w = w' := by
  have HB := hid hb; clear hb
  have HR := hid hr; clear hr
  go_enter Tryd.func51, Tryd.ntmps51
  go_wp2_with fail
  refine (index_any a zs c x _ HR.out hn).mono ?_
  rintro e w2 ⟨i, rfl, hx, rfl⟩
  have HX := hid hx; clear hx
  go_wp2
  go_ret
  exact ⟨ret_bool (by rw [← HB.out, ← HX.out]), rfl⟩

set_option maxHeartbeats 2000000 in
theorem l1Set_b (a : Option Addr) (zs : List Int) (c : Nat) (n : Int) (w : World) (b : Bool) (hb : decide (Inc n zs) = b) (hr : Rd (Value.int .i64) w a zs) (hn : zs.length ≤ 16777216) (h0 : 0 ≤ n) (h1 : n ≤ 16777216) :
    Calls Tryd.prog 45 #[.slice a zs.length c, .int .i64 n] w fun e w' => e = .returned (.bool b) ∧ Drawn w w' := by
  have HR := hid hr; have HB := hid hb; clear hr hb
  by_cases hl : n < zs.length
  · go_enter Tryd.func45, Tryd.ntmps45
    go_wp2
    go_ret
    refine ⟨ret_bool ?_, Drawn.refl _⟩
    rw [← HB.out]; symm; rw [decide_eq_false_iff_not]
    intro h; have := inc_length h h0; omega
  · go_enter Tryd.func45, Tryd.ntmps45
    go_wp2
    go_loopw [5] (fun i wr => ∃ k : Nat, k ≤ zs.length ∧ i = .int .i64 k ∧ Inc n (zs.take k) ∧ Drawn w wr) (fun i _ => zs.length - (intOf i).toNat)
    case atStart => exact ⟨0, Nat.zero_le _, rfl, inc_nil _, Drawn.refl _⟩
    case round =>
      obtain ⟨k, hk, rfl, hx, hd⟩ := hrel
      have HX := hid hx; have HD := hid hd; clear hx hd
      by_cases hlt : k < zs.length
      · obtain ⟨b', o, rfl, hc⟩ := HR.out.drawn HD.out k hlt
        have hi1 : (k : Int) < (zs.length : Int) := by omega
        have HS := hid (fun h => inc_take_succ n zs k hlt HX.out h)
        have HG := hid (fun h : Inc n zs => inc_get h k hlt)
        by_cases hin : 0 ≤ zs[k] ∧ zs[k] < n
        · have hbl : decide (0 ≤ zs[k] ∧ zs[k] ≤ n - 1) = true := by rw [decide_eq_true_iff]; omega
          have HI := hid hin; clear hin
          have HBL := hid hbl; clear hbl
          rcases Nat.eq_zero_or_pos k with h0k | h0k
          · have hd0 : decide (0 < k) = false := by rw [decide_eq_false_iff_not]; omega
            have HK0 := hid h0k; clear h0k
            generalize zs[k] = y at *
            go_wp2
            have hwr : IntKind.i64.wrap (n - 1) = n - 1 := IntWalk.i64_in _ (by omega)
            go_quiet ((go_at_call 40; exact qs (l1In_b _ _ _ _ _ HBL.out)))
            go_wp2
            go_roundw
            case rel => exact ⟨k + 1, by omega, by go_num, HS.out HI.out (fun h => absurd h (by have := HK0.out; omega)), HD.out.n _⟩
            case measure => simp [intOf]; omega
          · obtain ⟨j, rfl⟩ : ∃ j, k = j + 1 := ⟨k - 1, by omega⟩
            obtain ⟨b2, o2, hbo, hc2⟩ := HR.out.drawn HD.out j (by omega)
            obtain ⟨rfl, rfl⟩ : b2 = b' ∧ o2 = o := by simp at hbo; exact ⟨hbo.1.symm, hbo.2.symm⟩
            clear hbo
            have hi2 : (j : Int) < (zs.length : Int) := by omega
            have hd1 : decide ((0 : Int) < (j : Int) + 1) = true := by rw [decide_eq_true_iff]; omega
            have HG2 := hid (fun h : Inc n zs => inc_lt h j (j + 1) hlt (by omega))
            have HS2 := hid (fun h : zs[j] < zs[j + 1] => HS.out HI.out (fun _ => h))
            clear HS
            generalize zs[j + 1] = y at *
            generalize zs[j]'(by omega) = z at *
            by_cases hyz : z < y
            · have hle : decide (y ≤ z) = false := by simp; omega
              go_wp2
              go_quiet ((go_at_call 40; exact qs (l1In_b _ _ _ _ _ HBL.out)))
              go_wp2
              go_roundw
              case rel => exact ⟨j + 1 + 1, by omega, by go_num, HS2.out hyz, HD.out.n _⟩
              case measure => simp [intOf]; omega
            · have hle : decide (y ≤ z) = true := by simp; omega
              have HYZ := hid (show y ≤ z by omega); clear hyz
              go_wp2
              go_quiet ((go_at_call 40; exact qs (l1In_b _ _ _ _ _ HBL.out)))
              go_wp2
              go_ret
              refine ⟨ret_bool ?_, HD.out.n _⟩
              rw [← HB.out]; symm; rw [decide_eq_false_iff_not]
              exact fun h => by have := HG2.out h; have := HYZ.out; omega
        · have hbl : decide (0 ≤ zs[k] ∧ zs[k] ≤ n - 1) = false := by rw [decide_eq_false_iff_not]; omega
          have HI := hid hin; clear hin
          generalize zs[k] = y at *
          have HBL := hid hbl; clear hbl
          go_wp2
          go_quiet ((go_at_call 40; exact qs (l1In_b _ _ _ _ _ HBL.out)))
          go_wp2
          go_ret
          refine ⟨ret_bool ?_, HD.out.n _⟩
          rw [← HB.out]; symm; rw [decide_eq_false_iff_not]
          exact fun h => HI.out (HG.out h)
      · go_wp2
        go_ret
        refine ⟨ret_bool ?_, HD.out⟩
        have := HX.out
        rw [List.take_of_length_le (by omega)] at this
        rw [← HB.out]; simpa using this

set_option maxHeartbeats 2000000 in
theorem increasing_b (a : Option Addr) (zs : List Int) (c : Nat) (n : Int) (w : World) (b : Bool) (hb : decide (Inc n zs) = b) (hr : Rd (Value.int .i64) w a zs) (hn : zs.length ≤ 16777216) (h0 : 0 ≤ n) (h1 : n ≤ 16777216) :
    Calls Tryd.prog 50 #[.slice a zs.length c, .int .i64 n] w fun e w' => e = .returned (.bool b) ∧ w = w' := by
  have HR := hid hr; have HB := hid hb; clear hr hb
  go_enter Tryd.func50, Tryd.ntmps50
  go_wp2
  go_loop [5, 6, 9] (fun _ _ i => ∃ k : Nat, k ≤ zs.length ∧ i = .int .i64 k ∧ Inc n (zs.take k)) (fun _ _ i => zs.length - (intOf i).toNat)
  case atStart => exact ⟨0, Nat.zero_le _, rfl, inc_nil _⟩
  case round =>
    obtain ⟨k, hk, rfl, hx⟩ := hrel
    have HX := hid hx; clear hx
    by_cases hlt : k < zs.length
    · obtain ⟨b', o, rfl, hc⟩ := HR.out k hlt
      have HS := hid (fun h => inc_take_succ n zs k hlt HX.out h)
      have HG := hid (fun h : Inc n zs => inc_get h k hlt)
      by_cases hin : 0 ≤ zs[k] ∧ zs[k] < n
      · have hbl : decide (0 ≤ zs[k] ∧ zs[k] ≤ n - 1) = true := by rw [decide_eq_true_iff]; omega
        have HI := hid hin; clear hin
        have HBL := hid hbl; clear hbl
        rcases Nat.eq_zero_or_pos k with h0k | h0k
        · have hd0 : decide (0 < k) = false := by rw [decide_eq_false_iff_not]; omega
          have HK0 := hid h0k; clear h0k
          generalize zs[k] = y at *
          go_wp2_with (go_at_call 33; refine (inRange_b _ _ _ _ _ HBL.out).mono ?_; rintro e w' ⟨rfl, rfl⟩)
          go_round
          case rel => exact ⟨k + 1, by omega, by go_num, HS.out HI.out (fun h => absurd h (by have := HK0.out; omega))⟩
          case measure => simp [intOf]; omega
        · obtain ⟨j, rfl⟩ : ∃ j, k = j + 1 := ⟨k - 1, by omega⟩
          obtain ⟨b2, o2, hbo, hc2⟩ := HR.out j (by omega)
          obtain ⟨rfl, rfl⟩ : b2 = b' ∧ o2 = o := by simp at hbo; exact ⟨hbo.1.symm, hbo.2.symm⟩
          clear hbo
          have hd1 : decide ((0 : Int) < (j : Int) + 1) = true := by rw [decide_eq_true_iff]; omega
          have HG2 := hid (fun h : Inc n zs => inc_lt h j (j + 1) hlt (by omega))
          have HS2 := hid (fun h : zs[j] < zs[j + 1] => HS.out HI.out (fun _ => h))
          clear HS
          generalize zs[j + 1] = y at *
          generalize zs[j]'(by omega) = z at *
          by_cases hyz : z < y
          · have hle : decide (y ≤ z) = false := by simp; omega
            go_wp2_with (go_at_call 33; refine (inRange_b _ _ _ _ _ HBL.out).mono ?_; rintro e w' ⟨rfl, rfl⟩)
            go_round
            case rel => exact ⟨j + 1 + 1, by omega, by go_num, HS2.out hyz⟩
            case measure => simp [intOf]; omega
          · have hle : decide (y ≤ z) = true := by simp; omega
            have HYZ := hid (show y ≤ z by omega); clear hyz
            go_wp2_with (go_at_call 33; refine (inRange_b _ _ _ _ _ HBL.out).mono ?_; rintro e w' ⟨rfl, rfl⟩)
            go_ret
            refine ⟨ret_bool ?_, rfl⟩
            rw [← HB.out]; symm; rw [decide_eq_false_iff_not]
            exact fun h => by have := HG2.out h; have := HYZ.out; omega
      · have hbl : decide (0 ≤ zs[k] ∧ zs[k] ≤ n - 1) = false := by rw [decide_eq_false_iff_not]; omega
        have HI := hid hin; clear hin
        generalize zs[k] = y at *
        have HBL := hid hbl; clear hbl
        go_wp2_with (go_at_call 33; refine (inRange_b _ _ _ _ _ HBL.out).mono ?_; rintro e w' ⟨rfl, rfl⟩)
        go_ret
        refine ⟨ret_bool ?_, rfl⟩
        rw [← HB.out]; symm; rw [decide_eq_false_iff_not]
        exact fun h => HI.out (HG.out h)
    · go_wp2
      go_ret
      refine ⟨ret_bool ?_, rfl⟩
      have := HX.out
      rw [List.take_of_length_le (by omega)] at this
      rw [← HB.out]; simpa using this
end
section

theorem row_rs (rs : List Row) (v : Nat) (h : v < rs.length) : row (nums rs) v = rs[v].z := by
  rw [row_nat _ _ (by simpa [nums] using h)]; simp [nums]
theorem nums_length (rs : List Row) : (nums rs).length = rs.length := by simp [nums]
/-- What the first loop holds. -/
def Rows1 (rs : List Row) (k : Nat) : Prop := ∀ j : Nat, j < k → Inc rs.length (row (nums rs) j) ∧ (j : Int) ∉ row (nums rs) j
/-- What the second loop holds. -/
def Rows2 (rs : List Row) (k : Nat) : Prop := ∀ j : Nat, j < k → ∀ u ∈ row (nums rs) j, (j : Int) ∈ row (nums rs) u
def Rows3 (rs : List Row) (v k : Nat) : Prop := ∀ u ∈ (row (nums rs) v).take k, (v : Int) ∈ row (nums rs) u
theorem gok_of {rs : List Row} (h1 : 1 ≤ rs.length) (h2 : rs.length ≤ 16) (h3 : Rows1 rs rs.length) (h4 : Rows2 rs rs.length) : GOk (nums rs) :=
  ⟨by rwa [nums_length], by rwa [nums_length], fun v hv => by rw [nums_length] at hv ⊢; exact (h3 v hv).1, fun v hv => by rw [nums_length] at hv; exact (h3 v hv).2, fun v hv => by rw [nums_length] at hv; exact h4 v hv⟩
theorem l1Size_any (a : Option Addr) (rs : List Row) (c : Nat) (w : World) (_hn : rs.length ≤ 1048576) : Calls Tryd.prog 44 #[.agg #[.slice a rs.length c]] w fun e w' => e = .returned (.int .i64 rs.length) ∧ Below w.heap.size w w' := by
  go_enter Tryd.func44, Tryd.ntmps44
  go_wp2
  go_ret
  exact ⟨rfl, alloc_below _ _⟩
theorem rows3_succ {rs : List Row} {v k : Nat} (hv : v < rs.length) (h : Rows3 rs v k) (hk : k < rs[v].z.length) (hm : (v : Int) ∈ row (nums rs) rs[v].z[k]) : Rows3 rs v (k + 1) := by
  intro u hu
  rw [row_rs rs v hv] at hu
  rcases (mem_take_succ _ _ hk u).1 hu with h1 | h1
  · exact h u (by rw [row_rs rs v hv]; exact h1)
  · subst h1; exact hm
set_option maxHeartbeats 4000000 in
theorem specGraphOk_b (a : Option Addr) (rs : List Row) (c : Nat) (w : World) (b : Bool) (hb : decide (GOk (nums rs)) = b) (hr : RdM w a rs) (hn : Small rs) :
    Calls Tryd.prog 23 #[.agg #[.slice a rs.length c]] w fun e w' => e = .returned (.bool b) ∧ Below w.heap.size w w' := by
  have HR := hid hr; have HB := hid hb; have hn1 := hn.1; have HN := hid hn; clear hr hb hn
  have B0 := hid (alloc_below w (.cells #[.slice a rs.length c] 24))
  by_cases h16 : 1 ≤ rs.length ∧ rs.length ≤ 16
  · obtain ⟨h1, h2⟩ := h16
    have hbl := hid (show decide ((1 : Int) ≤ rs.length ∧ (rs.length : Int) ≤ 16) = true by rw [decide_eq_true_iff]; omega)
    go_enter Tryd.func23, Tryd.ntmps23
    go_wp2_with fail
    refine (l1Size_any a rs c _ hn1).mono ?_
    rintro e w1 ⟨rfl, hb1⟩
    have hcg : w1.cell? ⟨w.heap.size, 0, none⟩ = some (.slice a rs.length c) := cellB hb1 (by simp [go_sem]) (Nat.le_refl _)
    have B1 := hid (B0.out.trans (hb1.mono (by simp))); clear hb1
    have HCG := hid hcg; clear hcg
    go_wp2_with (go_at_call 40; refine (l1In_b _ _ _ _ _ hbl.out).mono ?_; rintro e w' ⟨rfl, rfl⟩)
    go_loopw [4] (fun i wr => ∃ k : Nat, k ≤ rs.length ∧ i = .int .i64 k ∧ Rows1 rs k ∧ Below w1.heap.size w1 wr) (fun i _ => rs.length - (intOf i).toNat)
    case atStart => exact ⟨0, Nat.zero_le _, rfl, fun j hj => absurd hj (Nat.not_lt_zero j), Below.refl _ _⟩
    case round =>
      obtain ⟨k, hk, rfl, hx, hd⟩ := hrel
      have HX := hid hx; have HD := hid (B1.out.trans (hd.mono B1.out.size)); have HD1 := hid hd
      have hcg := cellB hd HCG.out (Nat.le_refl _); clear hx hd
      by_cases hlt : k < rs.length
      · obtain ⟨b', o, rfl, hc, hok⟩ := (HR.out.below HD.out (Nat.le_refl _)).at k hlt
        have HK := hid hok.1; clear hok
        have hz := Nat.le_trans (HN.out.2 _ (List.getElem_mem hlt)) (show 1048576 ≤ 16777216 by decide)
        have HRW := hid (row_rs rs k hlt)
        generalize rs[k] = r at *
        by_cases hin : Inc rs.length r.z
        · have h3 := hid (show decide (Inc rs.length r.z) = true by simpa using hin)
          by_cases hm : (k : Int) ∈ r.z
          · have h4 := hid (show decide ((k : Int) ∈ r.z) = true by simpa using hm)
            go_wp2_with fail
            refine (l1Set_b _ _ _ _ _ _ h3.out HK.out hz (by omega) (by omega)).mono ?_
            rintro e w2 ⟨rfl, m, rfl⟩
            go_wp2_with (go_at_call 46; refine (l1Has_b _ _ _ _ _ _ h4.out (HK.out.drewN m) hz).mono ?_; rintro e w' ⟨rfl, rfl⟩)
            go_ret
            refine ⟨ret_bool ?_, below_drewN HD.out m⟩
            rw [← HB.out]; symm; rw [decide_eq_false_iff_not]
            intro h; exact h.irr k (by rw [nums_length]; exact hlt) (by rw [HRW.out]; exact hm)
          · have h4 := hid (show decide ((k : Int) ∈ r.z) = false by simpa using hm)
            have HM := hid hm; have HI := hid hin; clear hm hin
            go_wp2_with fail
            refine (l1Set_b _ _ _ _ _ _ h3.out HK.out hz (by omega) (by omega)).mono ?_
            rintro e w2 ⟨rfl, m, rfl⟩
            go_wp2_with (go_at_call 46; refine (l1Has_b _ _ _ _ _ _ h4.out (HK.out.drewN m) hz).mono ?_; rintro e w' ⟨rfl, rfl⟩)
            go_roundw
            case rel =>
              refine ⟨k + 1, by omega, by go_num, fun j hj => ?_, below_drewN HD1.out m⟩
              rcases Nat.lt_succ_iff_lt_or_eq.1 hj with h | rfl
              · exact HX.out j h
              · rw [HRW.out]; exact ⟨HI.out, HM.out⟩
            case measure => simp [intOf]; omega
        · have h3 := hid (show decide (Inc rs.length r.z) = false by simpa using hin)
          have HI := hid hin; clear hin
          go_wp2_with fail
          refine (l1Set_b _ _ _ _ _ _ h3.out HK.out hz (by omega) (by omega)).mono ?_
          rintro e w2 ⟨rfl, m, rfl⟩
          go_wp2
          go_ret
          refine ⟨ret_bool ?_, below_drewN HD.out m⟩
          rw [← HB.out]; symm; rw [decide_eq_false_iff_not]
          intro h; have := h.inc k (by rw [nums_length]; exact hlt); rw [HRW.out, nums_length] at this; exact HI.out this
      · obtain rfl : k = rs.length := by omega
        clear hcg hk hlt
        go_wp2
        go_loopw [5] (fun i wq => ∃ k : Nat, k ≤ rs.length ∧ i = .int .i64 k ∧ Rows2 rs k ∧ Below w1.heap.size w1 wq) (fun i _ => rs.length - (intOf i).toNat)
        case atStart => exact ⟨0, Nat.zero_le _, rfl, fun j hj => absurd hj (Nat.not_lt_zero j), HD1.out⟩
        case round =>
          obtain ⟨k, hk, rfl, hy, hd⟩ := hrel
          have HY := hid hy; have HQ1 := hid hd; clear hy hd HD HD1
          by_cases hlt : k < rs.length
          · have hi1 : (k : Int) < (rs.length : Int) := by omega
            have HRW := hid (row_rs rs k hlt)
            have hz := Nat.le_trans (HN.out.2 _ (List.getElem_mem hlt)) (show 1048576 ≤ 16777216 by decide)
            go_wp2
            go_loopw [6] (fun i wp => ∃ j : Nat, j ≤ rs[k].z.length ∧ i = .int .i64 j ∧ Rows3 rs k j ∧ Below w1.heap.size w1 wp) (fun i _ => rs[k].z.length - (intOf i).toNat)
            case atStart => exact ⟨0, Nat.zero_le _, rfl, fun u hu => (by simp at hu), HQ1.out⟩
            case round =>
              obtain ⟨j, hj, rfl, hy3, hd⟩ := hrel
              have HY3 := hid hy3; have HP := hid (B1.out.trans (hd.mono B1.out.size)); have HP1 := hid hd
              have hcg := cellB hd HCG.out (Nat.le_refl _); clear hy3 hd
              obtain ⟨b', o, rfl, hc, hok⟩ := (HR.out.below HP.out (Nat.le_refl _)).at k hlt
              by_cases hlj : j < rs[k].z.length
              · obtain ⟨b2, o2, ha2, hc2⟩ := hok.1 j hlj
                have hi2 : (j : Int) < (rs[k].z.length : Int) := by omega
                obtain ⟨hu0, hu1⟩ := inc_get (HX.out k hlt).1 j (by rw [HRW.out]; exact hlj)
                have hS3 := fun hm => rows3_succ hlt HY3.out hlj hm
                have hG := fun h : GOk (nums rs) => h.sym k (by rw [nums_length]; exact hlt) (rs[k].z[j]) (by rw [HRW.out]; exact List.getElem_mem hlj)
                have e1 : (row (nums rs) k)[j]'(by rw [HRW.out]; exact hlj) = rs[k].z[j] := by simp [HRW.out]
                rw [e1] at hu0 hu1
                rw [ha2] at hc
                obtain ⟨m, hm⟩ := Int.eq_ofNat_of_zero_le hu0
                rw [hm] at hc2 hS3 hG hu1
                have hi3 : (m : Int) < (rs.length : Int) := hu1
                have hlm : m < rs.length := by omega
                obtain ⟨b3, o3, hbo, hc3, hok3⟩ := (HR.out.below HP.out (Nat.le_refl _)).at m hlm
                obtain ⟨rfl, rfl⟩ : b3 = b' ∧ o3 = o := by simp at hbo; exact ⟨hbo.1.symm, hbo.2.symm⟩
                have hz3 := Nat.le_trans (HN.out.2 _ (List.getElem_mem hlm)) (show 1048576 ≤ 16777216 by decide)
                have HK3 := hid hok3.1
                rw [row_rs rs m hlm] at hS3 hG
                have HS3 := hid hS3; have HG := hid hG
                clear hok hok3 hbo hS3 hG hu0 hu1 hm e1 ha2
                generalize rs[m] = q at *
                generalize rs[k] = r at *
                by_cases hmem : (k : Int) ∈ q.z
                · have h4 := hid (show decide ((k : Int) ∈ q.z) = true by simpa using hmem)
                  go_wp2
                  go_quiet ((go_at_call 46; exact qs (l1Has_b _ _ _ _ _ _ h4.out (HK3.out.drewN _) hz3)))
                  go_wp2
                  go_roundw
                  case rel => exact ⟨j + 1, by omega, by go_num, HS3.out hmem, below_drewN HP1.out _⟩
                  case measure => simp [intOf]; omega
                · have h4 := hid (show decide ((k : Int) ∈ q.z) = false by simpa using hmem)
                  have HM := hid hmem; clear hmem
                  go_wp2
                  go_quiet ((go_at_call 46; exact qs (l1Has_b _ _ _ _ _ _ h4.out (HK3.out.drewN _) hz3)))
                  go_wp2
                  go_ret
                  refine ⟨ret_bool ?_, below_drewN HP.out _⟩
                  rw [← HB.out]; symm; rw [decide_eq_false_iff_not]
                  exact fun h => HM.out (HG.out h)
              · have hjl : j = rs[k].z.length := by omega
                have HJ := hid hjl; clear hjl
                go_wp2
                go_roundw
                case rel =>
                  refine ⟨k + 1, by omega, by go_num, fun i hi => ?_, HP1.out⟩
                  rcases Nat.lt_succ_iff_lt_or_eq.1 hi with h | rfl
                  · exact HY.out i h
                  · intro u hu
                    refine HY3.out u ?_
                    rw [HJ.out, ← HRW.out, List.take_length]; exact hu
                case measure => simp [intOf]; omega
          · obtain rfl : k = rs.length := by omega
            go_wp2
            go_ret
            refine ⟨ret_bool ?_, B1.out.trans (HQ1.out.mono B1.out.size)⟩
            rw [← HB.out]; symm; rw [decide_eq_true_iff]
            exact gok_of h1 h2 HX.out HY.out
  · have hbl := hid (show decide ((1 : Int) ≤ rs.length ∧ (rs.length : Int) ≤ 16) = false by rw [decide_eq_false_iff_not]; omega)
    have H16 := hid h16; clear h16
    go_enter Tryd.func23, Tryd.ntmps23
    go_wp2_with fail
    refine (l1Size_any a rs c _ hn1).mono ?_
    rintro e w1 ⟨rfl, hb1⟩
    have B1 := hid (B0.out.trans (hb1.mono (by simp))); clear hb1
    go_wp2_with (go_at_call 40; refine (l1In_b _ _ _ _ _ hbl.out).mono ?_; rintro e w' ⟨rfl, rfl⟩)
    go_ret
    refine ⟨ret_bool ?_, B1.out⟩
    rw [← HB.out]; symm; rw [decide_eq_false_iff_not]
    exact fun h => H16.out ⟨by have := h.pos; rwa [nums_length] at this, by have := h.le; rwa [nums_length] at this⟩

set_option maxHeartbeats 4000000 in
theorem implGraphOk_b (a : Option Addr) (rs : List Row) (c : Nat) (w : World) (b : Bool) (hb : decide (GOk (nums rs)) = b) (hr : RdM w a rs) (hn : Small rs) :
    Calls Tryd.prog 26 #[.agg #[.slice a rs.length c]] w fun e w' => e = .returned (.bool b) ∧ Below w.heap.size w w' := by
  have HR := hid hr; have HB := hid hb; have hn1 := hn.1; have HN := hid hn; clear hr hb hn
  have B0 := hid (alloc_below w (.cells #[.slice a rs.length c] 24))
  have HCG := hid (show (w.alloc (.cells #[.slice a rs.length c] 24)).cell? ⟨w.heap.size, 0, none⟩ = some (.slice a rs.length c) by simp [go_sem])
  by_cases h16 : 1 ≤ rs.length ∧ rs.length ≤ 16
  · obtain ⟨h1, h2⟩ := h16
    go_enter Tryd.func26, Tryd.ntmps26
    go_wp2
    go_loop [4, 5, 22] (fun _ _ i => ∃ k : Nat, k ≤ rs.length ∧ i = .int .i64 k ∧ Rows1 rs k) (fun _ _ i => rs.length - (intOf i).toNat)
    case atStart => exact ⟨0, Nat.zero_le _, rfl, fun j hj => absurd hj (Nat.not_lt_zero j)⟩
    case round =>
      obtain ⟨k, hk, rfl, hx⟩ := hrel
      have HX := hid hx; clear hx
      by_cases hlt : k < rs.length
      · obtain ⟨b', o, rfl, hc, hok⟩ := (HR.out.below B0.out (Nat.le_refl _)).at k hlt
        have HK := hid hok.1; clear hok
        have hz := Nat.le_trans (HN.out.2 _ (List.getElem_mem hlt)) (show 1048576 ≤ 16777216 by decide)
        have HRW := hid (row_rs rs k hlt)
        generalize rs[k] = r at *
        by_cases hin : Inc rs.length r.z
        · have h3 := hid (show decide (Inc rs.length r.z) = true by simpa using hin)
          by_cases hm : (k : Int) ∈ r.z
          · have h4 := hid (show decide ((k : Int) ∈ r.z) = true by simpa using hm)
            go_wp2_with (first | (go_at_call 50; refine (increasing_b _ _ _ _ _ _ h3.out HK.out hz (by omega) (by omega)).mono ?_; rintro e w' ⟨rfl, rfl⟩) | (go_at_call 51; refine (contains_b _ _ _ _ _ _ h4.out HK.out hz).mono ?_; rintro e w' ⟨rfl, rfl⟩))
            go_ret
            refine ⟨ret_bool ?_, B0.out⟩
            rw [← HB.out]; symm; rw [decide_eq_false_iff_not]
            intro h; exact h.irr k (by rw [nums_length]; exact hlt) (by rw [HRW.out]; exact hm)
          · have h4 := hid (show decide ((k : Int) ∈ r.z) = false by simpa using hm)
            have HM := hid hm; have HI := hid hin; clear hm hin
            go_wp2_with (first | (go_at_call 50; refine (increasing_b _ _ _ _ _ _ h3.out HK.out hz (by omega) (by omega)).mono ?_; rintro e w' ⟨rfl, rfl⟩) | (go_at_call 51; refine (contains_b _ _ _ _ _ _ h4.out HK.out hz).mono ?_; rintro e w' ⟨rfl, rfl⟩))
            go_round
            case rel =>
              refine ⟨k + 1, by omega, by go_num, fun j hj => ?_⟩
              rcases Nat.lt_succ_iff_lt_or_eq.1 hj with h | rfl
              · exact HX.out j h
              · rw [HRW.out]; exact ⟨HI.out, HM.out⟩
            case measure => simp [intOf]; omega
        · have h3 := hid (show decide (Inc rs.length r.z) = false by simpa using hin)
          have HI := hid hin; clear hin
          go_wp2_with (go_at_call 50; refine (increasing_b _ _ _ _ _ _ h3.out HK.out hz (by omega) (by omega)).mono ?_; rintro e w' ⟨rfl, rfl⟩)
          go_ret
          refine ⟨ret_bool ?_, B0.out⟩
          rw [← HB.out]; symm; rw [decide_eq_false_iff_not]
          intro h; have := h.inc k (by rw [nums_length]; exact hlt); rw [HRW.out, nums_length] at this; exact HI.out this
      · obtain rfl : k = rs.length := by omega
        clear hk hlt
        go_wp2
        go_loop [6, 7, 9, 40] (fun _ _ _ i => ∃ k : Nat, k ≤ rs.length ∧ i = .int .i64 k ∧ Rows2 rs k) (fun _ _ _ i => rs.length - (intOf i).toNat)
        case atStart => exact ⟨0, Nat.zero_le _, rfl, fun j hj => absurd hj (Nat.not_lt_zero j)⟩
        case round =>
          obtain ⟨k, hk, rfl, hy⟩ := hrel
          have HY := hid hy; clear hy
          by_cases hlt : k < rs.length
          · have hi1 : (k : Int) < (rs.length : Int) := by omega
            have HRW := hid (row_rs rs k hlt)
            obtain ⟨b', o, rfl, hc, hok⟩ := (HR.out.below B0.out (Nat.le_refl _)).at k hlt
            have HOK := hid hok; clear hok
            have hz := Nat.le_trans (HN.out.2 _ (List.getElem_mem hlt)) (show 1048576 ≤ 16777216 by decide)
            have hcG := HCG.out
            go_wp2
            go_loop [9, 47] (fun _ i => ∃ j : Nat, j ≤ rs[k].z.length ∧ i = .int .i64 j ∧ Rows3 rs k j) (fun _ i => rs[k].z.length - (intOf i).toNat)
            case atStart => exact ⟨0, Nat.zero_le _, rfl, fun u hu => (by simp at hu)⟩
            case round =>
              obtain ⟨j, hj, rfl, hy3⟩ := hrel
              have HY3 := hid hy3; clear hy3
              by_cases hlj : j < rs[k].z.length
              · obtain ⟨b2, o2, ha2, hc2⟩ := HOK.out.1 j hlj
                have hi2 : (j : Int) < (rs[k].z.length : Int) := by omega
                obtain ⟨hu0, hu1⟩ := inc_get (HX.out k hlt).1 j (by rw [HRW.out]; exact hlj)
                have hS3 := fun hm => rows3_succ hlt HY3.out hlj hm
                have hG := fun h : GOk (nums rs) => h.sym k (by rw [nums_length]; exact hlt) (rs[k].z[j]) (by rw [HRW.out]; exact List.getElem_mem hlj)
                have e1 : (row (nums rs) k)[j]'(by rw [HRW.out]; exact hlj) = rs[k].z[j] := by simp [HRW.out]
                rw [e1] at hu0 hu1
                obtain ⟨m, hm⟩ := Int.eq_ofNat_of_zero_le hu0
                rw [hm] at hc2 hS3 hG hu1
                have hi3 : (m : Int) < (rs.length : Int) := hu1
                have hlm : m < rs.length := by omega
                obtain ⟨b3, o3, hbo, hc3, hok3⟩ := (HR.out.below B0.out (Nat.le_refl _)).at m hlm
                obtain ⟨rfl, rfl⟩ : b3 = b' ∧ o3 = o := by simp at hbo; exact ⟨hbo.1.symm, hbo.2.symm⟩
                have hz3 := Nat.le_trans (HN.out.2 _ (List.getElem_mem hlm)) (show 1048576 ≤ 16777216 by decide)
                have HK3 := hid hok3.1
                rw [row_rs rs m hlm] at hS3 hG
                have HS3 := hid hS3; have HG := hid hG
                clear hok3 hbo hS3 hG hu0 hu1 hm e1
                generalize rs[m] = q at *
                generalize rs[k] = r at *
                have hat := at_slice tI64 ha2 r.z.length r.c j hlj
                have HA2 := hid ha2; clear ha2
                by_cases hmem : (k : Int) ∈ q.z
                · have h4 := hid (show decide ((k : Int) ∈ q.z) = true by simpa using hmem)
                  go_wp2_with (go_at_call 51; refine (contains_b _ _ _ _ _ _ h4.out HK3.out hz3).mono ?_; rintro e w' ⟨rfl, rfl⟩)
                  go_round
                  case rel => exact ⟨j + 1, by omega, by go_num, HS3.out hmem⟩
                  case measure => simp [intOf]; omega
                · have h4 := hid (show decide ((k : Int) ∈ q.z) = false by simpa using hmem)
                  have HM := hid hmem; clear hmem
                  go_wp2_with (go_at_call 51; refine (contains_b _ _ _ _ _ _ h4.out HK3.out hz3).mono ?_; rintro e w' ⟨rfl, rfl⟩)
                  go_ret
                  refine ⟨ret_bool ?_, B0.out⟩
                  rw [← HB.out]; symm; rw [decide_eq_false_iff_not]
                  exact fun h => HM.out (HG.out h)
              · have hjl : j = rs[k].z.length := by omega
                have HJ := hid hjl; clear hjl
                go_wp2
                go_round
                case rel =>
                  refine ⟨k + 1, by omega, by go_num, fun i hi => ?_⟩
                  rcases Nat.lt_succ_iff_lt_or_eq.1 hi with h | rfl
                  · exact HY.out i h
                  · intro u hu
                    refine HY3.out u ?_
                    rw [HJ.out, ← HRW.out, List.take_length]; exact hu
                case measure => simp [intOf]; omega
          · obtain rfl : k = rs.length := by omega
            go_wp2
            go_ret
            refine ⟨ret_bool ?_, B0.out⟩
            rw [← HB.out]; symm; rw [decide_eq_true_iff]
            exact gok_of h1 h2 HX.out HY.out
  · have H16 := hid h16
    by_cases h0 : rs.length < 1
    all_goals
      by_cases h17 : 16 < rs.length
    all_goals first | (exfalso; omega) | skip
    all_goals
      clear h16
      go_enter Tryd.func26, Tryd.ntmps26
      go_wp2
      go_ret
      refine ⟨ret_bool ?_, B0.out⟩
      rw [← HB.out]; symm; rw [decide_eq_false_iff_not]
      exact fun h => H16.out ⟨by have := h.pos; rwa [nums_length] at this, by have := h.le; rwa [nums_length] at this⟩
end
end Go.Proofs.YtccohcdgcpcbjaaDoor
