/- Ranges, membership and sorted sets: the reference's and the program's. -/
import Derived.Test.YtccohcdgcpcbjaaDoorBase
import Derived.Test.YtccohcdgcpcbjaaDoorMask
namespace Go.Proofs.YtccohcdgcpcbjaaDoor
open Go.RowKit

theorem l1In_b (x lo hi : Int) (w : World) (b : Bool) (hb : decide (lo ≤ x ∧ x ≤ hi) = b) : Calls Tryd.prog 40 #[.int .i64 x, .int .i64 lo, .int .i64 hi] w fun e w' => e = .returned (.bool b) ∧ w = w' := by
  have HB := hid hb; clear hb
  by_cases h1 : lo ≤ x
  all_goals by_cases h2 : x ≤ hi
  all_goals
    go_enter Tryd.func40, Tryd.ntmps40
    go_wp2
    go_ret
    exact ⟨ret_bool (by rw [← HB.out]; simp [h1, h2] <;> omega), rfl⟩
theorem inRange_b (x lo hi : Int) (w : World) (b : Bool) (hb : decide (lo ≤ x ∧ x ≤ hi) = b) : Calls Tryd.prog 33 #[.int .i64 x, .int .i64 lo, .int .i64 hi] w fun e w' => e = .returned (.bool b) ∧ w = w' := by
  have HB := hid hb; clear hb
  by_cases h1 : lo ≤ x
  all_goals by_cases h2 : x ≤ hi
  all_goals
    go_enter Tryd.func33, Tryd.ntmps33
    go_wp2
    go_ret
    exact ⟨ret_bool (by rw [← HB.out]; simp [h1, h2] <;> omega), rfl⟩
theorem mem_take_succ (zs : List Int) (k : Nat) (hk : k < zs.length) (x : Int) : x ∈ zs.take (k + 1) ↔ x ∈ zs.take k ∨ x = zs[k] := by
  rw [List.take_succ_eq_append_getElem hk, List.mem_append, List.mem_singleton]
set_option maxHeartbeats 1000000 in
theorem l1Has_b (a : Option Addr) (zs : List Int) (c : Nat) (x : Int) (w : World) (b : Bool) (hb : decide (x ∈ zs) = b) (hr : Rd (Value.int .i64) w a zs) (hn : zs.length ≤ 16777216) :
    Calls Tryd.prog 46 #[.slice a zs.length c, .int .i64 x] w fun e w' => e = .returned (.bool b) ∧ w = w' := by
  have HR := hid hr; have HB := hid hb; clear hr hb
  go_enter Tryd.func46, Tryd.ntmps46
  go_wp2
  go_loop [5] (fun i => ∃ k : Nat, k ≤ zs.length ∧ i = .int .i64 k ∧ x ∉ zs.take k) (fun i => zs.length - (intOf i).toNat)
  case atStart => exact ⟨0, Nat.zero_le _, rfl, by simp⟩
  case round =>
    obtain ⟨k, hk, rfl, hx⟩ := hrel
    have HX := hid hx; clear hx
    by_cases hlt : k < zs.length
    · obtain ⟨b', o, rfl, hc⟩ := HR.out k hlt
      have HS := hid (mem_take_succ zs k hlt)
      have HM := hid (List.getElem_mem hlt)
      generalize zs[k] = y at *
      by_cases he : y = x
      · subst he
        have hb : (y == y) = true := by simp
        go_wp2
        go_ret
        exact ⟨ret_bool (by rw [← HB.out]; simpa using HM.out), rfl⟩
      · have hb : (y == x) = false := by simpa using he
        have HE := hid he; clear he
        go_wp2
        go_round
        case rel => exact ⟨k + 1, by omega, by go_num, by rw [HS.out]; exact fun h => h.elim HX.out fun h => HE.out h.symm⟩
        case measure => simp [intOf]; omega
    · go_wp2
      go_ret
      refine ⟨ret_bool ?_, rfl⟩
      have := HX.out
      rw [List.take_of_length_le (by omega)] at this
      rw [← HB.out]; simpa using this
def IdxP (zs : List Int) (x : Int) (w : World) (e : Ending) (w' : World) : Prop := ∃ i : Int, e = .returned (.int .i64 i) ∧ decide (0 ≤ i) = decide (x ∈ zs) ∧ w = w'
set_option maxHeartbeats 1000000 in
theorem index_any (a : Option Addr) (zs : List Int) (c : Nat) (x : Int) (w : World) (hr : Rd (Value.int .i64) w a zs) (hn : zs.length ≤ 16777216) :
    Calls Tryd.prog 66 #[.slice a zs.length c, .int .i64 x] w (IdxP zs x w) := by
  have HR := hid hr; clear hr
  go_enter Tryd.func66, Tryd.ntmps66
  go_wp2
  go_loop [5, 8] (fun _ i => ∃ k : Nat, k ≤ zs.length ∧ i = .int .i64 k ∧ x ∉ zs.take k) (fun _ i => zs.length - (intOf i).toNat)
  case atStart => exact ⟨0, Nat.zero_le _, rfl, by simp⟩
  case round =>
    obtain ⟨k, hk, rfl, hx⟩ := hrel
    have HX := hid hx; clear hx
    by_cases hlt : k < zs.length
    · obtain ⟨b', o, rfl, hc⟩ := HR.out k hlt
      have HS := hid (mem_take_succ zs k hlt)
      have HM := hid (List.getElem_mem hlt)
      generalize zs[k] = y at *
      by_cases he : x = y
      · subst he
        have hb : (x == x) = true := by simp
        go_wp2
        go_ret
        exact ⟨k, rfl, by simp [HM.out], rfl⟩
      · have hb : (x == y) = false := by simpa using he
        have HE := hid he; clear he
        go_wp2
        go_round
        case rel => exact ⟨k + 1, by omega, by go_num, by rw [HS.out]; exact fun h => h.elim HX.out fun h => HE.out h⟩
        case measure => simp [intOf]; omega
    · go_wp2
      go_ret
      refine ⟨-1, rfl, ?_, rfl⟩
      have := HX.out
      rw [List.take_of_length_le (by omega)] at this
      simp [this]
set_option maxHeartbeats 1000000 in
theorem contains_b (a : Option Addr) (zs : List Int) (c : Nat) (x : Int) (w : World) (b : Bool) (hb : decide (x ∈ zs) = b) (hr : Rd (Value.int .i64) w a zs) (hn : zs.length ≤ 16777216) :
    Calls Tryd.prog 51 #[.slice a zs.length c, .int .i64 x] w fun e w' => e = .returned (.bool b) ∧ w = w' := by
  have HB := hid hb; clear hb
  have HR := hid hr; clear hr
  go_enter Tryd.func51, Tryd.ntmps51
  go_wp2_with fail
  refine (index_any a zs c x _ HR.out hn).mono ?_
  rintro e w2 ⟨i, rfl, hx, rfl⟩
  have HX := hid hx; clear hx
  go_wp2
  go_ret
  exact ⟨ret_bool (by rw [← HB.out, ← HX.out]), rfl⟩

set_option maxHeartbeats 2000000 in
theorem l1Set_b (a : Option Addr) (zs : List Int) (c : Nat) (n : Int) (w : World) (b : Bool) (hb : decide (Inc n zs) = b) (hr : Rd (Value.int .i64) w a zs) (hn : zs.length ≤ 16777216) (h0 : 0 ≤ n) (h1 : n ≤ 16777216) :
    Calls Tryd.prog 45 #[.slice a zs.length c, .int .i64 n] w fun e w' => e = .returned (.bool b) ∧ Drawn w w' := by
  have HR := hid hr; have HB := hid hb; clear hr hb
  by_cases hl : n < zs.length
  · go_enter Tryd.func45, Tryd.ntmps45
    go_wp2
    go_ret
    refine ⟨ret_bool ?_, Drawn.refl _⟩
    rw [← HB.out]; symm; rw [decide_eq_false_iff_not]
    intro h; have := inc_length h h0; omega
  · go_enter Tryd.func45, Tryd.ntmps45
    go_wp2
    go_loopw [5] (fun i wr => ∃ k : Nat, k ≤ zs.length ∧ i = .int .i64 k ∧ Inc n (zs.take k) ∧ Drawn w wr) (fun i _ => zs.length - (intOf i).toNat)
    case atStart => exact ⟨0, Nat.zero_le _, rfl, inc_nil _, Drawn.refl _⟩
    case round =>
      obtain ⟨k, hk, rfl, hx, hd⟩ := hrel
      have HX := hid hx; have HD := hid hd; clear hx hd
      by_cases hlt : k < zs.length
      · obtain ⟨b', o, rfl, hc⟩ := HR.out.drawn HD.out k hlt
        have hi1 : (k : Int) < (zs.length : Int) := by omega
        have HS := hid (fun h => inc_take_succ n zs k hlt HX.out h)
        have HG := hid (fun h : Inc n zs => inc_get h k hlt)
        by_cases hin : 0 ≤ zs[k] ∧ zs[k] < n
        · have hbl : decide (0 ≤ zs[k] ∧ zs[k] ≤ n - 1) = true := by rw [decide_eq_true_iff]; omega
          have HI := hid hin; clear hin
          have HBL := hid hbl; clear hbl
          rcases Nat.eq_zero_or_pos k with h0k | h0k
          · have hd0 : decide (0 < k) = false := by rw [decide_eq_false_iff_not]; omega
            have HK0 := hid h0k; clear h0k
            generalize zs[k] = y at *
            go_wp2
            have hwr : IntKind.i64.wrap (n - 1) = n - 1 := IntWalk.i64_in _ (by omega)
            go_quiet ((go_at_call 40; exact qs (l1In_b _ _ _ _ _ HBL.out)))
            go_wp2
            go_roundw
            case rel => exact ⟨k + 1, by omega, by go_num, HS.out HI.out (fun h => absurd h (by have := HK0.out; omega)), HD.out.n _⟩
            case measure => simp [intOf]; omega
          · obtain ⟨j, rfl⟩ : ∃ j, k = j + 1 := ⟨k - 1, by omega⟩
            obtain ⟨b2, o2, hbo, hc2⟩ := HR.out.drawn HD.out j (by omega)
            obtain ⟨rfl, rfl⟩ : b2 = b' ∧ o2 = o := by simp at hbo; exact ⟨hbo.1.symm, hbo.2.symm⟩
            clear hbo
            have hi2 : (j : Int) < (zs.length : Int) := by omega
            have hd1 : decide ((0 : Int) < (j : Int) + 1) = true := by rw [decide_eq_true_iff]; omega
            have HG2 := hid (fun h : Inc n zs => inc_lt h j (j + 1) hlt (by omega))
            have HS2 := hid (fun h : zs[j] < zs[j + 1] => HS.out HI.out (fun _ => h))
            clear HS
            generalize zs[j + 1] = y at *
            generalize zs[j]'(by omega) = z at *
            by_cases hyz : z < y
            · have hle : decide (y ≤ z) = false := by simp; omega
              go_wp2
              go_quiet ((go_at_call 40; exact qs (l1In_b _ _ _ _ _ HBL.out)))
              go_wp2
              go_roundw
              case rel => exact ⟨j + 1 + 1, by omega, by go_num, HS2.out hyz, HD.out.n _⟩
              case measure => simp [intOf]; omega
            · have hle : decide (y ≤ z) = true := by simp; omega
              have HYZ := hid (show y ≤ z by omega); clear hyz
              go_wp2
              go_quiet ((go_at_call 40; exact qs (l1In_b _ _ _ _ _ HBL.out)))
              go_wp2
              go_ret
              refine ⟨ret_bool ?_, HD.out.n _⟩
              rw [← HB.out]; symm; rw [decide_eq_false_iff_not]
              exact fun h => by have := HG2.out h; have := HYZ.out; omega
        · have hbl : decide (0 ≤ zs[k] ∧ zs[k] ≤ n - 1) = false := by rw [decide_eq_false_iff_not]; omega
          have HI := hid hin; clear hin
          generalize zs[k] = y at *
          have HBL := hid hbl; clear hbl
          go_wp2
          go_quiet ((go_at_call 40; exact qs (l1In_b _ _ _ _ _ HBL.out)))
          go_wp2
          go_ret
          refine ⟨ret_bool ?_, HD.out.n _⟩
          rw [← HB.out]; symm; rw [decide_eq_false_iff_not]
          exact fun h => HI.out (HG.out h)
      · go_wp2
        go_ret
        refine ⟨ret_bool ?_, HD.out⟩
        have := HX.out
        rw [List.take_of_length_le (by omega)] at this
        rw [← HB.out]; simpa using this

set_option maxHeartbeats 2000000 in
theorem increasing_b (a : Option Addr) (zs : List Int) (c : Nat) (n : Int) (w : World) (b : Bool) (hb : decide (Inc n zs) = b) (hr : Rd (Value.int .i64) w a zs) (hn : zs.length ≤ 16777216) (h0 : 0 ≤ n) (h1 : n ≤ 16777216) :
    Calls Tryd.prog 50 #[.slice a zs.length c, .int .i64 n] w fun e w' => e = .returned (.bool b) ∧ w = w' := by
  have HR := hid hr; have HB := hid hb; clear hr hb
  go_enter Tryd.func50, Tryd.ntmps50
  go_wp2
  go_loop [5, 6, 9] (fun _ _ i => ∃ k : Nat, k ≤ zs.length ∧ i = .int .i64 k ∧ Inc n (zs.take k)) (fun _ _ i => zs.length - (intOf i).toNat)
  case atStart => exact ⟨0, Nat.zero_le _, rfl, inc_nil _⟩
  case round =>
    obtain ⟨k, hk, rfl, hx⟩ := hrel
    have HX := hid hx; clear hx
    by_cases hlt : k < zs.length
    · obtain ⟨b', o, rfl, hc⟩ := HR.out k hlt
      have HS := hid (fun h => inc_take_succ n zs k hlt HX.out h)
      have HG := hid (fun h : Inc n zs => inc_get h k hlt)
      by_cases hin : 0 ≤ zs[k] ∧ zs[k] < n
      · have hbl : decide (0 ≤ zs[k] ∧ zs[k] ≤ n - 1) = true := by rw [decide_eq_true_iff]; omega
        have HI := hid hin; clear hin
        have HBL := hid hbl; clear hbl
        rcases Nat.eq_zero_or_pos k with h0k | h0k
        · have hd0 : decide (0 < k) = false := by rw [decide_eq_false_iff_not]; omega
          have HK0 := hid h0k; clear h0k
          generalize zs[k] = y at *
          go_wp2_with (go_at_call 33; refine (inRange_b _ _ _ _ _ HBL.out).mono ?_; rintro e w' ⟨rfl, rfl⟩)
          go_round
          case rel => exact ⟨k + 1, by omega, by go_num, HS.out HI.out (fun h => absurd h (by have := HK0.out; omega))⟩
          case measure => simp [intOf]; omega
        · obtain ⟨j, rfl⟩ : ∃ j, k = j + 1 := ⟨k - 1, by omega⟩
          obtain ⟨b2, o2, hbo, hc2⟩ := HR.out j (by omega)
          obtain ⟨rfl, rfl⟩ : b2 = b' ∧ o2 = o := by simp at hbo; exact ⟨hbo.1.symm, hbo.2.symm⟩
          clear hbo
          have hd1 : decide ((0 : Int) < (j : Int) + 1) = true := by rw [decide_eq_true_iff]; omega
          have HG2 := hid (fun h : Inc n zs => inc_lt h j (j + 1) hlt (by omega))
          have HS2 := hid (fun h : zs[j] < zs[j + 1] => HS.out HI.out (fun _ => h))
          clear HS
          generalize zs[j + 1] = y at *
          generalize zs[j]'(by omega) = z at *
          by_cases hyz : z < y
          · have hle : decide (y ≤ z) = false := by simp; omega
            go_wp2_with (go_at_call 33; refine (inRange_b _ _ _ _ _ HBL.out).mono ?_; rintro e w' ⟨rfl, rfl⟩)
            go_round
            case rel => exact ⟨j + 1 + 1, by omega, by go_num, HS2.out hyz⟩
            case measure => simp [intOf]; omega
          · have hle : decide (y ≤ z) = true := by simp; omega
            have HYZ := hid (show y ≤ z by omega); clear hyz
            go_wp2_with (go_at_call 33; refine (inRange_b _ _ _ _ _ HBL.out).mono ?_; rintro e w' ⟨rfl, rfl⟩)
            go_ret
            refine ⟨ret_bool ?_, rfl⟩
            rw [← HB.out]; symm; rw [decide_eq_false_iff_not]
            exact fun h => by have := HG2.out h; have := HYZ.out; omega
      · have hbl : decide (0 ≤ zs[k] ∧ zs[k] ≤ n - 1) = false := by rw [decide_eq_false_iff_not]; omega
        have HI := hid hin; clear hin
        generalize zs[k] = y at *
        have HBL := hid hbl; clear hbl
        go_wp2_with (go_at_call 33; refine (inRange_b _ _ _ _ _ HBL.out).mono ?_; rintro e w' ⟨rfl, rfl⟩)
        go_ret
        refine ⟨ret_bool ?_, rfl⟩
        rw [← HB.out]; symm; rw [decide_eq_false_iff_not]
        exact fun h => HI.out (HG.out h)
    · go_wp2
      go_ret
      refine ⟨ret_bool ?_, rfl⟩
      have := HX.out
      rw [List.take_of_length_le (by omega)] at this
      rw [← HB.out]; simpa using this
end Go.Proofs.YtccohcdgcpcbjaaDoor
