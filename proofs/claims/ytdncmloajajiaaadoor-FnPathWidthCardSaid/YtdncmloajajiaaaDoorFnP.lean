/- Readers of the laws on dice: w9Has, likeInts. -/
import Derived.Test.YtdncmloajajiaaaDoorGrOf
import Derived.Test.YtdncmloajajiaaaDoorEdges
import Derived.Test.YtdncmloajajiaaaDoorGOk
namespace Go.Proofs.YtdncmloajajiaaaDoor
open Go.RowKit
section
set_option maxHeartbeats 1000000 in
theorem w9Has_b (a : Option Addr) (zs : List Int) (c : Nat) (x : Int) (w : World) (b : Bool) (hb : decide (x ∈ zs) = b) (hr : Rd (Value.int .i64) w a zs) (hn : zs.length ≤ 16777216) :
    Calls Tryd.prog 14 #[.slice a zs.length c, .int .i64 x] w fun e w' => e = .returned (.bool b) ∧ w = w' := by
  have HR := hid hr; have HB := hid hb; clear hr hb
  go_enter Tryd.func14, Tryd.ntmps14
  go_wp2
  go_loop [5] (fun i => ∃ k : Nat, k ≤ zs.length ∧ i = .int .i64 k ∧ x ∉ zs.take k) (fun i => zs.length - (intOf i).toNat)
  case atStart => exact ⟨0, Nat.zero_le _, rfl, by simp⟩
  case round =>
    obtain ⟨k, hk, rfl, hx⟩ := hrel
    have HX := hid hx; clear hx
    by_cases hlt : k < zs.length
    · obtain ⟨b', o, rfl, hc⟩ := HR.out k hlt
      have HS := hid (mem_take_succ zs k hlt)
      have HM := hid (List.getElem_mem hlt)
      generalize zs[k] = y at *
      by_cases he : y = x
      · subst he
        have hb : (y == y) = true := by simp
        go_wp2
        go_ret
        exact ⟨ret_bool (by rw [← HB.out]; simpa using HM.out), rfl⟩
      · have hb : (y == x) = false := by simpa using he
        have HE := hid he; clear he
        go_wp2
        go_round
        case rel => exact ⟨k + 1, by omega, by go_num, by rw [HS.out]; exact fun h => h.elim HX.out fun h => HE.out h.symm⟩
        case measure => simp [intOf]; omega
    · go_wp2
      go_ret
      refine ⟨ret_bool ?_, rfl⟩
      have := HX.out
      rw [List.take_of_length_le (by omega)] at this
      rw [← HB.out]; simpa using this
set_option maxHeartbeats 1000000 in
theorem likeInts_any (a a' : Option Addr) (zs ys : List Int) (c c' : Nat) (w : World) (hr : Rd (Value.int .i64) w a zs) (hr' : Rd (Value.int .i64) w a' ys) (hn : zs.length ≤ 16777216) (hn' : ys.length ≤ 16777216) :
    Calls Tryd.prog 19 #[.slice a zs.length c, .slice a' ys.length c'] w fun e w' => e = .returned (.bool (decide (zs = ys))) ∧ Drawn w w' := by
  have HR := hid hr; have HR' := hid hr'; clear hr hr'
  by_cases hl : zs.length = ys.length
  · have hl1 : ((zs.length : Int) != (ys.length : Int)) = false := by simp [hl]
    have HL := hid hl; clear hl
    go_enter Tryd.func19, Tryd.ntmps19
    go_wp2
    go_loopw [5] (fun i wr => ∃ k : Nat, k ≤ zs.length ∧ i = .int .i64 k ∧ zs.take k = ys.take k ∧ Drawn w wr) (fun i _ => zs.length - (intOf i).toNat)
    case atStart => exact ⟨0, Nat.zero_le _, rfl, rfl, Drawn.refl _⟩
    case round =>
      obtain ⟨k, hk, rfl, ht, hd⟩ := hrel
      have HD := hid hd; clear hd
      have HT := hid ht; clear ht
      by_cases hlt : k < zs.length
      · have hlt' : k < ys.length := by have := HL.out; omega
        obtain ⟨b, o, rfl, hc⟩ := HR.out.drawn HD.out k hlt
        obtain ⟨b', o', rfl, hc'⟩ := HR'.out.drawn HD.out k hlt'
        have hi1 : (k : Int) < (zs.length : Int) := by omega
        have hi2 : (k : Int) < (ys.length : Int) := by omega
        have HS := hid (List.take_succ_eq_append_getElem hlt); have HS' := hid (List.take_succ_eq_append_getElem hlt')
        have HG := hid (fun h : zs = ys => (by subst h; rfl : zs[k] = ys[k]))
        generalize zs[k] = x at *
        generalize ys[k] = y at *
        by_cases he : x = y
        · subst he
          have hb : (x != x) = false := by simp
          go_wp2
          go_quiet (fail)
          go_wp2
          go_roundw
          case rel => exact ⟨k + 1, by omega, by go_num, by rw [HS.out, HS'.out, HT.out], HD.out.n _⟩
          case measure => simp [intOf]; omega
        · have hb : (x != y) = true := by simpa using he
          have HE := hid he; clear he
          go_wp2
          go_quiet (fail)
          go_wp2
          go_ret
          exact ⟨ret_bool (by symm; rw [decide_eq_false_iff_not]; exact fun h => HE.out (HG.out h)), HD.out.n _⟩
      · go_wp2
        go_ret
        refine ⟨ret_bool (by symm; rw [decide_eq_true_iff]; have := HT.out; rwa [List.take_of_length_le (by omega), List.take_of_length_le (by have := HL.out; omega)] at this), HD.out⟩
  · have hl1 : ((zs.length : Int) != (ys.length : Int)) = true := by simp only [bne_iff_ne, ne_eq]; omega
    have HL := hid hl; clear hl
    go_enter Tryd.func19, Tryd.ntmps19
    go_wp2
    go_ret
    exact ⟨ret_bool (by symm; rw [decide_eq_false_iff_not]; exact fun h => HL.out (by rw [h])), Drawn.refl _⟩

theorem likeInts_b (a a' : Option Addr) (zs ys : List Int) (c c' : Nat) (w : World) (b : Bool) (hb : decide (zs = ys) = b) (hr : Rd (Value.int .i64) w a zs) (hr' : Rd (Value.int .i64) w a' ys) (hn : zs.length ≤ 16777216) (hn' : ys.length ≤ 16777216) :
    Calls Tryd.prog 19 #[.slice a zs.length c, .slice a' ys.length c'] w fun e w' => e = .returned (.bool b) ∧ Drawn w w' := by
  subst hb; exact likeInts_any a a' zs ys c c' w hr hr' hn hn'
end
end Go.Proofs.YtdncmloajajiaaaDoor
