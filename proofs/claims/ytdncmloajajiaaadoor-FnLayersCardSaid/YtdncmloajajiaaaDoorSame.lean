/- Lists and graphs are compared: the reference's l1Same, l1SameGraph, SameGraph, the library's Equal, EqualFunc, the program's SameGraph. -/
import Derived.Test.YtdncmloajajiaaaDoorSetOk
import Derived.Test.YtdncmloajajiaaaDoorBag
import Derived.Test.YtdncmloajajiaaaDoorMem3
namespace Go.Proofs.YtdncmloajajiaaaDoor
open Go.RowKit

set_option maxHeartbeats 1000000 in
theorem l1Same_any (a a' : Option Addr) (zs ys : List Int) (c c' : Nat) (w : World) (hr : Rd (Value.int .i64) w a zs) (hr' : Rd (Value.int .i64) w a' ys) (hn : zs.length ≤ 16777216) (hn' : ys.length ≤ 16777216) :
    Calls Tryd.prog 93 #[.slice a zs.length c, .slice a' ys.length c'] w fun e w' => e = .returned (.bool (decide (zs = ys))) ∧ Drawn w w' := by
  have HR := hid hr; have HR' := hid hr'; clear hr hr'
  by_cases hl : zs.length = ys.length
  · have hl1 : ((zs.length : Int) != (ys.length : Int)) = false := by simp [hl]
    have HL := hid hl; clear hl
    go_enter Tryd.func93, Tryd.ntmps93
    go_wp2
    go_loopw [5] (fun i wr => ∃ k : Nat, k ≤ zs.length ∧ i = .int .i64 k ∧ zs.take k = ys.take k ∧ Drawn w wr) (fun i _ => zs.length - (intOf i).toNat)
    case atStart => exact ⟨0, Nat.zero_le _, rfl, rfl, Drawn.refl _⟩
    case round =>
      obtain ⟨k, hk, rfl, ht, hd⟩ := hrel
      have HD := hid hd; clear hd
      have HT := hid ht; clear ht
      by_cases hlt : k < zs.length
      · have hlt' : k < ys.length := by have := HL.out; omega
        obtain ⟨b, o, rfl, hc⟩ := HR.out.drawn HD.out k hlt
        obtain ⟨b', o', rfl, hc'⟩ := HR'.out.drawn HD.out k hlt'
        have hi1 : (k : Int) < (zs.length : Int) := by omega
        have hi2 : (k : Int) < (ys.length : Int) := by omega
        have HS := hid (List.take_succ_eq_append_getElem hlt); have HS' := hid (List.take_succ_eq_append_getElem hlt')
        have HG := hid (fun h : zs = ys => (by subst h; rfl : zs[k] = ys[k]))
        generalize zs[k] = x at *
        generalize ys[k] = y at *
        by_cases he : x = y
        · subst he
          have hb : (x != x) = false := by simp
          go_wp2
          go_quiet (fail)
          go_wp2
          go_roundw
          case rel => exact ⟨k + 1, by omega, by go_num, by rw [HS.out, HS'.out, HT.out], HD.out.n _⟩
          case measure => simp [intOf]; omega
        · have hb : (x != y) = true := by simpa using he
          have HE := hid he; clear he
          go_wp2
          go_quiet (fail)
          go_wp2
          go_ret
          exact ⟨ret_bool (by symm; rw [decide_eq_false_iff_not]; exact fun h => HE.out (HG.out h)), HD.out.n _⟩
      · go_wp2
        go_ret
        refine ⟨ret_bool (by symm; rw [decide_eq_true_iff]; have := HT.out; rwa [List.take_of_length_le (by omega), List.take_of_length_le (by have := HL.out; omega)] at this), HD.out⟩
  · have hl1 : ((zs.length : Int) != (ys.length : Int)) = true := by simp only [bne_iff_ne, ne_eq]; omega
    have HL := hid hl; clear hl
    go_enter Tryd.func93, Tryd.ntmps93
    go_wp2
    go_ret
    exact ⟨ret_bool (by symm; rw [decide_eq_false_iff_not]; exact fun h => HL.out (by rw [h])), Drawn.refl _⟩

theorem l1Same_b (a a' : Option Addr) (zs ys : List Int) (c c' : Nat) (w : World) (b : Bool) (hb : decide (zs = ys) = b) (hr : Rd (Value.int .i64) w a zs) (hr' : Rd (Value.int .i64) w a' ys) (hn : zs.length ≤ 16777216) (hn' : ys.length ≤ 16777216) :
    Calls Tryd.prog 93 #[.slice a zs.length c, .slice a' ys.length c'] w fun e w' => e = .returned (.bool b) ∧ Drawn w w' := by
  subst hb; exact l1Same_any _ _ _ _ _ _ _ hr hr' hn hn'
theorem nums_at {rs : List Row} {qs : List Row} (h : nums rs = nums qs) : rs.length = qs.length := by simpa [nums] using congrArg List.length h
def SameP (g g' : List (List Int)) : Prop := GOk g ∧ GOk g' ∧ g = g'
noncomputable instance (g g' : List (List Int)) : Decidable (SameP g g') := Classical.propDecidable _
end Go.Proofs.YtdncmloajajiaaaDoor
