/- The law package's own helpers: two lists, two slices of rows are compared. -/
import Derived.Test.YtggjmnihnjdoaaaDoorBase
namespace Go.Proofs.YtggjmnihnjdoaaaDoor
open Go.RowKit

set_option maxHeartbeats 1000000 in
theorem eq1_any (a a' : Option Addr) (zs ys : List Int) (c c' : Nat) (w : World) (hr : Rd (Value.int .i64) w a zs) (hr' : Rd (Value.int .i64) w a' ys) (hn : zs.length ≤ 16777216) (hn' : ys.length ≤ 16777216) :
    Calls Tryd.prog 35 #[.slice a zs.length c, .slice a' ys.length c'] w fun e w' => e = .returned (.bool (decide (zs = ys))) ∧ Drawn w w' := by
  have HR := hid hr; have HR' := hid hr'; clear hr hr'
  by_cases hl : zs.length = ys.length
  · have hl1 : ((zs.length : Int) != (ys.length : Int)) = false := by simp [hl]
    have HL := hid hl; clear hl
    go_enter Tryd.func35, Tryd.ntmps35
    go_wp2
    go_loopw [5] (fun i wr => ∃ k : Nat, k ≤ zs.length ∧ i = .int .i64 k ∧ zs.take k = ys.take k ∧ Drawn w wr) (fun i _ => zs.length - (intOf i).toNat)
    case atStart => exact ⟨0, Nat.zero_le _, rfl, rfl, Drawn.refl _⟩
    case round =>
      obtain ⟨k, hk, rfl, ht, hd⟩ := hrel
      have HD := hid hd; clear hd
      have HT := hid ht; clear ht
      by_cases hlt : k < zs.length
      · have hlt' : k < ys.length := by have := HL.out; omega
        obtain ⟨b, o, rfl, hc⟩ := HR.out.drawn HD.out k hlt
        obtain ⟨b', o', rfl, hc'⟩ := HR'.out.drawn HD.out k hlt'
        have hi1 : (k : Int) < (zs.length : Int) := by omega
        have hi2 : (k : Int) < (ys.length : Int) := by omega
        have HS := hid (List.take_succ_eq_append_getElem hlt); have HS' := hid (List.take_succ_eq_append_getElem hlt')
        have HG := hid (fun h : zs = ys => (by subst h; rfl : zs[k] = ys[k]))
        generalize zs[k] = x at *
        generalize ys[k] = y at *
        by_cases he : x = y
        · subst he
          have hb : (x != x) = false := by simp
          go_wp2
          go_quiet (fail)
          go_wp2
          go_roundw
          case rel => exact ⟨k + 1, by omega, by go_num, by rw [HS.out, HS'.out, HT.out], HD.out.n _⟩
          case measure => simp [intOf]; omega
        · have hb : (x != y) = true := by simpa using he
          have HE := hid he; clear he
          go_wp2
          go_quiet (fail)
          go_wp2
          go_ret
          exact ⟨ret_bool (by symm; rw [decide_eq_false_iff_not]; exact fun h => HE.out (HG.out h)), HD.out.n _⟩
      · go_wp2
        go_ret
        refine ⟨ret_bool (by symm; rw [decide_eq_true_iff]; have := HT.out; rwa [List.take_of_length_le (by omega), List.take_of_length_le (by have := HL.out; omega)] at this), HD.out⟩
  · have hl1 : ((zs.length : Int) != (ys.length : Int)) = true := by simp only [bne_iff_ne, ne_eq]; omega
    have HL := hid hl; clear hl
    go_enter Tryd.func35, Tryd.ntmps35
    go_wp2
    go_ret
    exact ⟨ret_bool (by symm; rw [decide_eq_false_iff_not]; exact fun h => HL.out (by rw [h])), Drawn.refl _⟩

theorem eq1_b (a a' : Option Addr) (zs ys : List Int) (c c' : Nat) (w : World) (b : Bool) (hb : decide (zs = ys) = b) (hr : Rd (Value.int .i64) w a zs) (hr' : Rd (Value.int .i64) w a' ys) (hn : zs.length ≤ 16777216) (hn' : ys.length ≤ 16777216) :
    Calls Tryd.prog 35 #[.slice a zs.length c, .slice a' ys.length c'] w fun e w' => e = .returned (.bool b) ∧ Drawn w w' := by
  subst hb; exact eq1_any _ _ _ _ _ _ _ hr hr' hn hn'
theorem nums_take_succ (rs : List Row) (k : Nat) (h : k < rs.length) : nums (rs.take (k + 1)) = nums (rs.take k) ++ [rs[k].z] := by
  rw [List.take_succ_eq_append_getElem h, nums, List.map_append]; rfl
theorem nums_get {rs qs : List Row} (h : nums rs = nums qs) (k : Nat) (h1 : k < rs.length) (h2 : k < qs.length) : rs[k].z = qs[k].z := by
  have e1 : (nums rs)[k]? = some rs[k].z := by simp [nums, List.getElem?_eq_getElem h1]
  have e2 : (nums qs)[k]? = some qs[k].z := by simp [nums, List.getElem?_eq_getElem h2]
  rw [h, e2] at e1
  exact (Option.some.inj e1).symm
set_option maxHeartbeats 1000000 in
theorem eq2_any (a a' : Option Addr) (rs qs : List Row) (c c' : Nat) (w : World) (hr : RdM w a rs) (hr' : RdM w a' qs) (hn : Small rs) (hn' : Small qs) :
    Calls Tryd.prog 21 #[.slice a rs.length c, .slice a' qs.length c'] w fun e w' => e = .returned (.bool (decide (nums rs = nums qs))) ∧ Drawn w w' := by
  have HR := hid hr; have HR' := hid hr'; clear hr hr'
  have HN := hid hn; have HN' := hid hn'
  have hn1 := hn.1; have hn1' := hn'.1; clear hn hn'
  by_cases hl : rs.length = qs.length
  · have hl1 : ((rs.length : Int) != (qs.length : Int)) = false := by simp [hl]
    have HL := hid hl; clear hl
    go_enter Tryd.func21, Tryd.ntmps21
    go_wp2
    go_loopw [5] (fun i wr => ∃ k : Nat, k ≤ rs.length ∧ i = .int .i64 k ∧ nums (rs.take k) = nums (qs.take k) ∧ Drawn w wr) (fun i _ => rs.length - (intOf i).toNat)
    case atStart => exact ⟨0, Nat.zero_le _, rfl, rfl, Drawn.refl _⟩
    case round =>
      obtain ⟨k, hk, rfl, ht, hd⟩ := hrel
      have HD := hid hd; clear hd
      have HT := hid ht; clear ht
      by_cases hlt : k < rs.length
      · have hlt' : k < qs.length := by have := HL.out; omega
        obtain ⟨b, o, rfl, hc, hok⟩ := (HR.out.drawn HD.out).at k hlt
        obtain ⟨b', o', rfl, hc', hok'⟩ := (HR'.out.drawn HD.out).at k hlt'
        have hz := Nat.le_trans (HN.out.2 _ (List.getElem_mem hlt)) (show 1048576 ≤ 16777216 by decide); have hz' := Nat.le_trans (HN'.out.2 _ (List.getElem_mem hlt')) (show 1048576 ≤ 16777216 by decide)
        have hi1 : (k : Int) < (rs.length : Int) := by omega
        have hi2 : (k : Int) < (qs.length : Int) := by omega
        have HK := hid hok; have HK' := hid hok'; clear hok hok'
        have HS := hid (nums_take_succ rs k hlt); have HS' := hid (nums_take_succ qs k hlt')
        have HG := hid (fun h : nums rs = nums qs => nums_get h k hlt hlt')
        generalize rs[k] = x at *
        generalize qs[k] = y at *
        by_cases he : x.z = y.z
        · have hb : decide (x.z = y.z) = true := by simpa using he
          have HE := hid he; clear he
          go_wp2
          go_quiet ((go_at_call 35; exact qd (eq1_b _ _ _ _ _ _ _ _ hb (HK.out.1.drewN _) (HK'.out.1.drewN _) hz hz')))
          go_wp2
          go_roundw
          case rel => exact ⟨k + 1, by omega, by go_num, by rw [HS.out, HS'.out, HT.out, HE.out], HD.out.n _⟩
          case measure => simp [intOf]; omega
        · have hb : decide (x.z = y.z) = false := by simpa using he
          have HE := hid he; clear he
          go_wp2
          go_quiet ((go_at_call 35; exact qd (eq1_b _ _ _ _ _ _ _ _ hb (HK.out.1.drewN _) (HK'.out.1.drewN _) hz hz')))
          go_wp2
          go_ret
          exact ⟨ret_bool (by symm; rw [decide_eq_false_iff_not]; exact fun h => HE.out (HG.out h)), HD.out.n _⟩
      · go_wp2
        go_ret
        refine ⟨ret_bool (by symm; rw [decide_eq_true_iff]; have := HT.out; rwa [List.take_of_length_le (by omega), List.take_of_length_le (by have := HL.out; omega)] at this), HD.out⟩
  · have hl1 : ((rs.length : Int) != (qs.length : Int)) = true := by simp only [bne_iff_ne, ne_eq]; omega
    have HL := hid hl; clear hl
    go_enter Tryd.func21, Tryd.ntmps21
    go_wp2
    go_ret
    exact ⟨ret_bool (by symm; rw [decide_eq_false_iff_not]; exact fun h => HL.out (by have := congrArg List.length h; simpa [nums] using this)), Drawn.refl _⟩
theorem eq2_b (a a' : Option Addr) (rs qs : List Row) (c c' : Nat) (w : World) (b : Bool) (hb : decide (nums rs = nums qs) = b) (hr : RdM w a rs) (hr' : RdM w a' qs) (hn : Small rs) (hn' : Small qs) :
    Calls Tryd.prog 21 #[.slice a rs.length c, .slice a' qs.length c'] w fun e w' => e = .returned (.bool b) ∧ Drawn w w' := by
  subst hb; exact eq2_any _ _ _ _ _ _ _ hr hr' hn hn'
end Go.Proofs.YtggjmnihnjdoaaaDoor
