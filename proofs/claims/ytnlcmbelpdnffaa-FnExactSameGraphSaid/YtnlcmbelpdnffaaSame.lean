/- Lists and graphs are compared: the reference's l1Same, l1SameGraph, SameGraph, the library's Equal, EqualFunc, the program's SameGraph. -/
import Derived.Test.YtnlcmbelpdnffaaSetOk
import Derived.Test.YtnlcmbelpdnffaaFn
import Derived.Test.YtnlcmbelpdnffaaMem2
namespace Go.Proofs.Ytnlcmbelpdnffaa
open Go.RowKit

set_option maxHeartbeats 1000000 in
theorem l1Same_any (a a' : Option Addr) (zs ys : List Int) (c c' : Nat) (w : World) (hr : Rd (Value.int .i64) w a zs) (hr' : Rd (Value.int .i64) w a' ys) (hn : zs.length ≤ 16777216) (hn' : ys.length ≤ 16777216) :
    Calls Try.prog 80 #[.slice a zs.length c, .slice a' ys.length c'] w fun e w' => e = .returned (.bool (decide (zs = ys))) ∧ Drawn w w' := by
  have HR := hid hr; have HR' := hid hr'; clear hr hr'
  by_cases hl : zs.length = ys.length
  · have hl1 : ((zs.length : Int) != (ys.length : Int)) = false := by simp [hl]
    have HL := hid hl; clear hl
    go_enter Try.func80, Try.ntmps80
    go_wp2
    go_loopw [5] (fun i wr => ∃ k : Nat, k ≤ zs.length ∧ i = .int .i64 k ∧ zs.take k = ys.take k ∧ Drawn w wr) (fun i _ => zs.length - (intOf i).toNat)
    case atStart => exact ⟨0, Nat.zero_le _, rfl, rfl, Drawn.refl _⟩
    case round =>
      obtain ⟨k, hk, rfl, ht, hd⟩ := hrel
      have HD := hid hd; clear hd
      have HT := hid ht; clear ht
      by_cases hlt : k < zs.length
      · have hlt' : k < ys.length := by have := HL.out; omega
        obtain ⟨b, o, rfl, hc⟩ := HR.out.drawn HD.out k hlt
        obtain ⟨b', o', rfl, hc'⟩ := HR'.out.drawn HD.out k hlt'
        have hi1 : (k : Int) < (zs.length : Int) := by omega
        have hi2 : (k : Int) < (ys.length : Int) := by omega
        have HS := hid (List.take_succ_eq_append_getElem hlt); have HS' := hid (List.take_succ_eq_append_getElem hlt')
        have HG := hid (fun h : zs = ys => (by subst h; rfl : zs[k] = ys[k]))
        generalize zs[k] = x at *
        generalize ys[k] = y at *
        by_cases he : x = y
        · subst he
          have hb : (x != x) = false := by simp
          go_wp2
          go_quiet (fail)
          go_wp2
          go_roundw
          case rel => exact ⟨k + 1, by omega, by go_num, by rw [HS.out, HS'.out, HT.out], HD.out.n _⟩
          case measure => simp [intOf]; omega
        · have hb : (x != y) = true := by simpa using he
          have HE := hid he; clear he
          go_wp2
          go_quiet (fail)
          go_wp2
          go_ret
          exact ⟨ret_bool (by symm; rw [decide_eq_false_iff_not]; exact fun h => HE.out (HG.out h)), HD.out.n _⟩
      · go_wp2
        go_ret
        refine ⟨ret_bool (by symm; rw [decide_eq_true_iff]; have := HT.out; rwa [List.take_of_length_le (by omega), List.take_of_length_le (by have := HL.out; omega)] at this), HD.out⟩
  · have hl1 : ((zs.length : Int) != (ys.length : Int)) = true := by simp only [bne_iff_ne, ne_eq]; omega
    have HL := hid hl; clear hl
    go_enter Try.func80, Try.ntmps80
    go_wp2
    go_ret
    exact ⟨ret_bool (by symm; rw [decide_eq_false_iff_not]; exact fun h => HL.out (by rw [h])), Drawn.refl _⟩

theorem l1Same_b (a a' : Option Addr) (zs ys : List Int) (c c' : Nat) (w : World) (b : Bool) (hb : decide (zs = ys) = b) (hr : Rd (Value.int .i64) w a zs) (hr' : Rd (Value.int .i64) w a' ys) (hn : zs.length ≤ 16777216) (hn' : ys.length ≤ 16777216) :
    Calls Try.prog 80 #[.slice a zs.length c, .slice a' ys.length c'] w fun e w' => e = .returned (.bool b) ∧ Drawn w w' := by
  subst hb; exact l1Same_any _ _ _ _ _ _ _ hr hr' hn hn'
set_option maxHeartbeats 1000000 in
theorem sEqual_any (a a' : Option Addr) (zs ys : List Int) (c c' : Nat) (w : World) (hr : Rd (Value.int .i64) w a zs) (hr' : Rd (Value.int .i64) w a' ys) (hn : zs.length ≤ 16777216) (hn' : ys.length ≤ 16777216) :
    Calls Try.prog 70 #[.slice a zs.length c, .slice a' ys.length c'] w fun e w' => e = .returned (.bool (decide (zs = ys))) ∧ Drawn w w' := by
  have HR := hid hr; have HR' := hid hr'; clear hr hr'
  by_cases hl : zs.length = ys.length
  · have hl1 : ((zs.length : Int) != (ys.length : Int)) = false := by simp [hl]
    have HL := hid hl; clear hl
    go_enter Try.func70, Try.ntmps70
    go_wp2
    go_loopw [5, 13] (fun _ i wr => ∃ k : Nat, k ≤ zs.length ∧ i = .int .i64 k ∧ zs.take k = ys.take k ∧ Drawn w wr) (fun _ i _ => zs.length - (intOf i).toNat)
    case atStart => exact ⟨0, Nat.zero_le _, rfl, rfl, Drawn.refl _⟩
    case round =>
      obtain ⟨k, hk, rfl, ht, hd⟩ := hrel
      have HD := hid hd; clear hd
      have HT := hid ht; clear ht
      by_cases hlt : k < zs.length
      · have hlt' : k < ys.length := by have := HL.out; omega
        obtain ⟨b, o, rfl, hc⟩ := HR.out.drawn HD.out k hlt
        obtain ⟨b', o', rfl, hc'⟩ := HR'.out.drawn HD.out k hlt'
        have hi1 : (k : Int) < (zs.length : Int) := by omega
        have hi2 : (k : Int) < (ys.length : Int) := by omega
        have HS := hid (List.take_succ_eq_append_getElem hlt); have HS' := hid (List.take_succ_eq_append_getElem hlt')
        have HG := hid (fun h : zs = ys => (by subst h; rfl : zs[k] = ys[k]))
        generalize zs[k] = x at *
        generalize ys[k] = y at *
        by_cases he : x = y
        · subst he
          have hb : (x != x) = false := by simp
          go_wp2
          go_quiet (fail)
          go_wp2
          go_roundw
          case rel => exact ⟨k + 1, by omega, by go_num, by rw [HS.out, HS'.out, HT.out], HD.out.n _⟩
          case measure => simp [intOf]; omega
        · have hb : (x != y) = true := by simpa using he
          have HE := hid he; clear he
          go_wp2
          go_quiet (fail)
          go_wp2
          go_ret
          exact ⟨ret_bool (by symm; rw [decide_eq_false_iff_not]; exact fun h => HE.out (HG.out h)), HD.out.n _⟩
      · go_wp2
        go_ret
        refine ⟨ret_bool (by symm; rw [decide_eq_true_iff]; have := HT.out; rwa [List.take_of_length_le (by omega), List.take_of_length_le (by have := HL.out; omega)] at this), HD.out⟩
  · have hl1 : ((zs.length : Int) != (ys.length : Int)) = true := by simp only [bne_iff_ne, ne_eq]; omega
    have HL := hid hl; clear hl
    go_enter Try.func70, Try.ntmps70
    go_wp2
    go_ret
    exact ⟨ret_bool (by symm; rw [decide_eq_false_iff_not]; exact fun h => HL.out (by rw [h])), Drawn.refl _⟩

theorem sEqual_b (a a' : Option Addr) (zs ys : List Int) (c c' : Nat) (w : World) (b : Bool) (hb : decide (zs = ys) = b) (hr : Rd (Value.int .i64) w a zs) (hr' : Rd (Value.int .i64) w a' ys) (hn : zs.length ≤ 16777216) (hn' : ys.length ≤ 16777216) :
    Calls Try.prog 70 #[.slice a zs.length c, .slice a' ys.length c'] w fun e w' => e = .returned (.bool b) ∧ Drawn w w' := by
  subst hb; exact sEqual_any _ _ _ _ _ _ _ hr hr' hn hn'

theorem nums_at {rs : List Row} {qs : List Row} (h : nums rs = nums qs) : rs.length = qs.length := by simpa [nums] using congrArg List.length h
set_option maxHeartbeats 2000000 in
theorem l1SameGraph_b (a a' : Option Addr) (rs qs : List Row) (c c' : Nat) (w : World) (b : Bool) (hb : decide (nums rs = nums qs) = b) (hr : RdM w a rs) (hr' : RdM w a' qs) (hn : Small rs) (hn' : Small qs) :
    Calls Try.prog 68 #[.agg #[.slice a rs.length c], .agg #[.slice a' qs.length c']] w fun e w' => e = .returned (.bool b) ∧ Below w.heap.size w w' := by
  have HR := hid hr; have HR' := hid hr'; have HB := hid hb; clear hr hr' hb
  have HN := hid hn; have HN' := hid hn'
  have hn1 := hn.1; have hn1' := hn'.1; clear hn hn'
  have B0 := hid ((alloc_below w (.cells #[.slice a rs.length c] 41)).alloc (by simp) (.cells #[.slice a' qs.length c'] 41))
  obtain ⟨w1, hw1⟩ : ∃ w1, w1 = (w.alloc (.cells #[.slice a rs.length c] 41)).alloc (.cells #[.slice a' qs.length c'] 41) := ⟨_, rfl⟩
  have C := hid (show w1.cell? ⟨w.heap.size, 0, none⟩ = some (.slice a rs.length c) ∧ w1.cell? ⟨w.heap.size + 1, 0, none⟩ = some (.slice a' qs.length c') ∧ Below w.heap.size w w1 by
    subst hw1; exact ⟨by simp [go_sem], by simp [go_sem], B0.out⟩)
  have HW := hid hw1; clear hw1 B0
  obtain ⟨hcg, hcg', hB⟩ := C.out
  have B1 := hid hB; clear hB C
  by_cases hl : rs.length = qs.length
  · have hl1 : ((rs.length : Int) != (qs.length : Int)) = false := by simp [hl]
    have HL := hid hl; clear hl
    go_enter Try.func68, Try.ntmps68
    go_wp2_with fail
    rw [← HW.out]
    go_wp2
    go_loopw [5] (fun i wr => ∃ k : Nat, k ≤ rs.length ∧ i = .int .i64 k ∧ nums (rs.take k) = nums (qs.take k) ∧ Drawn w1 wr) (fun i _ => rs.length - (intOf i).toNat)
    case atStart => exact ⟨0, Nat.zero_le _, rfl, rfl, Drawn.refl _⟩
    case round =>
      obtain ⟨k, hk, rfl, ht, hd⟩ := hrel
      have HT := hid ht; have HD := hid hd; clear ht
      have hg1 := dcell hd hcg; have hg2 := dcell hd hcg'; clear hd
      by_cases hlt : k < rs.length
      · have hlt' : k < qs.length := by have := HL.out; omega
        obtain ⟨b2, o, rfl, hc, hok⟩ := ((HR.out.below B1.out (Nat.le_refl _)).drawn HD.out).at k hlt
        obtain ⟨b', o', rfl, hc', hok'⟩ := ((HR'.out.below B1.out (Nat.le_refl _)).drawn HD.out).at k hlt'
        have hz := Nat.le_trans (HN.out.2 _ (List.getElem_mem hlt)) (show 1048576 ≤ 16777216 by decide); have hz' := Nat.le_trans (HN'.out.2 _ (List.getElem_mem hlt')) (show 1048576 ≤ 16777216 by decide)
        have hi1 : (k : Int) < (rs.length : Int) := by omega
        have hi2 : (k : Int) < (qs.length : Int) := by omega
        have HK := hid hok; have HK' := hid hok'; clear hok hok'
        have HS := hid (nums_take_succ rs k hlt); have HS' := hid (nums_take_succ qs k hlt')
        have HG := hid (fun h : nums rs = nums qs => nums_get h k hlt hlt')
        generalize rs[k] = x at *
        generalize qs[k] = y at *
        by_cases he : x.z = y.z
        · have hb : decide (x.z = y.z) = true := by simpa using he
          have HE := hid he; clear he
          go_wp2
          go_quiet ((go_at_call 80; exact qd (l1Same_b _ _ _ _ _ _ _ _ hb (HK.out.1.drewN _) (HK'.out.1.drewN _) hz hz')))
          go_wp2
          go_roundw
          case rel => exact ⟨k + 1, by omega, by go_num, by rw [HS.out, HS'.out, HT.out, HE.out], HD.out.n _⟩
          case measure => simp [intOf]; omega
        · have hb : decide (x.z = y.z) = false := by simpa using he
          have HE := hid he; clear he
          go_wp2
          go_quiet ((go_at_call 80; exact qd (l1Same_b _ _ _ _ _ _ _ _ hb (HK.out.1.drewN _) (HK'.out.1.drewN _) hz hz')))
          go_wp2
          go_ret
          exact ⟨ret_bool (dec_f HB.out fun h => HE.out (HG.out h)), B1.out.trans ((HD.out.n _).below _)⟩
      · go_wp2
        go_ret
        refine ⟨ret_bool (dec_t HB.out ?_), B1.out.trans (HD.out.below _)⟩
        have := HT.out
        rwa [List.take_of_length_le (by omega), List.take_of_length_le (by have := HL.out; omega)] at this
  · have hl1 : ((rs.length : Int) != (qs.length : Int)) = true := by simp only [bne_iff_ne, ne_eq]; omega
    have HL := hid hl; clear hl
    go_enter Try.func68, Try.ntmps68
    go_wp2_with fail
    rw [← HW.out]
    go_wp2
    go_ret
    exact ⟨ret_bool (dec_f HB.out fun h => HL.out (nums_at h)), B1.out⟩
def SameP (g g' : List (List Int)) : Prop := GOk g ∧ GOk g' ∧ g = g'
noncomputable instance (g g' : List (List Int)) : Decidable (SameP g g') := Classical.propDecidable _
set_option maxHeartbeats 2000000 in
theorem equalFunc_b (a a' : Option Addr) (rs qs : List Row) (c c' : Nat) (w : World) (b : Bool) (hb : decide (nums rs = nums qs) = b) (hr : RdM w a rs) (hr' : RdM w a' qs) (hn : Small rs) (hn' : Small qs) :
    Calls Try.prog 69 #[.slice a rs.length c, .slice a' qs.length c', .func (.func 70) #[] #[]] w fun e w' => e = .returned (.bool b) ∧ Drawn w w' := by
  have HR := hid hr; have HR' := hid hr'; have HB := hid hb; clear hr hr' hb
  have HN := hid hn; have HN' := hid hn'
  have hn1 := hn.1; have hn1' := hn'.1; clear hn hn'
  by_cases hl : rs.length = qs.length
  · have hl1 : ((rs.length : Int) != (qs.length : Int)) = false := by simp [hl]
    have HL := hid hl; clear hl
    go_enter Try.func69, Try.ntmps69
    go_wp2
    go_loopw [7, 8, 9, 17] (fun _ _ _ i wr => ∃ k : Nat, k ≤ rs.length ∧ i = .int .i64 k ∧ nums (rs.take k) = nums (qs.take k) ∧ Drawn w wr) (fun _ _ _ i _ => rs.length - (intOf i).toNat)
    case atStart => exact ⟨0, Nat.zero_le _, rfl, rfl, Drawn.refl _⟩
    case round =>
      obtain ⟨k, hk, rfl, ht, hd⟩ := hrel
      have HT := hid ht; have HD := hid hd; clear ht hd
      by_cases hlt : k < rs.length
      · have hlt' : k < qs.length := by have := HL.out; omega
        obtain ⟨b2, o, rfl, hc, hok⟩ := (HR.out.drawn HD.out).at k hlt
        obtain ⟨b', o', rfl, hc', hok'⟩ := (HR'.out.drawn HD.out).at k hlt'
        have hz := Nat.le_trans (HN.out.2 _ (List.getElem_mem hlt)) (show 1048576 ≤ 16777216 by decide); have hz' := Nat.le_trans (HN'.out.2 _ (List.getElem_mem hlt')) (show 1048576 ≤ 16777216 by decide)
        have hi1 : (k : Int) < (rs.length : Int) := by omega
        have hi2 : (k : Int) < (qs.length : Int) := by omega
        have HK := hid hok; have HK' := hid hok'; clear hok hok'
        have HS := hid (nums_take_succ rs k hlt); have HS' := hid (nums_take_succ qs k hlt')
        have HG := hid (fun h : nums rs = nums qs => nums_get h k hlt hlt')
        generalize rs[k] = x at *
        generalize qs[k] = y at *
        obtain ⟨b3, hb3⟩ : ∃ b3, decide (x.z = y.z) = b3 := ⟨_, rfl⟩
        have HB3 := hid hb3; clear hb3
        go_wp2_with fail
        refine (sEqual_b _ _ _ _ _ _ _ b3 HB3.out HK.out.1 HK'.out.1 hz hz').mono ?_
        rintro e w2 ⟨rfl, hd2⟩
        have HD2 := hid (HD.out.trans hd2); clear hd2
        cases b3
        · go_wp2
          go_ret
          exact ⟨ret_bool (dec_f HB.out fun h => (by have := HB3.out; simp at this; exact this (HG.out h))), HD2.out⟩
        · go_wp2
          go_roundw
          case rel => exact ⟨k + 1, by omega, by go_num, by rw [HS.out, HS'.out, HT.out, of_decide_eq_true HB3.out], HD2.out⟩
          case measure => simp [intOf]; omega
      · go_wp2
        go_ret
        refine ⟨ret_bool (dec_t HB.out ?_), HD.out⟩
        have := HT.out
        rwa [List.take_of_length_le (by omega), List.take_of_length_le (by have := HL.out; omega)] at this
  · have hl1 : ((rs.length : Int) != (qs.length : Int)) = true := by simp only [bne_iff_ne, ne_eq]; omega
    have HL := hid hl; clear hl
    go_enter Try.func69, Try.ntmps69
    go_wp2
    go_ret
    exact ⟨ret_bool (dec_f HB.out fun h => HL.out (nums_at h)), Drawn.refl _⟩
set_option maxHeartbeats 2000000 in
theorem specSameGraph_b (a : Option Addr) (rs : List Row) (c : Nat) (a' : Option Addr) (qs : List Row) (c' : Nat) (w : World) (b : Bool) (hb : decide (SameP (nums rs) (nums qs)) = b) (hr : RdM w a rs) (hn : Small rs) (hr' : RdM w a' qs) (hn' : Small qs) :
    Calls Try.prog 41 #[.agg #[.slice a rs.length c], .agg #[.slice a' qs.length c']] w fun e w' => e = .returned (.bool b) ∧ Below w.heap.size w w' := by
  have HR := hid hr; have HR' := hid hr'; have HB := hid hb; clear hr hr' hb
  have B0 := hid ((alloc_below w (.cells #[.slice a rs.length c] 41)).alloc (by simp) (.cells #[.slice a' qs.length c'] 41))
  obtain ⟨w1, hw1⟩ : ∃ w1, w1 = (w.alloc (.cells #[.slice a rs.length c] 41)).alloc (.cells #[.slice a' qs.length c'] 41) := ⟨_, rfl⟩
  have C := hid (show w1.cell? ⟨w.heap.size, 0, none⟩ = some (.slice a rs.length c) ∧ w1.cell? ⟨w.heap.size + 1, 0, none⟩ = some (.slice a' qs.length c') ∧ Below w.heap.size w w1 by
    subst hw1; exact ⟨by simp [go_sem], by simp [go_sem], B0.out⟩)
  have HW := hid hw1; clear hw1 B0
  obtain ⟨hcg, hcg', hB⟩ := C.out
  have B1 := hid hB; clear hB C
  obtain ⟨b1, hb1⟩ : ∃ b1, decide (GOk (nums rs)) = b1 := ⟨_, rfl⟩
  obtain ⟨b2, hb2⟩ : ∃ b2, decide (GOk (nums qs)) = b2 := ⟨_, rfl⟩
  have H1 := hid hb1; have H2 := hid hb2; clear hb1 hb2
  go_enter Try.func41, Try.ntmps41
  go_wp2_with fail
  rw [← HW.out]
  refine (specGraphOk_b a rs c _ b1 H1.out (HR.out.below B1.out (Nat.le_refl _)) hn).mono ?_
  rintro e w2 ⟨rfl, hb⟩
  have hd1 := cellB hb hcg (Nat.le_refl _); have hd2 := cellB hb hcg' (Nat.le_refl _)
  have B2 := hid (B1.out.trans (hb.mono B1.out.size)); clear hb hcg hcg'
  cases b1
  · go_wp2
    go_ret
    exact ⟨ret_bool (dec_f HB.out fun h => (by have := H1.out; simp at this; exact this h.1)), B2.out⟩
  · go_wp2_with fail
    refine (specGraphOk_b a' qs c' _ b2 H2.out (HR'.out.below B2.out (Nat.le_refl _)) hn').mono ?_
    rintro e w3 ⟨rfl, hb⟩
    have he1 := cellB hb hd1 (Nat.le_refl _); have he2 := cellB hb hd2 (Nat.le_refl _)
    have B3 := hid (B2.out.trans (hb.mono B2.out.size)); clear hb hd1 hd2
    cases b2
    · go_wp2
      go_ret
      exact ⟨ret_bool (dec_f HB.out fun h => (by have := H2.out; simp at this; exact this h.2.1)), B3.out⟩
    · have h3 := hid (show decide (nums rs = nums qs) = b by
        rw [← HB.out]; unfold SameP; simp [of_decide_eq_true H1.out, of_decide_eq_true H2.out])
      go_wp2_with fail
      refine (l1SameGraph_b a a' rs qs c c' _ b h3.out (HR.out.below B3.out (Nat.le_refl _)) (HR'.out.below B3.out (Nat.le_refl _)) hn hn').mono ?_
      rintro e w4 ⟨rfl, hb⟩
      have B4 := hid (B3.out.trans (hb.mono B3.out.size)); clear hb
      go_wp2
      go_ret
      exact ⟨rfl, B4.out⟩
set_option maxHeartbeats 2000000 in
theorem implSameGraph_b (a : Option Addr) (rs : List Row) (c : Nat) (a' : Option Addr) (qs : List Row) (c' : Nat) (w : World) (b : Bool) (hb : decide (SameP (nums rs) (nums qs)) = b) (hr : RdM w a rs) (hn : Small rs) (hr' : RdM w a' qs) (hn' : Small qs) :
    Calls Try.prog 42 #[.agg #[.slice a rs.length c], .agg #[.slice a' qs.length c']] w fun e w' => e = .returned (.bool b) ∧ Below w.heap.size w w' := by
  have HR := hid hr; have HR' := hid hr'; have HB := hid hb; clear hr hr' hb
  have B0 := hid ((alloc_below w (.cells #[.slice a rs.length c] 41)).alloc (by simp) (.cells #[.slice a' qs.length c'] 41))
  obtain ⟨w1, hw1⟩ : ∃ w1, w1 = (w.alloc (.cells #[.slice a rs.length c] 41)).alloc (.cells #[.slice a' qs.length c'] 41) := ⟨_, rfl⟩
  have C := hid (show w1.cell? ⟨w.heap.size, 0, none⟩ = some (.slice a rs.length c) ∧ w1.cell? ⟨w.heap.size + 1, 0, none⟩ = some (.slice a' qs.length c') ∧ Below w.heap.size w w1 by
    subst hw1; exact ⟨by simp [go_sem], by simp [go_sem], B0.out⟩)
  have HW := hid hw1; clear hw1 B0
  obtain ⟨hcg, hcg', hB⟩ := C.out
  have B1 := hid hB; clear hB C
  obtain ⟨b1, hb1⟩ : ∃ b1, decide (GOk (nums rs)) = b1 := ⟨_, rfl⟩
  obtain ⟨b2, hb2⟩ : ∃ b2, decide (GOk (nums qs)) = b2 := ⟨_, rfl⟩
  have H1 := hid hb1; have H2 := hid hb2; clear hb1 hb2
  go_enter Try.func42, Try.ntmps42
  go_wp2_with fail
  rw [← HW.out]
  refine (implGraphOk_b a rs c _ b1 H1.out (HR.out.below B1.out (Nat.le_refl _)) hn).mono ?_
  rintro e w2 ⟨rfl, hb⟩
  have hd1 := cellB hb hcg (Nat.le_refl _); have hd2 := cellB hb hcg' (Nat.le_refl _)
  have B2 := hid (B1.out.trans (hb.mono B1.out.size)); clear hb hcg hcg'
  cases b1
  · go_wp2
    go_ret
    exact ⟨ret_bool (dec_f HB.out fun h => (by have := H1.out; simp at this; exact this h.1)), B2.out⟩
  · go_wp2_with fail
    refine (implGraphOk_b a' qs c' _ b2 H2.out (HR'.out.below B2.out (Nat.le_refl _)) hn').mono ?_
    rintro e w3 ⟨rfl, hb⟩
    have he1 := cellB hb hd1 (Nat.le_refl _); have he2 := cellB hb hd2 (Nat.le_refl _)
    have B3 := hid (B2.out.trans (hb.mono B2.out.size)); clear hb hd1 hd2
    cases b2
    · go_wp2
      go_ret
      exact ⟨ret_bool (dec_f HB.out fun h => (by have := H2.out; simp at this; exact this h.2.1)), B3.out⟩
    · have h3 := hid (show decide (nums rs = nums qs) = b by
        rw [← HB.out]; unfold SameP; simp [of_decide_eq_true H1.out, of_decide_eq_true H2.out])
      go_wp2_with fail
      refine (equalFunc_b a a' rs qs c c' _ b h3.out (HR.out.below B3.out (Nat.le_refl _)) (HR'.out.below B3.out (Nat.le_refl _)) hn hn').mono ?_
      rintro e w4 ⟨rfl, hd⟩
      have B4 := hid (B3.out.trans (hd.below _)); clear hd
      go_wp2
      go_ret
      exact ⟨rfl, B4.out⟩
end Go.Proofs.Ytnlcmbelpdnffaa
