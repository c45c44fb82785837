/- The law package's own helpers on lists and rows: size, copy, comparison. · The law package's own helpers: two lists, two slices of rows are compared. · The law package's own helpers: a result is overwritten by numbers that go up, and held against them. · The law package's own helpers on graphs. -/
import Derived.Test.YtccohcdgcpcbjaaDoorMem
namespace Go.Proofs.YtccohcdgcpcbjaaDoor
open Go.RowKit
section

def sz1 (n : Nat) (left : Int) : Int := if left - n < 0 then -1 else left - n
def szs : List Row → Int → Int
  | [], left => left
  | r :: rs, left => if sz1 r.z.length left < 0 then -1 else szs rs (sz1 r.z.length left)
def sz2 (rs : List Row) (left : Int) : Int := if left - rs.length < 0 then -1 else szs rs (left - rs.length)
theorem sz1_le (n : Nat) (left : Int) (h : 0 ≤ left) : sz1 n left ≤ left ∧ (sz1 n left = -1 ∨ 0 ≤ sz1 n left) := by unfold sz1; split <;> omega
theorem nums_snoc (rs' rs : List Row) (k : Nat) (hk : k < rs.length) (r : Row) (hz : r.z = rs[k].z) (h : nums rs' = nums (rs.take k)) : nums (rs' ++ [r]) = nums (rs.take (k + 1)) := by
  rw [List.take_succ_eq_append_getElem hk]
  simp only [nums, List.map_append, List.map_cons, List.map_nil] at h ⊢
  rw [h, hz]
end
section

set_option maxHeartbeats 1000000 in
theorem eq1_any (a a' : Option Addr) (zs ys : List Int) (c c' : Nat) (w : World) (hr : Rd (Value.int .i64) w a zs) (hr' : Rd (Value.int .i64) w a' ys) (hn : zs.length ≤ 16777216) (hn' : ys.length ≤ 16777216) :
    Calls Tryd.prog 13 #[.slice a zs.length c, .slice a' ys.length c'] w fun e w' => e = .returned (.bool (decide (zs = ys))) ∧ Drawn w w' := by
  have HR := hid hr; have HR' := hid hr'; clear hr hr'
  by_cases hl : zs.length = ys.length
  · have hl1 : ((zs.length : Int) != (ys.length : Int)) = false := by simp [hl]
    have HL := hid hl; clear hl
    go_enter Tryd.func13, Tryd.ntmps13
    go_wp2
    go_loopw [5] (fun i wr => ∃ k : Nat, k ≤ zs.length ∧ i = .int .i64 k ∧ zs.take k = ys.take k ∧ Drawn w wr) (fun i _ => zs.length - (intOf i).toNat)
    case atStart => exact ⟨0, Nat.zero_le _, rfl, rfl, Drawn.refl _⟩
    case round =>
      obtain ⟨k, hk, rfl, ht, hd⟩ := hrel
      have HD := hid hd; clear hd
      have HT := hid ht; clear ht
      by_cases hlt : k < zs.length
      · have hlt' : k < ys.length := by have := HL.out; omega
        obtain ⟨b, o, rfl, hc⟩ := HR.out.drawn HD.out k hlt
        obtain ⟨b', o', rfl, hc'⟩ := HR'.out.drawn HD.out k hlt'
        have hi1 : (k : Int) < (zs.length : Int) := by omega
        have hi2 : (k : Int) < (ys.length : Int) := by omega
        have HS := hid (List.take_succ_eq_append_getElem hlt); have HS' := hid (List.take_succ_eq_append_getElem hlt')
        have HG := hid (fun h : zs = ys => (by subst h; rfl : zs[k] = ys[k]))
        generalize zs[k] = x at *
        generalize ys[k] = y at *
        by_cases he : x = y
        · subst he
          have hb : (x != x) = false := by simp
          go_wp2
          go_quiet (fail)
          go_wp2
          go_roundw
          case rel => exact ⟨k + 1, by omega, by go_num, by rw [HS.out, HS'.out, HT.out], HD.out.n _⟩
          case measure => simp [intOf]; omega
        · have hb : (x != y) = true := by simpa using he
          have HE := hid he; clear he
          go_wp2
          go_quiet (fail)
          go_wp2
          go_ret
          exact ⟨ret_bool (by symm; rw [decide_eq_false_iff_not]; exact fun h => HE.out (HG.out h)), HD.out.n _⟩
      · go_wp2
        go_ret
        refine ⟨ret_bool (by symm; rw [decide_eq_true_iff]; have := HT.out; rwa [List.take_of_length_le (by omega), List.take_of_length_le (by have := HL.out; omega)] at this), HD.out⟩
  · have hl1 : ((zs.length : Int) != (ys.length : Int)) = true := by simp only [bne_iff_ne, ne_eq]; omega
    have HL := hid hl; clear hl
    go_enter Tryd.func13, Tryd.ntmps13
    go_wp2
    go_ret
    exact ⟨ret_bool (by symm; rw [decide_eq_false_iff_not]; exact fun h => HL.out (by rw [h])), Drawn.refl _⟩

theorem eq1_b (a a' : Option Addr) (zs ys : List Int) (c c' : Nat) (w : World) (b : Bool) (hb : decide (zs = ys) = b) (hr : Rd (Value.int .i64) w a zs) (hr' : Rd (Value.int .i64) w a' ys) (hn : zs.length ≤ 16777216) (hn' : ys.length ≤ 16777216) :
    Calls Tryd.prog 13 #[.slice a zs.length c, .slice a' ys.length c'] w fun e w' => e = .returned (.bool b) ∧ Drawn w w' := by
  subst hb; exact eq1_any _ _ _ _ _ _ _ hr hr' hn hn'
theorem nums_take_succ (rs : List Row) (k : Nat) (h : k < rs.length) : nums (rs.take (k + 1)) = nums (rs.take k) ++ [rs[k].z] := by
  rw [List.take_succ_eq_append_getElem h, nums, List.map_append]; rfl
theorem nums_get {rs qs : List Row} (h : nums rs = nums qs) (k : Nat) (h1 : k < rs.length) (h2 : k < qs.length) : rs[k].z = qs[k].z := by
  have e1 : (nums rs)[k]? = some rs[k].z := by simp [nums, List.getElem?_eq_getElem h1]
  have e2 : (nums qs)[k]? = some qs[k].z := by simp [nums, List.getElem?_eq_getElem h2]
  rw [h, e2] at e1
  exact (Option.some.inj e1).symm
set_option maxHeartbeats 1000000 in
theorem eq2_any (a a' : Option Addr) (rs qs : List Row) (c c' : Nat) (w : World) (hr : RdM w a rs) (hr' : RdM w a' qs) (hn : Small rs) (hn' : Small qs) :
    Calls Tryd.prog 28 #[.slice a rs.length c, .slice a' qs.length c'] w fun e w' => e = .returned (.bool (decide (nums rs = nums qs))) ∧ Drawn w w' := by
  have HR := hid hr; have HR' := hid hr'; clear hr hr'
  have HN := hid hn; have HN' := hid hn'
  have hn1 := hn.1; have hn1' := hn'.1; clear hn hn'
  by_cases hl : rs.length = qs.length
  · have hl1 : ((rs.length : Int) != (qs.length : Int)) = false := by simp [hl]
    have HL := hid hl; clear hl
    go_enter Tryd.func28, Tryd.ntmps28
    go_wp2
    go_loopw [5] (fun i wr => ∃ k : Nat, k ≤ rs.length ∧ i = .int .i64 k ∧ nums (rs.take k) = nums (qs.take k) ∧ Drawn w wr) (fun i _ => rs.length - (intOf i).toNat)
    case atStart => exact ⟨0, Nat.zero_le _, rfl, rfl, Drawn.refl _⟩
    case round =>
      obtain ⟨k, hk, rfl, ht, hd⟩ := hrel
      have HD := hid hd; clear hd
      have HT := hid ht; clear ht
      by_cases hlt : k < rs.length
      · have hlt' : k < qs.length := by have := HL.out; omega
        obtain ⟨b, o, rfl, hc, hok⟩ := (HR.out.drawn HD.out).at k hlt
        obtain ⟨b', o', rfl, hc', hok'⟩ := (HR'.out.drawn HD.out).at k hlt'
        have hz := Nat.le_trans (HN.out.2 _ (List.getElem_mem hlt)) (show 1048576 ≤ 16777216 by decide); have hz' := Nat.le_trans (HN'.out.2 _ (List.getElem_mem hlt')) (show 1048576 ≤ 16777216 by decide)
        have hi1 : (k : Int) < (rs.length : Int) := by omega
        have hi2 : (k : Int) < (qs.length : Int) := by omega
        have HK := hid hok; have HK' := hid hok'; clear hok hok'
        have HS := hid (nums_take_succ rs k hlt); have HS' := hid (nums_take_succ qs k hlt')
        have HG := hid (fun h : nums rs = nums qs => nums_get h k hlt hlt')
        generalize rs[k] = x at *
        generalize qs[k] = y at *
        by_cases he : x.z = y.z
        · have hb : decide (x.z = y.z) = true := by simpa using he
          have HE := hid he; clear he
          go_wp2
          go_quiet ((go_at_call 13; exact qd (eq1_b _ _ _ _ _ _ _ _ hb (HK.out.1.drewN _) (HK'.out.1.drewN _) hz hz')))
          go_wp2
          go_roundw
          case rel => exact ⟨k + 1, by omega, by go_num, by rw [HS.out, HS'.out, HT.out, HE.out], HD.out.n _⟩
          case measure => simp [intOf]; omega
        · have hb : decide (x.z = y.z) = false := by simpa using he
          have HE := hid he; clear he
          go_wp2
          go_quiet ((go_at_call 13; exact qd (eq1_b _ _ _ _ _ _ _ _ hb (HK.out.1.drewN _) (HK'.out.1.drewN _) hz hz')))
          go_wp2
          go_ret
          exact ⟨ret_bool (by symm; rw [decide_eq_false_iff_not]; exact fun h => HE.out (HG.out h)), HD.out.n _⟩
      · go_wp2
        go_ret
        refine ⟨ret_bool (by symm; rw [decide_eq_true_iff]; have := HT.out; rwa [List.take_of_length_le (by omega), List.take_of_length_le (by have := HL.out; omega)] at this), HD.out⟩
  · have hl1 : ((rs.length : Int) != (qs.length : Int)) = true := by simp only [bne_iff_ne, ne_eq]; omega
    have HL := hid hl; clear hl
    go_enter Tryd.func28, Tryd.ntmps28
    go_wp2
    go_ret
    exact ⟨ret_bool (by symm; rw [decide_eq_false_iff_not]; exact fun h => HL.out (by have := congrArg List.length h; simpa [nums] using this)), Drawn.refl _⟩
theorem eq2_b (a a' : Option Addr) (rs qs : List Row) (c c' : Nat) (w : World) (b : Bool) (hb : decide (nums rs = nums qs) = b) (hr : RdM w a rs) (hr' : RdM w a' qs) (hn : Small rs) (hn' : Small qs) :
    Calls Tryd.prog 28 #[.slice a rs.length c, .slice a' qs.length c'] w fun e w' => e = .returned (.bool b) ∧ Drawn w w' := by
  subst hb; exact eq2_any _ _ _ _ _ _ _ hr hr' hn hn'
end
section

set_option maxHeartbeats 1000000 in
theorem mark1_any (a : Option Addr) (zs : List Int) (c B : Nat) (k : Int) (w : World) (S : Nat → Prop) (ho : Own 2 w B (.slice a zs.length c) (zs.map (.int .i64))) (hS : ∀ g, (Value.slice a zs.length c).ownBlock = some g → S g)
    (hn : zs.length ≤ 1099511627776) (h0 : 0 ≤ k) (h1 : k ≤ 4398046511104) :
    Calls Tryd.prog 14 #[.slice a zs.length c, .int .i64 k] w fun e w' => e = .returned (.int .i64 (k + zs.length)) ∧ Own 2 w' B (.slice a zs.length c) ((upFrom k zs.length).map (.int .i64)) ∧ Kept S w w' := by
  have HO := hid ho; have HSS := hid hS; clear ho hS
  go_enter Tryd.func14, Tryd.ntmps14
  go_wp2
  go_loopw [1, 5] (fun x i wr => ∃ j : Nat, j ≤ zs.length ∧ i = .int .i64 j ∧ x = .int .i64 (k + j) ∧ Own 2 wr B (.slice a zs.length c) ((upFrom k j ++ zs.drop j).map (.int .i64)) ∧ Kept S w wr) (fun _ i _ => zs.length - (intOf i).toNat)
  case atStart => exact ⟨0, Nat.zero_le _, rfl, by simp, by simpa [upFrom] using HO.out, Kept.refl _ _⟩
  case round =>
    obtain ⟨j, hj, rfl, rfl, hown, hk⟩ := hrel
    have HOWN := hid hown; have HK := hid hk; clear hown hk
    by_cases hlt : j < zs.length
    · obtain ⟨g, rfl⟩ : ∃ g, a = some ⟨g, 0, none⟩ := by
        rcases HOWN.out.form with ⟨h, _⟩ | ⟨g, cap, spare, hv, _⟩
        · injection h with _ h2 _; omega
        · exact ⟨g, (slice_inj hv).1⟩
      obtain ⟨u, hc⟩ := HOWN.out.cellE j hlt
      have hf := HOWN.out.free j
      have F : Hid (Own 2 (wr.setCell ⟨g, j, none⟩ (.int .i64 (k + j))) B (.slice (some ⟨g, 0, none⟩) zs.length c) ((upFrom k (j + 1) ++ zs.drop (j + 1)).map (.int .i64)) ∧ Kept S w (wr.setCell ⟨g, j, none⟩ (.int .i64 (k + j)))) := by
        refine ⟨?_, HK.out.setCell (HSS.out g rfl) _⟩
        have := HOWN.out.store j (by rw [HOWN.out.len]; exact hlt) (.int .i64 (k + j))
        rw [← marked_set zs k j hlt, List.map_set]
        exact this
      clear HOWN HK
      go_wp2
      go_roundw
      case rel => exact ⟨j + 1, by omega, by go_num, by go_num, F.out⟩
      case measure => simp [intOf]; omega
    · obtain rfl : j = zs.length := by omega
      go_wp2
      go_ret
      refine ⟨rfl, ?_, HK.out⟩
      simpa using HOWN.out

set_option maxHeartbeats 1000000 in
theorem mark2_any (a : Option Addr) (rs : List Row) (c B : Nat) (k : Int) (w : World) (S : Nat → Prop) (ho : OwnM 30 2 w B (.slice a rs.length c) rs) (hS : blocksIn (.slice a rs.length c) rs S)
    (hn : rs.length ≤ 1099511627776) (hn2 : total rs ≤ 1099511627776) (h0 : 0 ≤ k) (h1 : k ≤ 2199023255552) :
    Calls Tryd.prog 29 #[.slice a rs.length c, .int .i64 k] w fun e w' => e = .returned (.int .i64 (k + total rs)) ∧ OwnM 30 2 w' B (.slice a rs.length c) (markRows k rs) ∧ Kept S w w' := by
  have HO := hid ho; have HSS := hid hS; clear ho hS
  go_enter Tryd.func29, Tryd.ntmps29
  go_wp2
  go_loopw [1, 5] (fun x i wr => ∃ j : Nat, j ≤ rs.length ∧ i = .int .i64 j ∧ x = .int .i64 (k + total (rs.take j)) ∧ OwnM 30 2 wr B (.slice a rs.length c) (markRows k (rs.take j) ++ rs.drop j) ∧ Kept S w wr) (fun _ i _ => rs.length - (intOf i).toNat)
  case atStart => exact ⟨0, Nat.zero_le _, rfl, by simp [total], by simpa [markRows] using HO.out, Kept.refl _ _⟩
  case round =>
    obtain ⟨j, hj, rfl, rfl, hown, hk⟩ := hrel
    have HOWN := hid hown; have HK := hid hk; clear hown hk
    by_cases hlt : j < rs.length
    · have hd : markRows k (rs.take j) ++ rs.drop j = markRows k (rs.take j) ++ rs[j] :: rs.drop (j + 1) := by rw [List.drop_eq_getElem_cons hlt]
      obtain ⟨b, o, rfl, hc⟩ : ∃ b o, a = some ⟨b, o, none⟩ ∧ wr.cell? ⟨b, o + j, none⟩ = some (.slice rs[j].a rs[j].z.length rs[j].c) := by
        obtain ⟨a', c', hv, hrd, hlc, hcm, _⟩ := HOWN.out.rd
        have hll : (markRows k (rs.take j) ++ rs.drop j).length = rs.length := by simp [markRows_length]; omega
        rw [hll] at hv
        obtain ⟨rfl, _, rfl⟩ := slice_inj hv
        obtain ⟨b, o, ha, hc, _⟩ := hrd.at j (by rw [hll]; exact hlt)
        have hget : (markRows k (rs.take j) ++ rs.drop j)[j]'(by rw [hll]; exact hlt) = rs[j] := by
          rw [List.getElem_append_right (by simp [markRows_length]; omega)]; simp [markRows_length, Nat.min_eq_left hj]
        rw [hget] at hc
        exact ⟨b, o, ha, hc⟩
      have HM := hid (show OwnM 30 2 wr B (.slice (some ⟨b, o, none⟩) rs.length c) (markRows k (rs.take j) ++ rs[j] :: rs.drop (j + 1)) by rw [← hd]; exact HOWN.out)
      have ht := total_le_of rs j hlt
      have ht2 := total_take_succ rs j hlt
      have HT2 := hid ht2; clear ht2 hd HOWN
      have HMS := hid (markRows_take_succ k rs j hlt)
      have HR := hid (HM.out.inner.own rs[j] (List.mem_append_right _ (List.mem_cons_self ..)))
      have hrS := HSS.out.2 rs[j] (List.getElem_mem hlt)
      have HRS := hid hrS; clear hrS
      generalize rs[j] = r at *
      have hz : r.z.length ≤ 1099511627776 := by omega
      have hk0 : 0 ≤ k + (total (rs.take j) : Int) := by omega
      have hk1 : k + (total (rs.take j) : Int) ≤ 3298534883328 := by omega
      go_wp2_with fail
      refine (mark1_any r.a r.z r.c B _ wr (fun g => r.val.ownBlock = some g) HR.out (fun g h => h) hz hk0 (by omega)).mono ?_
      rintro e w2 ⟨rfl, ho2, hk2⟩
      have HM2 := hid (HM.out.setRow (by decide) (r' := { r with z := upFrom (k + total (rs.take j)) r.z.length }) (by simp [Row.val, upFrom_length]) ho2 hk2)
      have HK2 := hid (HK.out.trans (hk2.mono (HRS.out)))
      clear ho2 hk2 HM HK
      go_wp2
      go_roundw
      case rel => exact ⟨j + 1, by omega, by go_num, by rw [HT2.out]; go_num, by rw [HMS.out]; simpa using HM2.out, HK2.out⟩
      case measure => simp [intOf]; omega
    · obtain rfl : j = rs.length := by omega
      go_wp2
      go_ret
      refine ⟨by simp, ?_, HK.out⟩
      simpa using HOWN.out

set_option maxHeartbeats 1000000 in
theorem held1_any (a : Option Addr) (zs : List Int) (n c : Nat) (k : Int) (w : World) (hz : zs = upFrom k n) (hr : Rd (Value.int .i64) w a zs) (hn : n ≤ 1099511627776) (h0 : 0 ≤ k) (h1 : k ≤ 4398046511104) :
    Calls Tryd.prog 15 #[.slice a zs.length c, .int .i64 k] w fun e w' => e = .returned (.int .i64 (k + n)) ∧ w = w' := by
  subst hz
  rw [upFrom_length]
  have HR := hid hr; clear hr
  go_enter Tryd.func15, Tryd.ntmps15
  go_wp2
  go_loop [1, 5] (fun x i => ∃ j : Nat, j ≤ n ∧ i = .int .i64 j ∧ x = .int .i64 (k + j)) (fun _ i => n - (intOf i).toNat)
  case atStart => exact ⟨0, Nat.zero_le _, rfl, by simp⟩
  case round =>
    obtain ⟨j, hj, rfl, rfl⟩ := hrel
    by_cases hlt : j < n
    · obtain ⟨b, o, rfl, hc⟩ := HR.out j (by rw [upFrom_length]; exact hlt)
      rw [upFrom_get] at hc
      have hb : ((k + (j : Int)) != (k + (j : Int))) = false := by simp
      go_wp2
      go_round
      case rel => exact ⟨j + 1, by omega, by go_num, by go_num⟩
      case measure => simp [intOf]; omega
    · obtain rfl : j = n := by omega
      go_wp2
      go_ret
      exact ⟨rfl, rfl⟩
theorem markRows_at (k : Int) (A : List Row) (j : Nat) (h : j < A.length) : (markRows k A)[j]'(by rw [markRows_length]; exact h) = { A[j] with z := upFrom (k + total (A.take j)) A[j].z.length } := by
  have e : (markRows k A)[j]? = some { A[j] with z := upFrom (k + total (A.take j)) A[j].z.length } := by
    have h1 : A = A.take j ++ A[j] :: A.drop (j + 1) := by rw [← List.drop_eq_getElem_cons h, List.take_append_drop]
    have h2 : markRows k A = markRows k (A.take j) ++ markRows (k + total (A.take j)) (A[j] :: A.drop (j + 1)) := by
      rw [← markRows_append, ← h1]
    rw [h2, List.getElem?_append_right (by simp [markRows_length]; omega)]
    simp [markRows_length, Nat.min_eq_left (Nat.le_of_lt h), markRows]
  exact Option.some.inj ((List.getElem?_eq_getElem _).symm.trans e)
set_option maxHeartbeats 1000000 in
theorem held2_any (a : Option Addr) (rs : List Row) (c : Nat) (k : Int) (w : World) (hr : RdM w a (markRows k rs)) (hn : rs.length ≤ 1099511627776) (hn2 : total rs ≤ 1099511627776) (h0 : 0 ≤ k) (h1 : k ≤ 2199023255552) :
    Calls Tryd.prog 30 #[.slice a rs.length c, .int .i64 k] w fun e w' => e = .returned (.int .i64 (k + total rs)) ∧ w = w' := by
  have HR := hid hr; clear hr
  go_enter Tryd.func30, Tryd.ntmps30
  go_wp2
  go_loop [1, 5] (fun x i => ∃ j : Nat, j ≤ rs.length ∧ i = .int .i64 j ∧ x = .int .i64 (k + total (rs.take j))) (fun _ i => rs.length - (intOf i).toNat)
  case atStart => exact ⟨0, Nat.zero_le _, rfl, by simp [total]⟩
  case round =>
    obtain ⟨j, hj, rfl, rfl⟩ := hrel
    by_cases hlt : j < rs.length
    · obtain ⟨b, o, rfl, hc, hok⟩ := HR.out.at j (by rw [markRows_length]; exact hlt)
      rw [markRows_at k rs j hlt] at hc hok
      have ht := total_le_of rs j hlt
      have HT2 := hid (total_take_succ rs j hlt)
      have HK := hid hok.1; clear hok
      generalize rs[j] = r at *
      simp only [upFrom_length] at hc
      have hk0 : 0 ≤ k + (total (rs.take j) : Int) := by omega
      have hneg : ¬ k + (total (rs.take j) : Int) + (r.z.length : Int) < 0 := by omega
      have hcall := fun W => held1_any r.a (upFrom (k + total (rs.take j)) r.z.length) r.z.length r.c (k + total (rs.take j)) W rfl
      simp only [upFrom_length] at hcall
      have HC := hid hcall; clear hcall
      go_wp2_with fail
      refine (HC.out _ HK.out (by omega) hk0 (by omega)).mono ?_
      rintro e w' ⟨rfl, rfl⟩
      go_wp2
      go_round
      case rel => exact ⟨j + 1, by omega, by go_num, by rw [HT2.out]; go_num⟩
      case measure => simp [intOf]; omega
    · obtain rfl : j = rs.length := by omega
      go_wp2
      go_ret
      exact ⟨by simp, rfl⟩
end
section

theorem szs_sign (rs : List Row) (x : Int) (h : 0 ≤ x) : szs rs x = -1 ∨ 0 ≤ szs rs x := by
  induction rs generalizing x with
  | nil => exact .inr h
  | cons r rs ih =>
    have := sz1_le r.z.length x h
    unfold szs
    split
    · exact .inl rfl
    · exact ih _ (by omega)
theorem sz2_sign (rs : List Row) (x : Int) (_h : 0 ≤ x) : sz2 rs x = -1 ∨ 0 ≤ sz2 rs x := by
  unfold sz2
  split
  · exact .inl rfl
  · exact szs_sign _ _ (by omega)
theorem szs_small (rs : List Row) (x : Int) (h : 0 ≤ x) (hs : 0 ≤ szs rs x) : szs rs x ≤ x ∧ (total rs : Int) + szs rs x = x := by
  induction rs generalizing x with
  | nil => simp [szs, total]
  | cons r rs ih =>
    unfold szs at hs ⊢
    split at hs
    · omega
    · rename_i hn
      rw [if_neg hn]
      have h1 : sz1 r.z.length x = x - r.z.length := by unfold sz1 at hn ⊢; split <;> simp_all
      rw [h1] at hs hn ⊢
      obtain ⟨i1, i2⟩ := ih (x - r.z.length) (by omega) hs
      simp only [total]
      omega
theorem len_le_total (rs : List Row) : ∀ r ∈ rs, r.z.length ≤ total rs := by
  induction rs with
  | nil => intro r hr; cases hr
  | cons q rs ih =>
    intro r hr
    simp only [total]
    rcases List.mem_cons.1 hr with rfl | h
    · omega
    · have := ih r h; omega
/-- What passes the law's own test of size is small. -/
theorem sz2_small (rs : List Row) (x : Int) (h : 0 ≤ x) (h1 : x ≤ 1048576) (hs : 0 ≤ sz2 rs x) : Small rs ∧ total rs ≤ 1048576 ∧ sz2 rs x ≤ x := by
  unfold sz2 at hs ⊢
  split at hs
  · omega
  · rename_i hn
    rw [if_neg hn]
    obtain ⟨h2, h3⟩ := szs_small rs (x - rs.length) (by omega) hs
    refine ⟨⟨by omega, fun r hr => ?_⟩, by omega, by omega⟩
    have := len_le_total rs r hr
    omega
theorem sz2_le (rs : List Row) (x : Int) (h : 0 ≤ x) (h1 : x ≤ 1048576) : sz2 rs x ≤ 1048576 := by
  by_cases hs : 0 ≤ sz2 rs x
  · exact Int.le_trans (sz2_small rs x h h1 hs).2.2 h1
  · omega
theorem Small.congr {rs qs : List Row} (h : nums rs = nums qs) (hs : Small rs) : Small qs := by
  have hl : rs.length = qs.length := by simpa [nums] using congrArg List.length h
  refine ⟨by have := hs.1; omega, fun r hr => ?_⟩
  have : r.z ∈ nums rs := by rw [h]; exact List.mem_map_of_mem hr
  obtain ⟨q, hq, e⟩ := List.mem_map.1 this
  rw [← e]; exact hs.2 q hq
/-- Rows were copied: the copies, and what is known of them. -/
structure Cp (w w' : World) (rs rs' : List Row) (a' : Option Addr) (c' : Nat) : Prop where
  nums : nums rs' = nums rs
  own : OwnM 30 2 w' w.heap.size (.slice a' rs'.length c') rs'
  rd : RdM w' a' rs'
  small : Small rs'
  below : Below w.heap.size w w'
  cap : rs'.length ≤ c' ∧ c' ≤ maxLen ∧ (a' = none → c' = 0)
theorem cp_of {w w' : World} {rs rs' : List Row} {v : Value} (h1 : nums rs' = nums rs) (h2 : OwnM 30 2 w' w.heap.size v rs') (h3 : Below w.heap.size w w') (hs : Small rs) : ∃ a' c', v = .slice a' rs'.length c' ∧ Cp w w' rs rs' a' c' := by
  obtain ⟨a', c', rfl, hr, h4, h5, h6⟩ := h2.rd
  exact ⟨a', c', rfl, h1, h2, hr, Small.congr h1.symm hs, h3, h4, h5, h6⟩
theorem alloc_below (w : World) (o : Obj) : Below w.heap.size w (w.alloc o) := (Below.refl _ _).alloc (Nat.le_refl _) _
/-- A call hands back a graph of its own. -/
def RetOwnG (eo ei : TypeId) (zss : List (List Int)) (w : World) (E : Ending) (w' : World) : Prop :=
  ∃ v rs, E = .returned (.agg #[v]) ∧ nums rs = zss ∧ OwnM eo ei w' w.heap.size v rs ∧ Below w.heap.size w w'
/-- A list was copied. -/
structure Cp1 (w w' : World) (zs : List Int) (a' : Option Addr) (c' : Nat) : Prop where
  own : Own 2 w' w.heap.size (.slice a' zs.length c') (zs.map (.int .i64))
  rd : Rd (Value.int .i64) w' a' zs
  below : Below w.heap.size w w'
  cap : zs.length ≤ c' ∧ c' ≤ maxLen ∧ (a' = none → c' = 0)
set_option maxHeartbeats 1000000 in
theorem eqG_any (a a' : Option Addr) (rs qs : List Row) (c c' : Nat) (w : World) (b : Bool) (hb : decide (nums rs = nums qs) = b) (hr : RdM w a rs) (hr' : RdM w a' qs) (hn : Small rs) (hn' : Small qs) :
    Calls Tryd.prog 8 #[.agg #[.slice a rs.length c], .agg #[.slice a' qs.length c']] w fun e w' => e = .returned (.bool b) ∧ Below w.heap.size w w' := by
  have HR := hid hr; have HR' := hid hr'; clear hr hr'
  have hB : ∀ o1 o2, Below w.heap.size w ((w.alloc o1).alloc o2) := fun o1 o2 => (alloc_below w o1).alloc (by simp) o2
  have HBB := hid hB; clear hB
  cases b
  all_goals
    go_enter Tryd.func8, Tryd.ntmps8
    go_wp2_with fail
    refine (eq2_b _ _ _ _ _ _ _ _ hb (HR.out.below (HBB.out _ _) (Nat.le_refl _)) (HR'.out.below (HBB.out _ _) (Nat.le_refl _)) hn hn').mono ?_
    rintro e w1 ⟨rfl, hd⟩
    have HD := hid ((HBB.out _ _).trans (hd.below _)); clear hd
    go_wp2
    go_ret
    exact ⟨rfl, HD.out⟩
set_option maxHeartbeats 1000000 in
theorem markG_any (a : Option Addr) (rs : List Row) (c B : Nat) (k : Int) (w : World) (S : Nat → Prop) (ho : OwnM 30 2 w B (.slice a rs.length c) rs) (hS : blocksIn (.slice a rs.length c) rs S)
    (hn : rs.length ≤ 1099511627776) (hn2 : total rs ≤ 1099511627776) (h0 : 0 ≤ k) (h1 : k ≤ 2199023255552) :
    Calls Tryd.prog 9 #[.agg #[.slice a rs.length c], .int .i64 k] w fun e w' => e = .returned (.int .i64 (k + total rs)) ∧ OwnM 30 2 w' B (.slice a rs.length c) (markRows k rs) ∧ Kept S w w' := by
  have HO := hid ho; have HS := hid hS; clear ho hS
  go_enter Tryd.func9, Tryd.ntmps9
  go_wp2_with fail
  refine (mark2_any a rs c B k _ S (HO.out.past (alloc_below _ _) (Nat.le_refl _)) HS.out hn hn2 h0 h1).mono ?_
  rintro e w1 ⟨rfl, ho1, hk1⟩
  have HO1 := hid ho1
  have HK1 := hid ((Kept.of_below S (alloc_below w _)).trans hk1); clear ho1 hk1
  go_wp2
  go_ret
  exact ⟨rfl, HO1.out, HK1.out⟩
set_option maxHeartbeats 1000000 in
theorem heldG_any (a : Option Addr) (rs : List Row) (c : Nat) (k : Int) (w : World) (hr : RdM w a (markRows k rs)) (hn : rs.length ≤ 1099511627776) (hn2 : total rs ≤ 1099511627776) (h0 : 0 ≤ k) (h1 : k ≤ 2199023255552) :
    Calls Tryd.prog 10 #[.agg #[.slice a rs.length c], .int .i64 k] w fun e w' => e = .returned (.int .i64 (k + total rs)) ∧ Below w.heap.size w w' := by
  have HR := hid hr; clear hr
  have hneg : ¬ k + (total rs : Int) < 0 := by omega
  go_enter Tryd.func10, Tryd.ntmps10
  go_wp2_with fail
  refine (held2_any a rs c k _ (HR.out.below (alloc_below _ _) (Nat.le_refl _)) hn hn2 h0 h1).mono ?_
  rintro e w1 ⟨rfl, rfl⟩
  go_wp2
  go_ret
  exact ⟨rfl, alloc_below _ _⟩
end
end Go.Proofs.YtccohcdgcpcbjaaDoor
