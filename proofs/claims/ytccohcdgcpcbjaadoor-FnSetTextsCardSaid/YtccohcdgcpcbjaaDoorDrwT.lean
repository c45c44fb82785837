/- A list and a text drawn by the reference. -/
import Derived.Test.YtccohcdgcpcbjaaDoorBendW
import Derived.Test.YtccohcdgcpcbjaaDoorSetTxt
import Derived.Test.YtccohcdgcpcbjaaDoorTsL
namespace Go.Proofs.YtccohcdgcpcbjaaDoor
open Go.RowKit
section
set_option maxHeartbeats 1000000 in
theorem likeInts_D (a a' : Option Addr) (zs ys : List Int) (c c' : Nat) (w : World) (hr : Rd (Value.int .i64) w a zs) (hr' : Rd (Value.int .i64) w a' ys) (hn : zs.length ≤ 16777216) (hn' : ys.length ≤ 16777216) :
    Calls Tryd.prog 20 #[.slice a zs.length c, .slice a' ys.length c'] w fun e w' => e = .returned (.bool (decide (zs = ys))) ∧ Drawn w w' := by
  have HR := hid hr; have HR' := hid hr'; clear hr hr'
  by_cases hl : zs.length = ys.length
  · have hl1 : ((zs.length : Int) != (ys.length : Int)) = false := by simp [hl]
    have HL := hid hl; clear hl
    go_enter Tryd.func20, Tryd.ntmps20
    go_wp2
    go_loopw [5] (fun i wr => ∃ k : Nat, k ≤ zs.length ∧ i = .int .i64 k ∧ zs.take k = ys.take k ∧ Drawn w wr) (fun i _ => zs.length - (intOf i).toNat)
    case atStart => exact ⟨0, Nat.zero_le _, rfl, rfl, Drawn.refl _⟩
    case round =>
      obtain ⟨k, hk, rfl, ht, hd⟩ := hrel
      have HD := hid hd; clear hd
      have HT := hid ht; clear ht
      by_cases hlt : k < zs.length
      · have hlt' : k < ys.length := by have := HL.out; omega
        obtain ⟨b, o, rfl, hc⟩ := HR.out.drawn HD.out k hlt
        obtain ⟨b', o', rfl, hc'⟩ := HR'.out.drawn HD.out k hlt'
        have hi1 : (k : Int) < (zs.length : Int) := by omega
        have hi2 : (k : Int) < (ys.length : Int) := by omega
        have HS := hid (List.take_succ_eq_append_getElem hlt); have HS' := hid (List.take_succ_eq_append_getElem hlt')
        have HG := hid (fun h : zs = ys => (by subst h; rfl : zs[k] = ys[k]))
        generalize zs[k] = x at *
        generalize ys[k] = y at *
        by_cases he : x = y
        · subst he
          have hb : (x != x) = false := by simp
          go_wp2
          go_quiet (fail)
          go_wp2
          go_roundw
          case rel => exact ⟨k + 1, by omega, by go_num, by rw [HS.out, HS'.out, HT.out], HD.out.n _⟩
          case measure => simp [intOf]; omega
        · have hb : (x != y) = true := by simpa using he
          have HE := hid he; clear he
          go_wp2
          go_quiet (fail)
          go_wp2
          go_ret
          exact ⟨ret_bool (by symm; rw [decide_eq_false_iff_not]; exact fun h => HE.out (HG.out h)), HD.out.n _⟩
      · go_wp2
        go_ret
        refine ⟨ret_bool (by symm; rw [decide_eq_true_iff]; have := HT.out; rwa [List.take_of_length_le (by omega), List.take_of_length_le (by have := HL.out; omega)] at this), HD.out⟩
  · have hl1 : ((zs.length : Int) != (ys.length : Int)) = true := by simp only [bne_iff_ne, ne_eq]; omega
    have HL := hid hl; clear hl
    go_enter Tryd.func20, Tryd.ntmps20
    go_wp2
    go_ret
    exact ⟨ret_bool (by symm; rw [decide_eq_false_iff_not]; exact fun h => HL.out (by rw [h])), Drawn.refl _⟩
theorem big_D (a : Option Addr) (n c : Nat) (w : World) (b : Bool) (hb : decide (4096 < n) = b) :
    Calls Tryd.prog 16 #[.slice a n c] w fun e w' => e = .returned (.bool b) ∧ w = w' := by
  cases b with
  | true =>
    have h1 : (4096 : Int) < (n : Int) := by have := of_decide_eq_true hb; omega
    clear hb
    go_enter Tryd.func16, Tryd.ntmps16
    go_wp2
    go_ret
    exact ⟨rfl, rfl⟩
  | false =>
    have h1 : ¬ (4096 : Int) < (n : Int) := by have := of_decide_eq_false hb; omega
    clear hb
    go_enter Tryd.func16, Tryd.ntmps16
    go_wp2
    go_ret
    exact ⟨rfl, rfl⟩

set_option maxRecDepth 100000 in
set_option maxHeartbeats 4000000 in
theorem drawSetText_any (n c : Nat) (a : Option Addr) (zs : List Int) (w : World) (hr : Rd (Value.int .u8) w a zs) (hl : zs.length = n) (hn : n ≤ 4096) :
    Calls Tryd.prog 17 #[.slice a n c] w fun e w' => ∃ (ra : Option Addr) (ys : List Int) (rc : Nat), e = .returned (.slice ra ys.length rc) ∧ Own 2 w' w.heap.size (.slice ra ys.length rc) (ys.map (.int .i64)) ∧ ys.length ≤ 18 ∧ Below w.heap.size w w' := by
  have RZ := hid hr; have HLN := hid hl
  clear hr hl
  go_enter Tryd.func17, Tryd.ntmps17
  go_wp2_with fail
  refine (l1New_any n c a zs _ RZ.out HLN.out hn).mono ?_
  rintro e w1 ⟨g, rfl, hg, hcu, hb⟩
  have CU1 := hid hcu; have B1 := hid hb
  clear hcu hb
  go_wp2_with fail
  refine (l1DrawAny_any g _ CU1.out).mono ?_
  rintro e w2 ⟨ga, gn, gc, rfl, hgn, hcu, hk⟩
  have hb3 := alloc_below w2 (.cells #[.slice ga gn gc] 24)
  have OG := hid (own_new 24 w2 [.slice ga gn gc] (by simp [maxLen]))
  have CU3 := hid (hcu.past hb3 (Nat.le_refl _))
  have K3 := hid (hk.trans (Kept.of_below _ hb3))
  have hgl := hcu.lt
  clear hcu hk hb3 CU1
  go_wp2_with fail
  refine (l1Once_any g 2 _ CU3.out (by decide) (by decide)).mono ?_
  rintro e w4 ⟨t, rfl, hc, hk⟩
  have CU4 := hid hc
  have K4 := hid (K3.out.trans hk)
  have OG4 := hid (OG.out.keptS hk (fun j hj hs => by simp [Value.ownBlock] at hj; omega))
  have cb : w4.cell? ⟨w2.heap.size, 0, none⟩ = some (.slice ga gn gc) := by
    have h := OG4.out.cell 0 (by simp)
    simpa using h
  have hs1 := B1.out.size
  have hs4 := K4.out.size
  clear hc hk OG CU3 K3 OG4
  cases t
  · go_wp2_with fail
    refine (l1DrawSet_any g ga gn gc _ CU4.out hgn).mono ?_
    rintro e w5 ⟨ra, ys, rc, rfl, hown, hlen, hcu, hk⟩
    have O5 := hid (hown.base (B' := w.heap.size) (by omega))
    have B5 := hid (B1.out.trans ((K4.out.trans hk).below w.heap.size hs1 (fun j hj hs => by omega)))
    have HL := hid hlen
    clear hown hcu hk hlen
    go_wp2
    go_ret
    exact ⟨ra, ys, rc, rfl, O5.out, HL.out, B5.out⟩
  · go_wp2_with fail
    refine (l1DrawOrder_any g ga gn gc _ CU4.out hgn).mono ?_
    rintro e w5 ⟨ra, ys, rc, rfl, hown, hlen, hcu, hk⟩
    have O5 := hid (hown.base (B' := w.heap.size) (by omega))
    have B5 := hid (B1.out.trans ((K4.out.trans hk).below w.heap.size hs1 (fun j hj hs => by omega)))
    have HL := hid hlen
    clear hown hcu hk hlen
    go_wp2
    go_ret
    exact ⟨ra, ys, rc, rfl, O5.out, HL.out, B5.out⟩
set_option maxRecDepth 100000 in
set_option maxHeartbeats 4000000 in
theorem drawTextSet_any (n c : Nat) (a : Option Addr) (zs : List Int) (w : World) (hr : Rd (Value.int .u8) w a zs) (hl : zs.length = n) (hn : n ≤ 4096) :
    Calls Tryd.prog 21 #[.slice a n c] w fun e w' => ∃ u : ByteArray, e = .returned (.string u) ∧ u.size ≤ 300 ∧ Below w.heap.size w w' := by
  have RZ := hid hr; have HLN := hid hl
  clear hr hl
  go_enter Tryd.func21, Tryd.ntmps21
  go_wp2_with fail
  refine (l1New_any n c a zs _ RZ.out HLN.out hn).mono ?_
  rintro e w1 ⟨g, rfl, hg, hcu, hb⟩
  have CU1 := hid hcu; have B1 := hid hb
  clear hcu hb
  go_wp2_with fail
  refine (l1DrawAny_any g _ CU1.out).mono ?_
  rintro e w2 ⟨ga, gn, gc, rfl, hgn, hcu, hk⟩
  have hb3 := alloc_below w2 (.cells #[.slice ga gn gc] 24)
  have CU3 := hid (hcu.past hb3 (Nat.le_refl _))
  have K3 := hid (hk.trans (Kept.of_below _ hb3))
  have hgl := hcu.lt
  have hs1 := B1.out.size
  clear hcu hk hb3 CU1
  go_wp2_with fail
  refine (l1DrawSet_any g ga gn gc _ CU3.out hgn).mono ?_
  rintro e w5 ⟨ra, ys, rc, rfl, hown, hlen, hcu, hk⟩
  have CU5 := hid hcu
  have K5 := hid (K3.out.trans hk)
  have RY := hid (ownL_rd hown)
  have hym : ys.length ≤ 1048576 := by omega
  have hs5 := K5.out.size
  clear hown hcu hk hlen CU3 K3
  go_wp2_with fail
  refine (specSetText_any ra ys rc _ _ rfl RY.out hym).mono ?_
  rintro e w6 ⟨rfl, hb⟩
  have CU6 := hid (CU5.out.past hb (Nat.le_refl _))
  have K6 := hid (K5.out.trans (Kept.of_below _ hb))
  have HSS := hid (setStr_size ys)
  generalize setStr ys = t at *
  clear hb CU5 K5 RY
  go_wp2_with fail
  refine (l1Once_any g 2 _ CU6.out (by decide) (by decide)).mono ?_
  rintro e w7 ⟨b, rfl, hc, hk⟩
  have CU7 := hid hc
  have K7 := hid (K6.out.trans hk)
  clear hc hk CU6 K6
  cases b
  · go_wp2_with fail
    refine (l1Bend_any g t [48, 49, 50, 51, 44, 45] _ CU7.out (by have := HSS.out; omega) (by decide) (by decide)).mono ?_
    rintro e w8 ⟨u, rfl, hu, hc, hk⟩
    have B8 := hid (B1.out.trans ((K7.out.trans hk).below w.heap.size hs1 (fun j hj hs => by omega)))
    have HU := hid hu
    clear hc hk hu
    go_wp2
    go_ret
    exact ⟨u, rfl, HU.out, B8.out⟩
  · have B8 := hid (B1.out.trans (K7.out.below w.heap.size hs1 (fun j hj hs => by omega)))
    go_wp2
    go_ret
    exact ⟨t, rfl, by have := HSS.out; omega, B8.out⟩
end
end Go.Proofs.YtccohcdgcpcbjaaDoor
