/- w5Graph: the text of w9Graph. -/
import Derived.Test.YtdncmloajajiaaaDoorGrOf
namespace Go.Proofs.YtdncmloajajiaaaDoor
open Go.RowKit
section
set_option maxRecDepth 100000 in
set_option maxHeartbeats 4000000 in
theorem w5Graph_any (g len c : Nat) (a : Option Addr) (zs : List Int) (k : Int) (m : Nat) (w : World) (hk : k = (m : Int)) (h : DiceR w w g len c a zs) (hl : zs.length = len) (hz : ∀ z ∈ zs, 0 ≤ z ∧ z < 256) (hn : len ≤ 4096) (hm : 0 < m) (hm2 : m ≤ 9) :
    Calls Tryd.prog 15 #[.pointer (some ⟨g, 0, none⟩), .int .i64 k] w (WGPost g len c m a zs w) := by
  have DR0 := hid h; have HL := hid hl; have HZ := hid hz; have HK := hid hk
  have hgw := h.lt
  clear h hl hz hk
  obtain ⟨w0, hw0⟩ : ∃ w0, w0 = (w.alloc (.cells #[.slice none 0 0] 29)) := ⟨_, rfl⟩
  have B0 := hid (show Below w.heap.size w w0 by rw [hw0]; exact ((Below.refl _ _).alloc (Nat.le_refl _) _))
  have c0 : w0.cell? ⟨w.heap.size, 0, none⟩ = some (.slice none 0 0) := by rw [hw0]; simp [go_sem]
  have HW := hid hw0; clear hw0
  have hsz0 : w0.heap.size = w.heap.size + 1 := by rw [HW.out]; simp
  have OR := hid (show Own 29 w0 w.heap.size (.slice (some ⟨w.heap.size, 0, none⟩) 1 1) [.slice none 0 0] by
    have h := own_new 29 w [.slice none 0 0] (by simp [maxLen])
    rw [HW.out]
    exact h)
  have DR := hid (DR0.out.past B0.out)
  clear c0 B0
  go_enter Tryd.func15, Tryd.ntmps15
  go_wp2_with fail
  rw [← HW.out]
  refine (DR.out.below HL.out HZ.out hn k m HK.out hm (by omega)).mono ?_
  rintro e w1 ⟨x, rfl, hx, hdr, hk1⟩
  have DR1 := hid hdr; have OR1 := hid (OR.out.keptS hk1 (fun g' hg hs => by simp [Value.ownBlock] at hg; omega))
  have hs1 := hk1.size
  clear hdr hk1 DR OR
  go_wp2_with fail
  refine (DR1.out.below HL.out HZ.out hn 3 3 rfl (by decide) (by decide)).mono ?_
  rintro e w2 ⟨y, rfl, hy, hdr, hk2⟩
  have DR2 := hid hdr; have OR2 := hid (OR1.out.keptS hk2 (fun g' hg hs => by simp [Value.ownBlock] at hg; omega))
  have hs2 := hk2.size
  clear hdr hk2 DR1 OR1
  have hbA := alloc_below w2 (.cells #[] 33)
  have DR3 := hid (DR2.out.past hbA)
  have OR3 := hid (OR2.out.past hbA (Nat.le_refl _))
  have OE := hid (show OwnM 33 2 (w2.alloc (.cells #[] 33)) (w.heap.size + 1) (.slice (some ⟨w2.heap.size, 0, none⟩) 0 0) [] from ⟨(own_new 33 w2 [] (by decide)).base (by omega), Inner.nil _ _ _⟩)
  have hs3 := hbA.size
  clear hbA DR2 OR2
  obtain ⟨n, hn1⟩ : ∃ n, n = 1 + x := ⟨_, rfl⟩
  have hne : (1 : Int) + (x : Int) = (n : Int) := by omega
  have hnm : n ≤ m := by omega
  have hn0 : 1 ≤ n := by omega
  have HN1 := hid hn1
  clear hn1
  go_wp2
  generalize w2.alloc (.cells #[] 33) = w3 at *
  have hsw3 : w.heap.size < w3.heap.size := by omega
  clear hs1 hs2 hs3 hsz0
  generalize w2.heap.size = eb0 at *
  have hgw1 : g < w.heap.size + 1 := by omega
  have hm9 : n ≤ 9 := by omega
  go_loopw [7, 8] (fun o x wr => ∃ (v : Nat) (qs : List Row) (E : List (Nat × Nat)), 1 ≤ v ∧ v ≤ n ∧ x = .int .i64 (v : Nat) ∧ OwnM 33 2 wr (w.heap.size + 1) o qs ∧ nums qs = E.map pairI ∧ (∀ p ∈ E, p.1 < p.2 ∧ p.2 < n) ∧ E.length ≤ 9 * v ∧ DiceR w wr g len c a zs ∧ Own 29 wr w.heap.size (.slice (some ⟨w.heap.size, 0, none⟩) 1 1) [.slice none 0 0] ∧ w.heap.size < wr.heap.size ∧ (∃ a' c', o = .slice (some a') qs.length c')) (fun _ x _ => n - (intOf x).toNat)
  case atStart => exact ⟨1, [], [], Nat.le_refl _, hn0, rfl, OE.out, rfl, (fun p hp => by simp at hp), by simp, DR3.out, OR3.out, hsw3, ⟨_, _, rfl⟩⟩
  case round =>
    clear OE DR3 OR3
    obtain ⟨v, qs, E, hv1, hvn, rfl, ho, hq, hE, hel, hdr, hor, hsz, hsl⟩ := hrel
    obtain ⟨eg, ec, rfl⟩ := ownM_slice ho hsl
    have OE := hid ho; have HQ := hid hq; have HE := hid hE; have DR := hid hdr; have OR := hid hor; have HEL := hid hel
    clear ho hq hE hdr hor hel hsl
    by_cases hvl : v < n
    · have hvi : (v : Int) < (n : Int) := by omega
      go_wp2
      go_loopw [7, 9] (fun o x wr => ∃ (u : Nat) (qs : List Row) (E : List (Nat × Nat)), u ≤ v ∧ x = .int .i64 (u : Nat) ∧ OwnM 33 2 wr (w.heap.size + 1) o qs ∧ nums qs = E.map pairI ∧ (∀ p ∈ E, p.1 < p.2 ∧ p.2 < n) ∧ E.length ≤ 9 * v + u ∧ DiceR w wr g len c a zs ∧ Own 29 wr w.heap.size (.slice (some ⟨w.heap.size, 0, none⟩) 1 1) [.slice none 0 0] ∧ w.heap.size < wr.heap.size ∧ (∃ a' c', o = .slice (some a') qs.length c')) (fun _ x _ => v - (intOf x).toNat)
      case atStart => exact ⟨0, qs, E, Nat.zero_le _, rfl, OE.out, HQ.out, HE.out, by have := HEL.out; omega, DR.out, OR.out, hsz, ⟨_, _, rfl⟩⟩
      case round =>
        clear OE HQ HE DR OR HEL
        obtain ⟨u, qs, E, huv, rfl, ho, hq, hE, hel, hdr, hor, hsz, hsl⟩ := hrel
        obtain ⟨eg, ec, rfl⟩ := ownM_slice ho hsl
        have OE := hid ho; have HQ := hid hq; have HE := hid hE; have DR := hid hdr; have OR := hid hor; have HEL := hid hel
        clear ho hq hE hdr hor hel hsl
        by_cases hul : u < v
        · have hui : (u : Int) < (v : Int) := by omega
          go_wp2_with fail
          refine (DR.out.below HL.out HZ.out hn 4 4 rfl (by decide) (by decide)).mono ?_
          rintro e w4 ⟨r, rfl, hr, hdr, hk4⟩
          have DR4 := hid hdr; have OR4 := hid (OR.out.keptS hk4 (fun g' hg hs => by simp [Value.ownBlock] at hg; omega))
          have OE4 := hid (OE.out.keptS hk4 (OE.out.blocks.mono (fun k hk hs => by omega)))
          have hs4 := hk4.size
          have hsz4 : w.heap.size + 1 ≤ w4.heap.size := by omega
          clear hdr hk4 DR OR OE hs4
          by_cases hro : (r : Int) < 1 + (y : Int)
          · have hbA := alloc_below w4 (.cells #[.int .i64 (u : Int), .int .i64 (v : Int)] 2)
            have ON := hid (show Own 2 (w4.alloc (.cells #[.int .i64 (u : Int), .int .i64 (v : Int)] 2)) w4.heap.size (.slice (some ⟨w4.heap.size, 0, none⟩) 2 2) ((pairI (u, v)).map (Value.int .i64)) from own_new 2 w4 [.int .i64 (u : Int), .int .i64 (v : Int)] (show (2 : Nat) ≤ maxLen by decide))
            have OA := hid (OE4.out.past hbA (Nat.le_refl _))
            have IA := hid (OE4.out.inner.snoc hbA hsz4 ⟨some ⟨w4.heap.size, 0, none⟩, pairI (u, v), 2⟩ ON.out)
            have DR5 := hid (DR4.out.past hbA)
            have OR5 := hid (OR4.out.past hbA (Nat.le_refl _))
            have hqe : qs.length = E.length := by have := congrArg List.length HQ.out; simpa [nums] using this
            have HML := hid (show (qs.map Row.val).length < 1099511627776 by have := HEL.out; rw [List.length_map]; omega)
            have HSA := hid (show w.heap.size + 1 ≤ (w4.alloc (.cells #[.int .i64 (u : Int), .int .i64 (v : Int)] 2)).heap.size from Nat.le_trans hsz4 hbA.size)
            clear hbA DR4 OR4 OE4 hqe
            go_wp2_with (at_builtin; refine law_push tRows _ rfl _ _ rfl (w.heap.size + 1) _ (qs.map Row.val) rfl OA.out.outer _ _ rfl ?c0 rfl ?c1 ?c2 ?_)
            case c0 => simp
            case c1 => have := HML.out; simpa using this
            case c2 => have := HSA.out; simp at this ⊢; omega
            intro v' w6 h1 h2
            have OM6 := hid (show OwnM 33 2 w6 (w.heap.size + 1) v' (qs ++ [⟨some ⟨w4.heap.size, 0, none⟩, pairI (u, v), 2⟩]) from rows_push (by decide) OA.out.outer IA.out h1 h2)
            have hb6 := grown_below h2 HSA.out (fun g hg => OA.out.outer.ge g hg)
            have DR6 := hid (DR5.out.past2 (hb6.mono (by omega)))
            have OR6 := hid (OR5.out.below hb6 (fun g' hg => by simp [Value.ownBlock] at hg; omega))
            have HS6 := hid (show w.heap.size < w6.heap.size by have := hb6.size; have := HSA.out; omega)
            have HQ6 := hid (show nums (qs ++ [(⟨some ⟨w4.heap.size, 0, none⟩, pairI (u, v), 2⟩ : Row)]) = (E ++ [(u, v)]).map pairI by rw [nums_push, HQ.out]; simp)
            have HE6 := hid (show ∀ p ∈ E ++ [(u, v)], p.1 < p.2 ∧ p.2 < n from fun p hp => by
              rcases List.mem_append.1 hp with h3 | h3
              · exact HE.out p h3
              · obtain rfl : p = (u, v) := by simpa using h3
                exact ⟨hul, hvl⟩)
            obtain ⟨oa, oc, hv6⟩ := ownM_someG OM6.out (by simp)
            subst hv6
            clear h1 h2 hb6 OA IA ON DR5 OR5
            go_wp2
            go_roundw
            case rel => exact ⟨u + 1, _, E ++ [(u, v)], by omega, by go_num, OM6.out, HQ6.out, HE6.out, by have := HEL.out; simp; omega, DR6.out, OR6.out, HS6.out, ⟨_, _, rfl⟩⟩
            case measure => simp [intOf]; omega
          · go_wp2
            go_roundw
            case rel => exact ⟨u + 1, qs, E, by omega, by go_num, OE4.out, HQ.out, HE.out, by have := HEL.out; omega, DR4.out, OR4.out, by omega, ⟨_, _, rfl⟩⟩
            case measure => simp [intOf]; omega
        · obtain rfl : u = v := by omega
          have hui : ¬ (u : Int) < (u : Int) := by omega
          go_wp2
          go_roundw
          case rel => exact ⟨u + 1, qs, E, by omega, by omega, by go_num, OE.out, HQ.out, HE.out, by have := HEL.out; omega, DR.out, OR.out, hsz, ⟨_, _, rfl⟩⟩
          case measure => simp [intOf]; omega
    · obtain rfl : v = n := by omega
      have hvi : ¬ (v : Int) < (v : Int) := by omega
      go_wp2_with fail
      obtain ⟨a', c', e1, hrd, _⟩ := OE.out.rd
      have hqe : qs.length = E.length := by have := congrArg List.length HQ.out; simpa [nums] using this
      refine (graphOf_any v _ qs E ec _ HQ.out HE.out hn0 (by omega) (by have := HEL.out; omega) OE.out.rdm).mono ?_
      rintro e w6 ⟨gb, cap, A, rfl, hga, hog, hb6⟩
      have HGA := hid hga; have OG := hid hog
      have DR6 := hid (DR.out.past hb6)
      have OR6 := hid (OR.out.past hb6 (Nat.le_refl _))
      have hs6 := hb6.size
      clear hga hog hb6 OE HQ HE DR OR hrd e1 hqe HEL
      have hbA := alloc_below w6 (.cells #[.slice (some ⟨gb, 0, none⟩) v cap] 29)
      have OC := hid (own_new 29 w6 [.slice (some ⟨gb, 0, none⟩) v cap] (by simp [maxLen]))
      have OR7 := hid (OR6.out.past hbA (Nat.le_refl _))
      have OG7 := hid (OG.out.past hbA (Nat.le_refl _))
      have DR7 := hid (DR6.out.past hbA)
      have HBA := hid hbA
      have c1 := OR7.out.cell 0 (by simp)
      rw [List.getElem_cons_zero] at c1
      have hfr := OR7.out.free 0
      have OG2 := hid (show OwnG (fun _ => False) ((w6.alloc (.cells #[.slice (some ⟨gb, 0, none⟩) v cap] 29)).setCell ⟨w.heap.size, 0, none⟩ (.slice (some ⟨gb, 0, none⟩) v cap)) w.heap.size gb v cap A from by
        obtain ⟨ps, h1, h2, h3⟩ := OG7.out
        exact ⟨ps, (h1.setCell_below (by simp only; omega) _).base (by omega), h2, h3⟩)
      have DR2 := hid (DR7.out.setc (.slice (some ⟨gb, 0, none⟩) v cap))
      have c110 : ((w6.alloc (.cells #[.slice (some ⟨gb, 0, none⟩) v cap] 29)).setCell ⟨w.heap.size, 0, none⟩ (.slice (some ⟨gb, 0, none⟩) v cap)).cell? ⟨w.heap.size, 0, none⟩ = some (.slice (some ⟨gb, 0, none⟩) v cap) := by
        have h := (OR7.out.store 0 (by simp) (.slice (some ⟨gb, 0, none⟩) v cap)).cell 0 (by simp)
        simpa using h
      have HC110 := hid c110
      clear c110 hbA OR6 OG DR6 OR7 OG7 DR7 OC
      go_wp2
      refine bodyPost_ret (ret_cell rfl _ _ _ ⟨w.heap.size, 0, none⟩ (.agg #[.slice (some ⟨gb, 0, none⟩) v cap]) rfl ?_) rfl ⟨v, gb, cap, A, rfl, hnm, HGA.out, OG2.out, DR2.out⟩
      have c110 := HC110.out
      clear OG2 DR2
      go_simp
end
end Go.Proofs.YtdncmloajajiaaaDoor
