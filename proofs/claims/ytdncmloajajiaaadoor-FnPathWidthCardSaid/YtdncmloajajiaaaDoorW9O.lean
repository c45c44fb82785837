/- An order by dice: w9Order. -/
import Derived.Test.YtdncmloajajiaaaDoorGrOf
import Derived.Test.YtdncmloajajiaaaDoorLink
import Derived.Test.YtdncmloajajiaaaDoorOrdS
namespace Go.Proofs.YtdncmloajajiaaaDoor
open Go.RowKit
section
theorem ord_insert {v : Nat} {l : List Int} (h : Ord v l) (k : Nat) : Ord (v + 1) (l.take k ++ (v : Int) :: l.drop k) := by
  have hn : (v : Int) ∉ l := fun hm => by have := (h.1 _ hm).2; omega
  constructor
  · intro x hx
    rw [List.mem_append, List.mem_cons] at hx
    rcases hx with hx | rfl | hx
    · have := h.1 x (List.mem_of_mem_take hx); omega
    · omega
    · have := h.1 x (List.mem_of_mem_drop hx); omega
  · have e : (l.take k ++ (v : Int) :: l.drop k).Perm ((v : Int) :: l) := by
      refine List.perm_middle.trans ?_
      rw [List.take_append_drop]
    exact e.nodup_iff.2 (List.nodup_cons.2 ⟨hn, h.2⟩)
theorem own_form9 {e : TypeId} {w : World} {B : Nat} {v : Value} {xs : List Value} (h : Own e w B v xs) (hne : 0 < xs.length) : ∃ g c, v = .slice (some ⟨g, 0, none⟩) xs.length c := by
  rcases h.form with ⟨_, h2⟩ | ⟨g, cap, spare, h2, _⟩
  · rw [h2] at hne; simp at hne
  · exact ⟨_, _, h2⟩
def WOPost (g len c n : Nat) (a : Option Addr) (zs : List Int) (w : World) (e : Ending) (w' : World) : Prop :=
  ∃ (gb cap : Nat) (l : List Int), e = .returned (.slice (some ⟨gb, 0, none⟩) n cap) ∧ l.length = n ∧ Ord n l ∧ n ≤ cap ∧ cap ≤ maxLen ∧ Own 2 w' w.heap.size (.slice (some ⟨gb, 0, none⟩) n cap) (l.map (.int .i64)) ∧ DiceR w w' g len c a zs
set_option maxRecDepth 100000 in
set_option maxHeartbeats 4000000 in
theorem w9Order_any (g len c n : Nat) (a : Option Addr) (zs : List Int) (w : World) (h : DiceR w w g len c a zs) (hl : zs.length = len) (hz : ∀ z ∈ zs, 0 ≤ z ∧ z < 256) (hn : len ≤ 4096) (h16 : n ≤ 16) :
    Calls Tryd.prog 25 #[.pointer (some ⟨g, 0, none⟩), .int .i64 (n : Nat)] w (WOPost g len c n a zs w) := by
  have DR0 := hid h; have HL := hid hl; have HZ := hid hz
  have hgw := h.lt
  clear h hl hz
  have hbA := alloc_below w (.cells #[] 2)
  have OE := hid (show Own 2 (w.alloc (.cells #[] 2)) w.heap.size (.slice (some ⟨w.heap.size, 0, none⟩) 0 0) (([] : List Int).map (.int .i64)) from own_new 2 w [] (by decide))
  have DR1 := hid (DR0.out.past hbA)
  have hs1 := hbA.size
  clear hbA
  go_enter Tryd.func25, Tryd.ntmps25
  go_wp2
  generalize w.alloc (.cells #[] 2) = w1 at *
  go_loopw [5, 6] (fun o x wr => ∃ (v gb cap : Nat) (l : List Int), v ≤ n ∧ x = .int .i64 (v : Nat) ∧ o = .slice (some ⟨gb, 0, none⟩) l.length cap ∧ l.length = v ∧ Ord v l ∧ l.length ≤ cap ∧ cap ≤ maxLen ∧ Own 2 wr w.heap.size (.slice (some ⟨gb, 0, none⟩) l.length cap) (l.map (.int .i64)) ∧ DiceR w wr g len c a zs ∧ w.heap.size ≤ wr.heap.size) (fun _ x _ => n - (intOf x).toNat)
  case atStart => exact ⟨0, _, 0, [], Nat.zero_le _, rfl, rfl, rfl, ⟨by simp, by simp⟩, Nat.zero_le _, by decide, OE.out, DR1.out, hs1⟩
  case round =>
    clear OE DR1 hs1
    obtain ⟨v, gb, cap, l, hv, rfl, rfl, hlv, hord, hc, hcm, ho, hdr, hsz⟩ := hrel
    have OO := hid ho; have HORD := hid hord; have DR := hid hdr; have HLV := hid hlv
    clear ho hord hdr
    have hl16 : l.length ≤ 16 := by omega
    by_cases hvl : v < n
    · have hvi : (v : Int) < (n : Int) := by omega
      clear hlv
      go_wp2_with fail
      refine (DR.out.below HL.out HZ.out hn ((l.length : Int) + 1) (l.length + 1) (by omega) (by omega) (by omega)).mono ?_
      rintro e w2 ⟨k, rfl, hk, hdr, hkk⟩
      have DR2 := hid hdr
      have O2 := hid (OO.out.keptS hkk (fun g' hg hs => by
        have := OO.out.ge g' hg
        omega))
      have hs2 : w.heap.size ≤ w2.heap.size := Nat.le_trans hsz hkk.size
      clear hdr hkk DR OO
      have hkl : k ≤ l.length := by omega
      have hbA := alloc_below w2 (.cells #[] 2)
      have RL := hid (show Rd (Value.int .i64) w2 (some ⟨gb, 0, none⟩) l from by
        obtain ⟨a', c', h1, h2, _⟩ := O2.out.rd
        have h3 : some (⟨gb, 0, none⟩ : Addr) = a' := by simp at h1; exact h1.1
        rw [h3]; exact h2)
      have B1 := hid hbA
      have HO := hid (show Own 2 (w2.alloc (.cells #[] 2)) w2.heap.size (.slice (some ⟨w2.heap.size, 0, none⟩) 0 0) [] from own_new 2 w2 [] (by decide))
      have RT := hid ((RL.out.below hbA (Nat.le_refl _)).take k)
      have htl : (l.take k).length = k := by rw [List.length_take]; omega
      have HTL := hid htl
      clear hbA htl
      have hkc : k ≤ cap := by omega
      go_wp2_with (at_builtin; refine law_append tI64 _ rfl _ _ rfl (Value.int .i64) w2.heap.size _ [] rfl HO.out (some ⟨gb, 0, none⟩) cap (l.take k) ?d3 RT.out (fun h => by cases h) ?d0 ?d1 ?d2 ?_)
      try (case d3 => rw [HTL.out]; rfl)
      try (case d0 => intro y _; rfl)
      try (case d1 => rw [HTL.out]; simp; omega)
      try (case d2 => simp)
      intro v3 w3 h1 h2
      have O3 := hid (show Own 2 w3 w2.heap.size v3 ((l.take k).map (.int .i64)) by simpa using h1)
      have B3 := hid (B1.out.trans (grown_below h2 B1.out.size (fun g hg => HO.out.ge g hg)))
      have hs3 := B3.out.size
      have hxl : ((l.take k).map (Value.int .i64)).length ≤ 16 := by rw [List.length_map, List.length_take]; omega
      clear h1 h2 HO RT B1
      go_wp2_with (at_builtin; refine law_push tI64 _ rfl _ _ rfl w2.heap.size _ ((l.take k).map (.int .i64)) rfl O3.out _ _ rfl ?c0 rfl ?c1 ?c2 ?_)
      try (case c0 => simp)
      try (case c1 => exact Nat.lt_of_le_of_lt hxl (by decide))
      try (case c2 => exact hs3)
      intro v4 w4 h1 h2
      have O4 := hid (show Own 2 w4 w2.heap.size v4 ((l.take k ++ [(v : Int)]).map (.int .i64)) by rw [List.map_append, List.map_take]; exact h1)
      have B4 := hid (B3.out.trans (grown_below h2 hs3 (fun g hg => O3.out.ge g hg)))
      have hs4 := B4.out.size
      have hpl : ((l.take k ++ [(v : Int)]).map (Value.int .i64)).length ≤ 17 := by rw [List.length_map, List.length_append, List.length_take]; simp; omega
      clear h1 h2 O3 B3
      have RD4 := hid (((RL.out.below B4.out (Nat.le_refl _))).drop k)
      have hdl : (l.drop k).length = l.length - k := List.length_drop
      have HDL := hid hdl
      clear hdl
      have HA : ∃ A, (if cap = k then some (⟨gb, 0, none⟩ : Addr) else some ⟨gb, k, none⟩) = some A ∧ Rd (Value.int .i64) w4 (some A) (l.drop k) := by
        by_cases e : cap = k
        · rw [if_pos e]
          refine ⟨_, rfl, ?_⟩
          rw [List.drop_eq_nil_of_le (by omega)]
          exact Rd.nil _ _ _
        · rw [if_neg e]
          refine ⟨_, rfl, ?_⟩
          have h := RD4.out
          rwa [Nat.zero_add] at h
      obtain ⟨A, hA, hRA⟩ := HA
      have HRA := hid hRA
      clear hRA RD4
      go_wp2_with (at_builtin; refine law_append tI64 _ rfl _ _ rfl (Value.int .i64) w2.heap.size _ ((l.take k ++ [(v : Int)]).map (.int .i64)) rfl O4.out (some A) (cap - k) (l.drop k) ?d3 HRA.out (fun h => by cases h) ?d0 ?d1 ?d2 ?_)
      try (case d3 => rw [HDL.out]; rfl)
      try (case d0 => intro y _; rfl)
      try (case d1 => rw [HDL.out]; omega)
      try (case d2 => exact hs4)
      intro v5 w5 h3 h4
      have O5 := hid (show Own 2 w5 w2.heap.size v5 ((l.take k ++ (v : Int) :: l.drop k).map (.int .i64)) by
        rw [List.map_append, List.map_cons, List.map_take, List.map_drop]
        simpa using h3)
      have B5 := hid (B4.out.trans (grown_below h4 hs4 (fun g hg => O4.out.ge g hg)))
      clear h3 h4 O4 B4
      have hl2 : (l.take k ++ (v : Int) :: l.drop k).length = v + 1 := by
        rw [List.length_append, List.length_cons, List.length_take, List.length_drop]
        have := HLV.out
        omega
      have HORD2 := hid (ord_insert HORD.out k)
      generalize l.take k ++ (v : Int) :: l.drop k = l2 at *
      obtain ⟨gb2, cap2, hv5⟩ := own_form9 O5.out (by rw [List.length_map]; omega)
      rw [List.length_map] at hv5
      subst hv5
      have HCC : l2.length ≤ cap2 ∧ cap2 ≤ maxLen := by
        obtain ⟨a', c', h1, _, h2, h3, _⟩ := O5.out.rd
        have h4 : cap2 = c' := by simp at h1; exact h1.2
        rw [h4]; exact ⟨h2, h3⟩
      have O6 := hid (O5.out.base hs2)
      have DR5 := hid (DR2.out.past B5.out)
      have hs5 : w.heap.size ≤ w5.heap.size := Nat.le_trans hs2 B5.out.size
      have HL2 := hid hl2
      clear hl2 O5 DR2 B5 hA
      go_wp2
      go_roundw
      case rel => exact ⟨v + 1, gb2, cap2, l2, by omega, by go_num, rfl, HL2.out, HORD2.out, HCC.1, HCC.2, O6.out, DR5.out, hs5⟩
      case measure => simp [intOf]; omega
    · obtain rfl : v = n := by omega
      have hvi : ¬ (v : Int) < (v : Int) := by omega
      go_wp2
      go_ret
      exact ⟨gb, cap, l, rfl, hlv, HORD.out, by omega, hcm, by have := OO.out; rwa [hlv] at this, DR.out⟩
end
end Go.Proofs.YtdncmloajajiaaaDoor
