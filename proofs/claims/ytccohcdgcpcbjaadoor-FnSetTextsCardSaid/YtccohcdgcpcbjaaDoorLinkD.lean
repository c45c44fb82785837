/- A number put into a rising list: the reference's. · Two vertices become neighbours, in a graph of one's own: the reference's. -/
import Derived.Test.YtccohcdgcpcbjaaDoorEdges
import Derived.Test.YtccohcdgcpcbjaaDoorFar
import Derived.Test.YtccohcdgcpcbjaaDoorMem3
import Derived.Deep.RegionHeld3
import Derived.Deep.RegionWith
namespace Go.Proofs.YtccohcdgcpcbjaaDoor
open Go.RowKit
section
/-- Lists that go up and have the same members are the same. -/
theorem sorted_ext {l l' : List Int} (h : l.Pairwise (· < ·)) (h' : l'.Pairwise (· < ·)) (hm : ∀ x, x ∈ l ↔ x ∈ l') : l = l' := by
  induction l generalizing l' with
  | nil =>
    cases l' with
    | nil => rfl
    | cons y l' => exact absurd ((hm y).2 (by simp)) (by simp)
  | cons x l ih =>
    cases l' with
    | nil => exact absurd ((hm x).1 (by simp)) (by simp)
    | cons y l' =>
      rw [List.pairwise_cons] at h h'
      have hxy : x = y := by
        have h1 := (hm x).1 (by simp)
        have h2 := (hm y).2 (by simp)
        rw [List.mem_cons] at h1 h2
        rcases h1 with h1 | h1
        · exact h1
        · rcases h2 with h2 | h2
          · exact h2.symm
          · have := h'.1 x h1; have := h.1 y h2; omega
      subst hxy
      congr 1
      refine ih h.2 h'.2 fun z => ?_
      constructor
      · intro hz
        have h1 := (hm z).1 (by simp [hz])
        rw [List.mem_cons] at h1
        rcases h1 with rfl | h1
        · have := h.1 z hz; omega
        · exact h1
      · intro hz
        have h1 := (hm z).2 (by simp [hz])
        rw [List.mem_cons] at h1
        rcases h1 with rfl | h1
        · have := h'.1 z hz; omega
        · exact h1
theorem mems_sorted (m : Nat) : (mems m).Pairwise (· < ·) := by
  unfold mems memsN
  rw [List.pairwise_map]
  refine List.Pairwise.imp ?_ (List.Pairwise.filter _ List.pairwise_lt_range)
  intro a b h; omega
theorem Rd.drop {α : Type} {f : α → Value} {w : World} {b o : Nat} {zs : List α} (h : Rd f w (some ⟨b, o, none⟩) zs) (k : Nat) : Rd f w (some ⟨b, o + k, none⟩) (zs.drop k) := by
  intro i hi
  rw [List.length_drop] at hi
  obtain ⟨b', o', h1, h2⟩ := h (k + i) (by omega)
  cases h1
  exact ⟨b, o + k, rfl, by rw [List.getElem_drop, ← h2, Nat.add_assoc]⟩
theorem into_spec {l : List Int} {n : Int} {k : Nat} (hs : l.Pairwise (· < ·)) (h1 : ∀ j (hj : j < l.length), j < k → l[j] < n) (h2 : ∀ (hk : k < l.length), n < l[k]) (hk : k ≤ l.length) :
    n ∉ l ∧ (l.take k ++ n :: l.drop k).Pairwise (· < ·) ∧ ∀ x, x ∈ l.take k ++ n :: l.drop k ↔ x ∈ l ∨ x = n := by
  have ht : ∀ x ∈ l.take k, x < n := by
    intro x hx
    obtain ⟨j, hj, rfl⟩ := List.mem_iff_getElem.1 hx
    rw [List.length_take] at hj
    rw [List.getElem_take]; exact h1 j (by omega) (by omega)
  have hd : ∀ x ∈ l.drop k, n < x := by
    intro x hx
    obtain ⟨j, hj, rfl⟩ := List.mem_iff_getElem.1 hx
    rw [List.length_drop] at hj
    rw [List.getElem_drop]
    have h3 := h2 (by omega)
    rcases Nat.eq_zero_or_pos j with h0 | h0
    · subst h0; exact h3
    · have := List.pairwise_iff_getElem.1 hs k (k + j) (by omega) (by omega) (by omega)
      omega
  have hm : ∀ x, x ∈ l ↔ x ∈ l.take k ∨ x ∈ l.drop k := by
    intro x; rw [← List.mem_append, List.take_append_drop]
  refine ⟨?_, ?_, ?_⟩
  · intro h
    rcases (hm n).1 h with h | h
    · have := ht n h; omega
    · have := hd n h; omega
  · rw [List.pairwise_append]
    refine ⟨hs.sublist (List.take_sublist _ _), List.pairwise_cons.2 ⟨hd, hs.sublist (List.drop_sublist _ _)⟩, ?_⟩
    intro a ha b hb
    rcases List.mem_cons.1 hb with rfl | hb
    · exact ht a ha
    · have := ht a ha; have := hd b hb; omega
  · intro x
    rw [List.mem_append, List.mem_cons, hm x]
    constructor
    · rintro (h | h | h)
      · exact .inl (.inl h)
      · exact .inr h
      · exact .inl (.inr h)
    · rintro ((h | h) | h)
      · exact .inl h
      · exact .inr (.inr h)
      · exact .inr (.inl h)
theorem l1Copy_any2 (a : Option Addr) (zs : List Int) (n c : Nat) (w : World) (hn : zs.length = n) (hz : Rd (Value.int .i64) w a zs) (hm : zs.length ≤ 1048576) (ha : a = none → c = 0) :
    Calls Tryd.prog 60 #[.slice a n c] w (RetOwn 2 (zs.map (.int .i64)) w) := by
  subst hn
  have RZ := hid hz; clear hz
  have B0 := hid (alloc_below w (.cells #[] 2))
  have HO := hid (show Own 2 (w.alloc (.cells #[] 2)) w.heap.size (.slice (some ⟨w.heap.size, 0, none⟩) 0 0) [] from own_new 2 w [] (by decide))
  have RZ1 := hid (RZ.out.below B0.out (Nat.le_refl _))
  go_enter Tryd.func60, Tryd.ntmps60
  go_wp2_with (at_builtin; refine law_append tI64 _ rfl _ _ rfl (Value.int .i64) w.heap.size _ [] rfl HO.out a c zs rfl RZ1.out ha ?c0 ?c1 ?c2 ?_)
  case c0 => intro y _; rfl
  case c1 => simp; omega
  case c2 => simp
  intro v' w' h1 h2
  have ON := hid h1
  have B1 := hid (B0.out.trans (grown_below h2 B0.out.size (fun g hg => HO.out.ge g hg)))
  clear h1 h2
  go_wp2
  go_ret
  exact ⟨_, rfl, by simpa using ON.out, B1.out⟩
def IntoPost (a : Option Addr) (l : List Int) (c : Nat) (n : Int) (w : World) (E : Ending) (w' : World) : Prop :=
  (n ∈ l ∧ E = .returned (.slice a l.length c) ∧ Below w.heap.size w w') ∨ (n ∉ l ∧ ∃ R : List Int, RetOwn 2 (R.map (.int .i64)) w E w' ∧ R.Pairwise (· < ·) ∧ R.length = l.length + 1 ∧ ∀ x, x ∈ R ↔ x ∈ l ∨ x = n)
set_option maxRecDepth 100000 in
set_option maxHeartbeats 1000000 in
theorem l1Into_any (a : Option Addr) (l : List Int) (c : Nat) (n : Int) (w : World) (hs : l.Pairwise (· < ·)) (hr : Rd (Value.int .i64) w a l) (hm : l.length ≤ 16) (hc : l.length ≤ c) (hcm : c ≤ maxLen) (hca : a = none → c = 0) (haf : ∀ ad, a = some ad → ∃ b o, ad = ⟨b, o, none⟩) :
    Calls Tryd.prog 113 #[.slice a l.length c, .int .i64 n] w (IntoPost a l c n w) := by
  have RL := hid hr; have HS := hid hs; clear hr hs
  go_enter Tryd.func113, Tryd.ntmps113
  go_wp2
  go_loop [5] (fun x => ∃ k : Nat, k ≤ l.length ∧ x = .int .i64 k ∧ (∀ j (hj : j < l.length), j < k → l[j] < n)) (fun x => l.length - (intOf x).toNat)
  case atStart => exact ⟨0, Nat.zero_le _, rfl, fun j _ hj => absurd hj (Nat.not_lt_zero j)⟩
  case round =>
    obtain ⟨k, hk, rfl, hno⟩ := hrel
    have HNO := hid hno; clear hno
    by_cases hlt : k < l.length
    · obtain ⟨lb, lo, rfl, ck⟩ := RL.out k hlt
      have hki : (k : Int) < (l.length : Int) := by omega
      have HST := hid (fun (h : l[k] < n) => (show ∀ j (hj : j < l.length), j < k + 1 → l[j] < n from fun j hj hjk => by
        by_cases e : j = k
        · subst e; exact h
        · exact HNO.out j hj (by omega)))
      have HIN := hid (List.getElem_mem hlt)
      have HSP := hid (fun (h : n < l[k]) => into_spec HS.out HNO.out (fun _ => h) hk)
      generalize l[k] = y at *
      by_cases hy : y < n
      · have HS2 := hid (HST.out hy)
        clear HST HSP HIN
        go_wp2
        go_round
        case rel => exact ⟨k + 1, by omega, by go_num, HS2.out⟩
        case measure => simp [intOf]; omega
      · by_cases he : y = n
        · subst he
          have dy : (y == y) = true := by simp
          clear HST HSP
          go_wp2
          go_ret
          exact .inl ⟨HIN.out, rfl, Below.refl _ _⟩
        · have dy : (y == n) = false := by simpa using he
          obtain ⟨q1, q2, q3⟩ := HSP.out (by omega)
          have Q1 := hid q1; have Q2 := hid q2; have Q3 := hid q3
          clear q1 q2 q3 HST HSP HIN
          go_wp2_with fail
          refine (l1Copy_any2 _ (l.take k) k c w (by rw [List.length_take]; omega) (RL.out.take k) (by rw [List.length_take]; omega) (fun h => by cases h)).mono ?_
          rintro e w1 ⟨cv, rfl, hown, hb⟩
          have OC := hid hown; have B1 := hid hb
          have hs1 := hb.size
          have hxl : ((l.take k).map (Value.int .i64)).length ≤ 16 := by rw [List.length_map, List.length_take]; omega
          clear hown hb
          go_wp2_with (at_builtin; refine law_push tI64 _ rfl _ _ rfl w.heap.size _ ((l.take k).map (.int .i64)) rfl OC.out _ _ rfl ?c0 rfl ?c1 ?c2 ?_)
          try (case c0 => simp)
          try (case c1 => exact Nat.lt_of_le_of_lt hxl (by decide))
          try (case c2 => exact hs1)
          intro v2 w2 h1 h2
          have OP := hid (show Own 2 w2 w.heap.size v2 ((l.take k ++ [n]).map (.int .i64)) by rw [List.map_append, List.map_take]; exact h1)
          have B2 := hid (B1.out.trans (grown_below h2 hs1 (fun g hg => OC.out.ge g hg)))
          have hs2 := B2.out.size
          have hpl : ((l.take k ++ [n]).map (Value.int .i64)).length ≤ 17 := by rw [List.length_map, List.length_append, List.length_take]; simp; omega
          clear h1 h2 OC
          have RD2 := hid (((RL.out.below B2.out (Nat.le_refl _))).drop k)
          have hdl : (l.drop k).length = l.length - k := List.length_drop
          go_wp2_with (at_builtin; refine law_append tI64 _ rfl _ _ rfl (Value.int .i64) w.heap.size _ ((l.take k ++ [n]).map (.int .i64)) rfl OP.out (some ⟨lb, lo + k, none⟩) (c - k) (l.drop k) ?d3 RD2.out (fun h => by cases h) ?d0 ?d1 ?d2 ?_)
          try (case d3 => rw [hdl]; rfl)
          try (case d0 => intro y _; rfl)
          try (case d1 => rw [hdl]; omega)
          try (case d2 => exact hs2)
          intro v3 w3 h3 h4
          have OF := hid (show Own 2 w3 w.heap.size v3 ((l.take k ++ n :: l.drop k).map (.int .i64)) by
            rw [List.map_append, List.map_cons, List.map_take, List.map_drop]
            exact h3)
          have B3 := hid (B2.out.trans (grown_below h4 hs2 (fun g hg => OP.out.ge g hg)))
          clear h3 h4 OP
          go_wp2
          go_ret
          exact .inr ⟨Q1.out, _, ⟨_, rfl, OF.out, B3.out⟩, Q2.out, by rw [List.length_append, List.length_cons, List.length_take, List.length_drop]; omega, Q3.out⟩
    · obtain rfl : k = l.length := by omega
      obtain ⟨q1, q2, q3⟩ := into_spec HS.out HNO.out (fun h => absurd h (Nat.lt_irrefl _)) (Nat.le_refl _)
      have Q1 := hid q1; have Q2 := hid q2; have Q3 := hid q3
      clear q1 q2 q3
      have HDN := hid (show ∀ x, l.take l.length ++ n :: l.drop l.length = l ++ [n] ∨ x from fun x => .inl (by rw [List.take_length, List.drop_length]))
      rw [List.take_length, List.drop_length] at Q2 Q3
      have hxl : (l.map (Value.int .i64)).length ≤ 16 := by rw [List.length_map]; exact hm
      have hpl : ((l ++ [n]).map (Value.int .i64)).length ≤ 17 := by rw [List.length_map, List.length_append]; simp; omega
      have HCA := hid hca
      clear HDN
      cases a with
      | none =>
        have hc0 : c = 0 := hca rfl
        subst hc0
        have hl0 : l.length = 0 := by omega
        have HL0 := hid hl0; clear hl0 hca
        go_wp2_with fail
        refine (l1Copy_any2 _ l 0 0 w HL0.out RL.out (by omega) (fun _ => rfl)).mono ?_
        rintro e w1 ⟨cv, rfl, hown, hb⟩
        have OC := hid hown; have B1 := hid hb
        have hs1 := hb.size
        clear hown hb
        go_wp2_with (at_builtin; refine law_push tI64 _ rfl _ _ rfl w.heap.size _ (l.map (.int .i64)) rfl OC.out _ _ rfl ?c0 rfl ?c1 ?c2 ?_)
        try (case c0 => simp)
        try (case c1 => exact Nat.lt_of_le_of_lt hxl (by decide))
        try (case c2 => exact hs1)
        intro v2 w2 h1 h2
        have OP := hid (show Own 2 w2 w.heap.size v2 ((l ++ [n]).map (.int .i64)) by rw [List.map_append]; exact h1)
        have B2 := hid (B1.out.trans (grown_below h2 hs1 (fun g hg => OC.out.ge g hg)))
        have hs2 := B2.out.size
        clear h1 h2 OC
        go_wp2_with (at_builtin; refine law_append tI64 _ rfl _ _ rfl (Value.int .i64) w.heap.size _ ((l ++ [n]).map (.int .i64)) rfl OP.out none 0 ([] : List Int) rfl (Rd.nil _ _ _) (fun _ => rfl) ?d0 ?d1 ?d2 ?_)
        try (case d0 => intro y hy; cases hy)
        try (case d1 => simp; omega)
        try (case d2 => exact hs2)
        intro v3 w3 h3 h4
        have OF := hid (show Own 2 w3 w.heap.size v3 ((l ++ [n]).map (.int .i64)) by simpa using h3)
        have B3 := hid (B2.out.trans (grown_below h4 hs2 (fun g hg => OP.out.ge g hg)))
        clear h3 h4 OP
        go_wp2
        go_ret
        exact .inr ⟨Q1.out, _, ⟨_, rfl, OF.out, B3.out⟩, Q2.out, by simp, Q3.out⟩
      | some ad =>
        obtain ⟨b, o, rfl⟩ := haf ad rfl
        clear hca haf
        go_wp2_with fail
        refine (l1Copy_any2 _ l _ c w rfl RL.out (by omega) (fun h => by cases h)).mono ?_
        rintro e w1 ⟨cv, rfl, hown, hb⟩
        have OC := hid hown; have B1 := hid hb
        have hs1 := hb.size
        clear hown hb
        go_wp2_with (at_builtin; refine law_push tI64 _ rfl _ _ rfl w.heap.size _ (l.map (.int .i64)) rfl OC.out _ _ rfl ?c0 rfl ?c1 ?c2 ?_)
        try (case c0 => simp)
        try (case c1 => exact Nat.lt_of_le_of_lt hxl (by decide))
        try (case c2 => exact hs1)
        intro v2 w2 h1 h2
        have OP := hid (show Own 2 w2 w.heap.size v2 ((l ++ [n]).map (.int .i64)) by rw [List.map_append]; exact h1)
        have B2 := hid (B1.out.trans (grown_below h2 hs1 (fun g hg => OC.out.ge g hg)))
        have hs2 := B2.out.size
        clear h1 h2 OC
        rcases Nat.lt_or_eq_of_le hc with hcl | hcl
        · go_wp2_with (at_builtin; refine law_append tI64 _ rfl _ _ rfl (Value.int .i64) w.heap.size _ ((l ++ [n]).map (.int .i64)) rfl OP.out _ _ ([] : List Int) rfl (Rd.nil _ _ _) ?d4 ?d0 ?d1 ?d2 ?_)
          try (case d4 => intro h; cases h)
          try (case d0 => intro y hy; cases hy)
          try (case d1 => simp; omega)
          try (case d2 => exact hs2)
          intro v3 w3 h3 h4
          have OF := hid (show Own 2 w3 w.heap.size v3 ((l ++ [n]).map (.int .i64)) by simpa using h3)
          have B3 := hid (B2.out.trans (grown_below h4 hs2 (fun g hg => OP.out.ge g hg)))
          clear h3 h4 OP
          go_wp2
          go_ret
          exact .inr ⟨Q1.out, _, ⟨_, rfl, OF.out, B3.out⟩, Q2.out, by simp, Q3.out⟩
        · subst hcl
          go_wp2_with (at_builtin; refine law_append tI64 _ rfl _ _ rfl (Value.int .i64) w.heap.size _ ((l ++ [n]).map (.int .i64)) rfl OP.out _ _ ([] : List Int) rfl (Rd.nil _ _ _) ?d4 ?d0 ?d1 ?d2 ?_)
          try (case d4 => intro h; cases h)
          try (case d0 => intro y hy; cases hy)
          try (case d1 => simp; omega)
          try (case d2 => exact hs2)
          intro v3 w3 h3 h4
          have OF := hid (show Own 2 w3 w.heap.size v3 ((l ++ [n]).map (.int .i64)) by simpa using h3)
          have B3 := hid (B2.out.trans (grown_below h4 hs2 (fun g hg => OP.out.ge g hg)))
          clear h3 h4 OP
          go_wp2
          go_ret
          exact .inr ⟨Q1.out, _, ⟨_, rfl, OF.out, B3.out⟩, Q2.out, by simp, Q3.out⟩
end
section
theorem cell_other {w : World} {p q : Addr} {v : Value} (h : w.cell? p = some v) (u : Value) (hne : p.block ≠ q.block) : (w.setCell q u).cell? p = some v :=
  cellK (S := fun g => g = q.block) (Kept.setCell (S := fun g => g = q.block) (p := q) (Kept.refl _ w) rfl u) h hne
/-- One row of a slice of rows is put anew: the row that lay there, or a new one. -/
theorem OwnM.put {eo ei : TypeId} (hne : ei ≠ eo) {w w' : World} {B g n c : Nat} {ps : List Row} (h : OwnM eo ei w B (.slice (some ⟨g, 0, none⟩) n c) ps) (i : Nat) (hi : i < ps.length) (r : Row) (hb : Below w.heap.size w w') (hB : B ≤ w.heap.size)
    (hr : r = ps[i] ∨ Own ei w' w.heap.size r.val (r.z.map (.int .i64))) : OwnM eo ei (w'.setCell ⟨g, i, none⟩ r.val) B (.slice (some ⟨g, 0, none⟩) n c) (ps.set i r) := by
  have ho' := h.outer.past hb (Nat.le_refl _)
  have hi' := h.inner.past hb (Nat.le_refl _)
  refine ⟨?_, ?_⟩
  · have := ho'.store i (by rw [List.length_map]; exact hi) r.val
    rwa [← List.map_set] at this
  · have hin : Inner ei w' B (ps.set i r) := by
      rcases hr with rfl | hr
      · rw [List.set_getElem_self]; exact hi'
      · have hold : ∀ q ∈ ps, ∀ k, q.val.ownBlock = some k → k < w.heap.size := fun q hq k hk => (h.inner.own q hq).lt k hk
        refine ⟨?_, ?_⟩
        · intro q hq
          rcases List.mem_or_eq_of_mem_set hq with hq | rfl
          · exact hi'.own q hq
          · exact hr.base hB
        · rw [List.pairwise_iff_getElem]
          intro a b ha hb' hab
          rw [List.length_map, List.length_set] at ha hb'
          rw [List.getElem_map, List.getElem_map, List.getElem_set, List.getElem_set]
          by_cases hia : i = a
          · rw [if_pos hia, if_neg (by omega)]
            cases hv : r.val.ownBlock with
            | none => exact .inl rfl
            | some k =>
              right; intro e
              have h1 := hr.ge k hv
              have h2 := hold ps[b] (List.getElem_mem hb') k e.symm
              omega
          · rw [if_neg hia]
            by_cases hib : i = b
            · rw [if_pos hib]
              cases hv : ps[a].val.ownBlock with
              | none => exact .inl rfl
              | some k =>
                right; intro e
                have h1 := hr.ge k e.symm
                have h2 := hold ps[a] (List.getElem_mem ha) k hv
                omega
            · rw [if_neg hib]
              have h1 := List.pairwise_iff_getElem.1 hi'.apart a b (by rw [List.length_map]; exact ha) (by rw [List.length_map]; exact hb') hab
              rw [List.getElem_map, List.getElem_map] at h1
              exact h1
    exact hin.setCell_outer ho' hne r.val
theorem into_mems {m x : Nat} (hm : m < 65536) (hx : x < 16) {R : List Int} (hs : R.Pairwise (· < ·)) (h : ∀ y, y ∈ R ↔ y ∈ mems m ∨ y = (x : Int)) : R = mems (m ||| 2 ^ x) := by
  have hpw : 2 ^ x < 65536 := Nat.pow_lt_pow_right (by decide) hx
  have hor : m ||| 2 ^ x < 65536 := Nat.or_lt_two_pow (n := 16) hm hpw
  apply sorted_ext hs (mems_sorted _)
  intro y
  rw [h y, mems_mem (by omega), mems_mem (by omega)]
  constructor
  · rintro (⟨i, rfl, hi⟩ | rfl)
    · exact ⟨i, rfl, by rw [Nat.testBit_or, hi]; rfl⟩
    · exact ⟨x, rfl, by rw [Nat.testBit_or, Nat.testBit_two_pow_self]; simp⟩
  · rintro ⟨i, rfl, hi⟩
    rw [Nat.testBit_or, Nat.testBit_two_pow, Bool.or_eq_true, decide_eq_true_iff] at hi
    rcases hi with hi | hi
    · exact .inl ⟨i, rfl, hi⟩
    · right; rw [hi]
theorem l1Into_row (q : Row) (m x : Nat) (w : World) (hq : q.z = mems m) (hm : m < 65536) (hx : x < 16) (hr : q.ok w) (haf : ∀ ad, q.a = some ad → ∃ b o, ad = ⟨b, o, none⟩) (hl : q.z.length ≤ 16) :
    Calls Tryd.prog 113 #[.slice q.a q.z.length q.c, .int .i64 x] w fun e w' => ∃ r : Row, e = .returned (.slice r.a r.z.length r.c) ∧ r.z = mems (m ||| 2 ^ x) ∧ (r = q ∨ Own 2 w' w.heap.size r.val (r.z.map (.int .i64))) ∧ Below w.heap.size w w' := by
  refine (l1Into_any q.a q.z q.c x w (by rw [hq]; exact mems_sorted _) hr.1 hl hr.2.1 hr.2.2.1 hr.2.2.2 haf).mono ?_
  rintro e w' (⟨hin, rfl, hb⟩ | ⟨hni, R, ⟨rv, rfl, hown, hb⟩, hs, hlen, hmem⟩)
  · refine ⟨q, rfl, ?_, .inl rfl, hb⟩
    refine into_mems hm hx (by rw [hq]; exact mems_sorted _) ?_
    intro y
    rw [hq] at hin ⊢
    exact ⟨.inl, fun h => h.elim id (fun e => by rw [e]; exact hin)⟩
  · obtain ⟨ra, rc, rfl, _⟩ := Own.rd hown
    have hR : R = mems (m ||| 2 ^ x) := into_mems hm hx hs (fun y => by rw [hmem y, hq])
    exact ⟨⟨ra, R, rc⟩, rfl, hR, .inr hown, hb⟩
theorem Kept.setCell_new {S : Nat → Prop} {a w : World} (h : Kept S a w) {p : Addr} (hp : a.heap.size ≤ p.block) (u : Value) : Kept S a (w.setCell p u) := by
  have h1 := Kept.setCell (S := fun g => S g ∨ a.heap.size ≤ g) (h.mono fun _ hk => .inl hk) (p := p) (.inr hp) u
  exact ⟨h1.os, h1.tape, h1.output, h1.size, fun k hk hn => h1.block k hk (fun hs => hs.elim hn (fun hge => by omega))⟩
theorem ret_cell {fn : Func} {c : Tmp} {t : TypeId} (h : fn.results = #[.cell c t]) (tmps : Array Value) (P : Program) (w : World) (ad : Addr) (v : Value) (ha : tmps.getD c undef = .pointer (some ad)) (hl : (loadVar t ad).run P w = .ok v w) : (results fn tmps).run P w = .ok v w := by
  have ha2 : tmps[c]?.getD undef = .pointer (some ad) := by rw [← Array.getD_eq_getD_getElem?]; exact ha
  simp [results, h, ha2, asAddr, hl]
theorem OwnM.setCell_typed {eo ei e : TypeId} {w : World} {B B' g n c : Nat} {v : Value} {ps : List Row} {xs : List Value} (h : OwnM eo ei w B v ps) (ho : Own e w B' (.slice (some ⟨g, 0, none⟩) n c) xs) (h1 : eo ≠ e) (h2 : ei ≠ e) (i : Nat) (u : Value) : OwnM eo ei (w.setCell ⟨g, i, none⟩ u) B v ps :=
  ⟨h.outer.setCell_other _ _ (by simpa [Value.ownBlock] using h.outer.ne ho h1), ⟨fun r hr => (h.inner.own r hr).setCell_other _ _ (by simpa [Value.ownBlock] using (h.inner.own r hr).ne ho h2), h.inner.apart⟩⟩
/-- A graph of one's own, its rows the members of the sets A. -/
def OwnG (P : Nat → Prop) (w : World) (B gb n cap : Nat) (A : List Nat) : Prop := ∃ ps : List Row, OwnM 30 2 w B (.slice (some ⟨gb, 0, none⟩) n cap) ps ∧ nums ps = A.map mems ∧ ∀ r ∈ ps, ∀ k, r.val.ownBlock = some k → ¬ P k
theorem OwnG.past {P : Nat → Prop} {w w' : World} {B B' gb n cap : Nat} {A : List Nat} (h : OwnG P w B gb n cap A) (hb : Below B' w w') (hB : w.heap.size ≤ B') : OwnG P w' B gb n cap A := by
  obtain ⟨ps, h1, h2⟩ := h; exact ⟨ps, h1.past hb hB, h2⟩
def linkA (A : List Nat) (u v : Nat) : List Nat := (A.set u (A.getD u 0 ||| 2 ^ v)).set v (A.getD v 0 ||| 2 ^ u)
theorem OwnM.aform {eo ei : TypeId} {w : World} {B : Nat} {v : Value} {ps : List Row} (h : OwnM eo ei w B v ps) (r : Row) (hr : r ∈ ps) : ∀ ad, r.a = some ad → ∃ b o, ad = ⟨b, o, none⟩ := by
  intro ad ha
  rcases (h.inner.own r hr).form with ⟨h1, _⟩ | ⟨g, cap, spare, h1, _⟩
  · unfold Row.val at h1
    rw [ha] at h1; cases h1
  · unfold Row.val at h1
    rw [ha] at h1
    injection h1 with h2 _ _
    injection h2 with h2
    exact ⟨g, 0, h2⟩
set_option maxRecDepth 100000 in
set_option maxHeartbeats 1000000 in
theorem l1Link_any (P : Nat → Prop) (B gb n cap u v : Nat) (A : List Nat) (w : World) (hg : OwnG P w B gb n cap A) (hP : ∀ k, P k → k < w.heap.size) (hA : ∀ x ∈ A, x < 65536) (hl : A.length = n) (hn : n ≤ 16) (hu : u < n) (hv : v < n) (huv : u ≠ v) (_hB : B ≤ w.heap.size) :
    Calls Tryd.prog 94 #[.agg #[.slice (some ⟨gb, 0, none⟩) n cap], .int .i64 u, .int .i64 v] w fun e w' => e = .returned (.agg #[.slice (some ⟨gb, 0, none⟩) n cap]) ∧ OwnG P w' B gb n cap (linkA A u v) ∧ Kept (fun g => g = gb) w w' := by
  obtain ⟨ps, hom, hnp, hps⟩ := hg
  have HPS := hid hps; clear hps
  have hpl : ps.length = n := by
    have h1 := congrArg List.length hnp
    rw [nums_length, List.length_map, hl] at h1; exact h1
  have hrow : ∀ i (hi : i < ps.length), ps[i].z = mems (A.getD i 0) := by
    intro i hi
    have h1 : (nums ps)[i]'(by rw [nums_length]; exact hi) = (A.map mems)[i]'(by rw [List.length_map, hl, ← hpl]; exact hi) := by simp [hnp]
    rw [List.getElem_map] at h1
    rw [List.getD_eq_getElem?_getD, List.getElem?_eq_getElem (by rw [hl, ← hpl]; exact hi)]
    simpa [nums] using h1
  have hAg : ∀ i, A.getD i 0 < 65536 := by
    intro i
    rw [List.getD_eq_getElem?_getD]
    by_cases hi : i < A.length
    · rw [List.getElem?_eq_getElem hi]; exact hA _ (List.getElem_mem hi)
    · rw [List.getElem?_eq_none (by omega)]; decide
  have hm16 : ∀ m, m < 65536 → (mems m).length ≤ 16 := by
    intro m hm
    have h1 := nodup_le (mems m) 16 ((mems_sorted m).imp (fun h => Int.ne_of_lt h)) (fun x hx => mems_lt16 hm x hx)
    exact h1
  have HOM := hid hom; have HROW := hid hrow; have HAG := hid hAg; have HM := hid hm16; have HPL := hid hpl; have HNP := hid hnp
  clear hom hrow hAg hm16 hnp hA
  obtain ⟨w0, hw0⟩ : ∃ w0, w0 = ((w.alloc (.cells #[.slice (some ⟨gb, 0, none⟩) n cap] 24)).alloc (.cells #[.slice none 0 0] 24)) := ⟨_, rfl⟩
  have B0 := hid (show Below w.heap.size w w0 by rw [hw0]; exact (((Below.refl _ _).alloc (Nat.le_refl _) _).alloc (by simp) _))
  have c0 : w0.cell? ⟨w.heap.size, 0, none⟩ = some (.slice (some ⟨gb, 0, none⟩) n cap) := by rw [hw0]; simp [go_sem]
  have c1 : w0.cell? ⟨w.heap.size + 1, 0, none⟩ = some (.slice none 0 0) := by rw [hw0]; simp [go_sem]
  have HW := hid hw0; clear hw0
  have OM := hid (HOM.out.past B0.out (Nat.le_refl _))
  have OR := hid (show Own 24 w0 (w.heap.size + 1) (.slice (some ⟨w.heap.size + 1, 0, none⟩) 1 1) [.slice none 0 0] by
    have h := own_new 24 (w.alloc (.cells #[.slice (some ⟨gb, 0, none⟩) n cap] 24)) [.slice none 0 0] (by simp [maxLen])
    rw [HW.out]
    simpa using h)
  have HNUM := hid (fun (r r2 : Row) (h1 : r.z = mems (A.getD u 0 ||| 2 ^ v)) (h2 : r2.z = mems (A.getD v 0 ||| 2 ^ u)) => (show nums ((ps.set u r).set v r2) = (linkA A u v).map mems by
    have e := HNP.out
    unfold nums at e ⊢
    unfold linkA
    rw [List.map_set, List.map_set, List.map_set, List.map_set, e, h1, h2]))
  have hgb := HOM.out.outer.lt gb rfl
  have hgB := HOM.out.outer.ge gb rfl
  have hui : (u : Int) < (n : Int) := by omega
  have hvi : (v : Int) < (n : Int) := by omega
  have RA := hid (OwnM.rdm OM.out)
  have hup : u < ps.length := by omega
  obtain ⟨b1, o1, hb1, cu, huok⟩ := RA.out.at u hup
  obtain ⟨rfl, rfl⟩ : gb = b1 ∧ 0 = o1 := by simp at hb1; exact hb1
  have HUOK := hid huok
  have hvp : v < ps.length := by omega
  have hsz0 := B0.out.size
  clear hb1 huok hpl
  rw [Nat.zero_add] at cu
  go_enter Tryd.func94, Tryd.ntmps94
  go_wp2_with fail
  rw [← HW.out]
  have D3 : Drawn w0 w0.drew := ⟨1, rfl⟩
  have OM3 := hid (OM.out.past (D3.below w0.heap.size) (Nat.le_refl _))
  have f0 := dcell D3 c0
  have fu := dcell D3 cu
  have hok3 := hid (HUOK.out.drawn D3)
  go_region_with ((first | (go_at_call 113; refine (l1Into_row ps[u] _ v _ (HROW.out u hup) (HAG.out u) (by omega) hok3.out (OM.out.aform _ (List.getElem_mem hup)) (by rw [HROW.out u hup]; exact HM.out _ (HAG.out u))).mono ?_; rintro e w4 ⟨r, rfl, hz, hcase, hb⟩; have HZ := hid hz; have HC := hid hcase; have g0 := cellB hb f0 (Nat.le_refl _); have gu := cellB hb fu (Nat.le_refl _); have HB4 := hid hb; have hfr := (OM3.out.past hb (Nat.le_refl _)).outer.free u; clear hz hcase hb)))
  all_goals (
    have OR4 := hid ((OR.out.past (D3.below w0.heap.size) (Nat.le_refl _)).past HB4.out (Nat.le_refl _))
    have OR5 := hid (OR4.out.setCell_other ⟨gb, u, none⟩ (.slice r.a r.z.length r.c) (.inr (by simp [Value.ownBlock]; omega)))
    clear OR4
    have OM5 := hid (show OwnM 30 2 (w4.setCell ⟨gb, u, none⟩ (.slice r.a r.z.length r.c)) B (.slice (some ⟨gb, 0, none⟩) n cap) (ps.set u r) from OM3.out.put (by decide) u hup r HB4.out (show B ≤ w0.heap.size by omega) HC.out)
    have BB5 := hid (show Kept (fun g => g = gb) w0 (w4.setCell ⟨gb, u, none⟩ (.slice r.a r.z.length r.c)) from Kept.setCell (S := fun g => g = gb) ((Kept.of_below _ (D3.below w0.heap.size)).trans (Kept.of_below _ HB4.out)) (p := ⟨gb, u, none⟩) rfl _)
    have c05 : (w4.setCell ⟨gb, u, none⟩ (.slice r.a r.z.length r.c)).cell? ⟨w.heap.size, 0, none⟩ = some (.slice (some ⟨gb, 0, none⟩) n cap) := cell_other g0 _ (by simp only; omega)
    have c15 : (w4.setCell ⟨gb, u, none⟩ (.slice r.a r.z.length r.c)).cell? ⟨w.heap.size + 1, 0, none⟩ = some (.slice none 0 0) := cell_other (cellB HB4.out (dcell D3 c1) (Nat.le_refl _)) _ (by simp only; omega)
    have hs5 : w0.heap.size ≤ (w4.setCell ⟨gb, u, none⟩ (.slice r.a r.z.length r.c)).heap.size := by have := HB4.out.size; simp [World.setCell]; exact this
    clear g0 gu hfr f0 fu OM3 hok3
    generalize w4.setCell ⟨gb, u, none⟩ (.slice r.a r.z.length r.c) = w5 at *
    have RA5 := hid (OwnM.rdm OM5.out)
    have hv5 : v < (ps.set u r).length := by rw [List.length_set]; exact hvp
    obtain ⟨b2, o2, hb2, cv, hvok⟩ := RA5.out.at v hv5
    have hget : (ps.set u r)[v] = ps[v] := List.getElem_set_ne huv _
    rw [hget] at cv hvok
    obtain ⟨rfl, rfl⟩ : gb = b2 ∧ 0 = o2 := by simp at hb2; exact hb2
    rw [Nat.zero_add] at cv
    have D6 : Drawn w5 w5.drew := ⟨1, rfl⟩
    have OM6 := hid (OM5.out.past (D6.below w5.heap.size) (Nat.le_refl _))
    have q0 := dcell D6 c05
    have q1 := dcell D6 c15
    have OR6 := hid (OR5.out.past (D6.below w5.heap.size) (Nat.le_refl _))
    have qv := dcell D6 cv
    have VOK6 := hid (hvok.drawn D6)
    clear hb2 hvok hget
    go_wp2_with fail
    go_region_with ((first | (go_at_call 113; refine (l1Into_row ps[v] _ u _ (HROW.out v hvp) (HAG.out v) (by omega) VOK6.out (OM.out.aform _ (List.getElem_mem hvp)) (by rw [HROW.out v hvp]; exact HM.out _ (HAG.out v))).mono ?_; rintro e w8 ⟨r2, rfl, hz, hcase, hb⟩; have HZ2 := hid hz; have HC2 := hid hcase; have h0 := cellB hb q0 (Nat.le_refl _); have h1 := cellB hb q1 (Nat.le_refl _); have hv0 := cellB hb qv (Nat.le_refl _); have HB8 := hid hb; have hfr2 := (OM6.out.past hb (Nat.le_refl _)).outer.free v; clear hz hcase hb)))
    all_goals (
      have OM9 := hid (show OwnM 30 2 (w8.setCell ⟨gb, v, none⟩ (.slice r2.a r2.z.length r2.c)) B (.slice (some ⟨gb, 0, none⟩) n cap) ((ps.set u r).set v r2) from OM6.out.put (by decide) v hv5 r2 HB8.out (show B ≤ w5.heap.size by omega) (HC2.out.elim (fun e => .inl (by rw [e]; exact (List.getElem_set_ne huv _).symm)) .inr))
      have OR9 := hid ((OR6.out.past HB8.out (Nat.le_refl _)).setCell_other ⟨gb, v, none⟩ (.slice r2.a r2.z.length r2.c) (.inr (by simp [Value.ownBlock]; omega)))
      have BB9 := hid (show Kept (fun g => g = gb) w5 (w8.setCell ⟨gb, v, none⟩ (.slice r2.a r2.z.length r2.c)) from Kept.setCell (S := fun g => g = gb) ((Kept.of_below _ (D6.below w5.heap.size)).trans (Kept.of_below _ HB8.out)) (p := ⟨gb, v, none⟩) rfl _)
      have c09 : (w8.setCell ⟨gb, v, none⟩ (.slice r2.a r2.z.length r2.c)).cell? ⟨w.heap.size, 0, none⟩ = some (.slice (some ⟨gb, 0, none⟩) n cap) := cell_other h0 _ (by simp only; omega)
      clear h0 h1 hv0 hfr2 q0 q1 qv OM6 OR6 VOK6
      generalize w8.setCell ⟨gb, v, none⟩ (.slice r2.a r2.z.length r2.c) = w9 at *
      have c19 := OR9.out.cell 0 (by simp)
      have hfr9 := OR9.out.free 0
      have OM10 := hid (OM9.out.setCell_typed OR9.out (by decide) (by decide) 0 (.slice (some ⟨gb, 0, none⟩) n cap))
      have BB10 := hid (show Kept (fun g => g = gb) w (w9.setCell ⟨w.heap.size + 1, 0, none⟩ (.slice (some ⟨gb, 0, none⟩) n cap)) from Kept.setCell_new (S := fun g => g = gb) ((Kept.of_below _ B0.out).trans (BB5.out.trans BB9.out)) (p := ⟨w.heap.size + 1, 0, none⟩) (by simp only; omega) _)
      have HNN := hid (HNUM.out r r2 HZ.out HZ2.out)
      have HAV := hid (show ∀ r' ∈ (ps.set u r).set v r2, ∀ k, r'.val.ownBlock = some k → ¬ P k by
        have e1 : w0.drew.heap.size = w0.heap.size := rfl
        have e2 : w5.drew.heap.size = w5.heap.size := rfl
        intro r' hr' k hk hpk
        have hlt := hP k hpk
        rcases List.mem_or_eq_of_mem_set hr' with hr' | rfl
        · rcases List.mem_or_eq_of_mem_set hr' with hr' | rfl
          · exact HPS.out r' hr' k hk hpk
          · rcases HC.out with e | ho
            · exact HPS.out _ (List.getElem_mem hup) k (by rw [← e]; exact hk) hpk
            · have := ho.ge k hk; omega
        · rcases HC2.out with e | ho
          · exact HPS.out _ (List.getElem_mem hvp) k (by rw [← e]; exact hk) hpk
          · have := ho.ge k hk; omega)
      have c110 : (w9.setCell ⟨w.heap.size + 1, 0, none⟩ (.slice (some ⟨gb, 0, none⟩) n cap)).cell? ⟨w.heap.size + 1, 0, none⟩ = some (.slice (some ⟨gb, 0, none⟩) n cap) := by
        have h := (OR9.out.store 0 (by simp) (.slice (some ⟨gb, 0, none⟩) n cap)).cell 0 (by simp)
        simpa using h
      have HC110 := hid c110
      clear c110
      go_wp2
      refine bodyPost_ret (ret_cell rfl _ _ _ ⟨w.heap.size + 1, 0, none⟩ (.agg #[.slice (some ⟨gb, 0, none⟩) n cap]) rfl ?_) rfl ⟨rfl, ⟨_, OM10.out, HNN.out, HAV.out⟩, BB10.out⟩
      have c110 := HC110.out
      clear OM5 OM9 OM10 OR5 OR9 BB5 BB9 BB10
      go_simp))
end
end Go.Proofs.YtccohcdgcpcbjaaDoor
