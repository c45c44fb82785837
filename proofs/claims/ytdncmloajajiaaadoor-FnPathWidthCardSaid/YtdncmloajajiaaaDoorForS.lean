/- What an arrow forces: the reference's. · What an arrow forces: the reference's, whole. -/
import Derived.Test.YtdncmloajajiaaaDoorForM
import Derived.Test.YtdncmloajajiaaaDoorAroA
import Derived.Test.YtdncmloajajiaaaDoorEdges
import Derived.Test.YtdncmloajajiaaaDoorEdgeIn
namespace Go.Proofs.YtdncmloajajiaaaDoor
open Go.RowKit
section
section
def prI (p : Nat) : List Int := [((p / 16 : Nat) : Int), ((p % 16 : Nat) : Int)]
theorem prI_inj {p q : Nat} (h : prI p = prI q) : p = q := by
  unfold prI at h
  simp at h
  omega
noncomputable def forcedR (g : List (List Int)) (u v : Int) : List (List Int) := if EdgeP g u v then (keyL (bqE (g.map maskL) (cod u.toNat v.toNat))).map prI else []
theorem keyL_len (Q : List (Nat × Nat)) : (keyL Q).length ≤ 256 := by
  have : (keyL Q).length ≤ (List.range 256).length := List.length_filter_le _ _
  simpa using this
theorem forcedR_small (g : List (List Int)) (u v : Int) : SmallZ (forcedR g u v) := by
  unfold forcedR
  split
  · refine ⟨by rw [List.length_map]; exact Nat.le_trans (keyL_len _) (by decide), fun r hr => ?_⟩
    obtain ⟨p, _, rfl⟩ := List.mem_map.1 hr
    simp [prI]
  · exact ⟨by decide, fun r hr => by cases hr⟩
theorem put_list {L : List Nat} (hs : L.Pairwise (· < ·)) {x k : Nat} (hk : k ≤ L.length) (hlo : ∀ j (hj : j < L.length), j < k → L[j] < x) (hhi : ∀ h : k < L.length, x < L[k]) :
    (L.take k ++ x :: L.drop k).Pairwise (· < ·) ∧ ∀ y, y ∈ L.take k ++ x :: L.drop k ↔ y ∈ L ∨ y = x := by
  have hd : ∀ y ∈ L.drop k, x < y := by
    intro y hy
    obtain ⟨i, hi, rfl⟩ := List.mem_iff_getElem.1 hy
    rw [List.length_drop] at hi
    rw [List.getElem_drop]
    have h1 := hhi (by omega)
    by_cases e : i = 0
    · subst e; simpa using h1
    · exact Nat.lt_trans h1 (List.pairwise_iff_getElem.1 hs k (k + i) (by omega) (by omega) (by omega))
  have ht : ∀ y ∈ L.take k, y < x := by
    intro y hy
    obtain ⟨i, hi, rfl⟩ := List.mem_iff_getElem.1 hy
    rw [List.length_take] at hi
    rw [List.getElem_take]
    exact hlo i (by omega) (by omega)
  refine ⟨?_, fun y => ?_⟩
  · rw [List.pairwise_append, List.pairwise_cons]
    refine ⟨hs.sublist (List.take_sublist _ _), ⟨hd, hs.sublist (List.drop_sublist _ _)⟩, fun a ha b hb => ?_⟩
    rcases List.mem_cons.1 hb with rfl | hb
    · exact ht a ha
    · exact Nat.lt_trans (ht a ha) (hd b hb)
  · rw [List.mem_append, List.mem_cons]
    conv => rhs; rw [← List.take_append_drop k L, List.mem_append]
    constructor
    · rintro (h | h | h)
      · exact .inl (.inl h)
      · exact .inr h
      · exact .inl (.inr h)
    · rintro ((h | h) | h)
      · exact .inl h
      · exact .inr (.inr h)
      · exact .inr (.inl h)
set_option maxHeartbeats 1000000 in
theorem l19Ahead_any (a a' : Option Addr) (a0 a1 b0 b1 : Int) (c c' : Nat) (w : World) (hr : Rd (Value.int .i64) w a [a0, a1]) (hr' : Rd (Value.int .i64) w a' [b0, b1]) :
    Calls Tryd.prog 92 #[.slice a 2 c, .slice a' 2 c'] w fun e w' => e = .returned (.bool (decide (a0 < b0 ∨ a0 = b0 ∧ a1 < b1))) ∧ Drawn w w' := by
  have HR := hid hr; have HR' := hid hr'; clear hr hr'
  go_enter Tryd.func92, Tryd.ntmps92
  go_wp2
  go_loopw [5] (fun i wr => ∃ k : Nat, k ≤ 2 ∧ i = .int .i64 k ∧ (1 ≤ k → a0 = b0) ∧ (2 ≤ k → a1 = b1) ∧ Drawn w wr) (fun i _ => 2 - (intOf i).toNat)
  case atStart => exact ⟨0, Nat.zero_le _, rfl, fun h => absurd h (by decide), fun h => absurd h (by decide), Drawn.refl _⟩
  case round =>
    obtain ⟨k, hk, rfl, h1, h2, hd⟩ := hrel
    have HD := hid hd; clear hd
    have H1 := hid h1; have H2 := hid h2; clear h1 h2
    by_cases hlt : k < 2
    · obtain ⟨b, o, rfl, hc⟩ := HR.out.drawn HD.out k hlt
      obtain ⟨b', o', rfl, hc'⟩ := HR'.out.drawn HD.out k hlt
      have HS := hid (show ∀ x y : Int, [a0, a1][k] = x → [b0, b1][k] = y → x = y → (1 ≤ k + 1 → a0 = b0) ∧ (2 ≤ k + 1 → a1 = b1) from fun x y hx hy e => by
        subst e
        have h1 := H1.out
        rcases (show k = 0 ∨ k = 1 by omega) with rfl | rfl
        · simp at hx hy; exact ⟨fun _ => hx.trans hy.symm, fun h => absurd h (by decide)⟩
        · simp at hx hy; exact ⟨fun _ => h1 (by decide), fun _ => hx.trans hy.symm⟩)
      have HN := hid (show ∀ x y : Int, [a0, a1][k] = x → [b0, b1][k] = y → x ≠ y → decide (x < y) = decide (a0 < b0 ∨ a0 = b0 ∧ a1 < b1) from fun x y hx hy e => by
        have h1 := H1.out
        apply Bool.eq_iff_iff.2
        rw [decide_eq_true_iff, decide_eq_true_iff]
        rcases (show k = 0 ∨ k = 1 by omega) with rfl | rfl
        · simp at hx hy
          subst hx; subst hy
          exact ⟨fun h => .inl h, fun h => h.elim id fun h => absurd h.1 e⟩
        · simp at hx hy
          subst hx; subst hy
          have := h1 (by decide)
          exact ⟨fun h => .inr ⟨this, h⟩, fun h => h.elim (fun h => by omega) fun h => h.2⟩)
      generalize hx : [a0, a1][k] = x at *
      generalize hy : [b0, b1][k] = y at *
      have HX := hid hx; have HY := hid hy; clear hx hy
      by_cases he : x = y
      · have hs := HS.out x y rfl rfl he
        have HS2 := hid hs; clear hs
        subst he
        have hb : (x != x) = false := by simp
        clear HS HN
        go_wp2
        go_quiet (fail)
        go_wp2
        go_roundw
        case rel => exact ⟨k + 1, by omega, by go_num, HS2.out.1, HS2.out.2, HD.out.n _⟩
        case measure => simp [intOf]; omega
      · have hb : (x != y) = true := by simpa using he
        have HN2 := hid (HN.out x y rfl rfl he)
        have HE := hid he
        clear he HS HN
        go_wp2
        go_quiet (fail)
        go_wp2
        go_quiet (fail)
        go_wp2
        go_ret
        exact ⟨ret_bool (by rw [← HN2.out]), (HD.out.n _).n _⟩
    · obtain rfl : k = 2 := by omega
      have HF := hid (show (false : Bool) = decide (a0 < b0 ∨ a0 = b0 ∧ a1 < b1) by
        symm
        rw [decide_eq_false_iff_not]
        have h1 := H1.out (by decide); have h2 := H2.out (by decide)
        omega)
      go_wp2
      go_ret
      exact ⟨ret_bool (by rw [← HF.out]), HD.out⟩
theorem l19Ahead_pr (a a' : Option Addr) (p q : Nat) (c c' : Nat) (w : World) (b : Bool) (hb : decide (p < q) = b) (hr : Rd (Value.int .i64) w a (prI p)) (hr' : Rd (Value.int .i64) w a' (prI q)) :
    Calls Tryd.prog 92 #[.slice a 2 c, .slice a' 2 c'] w fun e w' => e = .returned (.bool b) ∧ Drawn w w' := by
  refine (l19Ahead_any a a' _ _ _ _ c c' w hr hr').mono ?_
  rintro e w' ⟨rfl, h⟩
  refine ⟨ret_bool ?_, h⟩
  rw [← hb]
  apply Bool.eq_iff_iff.2
  rw [decide_eq_true_iff, decide_eq_true_iff]
  omega
theorem apart_sy {a b : Value} (h : a.ownBlock = none ∨ a.ownBlock ≠ b.ownBlock) : b.ownBlock = none ∨ b.ownBlock ≠ a.ownBlock := by
  cases hb : b.ownBlock with
  | none => exact .inl rfl
  | some g =>
    right
    rcases h with h | h
    · rw [h]; simp
    · rw [hb] at h; exact fun e => h e.symm
theorem Inner.perm {ei : TypeId} {w : World} {B : Nat} {rs rs' : List Row} (h : Inner ei w B rs) (hp : rs'.Perm rs) : Inner ei w B rs' :=
  ⟨fun r hr => h.own r (hp.mem_iff.1 hr), ((hp.map Row.val).pairwise_iff (fun {_ _} h => apart_sy h)).2 h.apart⟩
theorem Inner.sub {ei : TypeId} {w : World} {B : Nat} {rs rs' : List Row} (h : Inner ei w B rs) (hs : rs'.Sublist rs) : Inner ei w B rs' :=
  ⟨fun r hr => h.own r (hs.subset hr), h.apart.sublist (hs.map _)⟩
/-- What stands at one place of a slice of pairs. -/
theorem row_pr {w : World} {a : Option Addr} {rs : List Row} {L : List Nat} (h : RdM w a rs) (hl : nums rs = L.map prI) {k : Nat} (hk : k < L.length) :
    ∃ b o ra rc, a = some ⟨b, o, none⟩ ∧ w.cell? ⟨b, o + k, none⟩ = some (.slice ra 2 rc) ∧ Rd (Value.int .i64) w ra (prI L[k]) ∧ ∃ rb ro, ra = some ⟨rb, ro, none⟩ ∧ w.cell? ⟨rb, ro, none⟩ = some (.int .i64 (L[k] / 16 : Nat)) ∧ w.cell? ⟨rb, ro + 1, none⟩ = some (.int .i64 (L[k] % 16 : Nat)) := by
  have hn : rs.length = L.length := by have := congrArg List.length hl; simpa [nums] using this
  obtain ⟨b, o, ha, hc, hok⟩ := h.at k (by omega)
  have hz : (rs[k]'(by omega)).z = prI L[k] := by
    have h1 : (nums rs)[k]'(by rw [nums_length]; omega) = (L.map prI)[k]'(by simpa using hk) := by simp only [hl]
    simpa [nums] using h1
  rw [hz] at hc
  have hr := hok.1
  rw [hz] at hr
  obtain ⟨rb, ro, h1, h2⟩ := hr 0 (by simp [prI])
  obtain ⟨rb', ro', h1', h2'⟩ := hr 1 (by simp [prI])
  obtain ⟨rfl, rfl⟩ : rb = rb' ∧ ro = ro' := by rw [h1] at h1'; simpa using h1'
  exact ⟨b, o, _, _, ha, hc, hr, rb, ro, h1, by simpa [prI] using h2, by simpa [prI] using h2'⟩
theorem l1Same_pr (a a' : Option Addr) (p q : Nat) (c c' : Nat) (w : World) (b : Bool) (hb : decide (p = q) = b) (hr : Rd (Value.int .i64) w a (prI p)) (hr' : Rd (Value.int .i64) w a' (prI q)) :
    Calls Tryd.prog 93 #[.slice a 2 c, .slice a' 2 c'] w fun e w' => e = .returned (.bool b) ∧ Drawn w w' :=
  l1Same_b a a' (prI p) (prI q) c c' w b (by rw [← hb]; apply Bool.eq_iff_iff.2; rw [decide_eq_true_iff, decide_eq_true_iff]; exact ⟨prI_inj, fun h => by rw [h]⟩) hr hr' (by simp [prI]) (by simp [prI])
def PutPost (v : Value) (rs : List Row) (r : Row) (L : List Nat) (x B : Nat) (w : World) (e : Ending) (w' : World) : Prop :=
  ∃ (v' : Value) (rs' : List Row) (L' : List Nat), e = .returned v' ∧ OwnM 33 2 w' B v' rs' ∧ nums rs' = L'.map prI ∧ L'.Pairwise (· < ·) ∧ (∀ y, y ∈ L' ↔ y ∈ L ∨ y = x) ∧ ((v' = v ∨ ∀ g, v'.ownBlock = some g → w.heap.size ≤ g) ∧ (x ∉ L → rs'.Perm (rs ++ [r]))) ∧ (∃ a' c', v' = .slice (some a') rs'.length c') ∧ Below w.heap.size w w'
set_option maxRecDepth 100000 in
set_option maxHeartbeats 4000000 in
theorem l19Put_any (ab ao : Nat) (rs : List Row) (c : Nat) (L : List Nat) (ra : Option Addr) (rc x B : Nat) (w : World) (hl : nums rs = L.map prI) (hs : L.Pairwise (· < ·)) (ho : OwnM 33 2 w B (.slice (some ⟨ab, ao, none⟩) rs.length c) rs) (hi : Inner 2 w B (rs ++ [⟨ra, prI x, rc⟩])) (hm : rs.length ≤ 256) (hB : B ≤ w.heap.size) :
    Calls Tryd.prog 72 #[.slice (some ⟨ab, ao, none⟩) rs.length c, .slice ra 2 rc] w (PutPost (.slice (some ⟨ab, ao, none⟩) rs.length c) rs ⟨ra, prI x, rc⟩ L x B w) := by
  have hn : rs.length = L.length := by have := congrArg List.length hl; simpa [nums] using this
  obtain ⟨a', c', hv, hrd, hcl, hcm, _⟩ := ho.rd
  obtain ⟨rfl, _, rfl⟩ := slice_inj hv
  have RA := hid hrd
  have RX := hid (by
    have h1 := hi.own ⟨ra, prI x, rc⟩ (by simp)
    exact ownL_rd (show Own 2 w B (.slice ra 2 rc) ((prI x).map (Value.int .i64)) from h1) : Rd (Value.int .i64) w ra (prI x))
  have HL := hid hl; have HS := hid hs; have HI := hid hi; have HO := hid ho
  have HBB := hid hB
  have PUT := hid (fun (K : Nat) (v4 : Value) (w4 : World) (hK : K ≤ L.length ∧ (∀ j (hj : j < L.length), j < K → L[j] < x) ∧ (∀ h : K < L.length, x < L[K])) (h1 : Own 33 w4 w.heap.size v4 ((rs.take K ++ (⟨ra, prI x, rc⟩ : Row) :: rs.drop K).map Row.val)) (h2 : Below w.heap.size w w4) => (show PutPost (.slice (some ⟨ab, ao, none⟩) rs.length c) rs ⟨ra, prI x, rc⟩ L x B w (.returned v4) w4 from by
    obtain ⟨hK1, hK2, hK3⟩ := hK
    obtain ⟨p1, p2⟩ := put_list HS.out hK1 hK2 hK3
    have hperm : (rs.take K ++ (⟨ra, prI x, rc⟩ : Row) :: rs.drop K).Perm (rs ++ [⟨ra, prI x, rc⟩]) := by
      conv => rhs; rw [← List.take_append_drop K rs, List.append_assoc]
      exact List.Perm.append_left _ (List.perm_append_singleton _ _).symm
    refine ⟨v4, _, _, rfl, ⟨h1.base HBB.out, (HI.out.past h2 (Nat.le_refl _)).perm hperm⟩, ?_, p1, p2, ?_, ?_, h2⟩
    · unfold nums at *
      have := HL.out
      rw [List.map_append, List.map_append, List.map_cons, List.map_cons, List.map_take, List.map_drop, this, List.map_take, List.map_drop]
    · exact ⟨.inr fun g hg => h1.ge g hg, fun _ => hperm⟩
    · rcases h1.form with ⟨_, h0⟩ | ⟨g, cap, sp, hv, _⟩
      · simp at h0
      · exact ⟨⟨g, 0, none⟩, cap, by rw [hv]; simp⟩))
  have SAME := hid (fun (w4 : World) (hx : x ∈ L) (h2 : Below w.heap.size w w4) => (show PutPost (.slice (some ⟨ab, ao, none⟩) rs.length c) rs ⟨ra, prI x, rc⟩ L x B w (.returned (.slice (some ⟨ab, ao, none⟩) rs.length c)) w4 from
    ⟨_, rs, L, rfl, HO.out.past h2 (Nat.le_refl _), HL.out, HS.out, fun y => ⟨.inl, fun h => h.elim id fun e => e ▸ hx⟩, ⟨.inl rfl, fun h => absurd hx h⟩, ⟨_, _, rfl⟩, h2⟩))
  have HN := hid hn
  clear hrd hl hs hi ho hB hv hn
  go_enter Tryd.func72, Tryd.ntmps72
  go_wp2
  go_loopw [5] (fun i wr => ∃ k : Nat, k ≤ rs.length ∧ i = .int .i64 k ∧ (∀ j (hj : j < L.length), j < k → L[j] < x) ∧ Drawn w wr) (fun i _ => rs.length - (intOf i).toNat)
  case atStart => exact ⟨0, Nat.zero_le _, rfl, fun j _ hj => absurd hj (Nat.not_lt_zero j), Drawn.refl _⟩
  case round =>
    obtain ⟨k, hk, rfl, hlo, hd⟩ := hrel
    have HD := hid hd; have HLO := hid hlo; clear hd hlo
    by_cases hlt : k < rs.length
    · have hki : (k : Int) < (rs.length : Int) := by omega
      have hkL : k < L.length := by have := HN.out; omega
      obtain ⟨b1, o1, rk, ck, he, cc, hrr, _⟩ := row_pr (RA.out.drawn HD.out) HL.out hkL
      obtain ⟨rfl, rfl⟩ : ab = b1 ∧ ao = o1 := by simpa using he
      clear he
      have RR := hid hrr; clear hrr
      by_cases hy : L[k] < x
      · have HST := hid (show ∀ j (hj : j < L.length), j < k + 1 → L[j] < x from fun j hj hjk => by
          by_cases e : j = k
          · subst e; exact hy
          · exact HLO.out j hj (by omega))
        have HYB := hid (show decide (L[k] < x) = true by simpa using hy)
        clear hy
        go_wp2_with (go_at_call 92; refine (l19Ahead_pr _ _ _ x _ _ _ true HYB.out RR.out (RX.out.drawn HD.out)).mono ?_; rintro e w1 ⟨rfl, hd⟩; have HD1 := hid (HD.out.trans hd); clear hd)
        go_roundw
        case rel => exact ⟨k + 1, by omega, by go_num, HST.out, HD1.out⟩
        case measure => simp [intOf]; omega
      · have HYB := hid (show decide (L[k] < x) = false by simpa using hy)
        by_cases hxy : L[k] = x
        · have HE := hid (show decide (L[k] = x) = true by simpa using hxy)
          have HIN := hid (hxy ▸ List.getElem_mem hkL : x ∈ L)
          clear hxy hy
          go_wp2_with (first | (go_at_call 92; refine (l19Ahead_pr _ _ _ x _ _ _ false HYB.out RR.out (RX.out.drawn HD.out)).mono ?_; rintro e w1 ⟨rfl, hd⟩; have HD1 := hid (HD.out.trans hd); have RR1 := hid (RR.out.drawn hd); have cc1 := dcell hd cc; clear hd) | (go_at_call 93; refine (l1Same_pr _ _ _ x _ _ _ true HE.out RR1.out (RX.out.drawn HD1.out)).mono ?_; rintro e w2 ⟨rfl, hd⟩; have HD2 := hid (HD1.out.trans hd); clear hd))
          go_ret
          exact SAME.out _ HIN.out (HD2.out.below _)
        · have HE := hid (show decide (L[k] = x) = false by simpa using hxy)
          have HKL := hid (show k ≤ L.length ∧ (∀ j (hj : j < L.length), j < k → L[j] < x) ∧ (∀ h : k < L.length, x < L[k]) from ⟨by have := HN.out; omega, HLO.out, fun _ => by omega⟩)
          clear hxy hy
          go_wp2_with (first | (go_at_call 92; refine (l19Ahead_pr _ _ _ x _ _ _ false HYB.out RR.out (RX.out.drawn HD.out)).mono ?_; rintro e w1 ⟨rfl, hd⟩; have HD1 := hid (HD.out.trans hd); have RR1 := hid (RR.out.drawn hd); have cc1 := dcell hd cc; clear hd) | (go_at_call 93; refine (l1Same_pr _ _ _ x _ _ _ false HE.out RR1.out (RX.out.drawn HD1.out)).mono ?_; rintro e w2 ⟨rfl, hd⟩; have HD2 := hid (HD1.out.trans hd); have BLX := hid (HD2.out.below w.heap.size); clear hd RR1 cc1; have hszr : w.heap.size ≤ (w2).heap.size := (BLX.out).size; have OE := hid (show Own 33 ((w2).alloc (.cells #[] 33)) (w2).heap.size (.slice (some ⟨(w2).heap.size, 0, none⟩) 0 0) [] from own_new 33 (w2) [] (by decide)); have hb0 := alloc_below (w2) (.cells #[] 33); have hsz1 : ((w2).alloc (.cells #[] 33)).heap.size = (w2).heap.size + 1 := (by simp); have B1 := hid ((BLX.out).trans (hb0.mono hszr)); have RT1 := hid ((RA.out.top.below B1.out (Nat.le_refl _)).take (k)); have htl : (rs.take (k)).length = k := (by rw [List.length_take]; omega); have HTL := hid htl; clear htl; have HS1 := hid hsz1) | (at_builtin; refine law_append tRows _ rfl _ _ rfl Row.val w.heap.size _ [] rfl (OE.out.base hszr) (some ⟨ab, ao, none⟩) c (rs.take (k)) ?d3 RT1.out (fun h => by cases h) ?d0 ?d1 ?d2 ?_))
          try (case d3 => rw [HTL.out]; rfl)
          try (case d0 => intro y _; rfl)
          try (case d1 => rw [HTL.out]; simp; omega)
          try (case d2 => exact B1.out.size)
          intro v2 w2 h1 h2
          have O2 := hid (show Own 33 w2 w.heap.size v2 ((rs.take (k)).map Row.val) by simpa using h1)
          have B2 := hid (B1.out.trans (grown_below h2 B1.out.size (fun g hg => by cases hg; exact hszr)))
          have hs2 := B2.out.size
          have hl2 : ((rs.take (k)).map Row.val).length ≤ 256 := by rw [List.length_map, HTL.out]; omega
          clear h1 h2 OE B1 RT1 hb0 hsz1 HS1
          go_wp2_with (at_builtin; refine law_push tRows _ rfl _ _ rfl w.heap.size _ ((rs.take (k)).map Row.val) rfl O2.out _ _ rfl ?e0 rfl ?e1 ?e2 ?_)
          try (case e0 => rfl)
          try (case e1 => omega)
          try (case e2 => exact hs2)
          intro v3 w3 h1 h2
          have O3 := hid (show Own 33 w3 w.heap.size v3 ((rs.take (k) ++ [(⟨ra, prI x, rc⟩ : Row)]).map Row.val) by rw [List.map_append, List.map_take]; first | exact h1 | (rw [List.take_of_length_le (by simp)]; exact h1))
          have B3 := hid (B2.out.trans (grown_below h2 hs2 (fun g hg => O2.out.ge g hg)))
          have hs3 := B3.out.size
          have hl3 : ((rs.take (k) ++ [(⟨ra, prI x, rc⟩ : Row)]).map Row.val).length ≤ 257 := by rw [List.length_map, List.length_append, HTL.out]; simp; omega
          clear h1 h2 O2 hl2
          have RD3 := hid ((RA.out.top.below B3.out (Nat.le_refl _)).drop (k))
          have hdl : (rs.drop (k)).length = rs.length - k := List.length_drop
          have HDL := hid hdl; clear hdl
          go_wp2_with (at_builtin; refine law_append tRows _ rfl _ _ rfl Row.val w.heap.size _ ((rs.take (k) ++ [(⟨ra, prI x, rc⟩ : Row)]).map Row.val) rfl O3.out (some ⟨ab, ao + (k : Nat), none⟩) (c - k) (rs.drop (k)) ?f3 RD3.out (fun h => by cases h) ?f0 ?f1 ?f2 ?_)
          try (case f3 => rw [HDL.out]; rfl)
          try (case f0 => intro y _; rfl)
          try (case f1 => rw [HDL.out]; omega)
          try (case f2 => exact hs3)
          intro v4 w4 h1 h2
          have O4 := hid (show Own 33 w4 w.heap.size v4 ((rs.take (k) ++ (⟨ra, prI x, rc⟩ : Row) :: rs.drop (k)).map Row.val) by rw [List.map_append, List.map_cons, List.map_take, List.map_drop]; simpa using h1)
          have B4 := hid (B3.out.trans (grown_below h2 hs3 (fun g hg => O3.out.ge g hg)))
          clear h1 h2 O3
          go_wp2
          go_ret
          exact PUT.out _ _ _ HKL.out O4.out B4.out
    · obtain rfl : k = rs.length := by omega
      have HKL := hid (show rs.length ≤ L.length ∧ (∀ j (hj : j < L.length), j < rs.length → L[j] < x) ∧ (∀ h : rs.length < L.length, x < L[rs.length]) from ⟨by have := HN.out; omega, HLO.out, fun h => absurd h (by have := HN.out; omega)⟩)
      have BLX := hid (HD.out.below w.heap.size)
      have hszr : w.heap.size ≤ (wr).heap.size := (BLX.out).size
      have OE := hid (show Own 33 ((wr).alloc (.cells #[] 33)) (wr).heap.size (.slice (some ⟨(wr).heap.size, 0, none⟩) 0 0) [] from own_new 33 (wr) [] (by decide))
      have hb0 := alloc_below (wr) (.cells #[] 33)
      have hsz1 : ((wr).alloc (.cells #[] 33)).heap.size = (wr).heap.size + 1 := (by simp)
      have B1 := hid ((BLX.out).trans (hb0.mono hszr))
      have RT1 := hid ((RA.out.top.below B1.out (Nat.le_refl _)).take (rs.length))
      have htl : (rs.take (rs.length)).length = rs.length := (by rw [List.length_take]; omega)
      have HTL := hid htl; clear htl
      have HS1 := hid hsz1
      go_wp2_with (at_builtin; refine law_append tRows _ rfl _ _ rfl Row.val w.heap.size _ [] rfl (OE.out.base hszr) (some ⟨ab, ao, none⟩) c (rs.take (rs.length)) ?d3 RT1.out (fun h => by cases h) ?d0 ?d1 ?d2 ?_)
      try (case d3 => rw [HTL.out]; rfl)
      try (case d0 => intro y _; rfl)
      try (case d1 => rw [HTL.out]; simp; omega)
      try (case d2 => exact B1.out.size)
      intro v2 w2 h1 h2
      have O2 := hid (show Own 33 w2 w.heap.size v2 ((rs.take (rs.length)).map Row.val) by simpa using h1)
      have B2 := hid (B1.out.trans (grown_below h2 B1.out.size (fun g hg => by cases hg; exact hszr)))
      have hs2 := B2.out.size
      have hl2 : ((rs.take (rs.length)).map Row.val).length ≤ 256 := by rw [List.length_map, HTL.out]; omega
      clear h1 h2 OE B1 RT1 hb0 hsz1 HS1
      go_wp2_with (at_builtin; refine law_push tRows _ rfl _ _ rfl w.heap.size _ ((rs.take (rs.length)).map Row.val) rfl O2.out _ _ rfl ?e0 rfl ?e1 ?e2 ?_)
      try (case e0 => rfl)
      try (case e1 => omega)
      try (case e2 => exact hs2)
      intro v3 w3 h1 h2
      have O3 := hid (show Own 33 w3 w.heap.size v3 ((rs.take (rs.length) ++ [(⟨ra, prI x, rc⟩ : Row)]).map Row.val) by rw [List.map_append, List.map_take]; first | exact h1 | (rw [List.take_of_length_le (by simp)]; exact h1))
      have B3 := hid (B2.out.trans (grown_below h2 hs2 (fun g hg => O2.out.ge g hg)))
      have hs3 := B3.out.size
      have hl3 : ((rs.take (rs.length) ++ [(⟨ra, prI x, rc⟩ : Row)]).map Row.val).length ≤ 257 := by rw [List.length_map, List.length_append, HTL.out]; simp; omega
      clear h1 h2 O2 hl2
      rcases Nat.lt_or_eq_of_le hcl with hcl' | hcl'
      · go_wp2_with (at_builtin; refine law_append tRows _ rfl _ _ rfl Row.val w.heap.size _ ((rs.take (rs.length) ++ [(⟨ra, prI x, rc⟩ : Row)]).map Row.val) rfl O3.out _ _ ([] : List Row) rfl (Rd.nil _ _ _) ?f4 ?f0 ?f1 ?f2 ?_)
        try (case f4 => intro h; cases h)
        try (case f0 => intro y hy; cases hy)
        try (case f1 => simp; omega)
        try (case f2 => exact hs3)
        intro v4 w4 h1 h2
        have O4 := hid (show Own 33 w4 w.heap.size v4 ((rs.take (rs.length) ++ (⟨ra, prI x, rc⟩ : Row) :: rs.drop (rs.length)).map Row.val) by simpa using h1)
        have B4 := hid (B3.out.trans (grown_below h2 hs3 (fun g hg => O3.out.ge g hg)))
        clear h1 h2 O3
        go_wp2
        go_ret
        exact PUT.out _ _ _ HKL.out O4.out B4.out
      · subst hcl'
        go_wp2_with (at_builtin; refine law_append tRows _ rfl _ _ rfl Row.val w.heap.size _ ((rs.take (rs.length) ++ [(⟨ra, prI x, rc⟩ : Row)]).map Row.val) rfl O3.out _ _ ([] : List Row) rfl (Rd.nil _ _ _) ?f4 ?f0 ?f1 ?f2 ?_)
        try (case f4 => intro h; cases h)
        try (case f0 => intro y hy; cases hy)
        try (case f1 => simp; omega)
        try (case f2 => exact hs3)
        intro v4 w4 h1 h2
        have O4 := hid (show Own 33 w4 w.heap.size v4 ((rs.take (rs.length) ++ (⟨ra, prI x, rc⟩ : Row) :: rs.drop (rs.length)).map Row.val) by simpa using h1)
        have B4 := hid (B3.out.trans (grown_below h2 hs3 (fun g hg => O3.out.ge g hg)))
        clear h1 h2 O3
        go_wp2
        go_ret
        exact PUT.out _ _ _ HKL.out O4.out B4.out
end
end
section
section
/-- What has been put so far. -/
def FS (l : List Nat) (P : Nat → Bool) (f : Nat → Nat) (y : Nat) : Prop := ∃ c ∈ l, P c = true ∧ y = f c
theorem fs_in {l : List Nat} {P : Nat → Bool} {f : Nat → Nat} {c : Nat} (h : P c = true) (y : Nat) : FS (l ++ [c]) P f y ↔ FS l P f y ∨ y = f c := by
  unfold FS
  constructor
  · rintro ⟨d, hd, h1, h2⟩
    rcases List.mem_append.1 hd with h3 | h3
    · exact .inl ⟨d, h3, h1, h2⟩
    · obtain rfl : d = c := by simpa using h3
      exact .inr h2
  · rintro (⟨d, hd, h1, h2⟩ | h1)
    · exact ⟨d, List.mem_append_left _ hd, h1, h2⟩
    · exact ⟨c, by simp, h, h1⟩
theorem fs_out {l : List Nat} {P : Nat → Bool} {f : Nat → Nat} {c : Nat} (h : P c = false) (y : Nat) : FS (l ++ [c]) P f y ↔ FS l P f y := by
  unfold FS
  constructor
  · rintro ⟨d, hd, h1, h2⟩
    rcases List.mem_append.1 hd with h3 | h3
    · exact ⟨d, h3, h1, h2⟩
    · obtain rfl : d = c := by simpa using h3
      rw [h] at h1; cases h1
  · rintro ⟨d, hd, h1, h2⟩
    exact ⟨d, List.mem_append_left _ hd, h1, h2⟩
theorem sorted_len {L : List Nat} (h : L.Pairwise (· < ·)) (hl : ∀ y ∈ L, y < 256) : L.length ≤ 256 := by
  have h1 : L.length ≤ (List.range 256).length := by
    apply List.Nodup.length_le_of_subset (h.imp fun hab => Nat.ne_of_lt hab)
    intro y hy
    exact List.mem_range.2 (hl y hy)
  simpa using h1
theorem ownM_slice {eo ei : TypeId} {w : World} {B : Nat} {v : Value} {qs : List Row} (h : OwnM eo ei w B v qs) (hs : ∃ a' c', v = .slice (some a') qs.length c') : ∃ g cap, v = .slice (some ⟨g, 0, none⟩) qs.length cap := by
  rcases h.outer.form with ⟨rfl, _⟩ | ⟨g, cap, sp, rfl, _⟩
  · obtain ⟨a', c', h1⟩ := hs; cases h1
  · exact ⟨g, cap, by simp⟩
/-- Whom an arrow makes go on. -/
def pfw (A : List Nat) (_p q : Nat) (c : Nat) : Bool := !(c == q) && !bt A q c
theorem frL_fs {n : Nat} {A : List Nat} (h : GA n A) {p q : Nat} (hq : q < n) {L : List Nat} (hs : L.Pairwise (· < ·))
    (hL : ∀ y, y ∈ L ↔ FS (memsN (A.getD p 0)) (pfw A p q) (fun c => cod p c) y ∨ FS (memsN (A.getD q 0)) (pfw A q p) (fun c => cod c q) y) : L = frL A (cod p q) := by
  have hp : 2 ^ n ≤ 65536 := Nat.pow_le_pow_right (n := 2) (i := n) (j := 16) (by decide) h.le
  have hle := h.le
  apply sortedN_ext hs (frL_sorted _ _)
  intro y
  rw [← frRaw_mem h, hL]
  unfold frRaw
  rw [cod_div (by omega), cod_mod (by omega), List.mem_append, List.mem_map, List.mem_map]
  have key : ∀ a b c, c ∈ memsN (outM A a b) ↔ c ∈ memsN (A.getD a 0) ∧ pfw A a b c = true := by
    intro a b c
    rw [memsN_mem (by have := outM_lt h a b; omega), memsN_mem (by have := h.in2 a; omega), outM_bit]
    unfold pfw bt
    simp
    intro _
    exact and_comm
  unfold FS
  constructor
  · rintro (⟨c, h1, h2, rfl⟩ | ⟨c, h1, h2, rfl⟩)
    · exact .inl ⟨c, (key _ _ _).2 ⟨h1, h2⟩, rfl⟩
    · exact .inr ⟨c, (key _ _ _).2 ⟨h1, h2⟩, rfl⟩
  · rintro (⟨c, h1, rfl⟩ | ⟨c, h1, rfl⟩)
    · exact .inl ⟨c, ((key _ _ _).1 h1).1, ((key _ _ _).1 h1).2, rfl⟩
    · exact .inr ⟨c, ((key _ _ _).1 h1).1, ((key _ _ _).1 h1).2, rfl⟩
def FrPost (A : List Nat) (x : Nat) (w : World) (e : Ending) (w' : World) : Prop :=
  ∃ (v : Value) (qs : List Row), e = .returned v ∧ OwnM 33 2 w' w.heap.size v qs ∧ nums qs = (frL A x).map prI ∧ (∃ a' c', v = .slice (some a') qs.length c') ∧ Below w.heap.size w w'
set_option maxRecDepth 100000 in
set_option maxHeartbeats 8000000 in
theorem l13Forces_any (a : Option Addr) (rs : List Row) (c n : Nat) (A : List Nat) (p q : Nat) (w : World) (hA : GA n A) (hnm : nums rs = A.map mems) (hr : RdM w a rs) (hp : p < n) (hq : q < n) :
    Calls Tryd.prog 71 #[.agg #[.slice a rs.length c], .int .i64 p, .int .i64 q] w (FrPost A (cod p q) w) := by
  have hlen : rs.length = n := by have := congrArg List.length hnm; rw [nums_length, List.length_map, hA.len] at this; exact this
  have h16 := hA.le
  have hp16 : 2 ^ n ≤ 65536 := Nat.pow_le_pow_right (n := 2) (i := n) (j := 16) (by decide) h16
  have hpr : p < rs.length := by omega
  have hqr : q < rs.length := by omega
  have hz : ∀ v (hv : v < rs.length), rs[v].z = mems (A.getD v 0) := by
    intro v hv
    have h1 : (nums rs)[v]'(by rw [nums_length]; exact hv) = (A.map mems)[v]'(by rw [List.length_map, hA.len]; omega) := by simp only [hnm]
    rw [List.getElem_map, ← getD_in (by rw [hA.len]; omega)] at h1
    simpa [nums] using h1
  have hzp := hz p hpr
  have hzq := hz q hqr
  have HFIN := hid (fun (L : List Nat) hs hL => frL_fs hA (p := p) hq (L := L) hs hL)
  have HCN := hid (fun (u j : Nat) (hj : j < (memsN (A.getD u 0)).length) => bit_under (hA.in2 u) ((memsN_mem (by have := hA.in2 u; omega)).1 (List.getElem_mem hj)))
  have HIN := hid (fun (u cc : Nat) (b : Bool) (hb : bt A u cc = b) => (show decide ((cc : Int) ∈ mems (A.getD u 0)) = b from by
    rw [← hb]
    apply Bool.eq_iff_iff.2
    rw [decide_eq_true_iff, mems_mem (by have := hA.in2 u; omega)]
    unfold bt
    constructor
    · rintro ⟨i, hi, h1⟩
      obtain rfl : cc = i := by omega
      exact h1
    · intro h1; exact ⟨cc, rfl, h1⟩))
  have HPF := hid (fun (x y cc : Nat) (h1 : cc ≠ y) (h2 : bt A y cc = false) => (show pfw A x y cc = true from by unfold pfw; simp [h1, h2]))
  have HPN := hid (fun (x y cc : Nat) (h1 : cc = y ∨ bt A y cc = true) => (show pfw A x y cc = false from by unfold pfw; rcases h1 with rfl | h1 <;> simp_all))
  have hml := memsN_len (A.getD p 0)
  have hml2 := memsN_len (A.getD q 0)
  have HLN1 := hid (mems_lenN (A.getD p 0))
  have HLN2 := hid (mems_lenN (A.getD q 0))
  have RA := hid hr
  clear hr hz hnm
  obtain ⟨w0, hw0⟩ : ∃ w0, w0 = (w.alloc (.cells #[.slice a rs.length c] 29)) := ⟨_, rfl⟩
  have B0 := hid (show Below w.heap.size w w0 by rw [hw0]; exact ((Below.refl _ _).alloc (Nat.le_refl _) _))
  have c0 : w0.cell? ⟨w.heap.size, 0, none⟩ = some (.slice a rs.length c) := by rw [hw0]; simp [go_sem]
  replace RA := hid (RA.out.below B0.out (Nat.le_refl _))
  have HW := hid hw0; clear hw0
  have RA0 := hid RA.out; have B00 := hid B0.out; have HC0 := hid c0
  have hsz0 : w0.heap.size = w.heap.size + 1 := by rw [HW.out]; simp
  have HSZ0 := hid hsz0
  have OV := hid (show OwnM 33 2 (w0.alloc (.cells #[] 33)) w0.heap.size (.slice (some ⟨w0.heap.size, 0, none⟩) 0 0) [] from ⟨own_new 33 w0 [] (by decide), Inner.nil _ _ _⟩)
  have BV := hid (alloc_below w0 (.cells #[] 33))
  obtain ⟨ab, ao, hra, cp, hpok⟩ := RA.out.at p hpr
  obtain ⟨ab', ao', hra', cq, hqok⟩ := RA.out.at q hqr
  subst hra
  obtain ⟨rfl, rfl⟩ : ab = ab' ∧ ao = ao' := by simpa using hra'
  have RP := hid hpok.1; have RQ := hid hqok.1
  have HLEN := hid hlen
  rw [hzp] at cp RP
  rw [hzq] at cq RQ
  have HCP := hid cp; have HCQ := hid cq
  generalize rs[p].a = pa at *
  generalize rs[p].c = pc at *
  generalize rs[q].a = qa at *
  generalize rs[q].c = qc at *
  clear hzp hzq hpok hqok hra' cp cq RA B0 c0 hlen
  have hpi : (p : Int) < (rs.length : Int) := by omega
  have hqi : (q : Int) < (rs.length : Int) := by omega
  have hp16' : p < 16 ∧ q < 16 := by have := HLEN.out; omega
  have HMC := hid (fun (u j : Nat) (hj : j < (memsN (A.getD u 0)).length) => (show (memsN (A.getD u 0))[j] < n from HCN.out u j hj))
  clear HCN hpr hqr
  go_enter Tryd.func71, Tryd.ntmps71
  go_wp2
  rw [← HW.out]
  rw [show w.heap.size + 1 = w0.heap.size from hsz0.symm]
  clear hsz0
  generalize w0.alloc (.cells #[] 33) = w1 at *
  generalize HMP : A.getD p 0 = MP at *
  generalize HMQ : A.getD q 0 = MQ at *
  have HC1 := hid (show ∀ j (hj : j < (memsN MP).length), (memsN MP)[j] < n from by have := HMC.out p; rw [HMP] at this; exact this)
  have HC2 := hid (show ∀ j (hj : j < (memsN MQ).length), (memsN MQ)[j] < n from by have := HMC.out q; rw [HMQ] at this; exact this)
  go_loopw [7, 8, 9] (fun o i _ wr => ∃ (k : Nat) (qs : List Row) (L : List Nat), k ≤ (memsN MP).length ∧ i = .int .i64 (k : Nat) ∧ OwnM 33 2 wr w0.heap.size o qs ∧ nums qs = L.map prI ∧ L.Pairwise (· < ·) ∧ (∀ y, y ∈ L ↔ FS ((memsN MP).take k) (pfw A p q) (fun c => cod p c) y) ∧ (∃ a' c', o = .slice (some a') qs.length c') ∧ Below w0.heap.size w0 wr) (fun _ i _ _ => (memsN MP).length - (intOf i).toNat)
  case atStart => exact ⟨0, [], [], Nat.zero_le _, rfl, OV.out, rfl, .nil, (fun y => by simp [FS]), ⟨_, _, rfl⟩, BV.out⟩
  case round =>
    obtain ⟨k, qs, L, hk, rfl, ho, hn, hs, hL, hv, hb⟩ := hrel
    obtain ⟨gv, gc, rfl⟩ := ownM_slice ho hv
    have OO := hid ho; have HN := hid hn; have HS := hid hs; have HL := hid hL; have BL := hid hb
    have c0 := cellB hb HC0.out (Nat.le_refl _)
    have cp := cellB hb HCP.out (Nat.le_refl _)
    have cq := cellB hb HCQ.out (Nat.le_refl _)
    have RP1 := hid (RP.out.below hb (Nat.le_refl _)); have RQ1 := hid (RQ.out.below hb (Nat.le_refl _))
    have hsz := hb.size
    clear ho hn hs hL hv
    by_cases hlt : k < (memsN MP).length
    · have hltm : k < (mems MP).length := by have := HLN1.out; omega
      obtain ⟨lb, lo, hla, ck⟩ := RP1.out k hltm
      subst hla
      have hki : (k : Int) < ((mems MP).length : Int) := by omega
      rw [memsN_get] at ck
      have hcn := HC1.out k hlt
      have HTK := hid (List.take_succ_eq_append_getElem hlt)
      have HLT := hid (show ∀ y ∈ L, y < 256 from fun y hy => by
        have hall : ∀ (u j : Nat) (hj : j < (memsN (A.getD u 0)).length), (memsN (A.getD u 0))[j] < n := HMC.out
        have hall1 : ∀ d ∈ memsN MP, d < n := fun d hd => by
          obtain ⟨j, hj, rfl⟩ := List.mem_iff_getElem.1 hd
          have := hall p; rw [HMP] at this; exact this j hj
        have hall2 : ∀ d ∈ memsN MQ, d < n := fun d hd => by
          obtain ⟨j, hj, rfl⟩ := List.mem_iff_getElem.1 hd
          have := hall q; rw [HMQ] at this; exact this j hj
        have hle := HLEN.out
        have hF : ∀ (l : List Nat) (P : Nat → Bool) (f : Nat → Nat), (∀ d ∈ l, f d < 256) → FS l P f y → y < 256 := by
          rintro l P f h1 ⟨d, hd, _, rfl⟩; exact h1 d hd
        have h1 := (HL.out y).1 hy
        exact hF _ _ _ (fun d hd => by have := hall1 d (List.mem_of_mem_take hd); unfold cod; omega) h1)
      generalize (memsN MP)[k] = cc at *
      have hc16 : cc < 16 := by have := HLEN.out; omega
      by_cases he : cc = q
      · have hne : ((cc : Int) != (q : Int)) = false := by simp [he]
        have HST := hid (show ∀ y, y ∈ L ↔ FS ((memsN MP).take (k + 1)) (pfw A p q) (fun c => cod p c) y from fun y => by rw [HTK.out, fs_out (HPN.out _ _ _ (.inl he))]; exact HL.out y)
        clear he
        go_wp2
        go_roundw
        case rel => exact ⟨k + 1, qs, L, by omega, by go_num, OO.out, HN.out, HS.out, HST.out, ⟨_, _, rfl⟩, BL.out⟩
        case measure => simp [intOf]; omega
      · have hne : ((cc : Int) != (q : Int)) = true := by rw [bne_iff_ne]; omega
        cases hbt : bt A q cc with
        | true =>
          have HBT := hid (HIN.out q cc true hbt)
          have HST := hid (show ∀ y, y ∈ L ↔ FS ((memsN MP).take (k + 1)) (pfw A p q) (fun c => cod p c) y from fun y => by rw [HTK.out, fs_out (HPN.out _ _ _ (.inr hbt))]; exact HL.out y)
          rw [HMQ] at HBT
          clear he hbt
          go_wp2_with (go_at_call 70; refine (l1Has_b _ (mems MQ) _ _ _ true HBT.out RQ1.out (by have := mems_len MQ; omega)).mono ?_; rintro e w' ⟨rfl, rfl⟩)
          go_roundw
          case rel => exact ⟨k + 1, qs, L, by omega, by go_num, OO.out, HN.out, HS.out, HST.out, ⟨_, _, rfl⟩, BL.out⟩
          case measure => simp [intOf]; omega
        | false =>
          have HBT := hid (HIN.out q cc false hbt)
          rw [HMQ] at HBT
          have HST := hid (show ∀ L' : List Nat, (∀ y, y ∈ L' ↔ y ∈ L ∨ y = cod p cc) → ∀ y, y ∈ L' ↔ FS ((memsN MP).take (k + 1)) (pfw A p q) (fun c => cod p c) y from fun L' hL' y => by rw [HTK.out, fs_in (HPF.out _ _ _ he hbt), hL', HL.out y])
          have hbA := alloc_below wr (.cells #[.int .i64 (p : Int), .int .i64 (cc : Int)] 2)
          have HPR := hid (show [Value.int .i64 (p : Int), .int .i64 (cc : Int)] = (prI (cod p cc)).map (Value.int .i64) by unfold prI; rw [cod_div hc16, cod_mod hc16]; rfl)
          have ON := hid (show Own 2 (wr.alloc (.cells #[.int .i64 (p : Int), .int .i64 (cc : Int)] 2)) wr.heap.size (.slice (some ⟨wr.heap.size, 0, none⟩) 2 2) ((prI (cod p cc)).map (Value.int .i64)) from HPR.out ▸ own_new 2 wr [.int .i64 (p : Int), .int .i64 (cc : Int)] (show (2 : Nat) ≤ maxLen by decide))
          have OA := hid (OO.out.past hbA (Nat.le_refl _))
          have IA := hid (OO.out.inner.snoc hbA hsz ⟨some ⟨wr.heap.size, 0, none⟩, prI (cod p cc), 2⟩ ON.out)
          have BA := hid (hb.trans (hbA.mono hsz))
          have HQL := hid (show qs.length ≤ 256 by have h1 := congrArg List.length HN.out; rw [nums_length, List.length_map] at h1; rw [h1]; exact sorted_len HS.out HLT.out)
          clear he hbt hbA
          go_wp2_with (first | (go_at_call 70; refine (l1Has_b _ (mems MQ) _ _ _ false HBT.out RQ1.out (by have := mems_len MQ; omega)).mono ?_; rintro e w' ⟨rfl, rfl⟩) | (go_at_call 72; refine (l19Put_any gv 0 qs gc L _ 2 (cod p cc) w0.heap.size _ HN.out HS.out OA.out IA.out HQL.out BA.out.size).mono ?_; rintro e w6 ⟨v6, qs6, L6, rfl, h1, h2, h3, h4, _, h5, h6⟩; have O6 := hid h1; have N6 := hid h2; have S6 := hid h3; have M6 := hid (HST.out L6 h4); have V6 := hid h5; have B6 := hid (BA.out.trans (h6.mono BA.out.size)); clear h1 h2 h3 h4 h5 h6))
          go_roundw
          case rel => exact ⟨k + 1, qs6, L6, by omega, by go_num, O6.out, N6.out, S6.out, M6.out, V6.out, B6.out⟩
          case measure => simp [intOf]; omega
    · obtain rfl : k = (memsN MP).length := by omega
      have hki : ¬ ((((memsN MP).length : Nat) : Int) < ((mems MP).length : Int)) := by have := HLN1.out; omega
      rw [List.take_length] at HL
      have HL1 := hid HL.out; have OO1 := hid OO.out; have HN1 := hid HN.out; have HS1 := hid HS.out; have BL1 := hid BL.out
      clear HL OO HN HS
      go_wp2
      go_loopw [7, 10, 11] (fun o i _ wr => ∃ (k : Nat) (qs : List Row) (L : List Nat), k ≤ (memsN MQ).length ∧ i = .int .i64 (k : Nat) ∧ OwnM 33 2 wr w0.heap.size o qs ∧ nums qs = L.map prI ∧ L.Pairwise (· < ·) ∧ (∀ y, y ∈ L ↔ FS (memsN MP) (pfw A p q) (fun c => cod p c) y ∨ FS ((memsN MQ).take k) (pfw A q p) (fun c => cod c q) y) ∧ (∃ a' c', o = .slice (some a') qs.length c') ∧ Below w0.heap.size w0 wr) (fun _ i _ _ => (memsN MQ).length - (intOf i).toNat)
      case atStart => exact ⟨0, qs, L, Nat.zero_le _, rfl, OO1.out, HN1.out, HS1.out, (fun y => by rw [HL1.out y]; simp [FS]), ⟨_, _, rfl⟩, BL1.out⟩
      case round =>
        obtain ⟨k, qs, L, hk, rfl, ho, hn, hs, hL, hv, hb⟩ := hrel
        obtain ⟨gv, gc, rfl⟩ := ownM_slice ho hv
        have OO := hid ho; have HN := hid hn; have HS := hid hs; have HL := hid hL; have BL := hid hb
        have c0 := cellB hb HC0.out (Nat.le_refl _)
        have cp := cellB hb HCP.out (Nat.le_refl _)
        have cq := cellB hb HCQ.out (Nat.le_refl _)
        have RP1 := hid (RP.out.below hb (Nat.le_refl _)); have RQ1 := hid (RQ.out.below hb (Nat.le_refl _))
        have hsz := hb.size
        clear ho hn hs hL hv
        by_cases hlt : k < (memsN MQ).length
        · have hltm : k < (mems MQ).length := by have := HLN2.out; omega
          obtain ⟨lb, lo, hla, ck⟩ := RQ1.out k hltm
          subst hla
          have hki : (k : Int) < ((mems MQ).length : Int) := by omega
          rw [memsN_get] at ck
          have hcn := HC2.out k hlt
          have HTK := hid (List.take_succ_eq_append_getElem hlt)
          have HLT := hid (show ∀ y ∈ L, y < 256 from fun y hy => by
            have hall : ∀ (u j : Nat) (hj : j < (memsN (A.getD u 0)).length), (memsN (A.getD u 0))[j] < n := HMC.out
            have hall1 : ∀ d ∈ memsN MP, d < n := fun d hd => by
              obtain ⟨j, hj, rfl⟩ := List.mem_iff_getElem.1 hd
              have := hall p; rw [HMP] at this; exact this j hj
            have hall2 : ∀ d ∈ memsN MQ, d < n := fun d hd => by
              obtain ⟨j, hj, rfl⟩ := List.mem_iff_getElem.1 hd
              have := hall q; rw [HMQ] at this; exact this j hj
            have hle := HLEN.out
            have hF : ∀ (l : List Nat) (P : Nat → Bool) (f : Nat → Nat), (∀ d ∈ l, f d < 256) → FS l P f y → y < 256 := by
              rintro l P f h1 ⟨d, hd, _, rfl⟩; exact h1 d hd
            have h1 := (HL.out y).1 hy
            exact h1.elim (hF _ _ _ (fun d hd => by have := hall1 d hd; unfold cod; omega)) (hF _ _ _ (fun d hd => by have := hall2 d (List.mem_of_mem_take hd); unfold cod; omega)))
          generalize (memsN MQ)[k] = cc at *
          have hc16 : cc < 16 := by have := HLEN.out; omega
          by_cases he : cc = p
          · have hne : ((cc : Int) != (p : Int)) = false := by simp [he]
            have HST := hid (show ∀ y, y ∈ L ↔ FS (memsN MP) (pfw A p q) (fun c => cod p c) y ∨ FS ((memsN MQ).take (k + 1)) (pfw A q p) (fun c => cod c q) y from fun y => by rw [HTK.out, fs_out (HPN.out _ _ _ (.inl he))]; exact HL.out y)
            clear he
            go_wp2
            go_roundw
            case rel => exact ⟨k + 1, qs, L, by omega, by go_num, OO.out, HN.out, HS.out, HST.out, ⟨_, _, rfl⟩, BL.out⟩
            case measure => simp [intOf]; omega
          · have hne : ((cc : Int) != (p : Int)) = true := by rw [bne_iff_ne]; omega
            cases hbt : bt A p cc with
            | true =>
              have HBT := hid (HIN.out p cc true hbt)
              have HST := hid (show ∀ y, y ∈ L ↔ FS (memsN MP) (pfw A p q) (fun c => cod p c) y ∨ FS ((memsN MQ).take (k + 1)) (pfw A q p) (fun c => cod c q) y from fun y => by rw [HTK.out, fs_out (HPN.out _ _ _ (.inr hbt))]; exact HL.out y)
              rw [HMP] at HBT
              clear he hbt
              go_wp2_with (go_at_call 70; refine (l1Has_b _ (mems MP) _ _ _ true HBT.out RP1.out (by have := mems_len MP; omega)).mono ?_; rintro e w' ⟨rfl, rfl⟩)
              go_roundw
              case rel => exact ⟨k + 1, qs, L, by omega, by go_num, OO.out, HN.out, HS.out, HST.out, ⟨_, _, rfl⟩, BL.out⟩
              case measure => simp [intOf]; omega
            | false =>
              have HBT := hid (HIN.out p cc false hbt)
              rw [HMP] at HBT
              have HST := hid (show ∀ L' : List Nat, (∀ y, y ∈ L' ↔ y ∈ L ∨ y = cod cc q) → ∀ y, y ∈ L' ↔ FS (memsN MP) (pfw A p q) (fun c => cod p c) y ∨ FS ((memsN MQ).take (k + 1)) (pfw A q p) (fun c => cod c q) y from fun L' hL' y => by rw [HTK.out, fs_in (HPF.out _ _ _ he hbt), hL', HL.out y]; exact or_assoc)
              have hbA := alloc_below wr (.cells #[.int .i64 (cc : Int), .int .i64 (q : Int)] 2)
              have HPR := hid (show [Value.int .i64 (cc : Int), .int .i64 (q : Int)] = (prI (cod cc q)).map (Value.int .i64) by unfold prI; rw [cod_div hp16'.2, cod_mod hp16'.2]; rfl)
              have ON := hid (show Own 2 (wr.alloc (.cells #[.int .i64 (cc : Int), .int .i64 (q : Int)] 2)) wr.heap.size (.slice (some ⟨wr.heap.size, 0, none⟩) 2 2) ((prI (cod cc q)).map (Value.int .i64)) from HPR.out ▸ own_new 2 wr [.int .i64 (cc : Int), .int .i64 (q : Int)] (show (2 : Nat) ≤ maxLen by decide))
              have OA := hid (OO.out.past hbA (Nat.le_refl _))
              have IA := hid (OO.out.inner.snoc hbA hsz ⟨some ⟨wr.heap.size, 0, none⟩, prI (cod cc q), 2⟩ ON.out)
              have BA := hid (hb.trans (hbA.mono hsz))
              have HQL := hid (show qs.length ≤ 256 by have h1 := congrArg List.length HN.out; rw [nums_length, List.length_map] at h1; rw [h1]; exact sorted_len HS.out HLT.out)
              clear he hbt hbA
              go_wp2_with (first | (go_at_call 70; refine (l1Has_b _ (mems MP) _ _ _ false HBT.out RP1.out (by have := mems_len MP; omega)).mono ?_; rintro e w' ⟨rfl, rfl⟩) | (go_at_call 72; refine (l19Put_any gv 0 qs gc L _ 2 (cod cc q) w0.heap.size _ HN.out HS.out OA.out IA.out HQL.out BA.out.size).mono ?_; rintro e w6 ⟨v6, qs6, L6, rfl, h1, h2, h3, h4, _, h5, h6⟩; have O6 := hid h1; have N6 := hid h2; have S6 := hid h3; have M6 := hid (HST.out L6 h4); have V6 := hid h5; have B6 := hid (BA.out.trans (h6.mono BA.out.size)); clear h1 h2 h3 h4 h5 h6))
              go_roundw
              case rel => exact ⟨k + 1, qs6, L6, by omega, by go_num, O6.out, N6.out, S6.out, M6.out, V6.out, B6.out⟩
              case measure => simp [intOf]; omega
        · obtain rfl : k = (memsN MQ).length := by omega
          have hki : ¬ ((((memsN MQ).length : Nat) : Int) < ((mems MQ).length : Int)) := by have := HLN2.out; omega
          rw [List.take_length] at HL
          have hE := HFIN.out L HS.out HL.out
          subst hE
          go_wp2
          go_ret
          exact ⟨_, qs, rfl, OO.out.base (by have := HSZ0.out; omega), HN.out, ⟨_, _, rfl⟩, B00.out.trans (BL.out.mono (by have := HSZ0.out; omega))⟩
set_option maxHeartbeats 2000000 in
theorem l19Has_any (a : Option Addr) (qs : List Row) (c : Nat) (L : List Nat) (u v x : Nat) (w : World) (b : Bool) (hn : nums qs = L.map prI) (hr : RdM w a qs) (hx : cod u v = x) (hv : v < 16) (hb : decide (x ∈ L) = b) (hl : qs.length ≤ 16777216) :
    Calls Tryd.prog 32 #[.slice a qs.length c, .int .i64 u, .int .i64 v] w fun e w' => e = .returned (.bool b) ∧ w = w' := by
  have hlen : qs.length = L.length := by have := congrArg List.length hn; simpa [nums] using this
  have RA := hid hr; have HB := hid hb; have HN := hid hn; have HLEN := hid hlen
  clear hr hb hn hlen
  go_enter Tryd.func32, Tryd.ntmps32
  go_wp2
  go_loop [7] (fun i => ∃ k : Nat, k ≤ qs.length ∧ i = .int .i64 k ∧ x ∉ L.take k) (fun i => qs.length - (intOf i).toNat)
  case atStart => exact ⟨0, Nat.zero_le _, rfl, by simp⟩
  case round =>
    obtain ⟨k, hk, rfl, hno⟩ := hrel
    have HNO := hid hno; clear hno
    by_cases hlt : k < qs.length
    · have hki : (k : Int) < (qs.length : Int) := by omega
      have hkL : k < L.length := by have := HLEN.out; omega
      obtain ⟨b1, o1, rk, ck, rfl, cc, _, rb, ro, rfl, e0, e1⟩ := row_pr RA.out HN.out hkL
      have HST := hid (fun (h : L[k] ≠ x) => (show x ∉ L.take (k + 1) from by
        rw [List.take_succ_eq_append_getElem hkL]
        intro hm
        rcases List.mem_append.1 hm with h1 | h1
        · exact HNO.out h1
        · simp at h1; exact h h1.symm))
      have HIN := hid (List.getElem_mem hkL)
      generalize L[k] = y at *
      obtain ⟨ya, hya⟩ : ∃ ya, ya = y / 16 := ⟨_, rfl⟩
      obtain ⟨yb, hyb⟩ : ∃ yb, yb = y % 16 := ⟨_, rfl⟩
      have hyc : cod ya yb = y := by rw [hya, hyb]; exact cod_self y
      have hyb16 : yb < 16 := by omega
      rw [← hya] at e0
      rw [← hyb] at e1
      have HYC := hid hyc
      clear hya hyb hyc
      have HX := hid hx
      by_cases h1 : ya = u
      · by_cases h2 : yb = v
        · subst h1; subst h2
          have HBT := hid (show b = true by rw [← HB.out, decide_eq_true_iff, ← HX.out, HYC.out]; exact HIN.out)
          clear hx
          go_wp2
          go_ret
          exact ⟨ret_bool (by rw [HBT.out]), rfl⟩
        · have d2 : ((yb : Int) == (v : Int)) = false := by rw [beq_eq_false_iff_ne]; omega
          have HS2 := hid (HST.out (fun e => h2 (by rw [← HYC.out, ← HX.out] at e; unfold cod at e; omega)))
          subst h1
          clear hx HST h2
          go_wp2
          go_round
          case rel => exact ⟨k + 1, by omega, by go_num, HS2.out⟩
          case measure => simp [intOf]; omega
      · have d1 : ((ya : Int) == (u : Int)) = false := by rw [beq_eq_false_iff_ne]; omega
        have HS2 := hid (HST.out (fun e => h1 (by rw [← HYC.out, ← HX.out] at e; unfold cod at e; omega)))
        clear hx HST h1
        go_wp2
        go_round
        case rel => exact ⟨k + 1, by omega, by go_num, HS2.out⟩
        case measure => simp [intOf]; omega
    · obtain rfl : k = qs.length := by omega
      have HBF := hid (show b = false by
        rw [← HB.out, decide_eq_false_iff_not]
        have h1 := HNO.out
        rwa [HLEN.out, List.take_length] at h1)
      go_wp2
      go_ret
      exact ⟨ret_bool (by rw [HBF.out]), rfl⟩
end
end
end Go.Proofs.YtdncmloajajiaaaDoor
