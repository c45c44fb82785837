/- Graphs drawn by the reference's cursor. -/
import Derived.Test.YtccohcdgcpcbjaaDoorCur
import Derived.Test.YtccohcdgcpcbjaaDoorLinkD
namespace Go.Proofs.YtccohcdgcpcbjaaDoor
open Go.RowKit
section
theorem OwnG.keptS {P S : Nat → Prop} {w w' : World} {B gb n cap : Nat} {A : List Nat} (h : OwnG P w B gb n cap A) (hk : Kept S w w') (hS : ∀ j, B ≤ j → ¬ S j) : OwnG P w' B gb n cap A := by
  obtain ⟨ps, h1, h2, h3⟩ := h
  exact ⟨ps, h1.keptS hk (h1.blocks.mono (fun j hj => hS j hj.1)), h2, h3⟩
/-- The codes of a graph's rows. -/
structure LA (n : Nat) (A : List Nat) : Prop where
  len : A.length = n
  in16 : ∀ x ∈ A, x < 65536
  pos : 1 ≤ n
  le : n ≤ 16
theorem LA.zero {n : Nat} (h0 : 1 ≤ n) (h16 : n ≤ 16) : LA n (List.replicate n 0) := ⟨by simp, fun x hx => by rw [List.eq_of_mem_replicate hx]; decide, h0, h16⟩
theorem LA.get {n : Nat} {A : List Nat} (h : LA n A) (i : Nat) : A.getD i 0 < 65536 := by
  rw [List.getD_eq_getElem?_getD]
  by_cases hi : i < A.length
  · rw [List.getElem?_eq_getElem hi]; exact h.in16 _ (List.getElem_mem hi)
  · rw [List.getElem?_eq_none (by omega)]; decide
theorem LA.link {n : Nat} {A : List Nat} (h : LA n A) {u v : Nat} (hu : u < n) (hv : v < n) : LA n (linkA A u v) := by
  have h16 := h.le
  have hp : ∀ i k, k < n → A.getD i 0 ||| 2 ^ k < 65536 := fun i k hk =>
    Nat.or_lt_two_pow (n := 16) (h.get i) (Nat.pow_lt_pow_right (by decide) (by omega))
  refine ⟨by unfold linkA; rw [List.length_set, List.length_set, h.len], ?_, h.pos, h.le⟩
  intro x hx
  unfold linkA at hx
  rcases List.mem_or_eq_of_mem_set hx with hx | rfl
  · rcases List.mem_or_eq_of_mem_set hx with hx | rfl
    · exact h.in16 x hx
    · exact hp u v hv
  · exact hp v u hu
/-- A graph has been made, and a truth value. -/
def PgPost (n : Nat) (w : World) (e : Ending) (w' : World) : Prop :=
  ∃ gb cap A, e = .returned (.tuple #[.agg #[.slice (some ⟨gb, 0, none⟩) n cap], .bool true]) ∧ LA n A ∧ OwnG (fun _ => False) w' w.heap.size gb n cap A ∧ Below w.heap.size w w'
theorem ret_cell_tmpP {fn : Func} {c d : Tmp} {t : TypeId} (h : fn.results = #[.cell c t, .tmp d]) (tmps : Array Value) (P : Program) (w : World) (ad : Addr) (v u : Value) (ha : tmps.getD c undef = .pointer (some ad)) (hu : tmps.getD d undef = u) (hl : (loadVar t ad).run P w = .ok v w) : (results fn tmps).run P w = .ok (.tuple #[v, u]) w := by
  have ha2 : tmps[c]?.getD undef = .pointer (some ad) := by rw [← Array.getD_eq_getD_getElem?]; exact ha
  have hu2 : tmps[d]?.getD undef = u := by rw [← Array.getD_eq_getD_getElem?]; exact hu
  simp [results, h, ha2, hu2, asAddr, hl]
/-- A graph in a variable of one's own. -/
structure Box (S : Nat → Prop) (w0 : World) (lb gb n cap : Nat) (C : List Nat) (w : World) : Prop where
  ga : LA n C
  og : OwnG (fun _ => False) w w0.heap.size gb n cap C
  oc : Own 24 w lb (.slice (some ⟨lb, 0, none⟩) 1 1) [.slice (some ⟨gb, 0, none⟩) n cap]
  kp : Kept S w0 w
  lb0 : w0.heap.size ≤ lb
section
variable {S : Nat → Prop} {w0 w w' : World} {lb gb n cap : Nat} {C : List Nat}
theorem Box.gb0 (h : Box S w0 lb gb n cap C w) : w0.heap.size ≤ gb := by obtain ⟨ps, h1, _⟩ := h.og; exact h1.outer.ge gb rfl
theorem Box.ne (h : Box S w0 lb gb n cap C w) : lb ≠ gb := by
  obtain ⟨ps, h1, _⟩ := h.og
  have h2 := h1.outer.ne h.oc (by decide)
  simpa [Value.ownBlock] using fun e : lb = gb => (h2.elim (fun h => by simp [Value.ownBlock] at h) (fun h => h (by simp [Value.ownBlock, e])))
theorem Box.cell (h : Box S w0 lb gb n cap C w) : w.cell? ⟨lb, 0, none⟩ = some (.slice (some ⟨gb, 0, none⟩) n cap) := by
  have := h.oc.cell 0 (by simp)
  simpa using this
theorem Box.free (h : Box S w0 lb gb n cap C w) : w.frozen? ⟨lb, 0, none⟩ = false := h.oc.free 0
theorem Box.roll (h : Box S w0 lb gb n cap C w) (hk : Kept S w w') (hS : ∀ j, w0.heap.size ≤ j → ¬ S j) : Box S w0 lb gb n cap C w' :=
  ⟨h.ga, h.og.keptS hk hS, h.oc.keptS hk (fun j hj => hS j (by simp [Value.ownBlock] at hj; have := h.lb0; omega)), h.kp.trans hk, h.lb0⟩
theorem Box.link (h : Box S w0 lb gb n cap C w) {u v : Nat} (hu : u < n) (hv : v < n) (_huv : u ≠ v) (hog : OwnG (fun _ => False) w' w0.heap.size gb n cap (linkA C u v)) (hk : Kept (fun j => j = gb) w w') :
    Box S w0 lb gb n cap (linkA C u v) (w'.setCell ⟨lb, 0, none⟩ (.slice (some ⟨gb, 0, none⟩) n cap)) := by
  have hne := h.ne
  have hgb := h.gb0
  have hoc := h.oc.keptS hk (fun j hj hs => by simp [Value.ownBlock] at hj; omega)
  refine ⟨h.ga.link hu hv, ?_, ?_, ?_, h.lb0⟩
  · obtain ⟨ps, h1, h2, h3⟩ := hog
    exact ⟨ps, h1.setCell_typed hoc (by decide) (by decide) 0 _, h2, h3⟩
  · have h1 := hoc.store 0 (by simp) (.slice (some ⟨gb, 0, none⟩) n cap)
    simpa using h1
  · have hks : Kept S w0 w' := ⟨hk.os.trans h.kp.os, hk.tape.trans h.kp.tape, hk.output.trans h.kp.output, Nat.le_trans h.kp.size hk.size, fun k hk' hn => (hk.block k (Nat.lt_of_lt_of_le hk' h.kp.size) (by omega)).trans (h.kp.block k hk' hn)⟩
    exact hks.setCell_new h.lb0 _
theorem Box.fin {wa : World} (h : Box S w0 lb gb n cap C w) (hb : Below wa.heap.size wa w0) (hw : wa.heap.size < w0.heap.size) (V : Value) :
    OwnG (fun _ => False) (w.setCell ⟨wa.heap.size, 0, none⟩ V) wa.heap.size gb n cap C ∧ Kept S wa (w.setCell ⟨wa.heap.size, 0, none⟩ V) := by
  refine ⟨?_, ?_⟩
  · obtain ⟨ps, h1, h2, h3⟩ := h.og
    exact ⟨ps, (h1.setCell_below hw _).base (by omega), h2, h3⟩
  · exact ((Kept.of_below S hb).trans h.kp).setCell_new (Nat.le_refl _) _
end
theorem rows_lenD {us : List Row} {H : List Nat} {n : Nat} (h : nums us = H.map mems) (hl : H.length = n) : us.length = n := by
  have := congrArg List.length h
  rw [nums_length, List.length_map, hl] at this; exact this
theorem ownG_ofD {w : World} {B n : Nat} {v : Value} {rs : List Row} {A : List Nat} (h : OwnM 30 2 w B v rs) (hn : nums rs = A.map mems) (hl : A.length = n) (h0 : 1 ≤ n) : ∃ gb cap, v = .slice (some ⟨gb, 0, none⟩) n cap ∧ OwnG (fun _ => False) w B gb n cap A := by
  have hlr := rows_lenD hn hl
  obtain ⟨gb, cap, hgv⟩ : ∃ gb cap, v = .slice (some ⟨gb, 0, none⟩) n cap := by
    rcases h.outer.form with ⟨_, h2⟩ | ⟨g, cap, spare, h2, _⟩
    · have h9 := congrArg List.length h2
      rw [List.length_map, List.length_nil] at h9; omega
    · exact ⟨g, cap, by rw [h2, List.length_map, hlr]⟩
  subst hgv
  exact ⟨gb, cap, rfl, rs, h, hn, fun _ _ _ _ h => h⟩
set_option maxRecDepth 100000 in
set_option maxHeartbeats 2000000 in
theorem l1Empty_17 (n : Nat) (w : World) (h0 : 1 ≤ n) (h16 : n ≤ 17) :
    Calls Tryd.prog 58 #[.int .i64 n] w fun e w' => ∃ gb cap, e = .returned (.agg #[.slice (some ⟨gb, 0, none⟩) n cap]) ∧ OwnG (fun _ => False) w' w.heap.size gb n cap (List.replicate n 0) ∧ Below w.heap.size w w' := by
  obtain ⟨w0, hw0⟩ : ∃ w0, w0 = (w.alloc (.cells #[.slice none 0 0] 24)) := ⟨_, rfl⟩
  have B0 := hid (show Below w.heap.size w w0 by rw [hw0]; exact ((Below.refl _ _).alloc (Nat.le_refl _) _))
  have c0 : w0.cell? ⟨w.heap.size, 0, none⟩ = some (.slice none 0 0) := by rw [hw0]; simp [go_sem]
  have HW := hid hw0; clear hw0
  have hsz0 : w0.heap.size = w.heap.size + 1 := by rw [HW.out]; simp
  have OR := hid (show Own 24 w0 w.heap.size (.slice (some ⟨w.heap.size, 0, none⟩) 1 1) [.slice none 0 0] by
    have h := own_new 24 w [.slice none 0 0] (by simp [maxLen])
    rw [HW.out]
    exact h)
  have OZ := hid (show Own 24 (w0.alloc (.cells #[.slice none 0 0] 24)) w0.heap.size (.slice (some ⟨w0.heap.size, 0, none⟩) 1 1) [.slice none 0 0] from own_new 24 w0 [.slice none 0 0] (by simp [maxLen]))
  go_enter Tryd.func58, Tryd.ntmps58
  go_wp2_with fail
  rw [← HW.out]
  have hsx : w.heap.size + 1 = w0.heap.size := by omega
  rw [hsx]
  have hsz1 : w.heap.size + 1 ≤ w0.heap.size := by omega
  clear hsx hsz0 c0
  have HB1 := hid (alloc_below w0 (.cells #[.slice none 0 0] 24))
  have HO1 := hid (show Own 30 (w0.alloc (.cells #[.slice none 0 0] 24)) (w0.heap.size + 1) (.slice none 0 0) (([] : List Row).map Row.val) from Own.nil _ _ _)
  have hs1 : (w0.alloc (.cells #[.slice none 0 0] 24)).heap.size = w0.heap.size + 1 := by simp
  generalize w0.alloc (.cells #[.slice none 0 0] 24) = W1 at *
  have HS1 := hid hs1; clear hs1
  go_loopw [4] (fun x wr => ∃ k v ps, k ≤ n ∧ x = .int .i64 (k : Nat) ∧ OwnM 30 2 wr (w0.heap.size + 1) v ps ∧ nums ps = List.replicate k [] ∧ Own 24 wr w0.heap.size (.slice (some ⟨w0.heap.size, 0, none⟩) 1 1) [v] ∧ Below w0.heap.size w0 wr) (fun x _ => n - (intOf x).toNat)
  case atStart => exact ⟨0, _, [], Nat.zero_le _, rfl, ⟨HO1.out, Inner.nil _ _ _⟩, rfl, OZ.out, HB1.out⟩
  case round =>
    obtain ⟨k, v, ps, hk, rfl, ho, hps, hoz, hb⟩ := hrel
    have OM := hid ho; have HPS := hid hps; have OZ1 := hid hoz; have LB := hid hb
    have c03 := hoz.cell 0 (by simp)
    rw [List.getElem_cons_zero] at c03
    have hsr := hb.size
    have hzr := hoz.lt w0.heap.size rfl
    clear ho hps hoz hb
    by_cases hlt : k < n
    · have hki : (k : Int) < (n : Int) := by omega
      have hpl : (ps.map Row.val).length < 1099511627776 := by
        have h1 := congrArg List.length HPS.out
        rw [nums_length, List.length_replicate] at h1
        rw [List.length_map]; omega
      obtain ⟨pv, pc, hpv, _⟩ := OM.out.rd
      subst hpv
      have hbA := alloc_below wr (.cells #[] 2)
      have hown := own_new 2 wr [] (by decide)
      have hBw : w0.heap.size + 1 ≤ wr.heap.size := by omega
      have IN4 := hid (OM.out.inner.snoc hbA hBw ⟨some ⟨wr.heap.size, 0, none⟩, [], 0⟩ (by simpa [Row.val] using hown))
      have OM4 := hid (OM.out.past hbA (Nat.le_refl _))
      have OZ4 := hid (OZ1.out.past hbA (Nat.le_refl _))
      have LB4 := hid (LB.out.trans (hbA.mono (by omega)))
      have g1 := cellB hbA c03 (Nat.le_refl _)
      have hsA : (wr.alloc (.cells #[] 2)).heap.size = wr.heap.size + 1 := by simp
      have HSU := hid (show nums ps ++ [[]] = List.replicate (k + 1) [] by rw [HPS.out, List.replicate_succ'])
      clear hbA hown
      go_wp2_with (at_builtin; refine law_push tRows _ rfl _ _ rfl (w0.heap.size + 1) _ (ps.map Row.val) rfl OM4.out.outer _ _ rfl ?c0 rfl ?c1 ?c2 ?_)
      try (case c0 => simp)
      try (case c1 => exact hpl)
      try (case c2 => omega)
      intro v' w5 h1 h2
      have OZ5 := hid (OZ4.out.kept h2 (OZ4.out.ne OM4.out.outer (by decide)))
      have hfr5 : w5.frozen? ⟨w0.heap.size, 0, none⟩ = false := OZ5.out.free 0
      have k1 : w5.cell? ⟨w0.heap.size, 0, none⟩ = some (.slice pv ps.length pc) := OZ5.out.cell 0 (by simp)
      have LP5 := hid (grown_below h2 (show w0.heap.size + 1 ≤ _ by omega) (fun g hg => OM4.out.outer.ge g hg))
      have LB5 := hid (LB4.out.trans (LP5.out.mono (by omega)))
      have OM5 := hid (rows_push (by decide) OM4.out.outer IN4.out (by simpa [Row.val] using h1) h2)
      clear h1 h2
      obtain ⟨va, vc, hva, _⟩ := OM5.out.rd
      subst hva
      have OM6 := hid (OM5.out.setCell_below (p := ⟨w0.heap.size, 0, none⟩) (Nat.lt_succ_self _) (.slice va (ps ++ [(⟨some ⟨wr.heap.size, 0, none⟩, [], 0⟩ : Row)]).length vc))
      have OZ6 := hid (OZ5.out.store 0 (by simp) (.slice va (ps ++ [(⟨some ⟨wr.heap.size, 0, none⟩, [], 0⟩ : Row)]).length vc))
      have LB6 := hid (Below.setCell LB5.out (p := ⟨w0.heap.size, 0, none⟩) (Nat.le_refl _) (.slice va (ps ++ [(⟨some ⟨wr.heap.size, 0, none⟩, [], 0⟩ : Row)]).length vc))
      have HNS := hid (show nums (ps ++ [(⟨some ⟨wr.heap.size, 0, none⟩, [], 0⟩ : Row)]) = List.replicate (k + 1) [] by rw [← HSU.out]; simp [nums])
      have e1 : (ps ++ [(⟨some ⟨wr.heap.size, 0, none⟩, [], 0⟩ : Row)]).length = ps.length + 1 := by simp
      rw [e1] at OM6 OZ6 LB6
      clear e1 g1 c03 OM5 OZ5 LB5 LP5 HSU
      go_wp2
      go_roundw
      case rel => exact ⟨k + 1, _, _, by omega, by go_num, OM6.out, HNS.out, OZ6.out, LB6.out⟩
      case measure => simp [intOf]; omega
    · obtain rfl : k = n := by omega
      obtain ⟨va, vc, hva, _⟩ := OM.out.rd
      subst hva
      have OR2 := hid (OR.out.past LB.out (Nat.le_refl _))
      have c1 := OR2.out.cell 0 (by simp)
      rw [List.getElem_cons_zero] at c1
      have hfr := OR2.out.free 0
      have OM2 := hid ((OM.out.setCell_below (p := ⟨w.heap.size, 0, none⟩) (by simp only; omega) (.slice va ps.length vc)).base (B' := w.heap.size) (by omega))
      have LB2 := hid (show Below w.heap.size w (wr.setCell ⟨w.heap.size, 0, none⟩ (.slice va ps.length vc)) from Below.setCell (B0.out.trans (LB.out.mono (by omega))) (p := ⟨w.heap.size, 0, none⟩) (by simp only; omega) _)
      have c110 : (wr.setCell ⟨w.heap.size, 0, none⟩ (.slice va ps.length vc)).cell? ⟨w.heap.size, 0, none⟩ = some (.slice va ps.length vc) := by
        have h := (OR2.out.store 0 (by simp) (.slice va ps.length vc)).cell 0 (by simp)
        simpa using h
      have HC110 := hid c110
      clear c110 OM OZ1 LB
      go_wp2
      obtain ⟨gb, cap, hgv, hog⟩ := ownG_ofD (A := List.replicate k 0) OM2.out (by rw [HPS.out, List.map_replicate, mems_zero]) (by simp) h0
      refine bodyPost_ret (ret_cell rfl _ _ _ ⟨w.heap.size, 0, none⟩ (.agg #[.slice va ps.length vc]) rfl ?_) rfl ⟨gb, cap, by rw [← hgv], hog, LB2.out⟩
      have c110 := HC110.out
      clear OM2 LB2
      go_simp
theorem l1Link_i (B gb n cap u v : Nat) (x y : Int) (A : List Nat) (w : World) (hx : x = (u : Int)) (hy : y = (v : Int)) (hg : OwnG (fun _ => False) w B gb n cap A) (hA : LA n A) (hu : u < n) (hv : v < n) (huv : u ≠ v) (hB : B ≤ w.heap.size) :
    Calls Tryd.prog 94 #[.agg #[.slice (some ⟨gb, 0, none⟩) n cap], .int .i64 x, .int .i64 y] w fun e w' => e = .returned (.agg #[.slice (some ⟨gb, 0, none⟩) n cap]) ∧ OwnG (fun _ => False) w' B gb n cap (linkA A u v) ∧ Kept (fun g => g = gb) w w' := by
  subst hx; subst hy
  exact l1Link_any (fun _ => False) B gb n cap u v A w hg (fun k hk => hk.elim) hA.in16 hA.len hA.le hu hv huv hB
/-- A box of one's own, made at the start. -/
theorem box_new (w w0 : World) (h : w0 = w.alloc (.cells #[.slice none 0 0] 24)) : Own 24 w0 w.heap.size (.slice (some ⟨w.heap.size, 0, none⟩) 1 1) [.slice none 0 0] := by
  have h1 := own_new 24 w [.slice none 0 0] (by simp [maxLen])
  rw [h]; exact h1
set_option maxRecDepth 100000 in
set_option maxHeartbeats 2000000 in
theorem l6Of_any (n : Nat) (w : World) (h0 : 1 ≤ n) (h16 : n ≤ 16) : Calls Tryd.prog 95 #[.int .i64 (n : Nat)] w (PgPost n w) := by
  have HIN := hid (show decide ((1 : Int) ≤ (n : Int) ∧ (n : Int) ≤ 16) = true by rw [decide_eq_true_iff]; omega)
  obtain ⟨w0, hw0⟩ : ∃ w0, w0 = (w.alloc (.cells #[.slice none 0 0] 24)) := ⟨_, rfl⟩
  have B0 := hid (show Below w.heap.size w w0 by rw [hw0]; exact ((Below.refl _ _).alloc (Nat.le_refl _) _))
  have c0 : w0.cell? ⟨w.heap.size, 0, none⟩ = some (.slice none 0 0) := by rw [hw0]; simp [go_sem]
  have HW := hid hw0; clear hw0
  have hsz0 : w0.heap.size = w.heap.size + 1 := by rw [HW.out]; simp
  have OR := hid (box_new w w0 HW.out)
  clear c0
  go_enter Tryd.func95, Tryd.ntmps95
  go_wp2_with (first | (go_at_call 40; refine (l1In_b _ _ _ _ true HIN.out).mono ?_; rintro e w' ⟨rfl, rfl⟩))
  rw [← HW.out]
  refine (l1Empty_17 n _ h0 (by omega)).mono ?_
  rintro e w2 ⟨gb, cap, rfl, hog, hb2⟩
  have OR2 := hid (OR.out.past hb2 (Nat.le_refl _))
  have c1 := OR2.out.cell 0 (by simp)
  rw [List.getElem_cons_zero] at c1
  have hfr := OR2.out.free 0
  have HC1 := hid (show (w2.setCell ⟨w.heap.size, 0, none⟩ (.slice (some ⟨gb, 0, none⟩) n cap)).cell? ⟨w.heap.size, 0, none⟩ = some (.slice (some ⟨gb, 0, none⟩) n cap) by
    have h := (OR2.out.store 0 (by simp) (.slice (some ⟨gb, 0, none⟩) n cap)).cell 0 (by simp)
    simpa using h)
  have OG2 := hid (show OwnG (fun _ => False) (w2.setCell ⟨w.heap.size, 0, none⟩ (.slice (some ⟨gb, 0, none⟩) n cap)) w.heap.size gb n cap (List.replicate n 0) from by
    obtain ⟨ps, h1, h2, h3⟩ := hog
    exact ⟨ps, (h1.setCell_below (by simp only; omega) _).base (by omega), h2, h3⟩)
  have LB2 := hid (show Below w.heap.size w (w2.setCell ⟨w.heap.size, 0, none⟩ (.slice (some ⟨gb, 0, none⟩) n cap)) from Below.setCell (B0.out.trans (hb2.mono (by omega))) (p := ⟨w.heap.size, 0, none⟩) (Nat.le_refl _) _)
  clear hog hb2 OR OR2
  go_wp2
  refine bodyPost_ret (ret_cell_tmpP rfl _ _ _ ⟨w.heap.size, 0, none⟩ (.agg #[.slice (some ⟨gb, 0, none⟩) n cap]) (.bool true) rfl rfl ?_) rfl ⟨gb, cap, _, rfl, LA.zero h0 h16, OG2.out, LB2.out⟩
  have c110 := HC1.out
  clear OG2 LB2
  go_simp
set_option maxRecDepth 100000 in
set_option maxHeartbeats 4000000 in
theorem pathGraph_n (n : Nat) (w : World) (h0 : 1 ≤ n) (h16 : n ≤ 16) : Calls Tryd.prog 72 #[.int .i64 (n : Nat)] w (PgPost n w) := by
  obtain ⟨w0, hw0⟩ : ∃ w0, w0 = (w.alloc (.cells #[.slice none 0 0] 24)) := ⟨_, rfl⟩
  have B0 := hid (show Below w.heap.size w w0 by rw [hw0]; exact ((Below.refl _ _).alloc (Nat.le_refl _) _))
  have c0 : w0.cell? ⟨w.heap.size, 0, none⟩ = some (.slice none 0 0) := by rw [hw0]; simp [go_sem]
  have HW := hid hw0; clear hw0
  have hsz0 : w0.heap.size = w.heap.size + 1 := by rw [HW.out]; simp
  have OR := hid (box_new w w0 HW.out)
  have B00 := hid B0.out
  have hszw : w.heap.size < w0.heap.size := by omega
  clear c0 B0
  go_enter Tryd.func72, Tryd.ntmps72
  go_wp2_with fail
  rw [← HW.out]
  refine (l6Of_any n _ h0 h16).mono ?_
  rintro e w2 ⟨gb, cap, A, rfl, hga, hog, hb2⟩
  have hs12 := hb2.size
  have hb3 := alloc_below w2 (.cells #[.slice (some ⟨gb, 0, none⟩) n cap] 24)
  have BX := hid (show Box (fun _ => False) w0 w2.heap.size gb n cap A (w2.alloc (.cells #[.slice (some ⟨gb, 0, none⟩) n cap] 24)) from
    ⟨hga, hog.past hb3 (Nat.le_refl _), own_new 24 w2 [.slice (some ⟨gb, 0, none⟩) n cap] (by simp [maxLen]), (Kept.of_below _ hb2).trans (Kept.of_below _ hb3), hs12⟩)
  clear hog hb2 hb3 hga hsz0
  go_wp2
  generalize w2.alloc (.cells #[.slice (some ⟨gb, 0, none⟩) n cap] 24) = wb at *
  generalize w2.heap.size = lb at *
  go_loopw [6] (fun x wr => ∃ (k : Nat) (C : List Nat), 1 ≤ k ∧ k ≤ n ∧ x = .int .i64 k ∧ Box (fun _ => False) w0 lb gb n cap C wr) (fun x _ => n - (intOf x).toNat)
  case atStart => exact ⟨1, _, Nat.le_refl _, h0, rfl, BX.out⟩
  case round =>
    clear BX
    obtain ⟨k, C, hk1, hk, rfl, hbx⟩ := hrel
    have BX := hid hbx
    have cl := hbx.cell
    have hsr := hbx.kp.size
    clear hbx
    by_cases hkl : k < n
    · have hki : (k : Int) < (n : Int) := by omega
      have hkd : decide (k < n) = true := decide_eq_true hkl
      go_wp2_with fail
      refine (l1Link_i w0.heap.size gb n cap (k - 1) k _ _ C _ (by omega) rfl BX.out.og BX.out.ga (by omega) hkl (by omega) hsr).mono ?_
      rintro e w3 ⟨rfl, hog, hkp⟩
      have BX2 := hid (BX.out.link (by omega) hkl (by omega) hog hkp)
      have hfr := (BX.out.oc.keptS hkp (fun j hj hs => by simp [Value.ownBlock] at hj; have := BX.out.ne; omega)).free 0
      have cl3 := (BX.out.oc.keptS hkp (fun j hj hs => by simp [Value.ownBlock] at hj; have := BX.out.ne; omega)).cell 0 (by simp)
      rw [List.getElem_cons_zero] at cl3
      clear hog hkp cl BX
      go_wp2
      go_roundw
      case rel => exact ⟨k + 1, _, by omega, by omega, by go_num, BX2.out⟩
      case measure => simp [intOf]; omega
    · obtain rfl : k = n := by omega
      have OR2 := hid (OR.out.keptS BX.out.kp (fun j hj hs => hs))
      have c1 := OR2.out.cell 0 (by simp)
      rw [List.getElem_cons_zero] at c1
      have hfr := OR2.out.free 0
      have HC1 := hid (show (wr.setCell ⟨w.heap.size, 0, none⟩ (.slice (some ⟨gb, 0, none⟩) k cap)).cell? ⟨w.heap.size, 0, none⟩ = some (.slice (some ⟨gb, 0, none⟩) k cap) by
        have h := (OR2.out.store 0 (by simp) (.slice (some ⟨gb, 0, none⟩) k cap)).cell 0 (by simp)
        simpa using h)
      have HF := hid (BX.out.fin B00.out hszw (.slice (some ⟨gb, 0, none⟩) k cap))
      have HGA := hid BX.out.ga
      clear BX OR2
      go_wp2
      refine bodyPost_ret (ret_cell_tmpP rfl _ _ _ ⟨w.heap.size, 0, none⟩ (.agg #[.slice (some ⟨gb, 0, none⟩) k cap]) (.bool true) rfl rfl ?_) rfl ⟨gb, cap, _, rfl, HGA.out, HF.out.1, HF.out.2.below w.heap.size (Nat.le_refl _) (fun _ _ h => h)⟩
      have c110 := HC1.out
      clear HF
      go_simp
theorem pathGraph_any (n : Nat) (x : Int) (w : World) (hx : x = (n : Int)) (h0 : 1 ≤ n) (h16 : n ≤ 16) : Calls Tryd.prog 72 #[.int .i64 x] w (PgPost n w) := by
  subst hx; exact pathGraph_n n w h0 h16
set_option maxRecDepth 100000 in
set_option maxHeartbeats 4000000 in
theorem loopGraph_any (n : Nat) (x : Int) (w : World) (hx : x = (n : Int)) (h3 : 3 ≤ n) (h16 : n ≤ 16) : Calls Tryd.prog 71 #[.int .i64 x] w (PgPost n w) := by
  subst hx
  obtain ⟨w0, hw0⟩ : ∃ w0, w0 = (w.alloc (.cells #[.slice none 0 0] 24)) := ⟨_, rfl⟩
  have B0 := hid (show Below w.heap.size w w0 by rw [hw0]; exact ((Below.refl _ _).alloc (Nat.le_refl _) _))
  have c0 : w0.cell? ⟨w.heap.size, 0, none⟩ = some (.slice none 0 0) := by rw [hw0]; simp [go_sem]
  have HW := hid hw0; clear hw0
  have hsz0 : w0.heap.size = w.heap.size + 1 := by rw [HW.out]; simp
  have OR := hid (box_new w w0 HW.out)
  have B00 := hid B0.out
  have hszw : w.heap.size < w0.heap.size := by omega
  clear c0 B0
  go_enter Tryd.func71, Tryd.ntmps71
  go_wp2_with fail
  rw [← HW.out]
  refine (pathGraph_any n _ _ rfl (by omega) h16).mono ?_
  rintro e w2 ⟨gb, cap, A, rfl, hga, hog, hb2⟩
  have hs12 := hb2.size
  have hb3 := alloc_below w2 (.cells #[.slice (some ⟨gb, 0, none⟩) n cap] 24)
  have BX := hid (show Box (fun _ => False) w0 w2.heap.size gb n cap A (w2.alloc (.cells #[.slice (some ⟨gb, 0, none⟩) n cap] 24)) from
    ⟨hga, hog.past hb3 (Nat.le_refl _), own_new 24 w2 [.slice (some ⟨gb, 0, none⟩) n cap] (by simp [maxLen]), (Kept.of_below _ hb2).trans (Kept.of_below _ hb3), hs12⟩)
  have hnd : decide (n < 3) = false := decide_eq_false (by omega)
  have hni : ¬ (n : Int) < 3 := by omega
  have hsb : w0.heap.size ≤ (w2.alloc (.cells #[.slice (some ⟨gb, 0, none⟩) n cap] 24)).heap.size := by simp; omega
  clear hog hb2 hb3 hga hsz0
  go_wp2_with fail
  generalize w2.alloc (.cells #[.slice (some ⟨gb, 0, none⟩) n cap] 24) = wb at *
  generalize w2.heap.size = lb at *
  refine (l1Link_i w0.heap.size gb n cap 0 (n - 1) _ _ A _ rfl (by omega) BX.out.og BX.out.ga (by omega) (by omega) (by omega) hsb).mono ?_
  rintro e w3 ⟨rfl, hog, hkp⟩
  have hgb0 := BX.out.gb0
  have OR2 := hid ((OR.out.keptS BX.out.kp (fun j hj hs => hs)).keptS hkp (fun j hj hs => by simp [Value.ownBlock] at hj; omega))
  have c1 := OR2.out.cell 0 (by simp)
  rw [List.getElem_cons_zero] at c1
  have hfr := OR2.out.free 0
  have HC1 := hid (show (w3.setCell ⟨w.heap.size, 0, none⟩ (.slice (some ⟨gb, 0, none⟩) n cap)).cell? ⟨w.heap.size, 0, none⟩ = some (.slice (some ⟨gb, 0, none⟩) n cap) by
    have h := (OR2.out.store 0 (by simp) (.slice (some ⟨gb, 0, none⟩) n cap)).cell 0 (by simp)
    simpa using h)
  have OG2 := hid (show OwnG (fun _ => False) (w3.setCell ⟨w.heap.size, 0, none⟩ (.slice (some ⟨gb, 0, none⟩) n cap)) w.heap.size gb n cap (linkA A 0 (n - 1)) from by
    obtain ⟨ps, h1, h2, h3⟩ := hog
    exact ⟨ps, (h1.setCell_below hszw _).base (by omega), h2, h3⟩)
  have LB2 := hid (show Below w.heap.size w (w3.setCell ⟨w.heap.size, 0, none⟩ (.slice (some ⟨gb, 0, none⟩) n cap)) from
    Below.setCell ((B00.out.trans (BX.out.kp.below w.heap.size (by omega) (fun _ _ h => h))).trans (hkp.below w.heap.size (by omega) (fun k hk hs => by omega))) (p := ⟨w.heap.size, 0, none⟩) (Nat.le_refl _) _)
  have HGA := hid (BX.out.ga.link (u := 0) (v := n - 1) (by omega) (by omega))
  clear hog hkp OR OR2 BX
  go_wp2
  refine bodyPost_ret (ret_cell_tmpP rfl _ _ _ ⟨w.heap.size, 0, none⟩ (.agg #[.slice (some ⟨gb, 0, none⟩) n cap]) (.bool true) rfl rfl ?_) rfl ⟨gb, cap, _, rfl, HGA.out, OG2.out, LB2.out⟩
  have c110 := HC1.out
  clear OG2 LB2
  go_simp
/-- A graph has been drawn. -/
def GPost (g : Nat) (w : World) (e : Ending) (w' : World) : Prop :=
  ∃ gb n cap A, e = .returned (.agg #[.slice (some ⟨gb, 0, none⟩) n cap]) ∧ LA n A ∧ OwnG (fun _ => False) w' w.heap.size gb n cap A ∧ Cur w' g ∧ Kept (fun k => k = g) w w'
theorem Cur.setc {w : World} {g : Nat} (h : Cur w g) {p : Addr} (hp : g < p.block) (v : Value) : Cur (w.setCell p v) g :=
  h.keep (S := fun k => k = p.block) (Kept.setCell (S := fun k => k = p.block) (Kept.refl _ w) rfl v) (fun j hj hs => by omega)
set_option maxRecDepth 100000 in
set_option maxHeartbeats 4000000 in
theorem l1DrawOf_any (g n : Nat) (x : Int) (w : World) (hx : x = (n : Int)) (hc : Cur w g) (h0 : 1 ≤ n) (h16 : n ≤ 16) :
    Calls Tryd.prog 73 #[.pointer (some ⟨g, 0, none⟩), .int .i64 x] w (GPost g w) := by
  subst hx
  have hgw := hc.lt
  have CU := hid hc
  clear hc
  obtain ⟨w0, hw0⟩ : ∃ w0, w0 = (w.alloc (.cells #[.slice none 0 0] 24)) := ⟨_, rfl⟩
  have B0 := hid (show Below w.heap.size w w0 by rw [hw0]; exact ((Below.refl _ _).alloc (Nat.le_refl _) _))
  have c0 : w0.cell? ⟨w.heap.size, 0, none⟩ = some (.slice none 0 0) := by rw [hw0]; simp [go_sem]
  have HW := hid hw0; clear hw0
  have hsz0 : w0.heap.size = w.heap.size + 1 := by rw [HW.out]; simp
  have OR := hid (box_new w w0 HW.out)
  have B00 := hid B0.out
  have CU0 := hid (CU.out.past B00.out (Nat.le_refl _))
  have hszw : w.heap.size < w0.heap.size := by omega
  clear c0 B0 CU
  go_enter Tryd.func73, Tryd.ntmps73
  go_wp2_with fail
  rw [← HW.out]
  refine (l1Empty_17 n _ h0 (by omega)).mono ?_
  rintro e w2 ⟨gb, cap, rfl, hog, hb2⟩
  have hs12 := hb2.size
  have hb3 := alloc_below w2 (.cells #[.slice (some ⟨gb, 0, none⟩) n cap] 24)
  have BX := hid (show Box (fun k => k = g) w0 w2.heap.size gb n cap (List.replicate n 0) (w2.alloc (.cells #[.slice (some ⟨gb, 0, none⟩) n cap] 24)) from
    ⟨LA.zero h0 h16, hog.past hb3 (Nat.le_refl _), own_new 24 w2 [.slice (some ⟨gb, 0, none⟩) n cap] (by simp [maxLen]), (Kept.of_below _ hb2).trans (Kept.of_below _ hb3), hs12⟩)
  have CU2 := hid ((CU0.out.past hb2 (Nat.le_refl _)).past hb3 (Nat.le_refl _))
  clear hog hb2 hb3 hsz0 CU0
  go_wp2_with fail
  generalize w2.alloc (.cells #[.slice (some ⟨gb, 0, none⟩) n cap] 24) = wb at *
  generalize w2.heap.size = lb at *
  refine (l1Below_any g 3 _ _ rfl CU2.out (by decide) (by decide)).mono ?_
  rintro e w3 ⟨of, rfl, hof, hc, hk⟩
  have BX3 := hid (BX.out.roll hk (fun j hj hs => by omega))
  have CU3 := hid hc
  clear hc hk BX CU2
  go_wp2
  go_loopw [7] (fun x wr => ∃ (v : Nat) (C : List Nat), 1 ≤ v ∧ v ≤ n ∧ x = .int .i64 v ∧ Box (fun k => k = g) w0 lb gb n cap C wr ∧ Cur wr g) (fun x _ => n - (intOf x).toNat)
  case atStart => exact ⟨1, _, Nat.le_refl _, h0, rfl, BX3.out, CU3.out⟩
  case round =>
    clear BX3 CU3
    obtain ⟨v, C, hv1, hv, rfl, hbx, hcu⟩ := hrel
    have BX := hid hbx; have CU := hid hcu
    clear hbx hcu
    by_cases hvn : v < n
    · have hvi : (v : Int) < (n : Int) := by omega
      go_wp2
      go_loopw [8] (fun x wr => ∃ (u : Nat) (C : List Nat), u ≤ v ∧ x = .int .i64 u ∧ Box (fun k => k = g) w0 lb gb n cap C wr ∧ Cur wr g) (fun x _ => v - (intOf x).toNat)
      case atStart => exact ⟨0, _, Nat.zero_le _, rfl, BX.out, CU.out⟩
      case round =>
        clear BX CU
        obtain ⟨u, C2, hu, rfl, hbx, hcu⟩ := hrel
        have BX := hid hbx; have CU := hid hcu
        clear hbx hcu
        obtain ⟨wj, rfl⟩ : ∃ z, z = wr := ⟨_, rfl⟩
        by_cases huv : u < v
        · have hui : (u : Int) < (v : Int) := by omega
          go_wp2_with fail
          refine (l1Below_any g 4 _ _ rfl CU.out (by decide) (by decide)).mono ?_
          rintro e w4 ⟨y, rfl, hy, hc, hk⟩
          have BX4 := hid (BX.out.roll hk (fun j hj hs => by omega))
          have CU4 := hid hc
          clear hc hk BX CU
          have cl := BX4.out.cell
          have hsr := BX4.out.kp.size
          by_cases hyo : (y : Int) < 1 + (of : Int)
          · go_wp2_with fail
            refine (l1Link_i w0.heap.size gb n cap u v _ _ C2 _ rfl rfl BX4.out.og BX4.out.ga (by omega) hvn (by omega) hsr).mono ?_
            rintro e w5 ⟨rfl, hog, hkp⟩
            have BX5 := hid (BX4.out.link (by omega) hvn (by omega) hog hkp)
            have hgb0 := BX4.out.gb0
            have hlb0 := BX4.out.lb0
            have CU5 := hid ((CU4.out.keep hkp (fun j hj hs => by omega)).setc (p := ⟨lb, 0, none⟩) (by show g < lb; omega) (.slice (some ⟨gb, 0, none⟩) n cap))
            have hfr := (BX4.out.oc.keptS hkp (fun j hj hs => by simp [Value.ownBlock] at hj; have := BX4.out.ne; omega)).free 0
            have cl3 := (BX4.out.oc.keptS hkp (fun j hj hs => by simp [Value.ownBlock] at hj; have := BX4.out.ne; omega)).cell 0 (by simp)
            rw [List.getElem_cons_zero] at cl3
            clear hog hkp cl BX4 CU4
            go_wp2
            go_roundw
            case rel => exact ⟨u + 1, _, by omega, by go_num, BX5.out, CU5.out⟩
            case measure => simp [intOf]; omega
          · go_wp2
            go_roundw
            case rel => exact ⟨u + 1, _, by omega, by go_num, BX4.out, CU4.out⟩
            case measure => simp [intOf]; omega
        · obtain rfl : u = v := by omega
          go_wp2
          go_roundw
          case rel => exact ⟨u + 1, _, by omega, by omega, by go_num, BX.out, CU.out⟩
          case measure => simp [intOf]; omega
    · obtain rfl : v = n := by omega
      have cl := BX.out.cell
      have OR2 := hid (OR.out.keptS BX.out.kp (fun j hj hs => by simp [Value.ownBlock] at hj; omega))
      have c1 := OR2.out.cell 0 (by simp)
      rw [List.getElem_cons_zero] at c1
      have hfr := OR2.out.free 0
      have HC1 := hid (show (wr.setCell ⟨w.heap.size, 0, none⟩ (.slice (some ⟨gb, 0, none⟩) v cap)).cell? ⟨w.heap.size, 0, none⟩ = some (.slice (some ⟨gb, 0, none⟩) v cap) by
        have h := (OR2.out.store 0 (by simp) (.slice (some ⟨gb, 0, none⟩) v cap)).cell 0 (by simp)
        simpa using h)
      have HF := hid (BX.out.fin B00.out hszw (.slice (some ⟨gb, 0, none⟩) v cap))
      have HGA := hid BX.out.ga
      have CU2 := hid (CU.out.setc (p := ⟨w.heap.size, 0, none⟩) hgw (.slice (some ⟨gb, 0, none⟩) v cap))
      clear BX OR2 CU
      go_wp2
      refine bodyPost_ret (ret_cell rfl _ _ _ ⟨w.heap.size, 0, none⟩ (.agg #[.slice (some ⟨gb, 0, none⟩) v cap]) rfl ?_) rfl ⟨gb, v, cap, _, rfl, HGA.out, HF.out.1, CU2.out, HF.out.2⟩
      have c110 := HC1.out
      clear HF
      go_simp
theorem gpost_of {w wX : World} {g B gb n cap : Nat} {A : List Nat} (hog : OwnG (fun _ => False) wX B gb n cap A) (hB : w.heap.size < B) (hcu : Cur wX g) (hg : g < w.heap.size) (hk : Kept (fun k => k = g) w wX) (V : Value) :
    OwnG (fun _ => False) (wX.setCell ⟨w.heap.size, 0, none⟩ V) w.heap.size gb n cap A ∧ Cur (wX.setCell ⟨w.heap.size, 0, none⟩ V) g ∧ Kept (fun k => k = g) w (wX.setCell ⟨w.heap.size, 0, none⟩ V) := by
  refine ⟨?_, hcu.setc hg V, hk.setCell_new (Nat.le_refl _) _⟩
  obtain ⟨ps, h1, h2, h3⟩ := hog
  exact ⟨ps, (h1.setCell_below hB _).base (by omega), h2, h3⟩
set_option maxRecDepth 100000 in
set_option maxHeartbeats 4000000 in
theorem l1Draw_any (g : Nat) (w : World) (hc : Cur w g) : Calls Tryd.prog 55 #[.pointer (some ⟨g, 0, none⟩)] w (GPost g w) := by
  have hgw := hc.lt
  have CU := hid hc
  clear hc
  obtain ⟨w0, hw0⟩ : ∃ w0, w0 = (w.alloc (.cells #[.slice none 0 0] 24)) := ⟨_, rfl⟩
  have B0 := hid (show Below w.heap.size w w0 by rw [hw0]; exact ((Below.refl _ _).alloc (Nat.le_refl _) _))
  have c0 : w0.cell? ⟨w.heap.size, 0, none⟩ = some (.slice none 0 0) := by rw [hw0]; simp [go_sem]
  have HW := hid hw0; clear hw0
  have hsz0 : w0.heap.size = w.heap.size + 1 := by rw [HW.out]; simp
  have OR := hid (box_new w w0 HW.out)
  have Kw := hid (Kept.of_below (fun k => k = g) B0.out)
  have CU0 := hid (CU.out.past B0.out (Nat.le_refl _))
  have hszw : w.heap.size < w0.heap.size := by omega
  clear c0 B0 CU hsz0
  go_enter Tryd.func55, Tryd.ntmps55
  go_wp2_with fail
  rw [← HW.out]
  refine (l1Below_any g 6 _ _ rfl CU0.out (by decide) (by decide)).mono ?_
  rintro e w1 ⟨x, rfl, hx, hc, hk⟩
  have C1 := hid hc; have K1 := hid hk; have OR1 := hid (OR.out.keptS hk (fun j hj hs => by simp [Value.ownBlock] at hj; omega))
  clear hc hk CU0 OR
  by_cases h0 : x = 0
  · subst h0
    go_wp2_with fail
    refine (l1Below_any g 4 _ _ rfl C1.out (by decide) (by decide)).mono ?_
    rintro e w2 ⟨y, rfl, hy, hc, hk⟩
    have C2 := hid hc; have K2 := hid (K1.out.trans hk); have OR2 := hid (OR1.out.keptS hk (fun j hj hs => by simp [Value.ownBlock] at hj; omega))
    clear hc hk C1 K1 OR1
    go_wp2_with fail
    refine (loopGraph_any (3 + y) _ _ (by omega) (by omega) (by omega)).mono ?_
    rintro e w3 ⟨gb, cap, A, rfl, hga, hog, hb⟩
    have hb4 := alloc_below w3 (.cells #[.slice (some ⟨gb, 0, none⟩) (3 + y) cap] 24)
    have OG4 := hog.past hb4 (Nat.le_refl _)
    have CU4 := (C2.out.past hb (Nat.le_refl _)).past hb4 (Nat.le_refl _)
    have K4 := (K2.out.trans (Kept.of_below _ hb)).trans (Kept.of_below _ hb4)
    have OR4 := hid ((OR2.out.past hb (Nat.le_refl _)).past hb4 (Nat.le_refl _))
    have c1 := OR4.out.cell 0 (by simp)
    rw [List.getElem_cons_zero] at c1
    have hfr := OR4.out.free 0
    have HC1 := hid (show ((w3.alloc (.cells #[.slice (some ⟨gb, 0, none⟩) (3 + y) cap] 24)).setCell ⟨w.heap.size, 0, none⟩ (.slice (some ⟨gb, 0, none⟩) (3 + y) cap)).cell? ⟨w.heap.size, 0, none⟩ = some (.slice (some ⟨gb, 0, none⟩) (3 + y) cap) by
      have h := (OR4.out.store 0 (by simp) (.slice (some ⟨gb, 0, none⟩) (3 + y) cap)).cell 0 (by simp)
      simpa using h)
    have HF := hid (gpost_of OG4 (by have := K2.out.size; omega) CU4 hgw (Kw.out.trans K4) (.slice (some ⟨gb, 0, none⟩) (3 + y) cap))
    have HGA := hid hga
    clear hog hb hb4 OG4 CU4 K4 OR4 OR2 C2 K2 hga
    go_wp2
    refine bodyPost_ret (ret_cell rfl _ _ _ ⟨w.heap.size, 0, none⟩ (.agg #[.slice (some ⟨gb, 0, none⟩) (3 + y) cap]) rfl ?_) rfl ⟨gb, (3 + y), cap, _, rfl, HGA.out, HF.out.1, HF.out.2.1, HF.out.2.2⟩
    have c110 := HC1.out
    clear HF
    go_simp
  · have hx0 : ((x : Int) == 0) = false := by rw [beq_eq_false_iff_ne]; omega
    by_cases h1 : x = 1
    · subst h1
      go_wp2_with fail
      refine (l1Below_any g 6 _ _ rfl C1.out (by decide) (by decide)).mono ?_
      rintro e w2 ⟨y, rfl, hy, hc, hk⟩
      have C2 := hid hc; have K2 := hid (K1.out.trans hk); have OR2 := hid (OR1.out.keptS hk (fun j hj hs => by simp [Value.ownBlock] at hj; omega))
      clear hc hk C1 K1 OR1
      go_wp2_with fail
      refine (pathGraph_any (1 + y) _ _ (by omega) (by omega) (by omega)).mono ?_
      rintro e w3 ⟨gb, cap, A, rfl, hga, hog, hb⟩
      have hb4 := alloc_below w3 (.cells #[.slice (some ⟨gb, 0, none⟩) (1 + y) cap] 24)
      have OG4 := hog.past hb4 (Nat.le_refl _)
      have CU4 := (C2.out.past hb (Nat.le_refl _)).past hb4 (Nat.le_refl _)
      have K4 := (K2.out.trans (Kept.of_below _ hb)).trans (Kept.of_below _ hb4)
      have OR4 := hid ((OR2.out.past hb (Nat.le_refl _)).past hb4 (Nat.le_refl _))
      have c1 := OR4.out.cell 0 (by simp)
      rw [List.getElem_cons_zero] at c1
      have hfr := OR4.out.free 0
      have HC1 := hid (show ((w3.alloc (.cells #[.slice (some ⟨gb, 0, none⟩) (1 + y) cap] 24)).setCell ⟨w.heap.size, 0, none⟩ (.slice (some ⟨gb, 0, none⟩) (1 + y) cap)).cell? ⟨w.heap.size, 0, none⟩ = some (.slice (some ⟨gb, 0, none⟩) (1 + y) cap) by
        have h := (OR4.out.store 0 (by simp) (.slice (some ⟨gb, 0, none⟩) (1 + y) cap)).cell 0 (by simp)
        simpa using h)
      have HF := hid (gpost_of OG4 (by have := K2.out.size; omega) CU4 hgw (Kw.out.trans K4) (.slice (some ⟨gb, 0, none⟩) (1 + y) cap))
      have HGA := hid hga
      clear hog hb hb4 OG4 CU4 K4 OR4 OR2 C2 K2 hga
      go_wp2
      refine bodyPost_ret (ret_cell rfl _ _ _ ⟨w.heap.size, 0, none⟩ (.agg #[.slice (some ⟨gb, 0, none⟩) (1 + y) cap]) rfl ?_) rfl ⟨gb, (1 + y), cap, _, rfl, HGA.out, HF.out.1, HF.out.2.1, HF.out.2.2⟩
      have c110 := HC1.out
      clear HF
      go_simp
    · have hx1 : ((x : Int) == 1) = false := by rw [beq_eq_false_iff_ne]; omega
      go_wp2_with fail
      refine (l1Below_any g 7 _ _ rfl C1.out (by decide) (by decide)).mono ?_
      rintro e w2 ⟨y, rfl, hy, hc, hk⟩
      have C2 := hid hc; have K2 := hid (K1.out.trans hk); have OR2 := hid (OR1.out.keptS hk (fun j hj hs => by simp [Value.ownBlock] at hj; omega))
      clear hc hk C1 K1 OR1
      go_wp2_with fail
      refine (l1DrawOf_any g (1 + y) _ _ (by omega) C2.out (by omega) (by omega)).mono ?_
      rintro e w3 ⟨gb, n, cap, A, rfl, hga, hog, hcu, hb⟩
      have OG4 := hog
      have CU4 := hcu
      have K4 := K2.out.trans hb
      have OR4 := hid (OR2.out.keptS hb (fun j hj hs => by simp [Value.ownBlock] at hj; omega))
      have c1 := OR4.out.cell 0 (by simp)
      rw [List.getElem_cons_zero] at c1
      have hfr := OR4.out.free 0
      have HC1 := hid (show (w3.setCell ⟨w.heap.size, 0, none⟩ (.slice (some ⟨gb, 0, none⟩) n cap)).cell? ⟨w.heap.size, 0, none⟩ = some (.slice (some ⟨gb, 0, none⟩) n cap) by
        have h := (OR4.out.store 0 (by simp) (.slice (some ⟨gb, 0, none⟩) n cap)).cell 0 (by simp)
        simpa using h)
      have HF := hid (gpost_of OG4 (by have := K2.out.size; omega) CU4 hgw (Kw.out.trans K4) (.slice (some ⟨gb, 0, none⟩) n cap))
      have HGA := hid hga
      clear hog hb OG4 CU4 K4 OR4 OR2 C2 K2 hga
      go_wp2
      refine bodyPost_ret (ret_cell rfl _ _ _ ⟨w.heap.size, 0, none⟩ (.agg #[.slice (some ⟨gb, 0, none⟩) n cap]) rfl ?_) rfl ⟨gb, n, cap, _, rfl, HGA.out, HF.out.1, HF.out.2.1, HF.out.2.2⟩
      have c110 := HC1.out
      clear HF
      go_simp
end
end Go.Proofs.YtccohcdgcpcbjaaDoor
