/- A graph without edges; the other graph: the reference's. -/
import Derived.Test.YtdncmloajajiaaaDoorOriS
import Derived.Test.YtdncmloajajiaaaDoorPermM
namespace Go.Proofs.YtdncmloajajiaaaDoor
open Go.RowKit
section
theorem ownG_of {w : World} {B n : Nat} {v : Value} {rs : List Row} {A : List Nat} (h : OwnM 33 2 w B v rs) (hn : nums rs = A.map mems) (hl : A.length = n) (h0 : 1 ≤ n) : ∃ gb cap, v = .slice (some ⟨gb, 0, none⟩) n cap ∧ OwnG (fun _ => False) w B gb n cap A := by
  have hlr := rows_len hn hl
  obtain ⟨gb, cap, hgv⟩ : ∃ gb cap, v = .slice (some ⟨gb, 0, none⟩) n cap := by
    rcases h.outer.form with ⟨_, h2⟩ | ⟨g, cap, spare, h2, _⟩
    · have h9 := congrArg List.length h2
      rw [List.length_map, List.length_nil] at h9; omega
    · exact ⟨g, cap, by rw [h2, List.length_map, hlr]⟩
  subst hgv
  exact ⟨gb, cap, rfl, rs, h, hn, fun _ _ _ _ h => h⟩
set_option maxRecDepth 100000 in
set_option maxHeartbeats 2000000 in
theorem l1Empty_any (n : Nat) (w : World) (h0 : 1 ≤ n) (h16 : n ≤ 16) :
    Calls Tryd.prog 67 #[.int .i64 n] w fun e w' => ∃ gb cap, e = .returned (.agg #[.slice (some ⟨gb, 0, none⟩) n cap]) ∧ OwnG (fun _ => False) w' w.heap.size gb n cap (List.replicate n 0) ∧ Below w.heap.size w w' := by
  obtain ⟨w0, hw0⟩ : ∃ w0, w0 = (w.alloc (.cells #[.slice none 0 0] 29)) := ⟨_, rfl⟩
  have B0 := hid (show Below w.heap.size w w0 by rw [hw0]; exact ((Below.refl _ _).alloc (Nat.le_refl _) _))
  have c0 : w0.cell? ⟨w.heap.size, 0, none⟩ = some (.slice none 0 0) := by rw [hw0]; simp [go_sem]
  have HW := hid hw0; clear hw0
  have hsz0 : w0.heap.size = w.heap.size + 1 := by rw [HW.out]; simp
  have OR := hid (show Own 29 w0 w.heap.size (.slice (some ⟨w.heap.size, 0, none⟩) 1 1) [.slice none 0 0] by
    have h := own_new 29 w [.slice none 0 0] (by simp [maxLen])
    rw [HW.out]
    exact h)
  have OZ := hid (show Own 29 (w0.alloc (.cells #[.slice none 0 0] 29)) w0.heap.size (.slice (some ⟨w0.heap.size, 0, none⟩) 1 1) [.slice none 0 0] from own_new 29 w0 [.slice none 0 0] (by simp [maxLen]))
  go_enter Tryd.func67, Tryd.ntmps67
  go_wp2_with fail
  rw [← HW.out]
  have hsx : w.heap.size + 1 = w0.heap.size := by omega
  rw [hsx]
  have hsz1 : w.heap.size + 1 ≤ w0.heap.size := by omega
  clear hsx hsz0 c0
  have HB1 := hid (alloc_below w0 (.cells #[.slice none 0 0] 29))
  have HO1 := hid (show Own 33 (w0.alloc (.cells #[.slice none 0 0] 29)) (w0.heap.size + 1) (.slice none 0 0) (([] : List Row).map Row.val) from Own.nil _ _ _)
  have hs1 : (w0.alloc (.cells #[.slice none 0 0] 29)).heap.size = w0.heap.size + 1 := by simp
  generalize w0.alloc (.cells #[.slice none 0 0] 29) = W1 at *
  have HS1 := hid hs1; clear hs1
  go_loopw [4] (fun x wr => ∃ k v ps, k ≤ n ∧ x = .int .i64 (k : Nat) ∧ OwnM 33 2 wr (w0.heap.size + 1) v ps ∧ nums ps = List.replicate k [] ∧ Own 29 wr w0.heap.size (.slice (some ⟨w0.heap.size, 0, none⟩) 1 1) [v] ∧ Below w0.heap.size w0 wr) (fun x _ => n - (intOf x).toNat)
  case atStart => exact ⟨0, _, [], Nat.zero_le _, rfl, ⟨HO1.out, Inner.nil _ _ _⟩, rfl, OZ.out, HB1.out⟩
  case round =>
    obtain ⟨k, v, ps, hk, rfl, ho, hps, hoz, hb⟩ := hrel
    have OM := hid ho; have HPS := hid hps; have OZ1 := hid hoz; have LB := hid hb
    have c03 := hoz.cell 0 (by simp)
    rw [List.getElem_cons_zero] at c03
    have hsr := hb.size
    have hzr := hoz.lt w0.heap.size rfl
    clear ho hps hoz hb
    by_cases hlt : k < n
    · have hki : (k : Int) < (n : Int) := by omega
      have hpl : (ps.map Row.val).length < 1099511627776 := by
        have h1 := congrArg List.length HPS.out
        rw [nums_length, List.length_replicate] at h1
        rw [List.length_map]; omega
      obtain ⟨pv, pc, hpv, _⟩ := OM.out.rd
      subst hpv
      have hbA := alloc_below wr (.cells #[] 2)
      have hown := own_new 2 wr [] (by decide)
      have hBw : w0.heap.size + 1 ≤ wr.heap.size := by omega
      have IN4 := hid (OM.out.inner.snoc hbA hBw ⟨some ⟨wr.heap.size, 0, none⟩, [], 0⟩ (by simpa [Row.val] using hown))
      have OM4 := hid (OM.out.past hbA (Nat.le_refl _))
      have OZ4 := hid (OZ1.out.past hbA (Nat.le_refl _))
      have LB4 := hid (LB.out.trans (hbA.mono (by omega)))
      have g1 := cellB hbA c03 (Nat.le_refl _)
      have hsA : (wr.alloc (.cells #[] 2)).heap.size = wr.heap.size + 1 := by simp
      have HSU := hid (show nums ps ++ [[]] = List.replicate (k + 1) [] by rw [HPS.out, List.replicate_succ'])
      clear hbA hown
      go_wp2_with (at_builtin; refine law_push tRows _ rfl _ _ rfl (w0.heap.size + 1) _ (ps.map Row.val) rfl OM4.out.outer _ _ rfl ?c0 rfl ?c1 ?c2 ?_)
      try (case c0 => simp)
      try (case c1 => exact hpl)
      try (case c2 => omega)
      intro v' w5 h1 h2
      have OZ5 := hid (OZ4.out.kept h2 (OZ4.out.ne OM4.out.outer (by decide)))
      have hfr5 : w5.frozen? ⟨w0.heap.size, 0, none⟩ = false := OZ5.out.free 0
      have k1 : w5.cell? ⟨w0.heap.size, 0, none⟩ = some (.slice pv ps.length pc) := OZ5.out.cell 0 (by simp)
      have LP5 := hid (grown_below h2 (show w0.heap.size + 1 ≤ _ by omega) (fun g hg => OM4.out.outer.ge g hg))
      have LB5 := hid (LB4.out.trans (LP5.out.mono (by omega)))
      have OM5 := hid (rows_push (by decide) OM4.out.outer IN4.out (by simpa [Row.val] using h1) h2)
      clear h1 h2
      obtain ⟨va, vc, hva, _⟩ := OM5.out.rd
      subst hva
      have OM6 := hid (OM5.out.setCell_below (p := ⟨w0.heap.size, 0, none⟩) (Nat.lt_succ_self _) (.slice va (ps ++ [(⟨some ⟨wr.heap.size, 0, none⟩, [], 0⟩ : Row)]).length vc))
      have OZ6 := hid (OZ5.out.store 0 (by simp) (.slice va (ps ++ [(⟨some ⟨wr.heap.size, 0, none⟩, [], 0⟩ : Row)]).length vc))
      have LB6 := hid (Below.setCell LB5.out (p := ⟨w0.heap.size, 0, none⟩) (Nat.le_refl _) (.slice va (ps ++ [(⟨some ⟨wr.heap.size, 0, none⟩, [], 0⟩ : Row)]).length vc))
      have HNS := hid (show nums (ps ++ [(⟨some ⟨wr.heap.size, 0, none⟩, [], 0⟩ : Row)]) = List.replicate (k + 1) [] by rw [← HSU.out]; simp [nums])
      have e1 : (ps ++ [(⟨some ⟨wr.heap.size, 0, none⟩, [], 0⟩ : Row)]).length = ps.length + 1 := by simp
      rw [e1] at OM6 OZ6 LB6
      clear e1 g1 c03 OM5 OZ5 LB5 LP5 HSU
      go_wp2
      go_roundw
      case rel => exact ⟨k + 1, _, _, by omega, by go_num, OM6.out, HNS.out, OZ6.out, LB6.out⟩
      case measure => simp [intOf]; omega
    · obtain rfl : k = n := by omega
      obtain ⟨va, vc, hva, _⟩ := OM.out.rd
      subst hva
      have OR2 := hid (OR.out.past LB.out (Nat.le_refl _))
      have c1 := OR2.out.cell 0 (by simp)
      rw [List.getElem_cons_zero] at c1
      have hfr := OR2.out.free 0
      have OM2 := hid ((OM.out.setCell_below (p := ⟨w.heap.size, 0, none⟩) (by simp only; omega) (.slice va ps.length vc)).base (B' := w.heap.size) (by omega))
      have LB2 := hid (show Below w.heap.size w (wr.setCell ⟨w.heap.size, 0, none⟩ (.slice va ps.length vc)) from Below.setCell (B0.out.trans (LB.out.mono (by omega))) (p := ⟨w.heap.size, 0, none⟩) (by simp only; omega) _)
      have c110 : (wr.setCell ⟨w.heap.size, 0, none⟩ (.slice va ps.length vc)).cell? ⟨w.heap.size, 0, none⟩ = some (.slice va ps.length vc) := by
        have h := (OR2.out.store 0 (by simp) (.slice va ps.length vc)).cell 0 (by simp)
        simpa using h
      have HC110 := hid c110
      clear c110 OM OZ1 LB
      go_wp2
      obtain ⟨gb, cap, hgv, hog⟩ := ownG_of (A := List.replicate k 0) OM2.out (by rw [HPS.out, List.map_replicate, mems_zero]) (by simp) h0
      refine bodyPost_ret (ret_cell rfl _ _ _ ⟨w.heap.size, 0, none⟩ (.agg #[.slice va ps.length vc]) rfl ?_) rfl ⟨gb, cap, by rw [← hgv], hog, LB2.out⟩
      have c110 := HC110.out
      clear OM2 LB2
      go_simp
/-- Pairs that have had their turn. -/
def Done2 (v u a b : Nat) : Prop := (a < b ∧ (b < v ∨ (b = v ∧ a < u))) ∨ (b < a ∧ (a < v ∨ (a = v ∧ b < u)))
structure OthR (n : Nat) (A C : List Nat) (v u : Nat) : Prop where
  len : C.length = n
  lt : ∀ x ∈ C, x < 65536
  bit : ∀ a b, bt C a b = true ↔ a < n ∧ b < n ∧ bt A a b = false ∧ Done2 v u a b
theorem OthR.start (n : Nat) (A : List Nat) : OthR n A (List.replicate n 0) 0 0 := by
  refine ⟨by simp, fun x hx => by obtain ⟨_, rfl⟩ := List.mem_replicate.1 hx; decide, fun a b => ?_⟩
  have hz : bt (List.replicate n 0) a b = false := by
    unfold bt
    have : (List.replicate n 0).getD a 0 = 0 := by
      rw [List.getD_eq_getElem?_getD, List.getElem?_replicate]
      split <;> rfl
    rw [this, Nat.zero_testBit]
  rw [hz]
  constructor
  · intro h; cases h
  · rintro ⟨_, _, _, h⟩; unfold Done2 at h; omega
theorem OthR.next {n : Nat} {A C : List Nat} {v : Nat} (h : OthR n A C v v) : OthR n A C (v + 1) 0 := by
  refine ⟨h.len, h.lt, fun a b => ?_⟩
  rw [h.bit]
  have : Done2 v v a b ↔ Done2 (v + 1) 0 a b := by unfold Done2; omega
  rw [this]
theorem OthR.skip {n : Nat} {A C : List Nat} {v u : Nat} (hA : GA n A) (h : OthR n A C v u) (huv : u < v) (he : bt A u v = true) : OthR n A C v (u + 1) := by
  refine ⟨h.len, h.lt, fun a b => ?_⟩
  rw [h.bit]
  have hs := hA.sym u v
  constructor
  · rintro ⟨h1, h2, h3, h4⟩
    exact ⟨h1, h2, h3, by unfold Done2 at *; omega⟩
  · rintro ⟨h1, h2, h3, h4⟩
    refine ⟨h1, h2, h3, ?_⟩
    apply Classical.byContradiction
    intro hn
    have : (a = u ∧ b = v) ∨ (a = v ∧ b = u) := by unfold Done2 at *; omega
    rcases this with ⟨rfl, rfl⟩ | ⟨rfl, rfl⟩
    · rw [he] at h3; cases h3
    · rw [← hs, he] at h3; cases h3
theorem OthR.link {n : Nat} {A C : List Nat} {v u : Nat} (hA : GA n A) (h : OthR n A C v u) (huv : u < v) (hv : v < n) (he : bt A u v = false) : OthR n A (linkA C u v) v (u + 1) := by
  have h16 := hA.le
  have hs := hA.sym u v
  refine ⟨by rw [linkA_len]; exact h.len, linkA_lt h.lt (by omega) (by omega), fun a b => ?_⟩
  rw [bt_link (by rw [h.len]; omega) (by rw [h.len]; exact hv) (by omega), h.bit]
  constructor
  · rintro (⟨h1, h2, h3, h4⟩ | ⟨rfl, rfl⟩ | ⟨rfl, rfl⟩)
    · exact ⟨h1, h2, h3, by unfold Done2 at *; omega⟩
    · exact ⟨by omega, hv, he, by unfold Done2; omega⟩
    · exact ⟨hv, by omega, by rw [← hs]; exact he, by unfold Done2; omega⟩
  · rintro ⟨h1, h2, h3, h4⟩
    by_cases hd : Done2 v u a b
    · exact .inl ⟨h1, h2, h3, hd⟩
    · right
      unfold Done2 at *
      omega
theorem OthR.done {n : Nat} {A C : List Nat} (h : OthR n A C n 0) : C = compA n A := by
  apply bt_ext (by rw [h.len, compA_len])
  intro a b
  rw [Bool.eq_iff_iff, h.bit, compA_bit]
  constructor
  · rintro ⟨h1, h2, h3, h4⟩
    exact ⟨h1, h2, h3, by unfold Done2 at h4; omega⟩
  · rintro ⟨h1, h2, h3, h4⟩
    exact ⟨h1, h2, h3, by unfold Done2; omega⟩
theorem l1Size_n (a : Option Addr) (n c : Nat) (w : World) (hn : n ≤ 1048576) : Calls Tryd.prog 53 #[.agg #[.slice a n c]] w fun e w' => e = .returned (.int .i64 n) ∧ Below w.heap.size w w' := by
  have h := l1Size_any a (List.replicate n (⟨none, [], 0⟩ : Row)) c w (by rw [List.length_replicate]; exact hn)
  rwa [List.length_replicate] at h
theorem l1Edge_n (a : Option Addr) (rs : List Row) (c n u v : Nat) (A : List Nat) (w : World) (b : Bool) (hb : bt A u v = b) (hl : rs.length = n) (hA : GA n A) (hnm : nums rs = A.map mems) (hu : u < n) (hr : RdM w a rs) (hn : Small rs) :
    Calls Tryd.prog 44 #[.agg #[.slice a n c], .int .i64 u, .int .i64 v] w fun e w' => e = .returned (.bool b) ∧ Below w.heap.size w w' := by
  subst hl
  refine l1Edge_b a rs c u v w b (by omega) (by omega) ?_ hr hn
  rw [hnm, hA.row hu]
  have h1 := hA.in2 u
  have h2 : 2 ^ rs.length ≤ 65536 := Nat.pow_le_pow_right (n := 2) (i := rs.length) (j := 16) (by decide) hA.le
  rw [← hb]
  unfold bt
  by_cases h : (A.getD u 0).testBit v = true
  · rw [h, decide_eq_true_iff]
    exact (mems_mem (by omega)).2 ⟨v, rfl, h⟩
  · rw [Bool.not_eq_true] at h
    rw [h, decide_eq_false_iff_not]
    intro hm
    obtain ⟨i, hi, hb2⟩ := (mems_mem (by omega)).1 hm
    obtain rfl : v = i := by omega
    rw [h] at hb2; cases hb2
end
end Go.Proofs.YtdncmloajajiaaaDoor
