/- The law package's own helpers on graphs. -/
import Derived.Test.YtggjmnihnjdoaaaDoorTo
import Derived.Test.YtggjmnihnjdoaaaDoorEq
import Derived.Test.YtggjmnihnjdoaaaDoorMark
namespace Go.Proofs.YtggjmnihnjdoaaaDoor
open Go.RowKit

theorem szs_sign (rs : List Row) (x : Int) (h : 0 ≤ x) : szs rs x = -1 ∨ 0 ≤ szs rs x := by
  induction rs generalizing x with
  | nil => exact .inr h
  | cons r rs ih =>
    have := sz1_le r.z.length x h
    unfold szs
    split
    · exact .inl rfl
    · exact ih _ (by omega)
theorem sz2_sign (rs : List Row) (x : Int) (_h : 0 ≤ x) : sz2 rs x = -1 ∨ 0 ≤ sz2 rs x := by
  unfold sz2
  split
  · exact .inl rfl
  · exact szs_sign _ _ (by omega)
theorem szs_small (rs : List Row) (x : Int) (h : 0 ≤ x) (hs : 0 ≤ szs rs x) : szs rs x ≤ x ∧ (total rs : Int) + szs rs x = x := by
  induction rs generalizing x with
  | nil => simp [szs, total]
  | cons r rs ih =>
    unfold szs at hs ⊢
    split at hs
    · omega
    · rename_i hn
      rw [if_neg hn]
      have h1 : sz1 r.z.length x = x - r.z.length := by unfold sz1 at hn ⊢; split <;> simp_all
      rw [h1] at hs hn ⊢
      obtain ⟨i1, i2⟩ := ih (x - r.z.length) (by omega) hs
      simp only [total]
      omega
theorem len_le_total (rs : List Row) : ∀ r ∈ rs, r.z.length ≤ total rs := by
  induction rs with
  | nil => intro r hr; cases hr
  | cons q rs ih =>
    intro r hr
    simp only [total]
    rcases List.mem_cons.1 hr with rfl | h
    · omega
    · have := ih r h; omega
/-- What passes the law's own test of size is small. -/
theorem sz2_small (rs : List Row) (x : Int) (h : 0 ≤ x) (h1 : x ≤ 1048576) (hs : 0 ≤ sz2 rs x) : Small rs ∧ total rs ≤ 1048576 ∧ sz2 rs x ≤ x := by
  unfold sz2 at hs ⊢
  split at hs
  · omega
  · rename_i hn
    rw [if_neg hn]
    obtain ⟨h2, h3⟩ := szs_small rs (x - rs.length) (by omega) hs
    refine ⟨⟨by omega, fun r hr => ?_⟩, by omega, by omega⟩
    have := len_le_total rs r hr
    omega
theorem sz2_le (rs : List Row) (x : Int) (h : 0 ≤ x) (h1 : x ≤ 1048576) : sz2 rs x ≤ 1048576 := by
  by_cases hs : 0 ≤ sz2 rs x
  · exact Int.le_trans (sz2_small rs x h h1 hs).2.2 h1
  · omega
theorem Small.congr {rs qs : List Row} (h : nums rs = nums qs) (hs : Small rs) : Small qs := by
  have hl : rs.length = qs.length := by simpa [nums] using congrArg List.length h
  refine ⟨by have := hs.1; omega, fun r hr => ?_⟩
  have : r.z ∈ nums rs := by rw [h]; exact List.mem_map_of_mem hr
  obtain ⟨q, hq, e⟩ := List.mem_map.1 this
  rw [← e]; exact hs.2 q hq
/-- Rows were copied: the copies, and what is known of them. -/
structure Cp (w w' : World) (rs rs' : List Row) (a' : Option Addr) (c' : Nat) : Prop where
  nums : nums rs' = nums rs
  own : OwnM 41 2 w' w.heap.size (.slice a' rs'.length c') rs'
  rd : RdM w' a' rs'
  small : Small rs'
  below : Below w.heap.size w w'
  cap : rs'.length ≤ c' ∧ c' ≤ maxLen ∧ (a' = none → c' = 0)
theorem cp_of {w w' : World} {rs rs' : List Row} {v : Value} (h1 : nums rs' = nums rs) (h2 : OwnM 41 2 w' w.heap.size v rs') (h3 : Below w.heap.size w w') (hs : Small rs) : ∃ a' c', v = .slice a' rs'.length c' ∧ Cp w w' rs rs' a' c' := by
  obtain ⟨a', c', rfl, hr, h4, h5, h6⟩ := h2.rd
  exact ⟨a', c', rfl, h1, h2, hr, Small.congr h1.symm hs, h3, h4, h5, h6⟩
theorem to2_cp (a : Option Addr) (rs : List Row) (c : Nat) (w : World) (hr : RdM w a rs) (hn : Small rs) :
    Calls Tryd.prog 18 #[.slice a rs.length c] w fun e w' => ∃ a' rs' c', e = .returned (.slice a' rs'.length c') ∧ Cp w w' rs rs' a' c' :=
  (to2_any a rs c w hr hn).mono fun _ _ ⟨v, rs', he, h1, h2, h3⟩ => by
    obtain ⟨a', c', rfl, h⟩ := cp_of h1 h2 h3 hn
    exact ⟨a', rs', c', he, h⟩
theorem alloc_below (w : World) (o : Obj) : Below w.heap.size w (w.alloc o) := (Below.refl _ _).alloc (Nat.le_refl _) _
set_option maxHeartbeats 1000000 in
theorem szG_any (a : Option Addr) (rs : List Row) (c : Nat) (left : Int) (w : World) (hn : rs.length ≤ maxLen) (hr : RdM w a rs) (h0 : 0 ≤ left) (h1 : left ≤ 1048576) :
    Calls Tryd.prog 14 #[.agg #[.slice a rs.length c], .int .i64 left] w fun e w' => e = .returned (.int .i64 (sz2 rs left)) ∧ Below w.heap.size w w' := by
  have HR := hid hr; clear hr
  by_cases h : sz2 rs left < 0
  · have he : sz2 rs left = -1 := by have := sz2_sign rs left h0; omega
    have HE := hid he; clear he
    go_enter Tryd.func14, Tryd.ntmps14
    go_wp2_with fail
    refine (sz2_any _ _ _ _ _ hn (HR.out.below (alloc_below _ _) (Nat.le_refl _)) h0 h1).mono ?_
    rintro e w' ⟨rfl, rfl⟩
    go_wp2
    go_ret
    exact ⟨ret_int HE.out.symm, alloc_below _ _⟩
  · go_enter Tryd.func14, Tryd.ntmps14
    go_wp2_with fail
    refine (sz2_any _ _ _ _ _ hn (HR.out.below (alloc_below _ _) (Nat.le_refl _)) h0 h1).mono ?_
    rintro e w' ⟨rfl, rfl⟩
    go_wp2
    go_ret
    exact ⟨rfl, alloc_below _ _⟩
/-- A call hands back a graph of its own. -/
def RetOwnG (eo ei : TypeId) (zss : List (List Int)) (w : World) (E : Ending) (w' : World) : Prop :=
  ∃ v rs, E = .returned (.agg #[v]) ∧ nums rs = zss ∧ OwnM eo ei w' w.heap.size v rs ∧ Below w.heap.size w w'
set_option maxHeartbeats 1000000 in
theorem toG_any (a : Option Addr) (rs : List Row) (c : Nat) (w : World) (hr : RdM w a rs) (hn : Small rs) :
    Calls Tryd.prog 17 #[.agg #[.slice a rs.length c]] w (RetOwnG 41 2 (nums rs) w) := by
  have HR := hid hr; clear hr
  go_enter Tryd.func17, Tryd.ntmps17
  go_wp2_with fail
  refine (to2_any _ _ _ _ (HR.out.below (((alloc_below _ _).alloc (by simp) _).alloc (by simp; omega) _) (Nat.le_refl _)) hn).mono ?_
  rintro e w1 ⟨v, rs', rfl, hnu, ho, hb⟩
  have hc1 : w1.cell? ⟨w.heap.size + 1, 0, none⟩ = some (.slice none 0 0) := (hb.cell (by simp)).trans (by simp [go_sem])
  have hc2 : w1.cell? ⟨w.heap.size + 1 + 1, 0, none⟩ = some (.slice none 0 0) := (hb.cell (by simp)).trans (by simp [go_sem])
  have hf1 : w1.frozen? ⟨w.heap.size + 1, 0, none⟩ = false := (hb.frozen (by simp)).trans (by simp [go_sem])
  have hf2 : w1.frozen? ⟨w.heap.size + 1 + 1, 0, none⟩ = false := (hb.frozen (by simp)).trans (by simp [go_sem])
  have hz : w.heap.size + 2 < w1.heap.size := by have := hb.size; simp at this; omega
  obtain ⟨a', c', rfl, _⟩ := ho.rd
  have HB := hid hb; have HO := hid ho; have HN := hid hnu; clear hb ho hnu
  go_wp2
  refine bodyPost_ret (v := .agg #[.slice a' rs'.length c']) (by simp [results, Tryd.results17, go_sem, hc1]) rfl ⟨_, rs', rfl, HN.out, ?_, ?_⟩
  · exact ((HO.out.setCell_below (by simp) _).setCell_below (by simp) _).base (by simp <;> omega)
  · exact (((((alloc_below _ _).alloc (by simp) _).alloc (by simp <;> omega) _).trans (HB.out.mono (by simp <;> omega))).setCell (by simp <;> omega) _).setCell (by simp <;> omega) _

/-- A list was copied. -/
structure Cp1 (w w' : World) (zs : List Int) (a' : Option Addr) (c' : Nat) : Prop where
  own : Own 2 w' w.heap.size (.slice a' zs.length c') (zs.map (.int .i64))
  rd : Rd (Value.int .i64) w' a' zs
  below : Below w.heap.size w w'
  cap : zs.length ≤ c' ∧ c' ≤ maxLen ∧ (a' = none → c' = 0)
theorem to1_cp (a : Option Addr) (zs : List Int) (c : Nat) (w : World) (hr : Rd (Value.int .i64) w a zs) (hn : zs.length ≤ 1048576) :
    Calls Tryd.prog 69 #[.slice a zs.length c] w fun e w' => ∃ a' c', e = .returned (.slice a' zs.length c') ∧ Cp1 w w' zs a' c' :=
  (to1_any a zs c w hr hn).mono fun _ _ ⟨v, he, h1, h2⟩ => by
    obtain ⟨a', c', rfl, h3, h4, h5, h6, _⟩ := h1.rd
    exact ⟨a', c', he, h1, h3, h2, h4, h5, h6⟩
theorem toG_cp (a : Option Addr) (rs : List Row) (c : Nat) (w : World) (hr : RdM w a rs) (hn : Small rs) :
    Calls Tryd.prog 17 #[.agg #[.slice a rs.length c]] w fun e w' => ∃ a' rs' c', e = .returned (.agg #[.slice a' rs'.length c']) ∧ Cp w w' rs rs' a' c' :=
  (toG_any a rs c w hr hn).mono fun _ _ ⟨v, rs', he, h1, h2, h3⟩ => by
    obtain ⟨a', c', rfl, h⟩ := cp_of h1 h2 h3 hn
    exact ⟨a', rs', c', he, h⟩
set_option maxHeartbeats 1000000 in
theorem eqG_any (a a' : Option Addr) (rs qs : List Row) (c c' : Nat) (w : World) (b : Bool) (hb : decide (nums rs = nums qs) = b) (hr : RdM w a rs) (hr' : RdM w a' qs) (hn : Small rs) (hn' : Small qs) :
    Calls Tryd.prog 20 #[.agg #[.slice a rs.length c], .agg #[.slice a' qs.length c']] w fun e w' => e = .returned (.bool b) ∧ Below w.heap.size w w' := by
  have HR := hid hr; have HR' := hid hr'; clear hr hr'
  have hB : ∀ o1 o2, Below w.heap.size w ((w.alloc o1).alloc o2) := fun o1 o2 => (alloc_below w o1).alloc (by simp) o2
  have HBB := hid hB; clear hB
  cases b
  all_goals
    go_enter Tryd.func20, Tryd.ntmps20
    go_wp2_with fail
    refine (eq2_b _ _ _ _ _ _ _ _ hb (HR.out.below (HBB.out _ _) (Nat.le_refl _)) (HR'.out.below (HBB.out _ _) (Nat.le_refl _)) hn hn').mono ?_
    rintro e w1 ⟨rfl, hd⟩
    have HD := hid ((HBB.out _ _).trans (hd.below _)); clear hd
    go_wp2
    go_ret
    exact ⟨rfl, HD.out⟩
set_option maxHeartbeats 1000000 in
theorem markG_any (a : Option Addr) (rs : List Row) (c B : Nat) (k : Int) (w : World) (S : Nat → Prop) (ho : OwnM 41 2 w B (.slice a rs.length c) rs) (hS : blocksIn (.slice a rs.length c) rs S)
    (hn : rs.length ≤ 1099511627776) (hn2 : total rs ≤ 1099511627776) (h0 : 0 ≤ k) (h1 : k ≤ 2199023255552) :
    Calls Tryd.prog 24 #[.agg #[.slice a rs.length c], .int .i64 k] w fun e w' => e = .returned (.int .i64 (k + total rs)) ∧ OwnM 41 2 w' B (.slice a rs.length c) (markRows k rs) ∧ Kept S w w' := by
  have HO := hid ho; have HS := hid hS; clear ho hS
  go_enter Tryd.func24, Tryd.ntmps24
  go_wp2_with fail
  refine (mark2_any a rs c B k _ S (HO.out.past (alloc_below _ _) (Nat.le_refl _)) HS.out hn hn2 h0 h1).mono ?_
  rintro e w1 ⟨rfl, ho1, hk1⟩
  have HO1 := hid ho1
  have HK1 := hid ((Kept.of_below S (alloc_below w _)).trans hk1); clear ho1 hk1
  go_wp2
  go_ret
  exact ⟨rfl, HO1.out, HK1.out⟩
end Go.Proofs.YtggjmnihnjdoaaaDoor
