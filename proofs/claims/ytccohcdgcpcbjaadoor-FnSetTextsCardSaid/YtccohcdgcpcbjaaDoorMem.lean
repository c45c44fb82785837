/- What memory reads as, and what a call owns: small predicates and their laws, over any program. · The program's types, as the laws of XMem ask for them. -/
import Derived.WalkKit
import Derived.WalkSpells
import Derived.WalkLawsBesides
import Derived.Laws.AppendOwnNone
import Derived.Deep.QuietTactic
import Derived.BigQuiet
import Derived.Test.YtccohcdgcpcbjaaDoorProg
namespace Go.Proofs.YtccohcdgcpcbjaaDoor
open Go.RowKit
section

theorem hid {p : Prop} (h : p) : Hid p := h
theorem ret_int {k : IntKind} {a b : Int} (h : a = b) : Ending.returned (.int k a) = .returned (.int k b) := by rw [h]
theorem ret_bool {a b : Bool} (h : a = b) : Ending.returned (.bool a) = .returned (.bool b) := by rw [h]

/-- An int64. -/
def I64 (x : Int) : Prop := -9223372036854775808 ≤ x ∧ x ≤ 9223372036854775807
/-- The cells from address a on hold zs. -/
def Rd {α : Type} (f : α → Value) (w : World) (a : Option Addr) (zs : List α) : Prop :=
  ∀ i, (h : i < zs.length) → ∃ b o, a = some ⟨b, o, none⟩ ∧ w.cell? ⟨b, o + i, none⟩ = some (f zs[i])
/-- A row of numbers: where it lies, its numbers, its capacity. -/
structure Row where
  a : Option Addr
  z : List Int
  c : Nat
def Row.val (r : Row) : Value := .slice r.a r.z.length r.c
def Row.ok (w : World) (r : Row) : Prop := Rd (Value.int .i64) w r.a r.z ∧ r.z.length ≤ r.c ∧ r.c ≤ maxLen ∧ (r.a = none → r.c = 0)
/-- A slice of rows of numbers. -/
structure RdM (w : World) (a : Option Addr) (rs : List Row) : Prop where
  top : Rd Row.val w a rs
  row : ∀ r ∈ rs, r.ok w
/-- The numbers of the rows. -/
def nums (rs : List Row) : List (List Int) := rs.map (·.z)
/-- No list is long. -/
def Small (rs : List Row) : Prop := rs.length ≤ 1048576 ∧ ∀ r ∈ rs, r.z.length ≤ 1048576

theorem Rd.below {α : Type} {f : α → Value} {B : Nat} {w w' : World} {a : Option Addr} {zs : List α} (h : Rd f w a zs) (hb : Below B w w') (hB : w.heap.size ≤ B) : Rd f w' a zs := by
  intro i hi
  obtain ⟨b, o, ha, hc⟩ := h i hi
  exact ⟨b, o, ha, (hb.cell (p := ⟨b, o + i, none⟩) (Nat.lt_of_lt_of_le (World.block_lt_of_cell? w _ hc) hB)).trans hc⟩
theorem Rd.le {α : Type} {f : α → Value} {B : Nat} {w w' : World} {a : Option Addr} {zs : List α} (h : Rd f w a zs) (hb : Below B w w') (hB : ∀ b o, a = some ⟨b, o, none⟩ → b < B) : Rd f w' a zs := by
  intro i hi
  obtain ⟨b, o, ha, hc⟩ := h i hi
  exact ⟨b, o, ha, (hb.cell (p := ⟨b, o + i, none⟩) (hB b o ha)).trans hc⟩
theorem RdM.below {B : Nat} {w w' : World} {a : Option Addr} {rs : List Row} (h : RdM w a rs) (hb : Below B w w') (hB : w.heap.size ≤ B) : RdM w' a rs :=
  ⟨h.top.below hb hB, fun r hr => ⟨(h.row r hr).1.below hb hB, (h.row r hr).2⟩⟩
theorem Rd.nil {α : Type} (f : α → Value) (w : World) (a : Option Addr) : Rd f w a [] := fun i h => absurd h (Nat.not_lt_zero i)
theorem Rd.drewN {α : Type} {f : α → Value} {w : World} {a : Option Addr} {zs : List α} (h : Rd f w a zs) (n : Nat) : Rd f (w.drewN n) a zs := h
theorem RdM.drewN {w : World} {a : Option Addr} {rs : List Row} (h : RdM w a rs) (n : Nat) : RdM (w.drewN n) a rs := ⟨h.top.drewN n, fun r hr => ⟨(h.row r hr).1.drewN n, (h.row r hr).2⟩⟩
/-- Nothing has turned but the count of draws. -/
def Drawn (w w' : World) : Prop := ∃ n, w.drewN n = w'
theorem Drawn.refl (w : World) : Drawn w w := ⟨0, rfl⟩
theorem Drawn.trans {a b c : World} (h : Drawn a b) (k : Drawn b c) : Drawn a c := by
  obtain ⟨n, rfl⟩ := h; obtain ⟨m, rfl⟩ := k; exact ⟨n + m, by rw [World.drewN_drewN]⟩
theorem Drawn.n {a b : World} (h : Drawn a b) (n : Nat) : Drawn a (b.drewN n) := h.trans ⟨n, rfl⟩
theorem Drawn.d {a b : World} (h : Drawn a b) : Drawn a b.drew := h.trans ⟨1, rfl⟩
theorem Drawn.below {a b : World} (h : Drawn a b) (B : Nat) : Below B a b := by obtain ⟨n, rfl⟩ := h; exact below_drewN (Below.refl _ _) n
theorem Drawn.heap {a b : World} (h : Drawn a b) : b.heap = a.heap := by obtain ⟨n, rfl⟩ := h; rfl
theorem Rd.drawn {α : Type} {f : α → Value} {w w' : World} {a : Option Addr} {zs : List α} (h : Rd f w a zs) (d : Drawn w w') : Rd f w' a zs := by obtain ⟨n, rfl⟩ := d; exact h
theorem RdM.drawn {w w' : World} {a : Option Addr} {rs : List Row} (h : RdM w a rs) (d : Drawn w w') : RdM w' a rs := by obtain ⟨n, rfl⟩ := d; exact h.drewN n
theorem Row.ok.drawn {w w' : World} {r : Row} (h : r.ok w) (d : Drawn w w') : r.ok w' := ⟨h.1.drawn d, h.2⟩
/-- A contract that draws, or leaves the world alone, inside a region that draws. -/
theorem qd {P : Program} {f : FuncId} {args : Array Value} {w : World} {n : Nat} {v : Value}
    (h : Calls P f args (w.drewN n) fun e w' => e = .returned v ∧ Drawn (w.drewN n) w') : Calls P f args (w.drewN n) fun e w'' => e = .returned v ∧ ∃ m, w'' = w.drewN m :=
  h.mono fun _ _ ⟨he, m, hm⟩ => ⟨he, n + m, by rw [← hm, World.drewN_drewN]⟩
theorem qs {P : Program} {f : FuncId} {args : Array Value} {w : World} {n : Nat} {v : Value}
    (h : Calls P f args (w.drewN n) fun e w' => e = .returned v ∧ w.drewN n = w') : Calls P f args (w.drewN n) fun e w'' => e = .returned v ∧ ∃ m, w'' = w.drewN m :=
  h.mono fun _ _ ⟨he, hm⟩ => ⟨he, n, hm.symm⟩
/-- A cell that is there stays as it is. -/
theorem cellB {B : Nat} {w w' : World} {p : Addr} {v : Value} (hb : Below B w w') (hc : w.cell? p = some v) (hB : w.heap.size ≤ B) : w'.cell? p = some v :=
  (hb.cell (p := p) (Nat.lt_of_lt_of_le (World.block_lt_of_cell? _ _ hc) hB)).trans hc
/-- What stands at one place of a slice of rows. -/
theorem RdM.at {w : World} {a : Option Addr} {rs : List Row} (h : RdM w a rs) (k : Nat) (hk : k < rs.length) :
    ∃ b o, a = some ⟨b, o, none⟩ ∧ w.cell? ⟨b, o + k, none⟩ = some (.slice rs[k].a rs[k].z.length rs[k].c) ∧ rs[k].ok w := by
  obtain ⟨b, o, ha, hc⟩ := h.top k hk
  exact ⟨b, o, ha, hc, h.row _ (List.getElem_mem hk)⟩

/-- v is a slice of the call's own (its block is from B on), and its elements, of type e and one cell each, are xs. -/
def Own (e : TypeId) (w : World) (B : Nat) (v : Value) (xs : List Value) : Prop := w.ownsRow B e 1 v xs.length xs
theorem Own.nil (e : TypeId) (w : World) (B : Nat) : Own e w B (.slice none 0 0) [] := World.ownsRow_nil w B e 1
theorem Own.form {e : TypeId} {w : World} {B : Nat} {v : Value} {xs : List Value} (h : Own e w B v xs) :
    (v = .slice none 0 0 ∧ xs = []) ∨ ∃ g cap spare, v = .slice (some ⟨g, 0, none⟩) xs.length cap ∧ B ≤ g ∧ w.heap[g]? = some (.cells (xs ++ spare).toArray e (0, 0)) ∧ xs.length + spare.length = cap ∧ cap ≤ maxLen := by
  obtain ⟨_, h⟩ := h
  rcases h with ⟨hv, hn⟩ | ⟨g, cap, cur, hv, hg, hh, hn, hm, hs, ht⟩
  · exact .inl ⟨hv, List.eq_nil_of_length_eq_zero hn⟩
  · refine .inr ⟨g, cap, cur.toList.drop xs.length, hv, hg, ?_, ?_, hm⟩
    · rw [Nat.mul_one] at ht
      have : xs ++ cur.toList.drop xs.length = cur.toList := by
        conv => lhs; lhs; rw [← ht]
        exact List.take_append_drop _ _
      rw [this, hh]
    · have e : cur.toList.length = cap := by simp [hs]
      rw [List.length_drop, e]; omega
theorem Own.of_block {e : TypeId} {w : World} {B g cap : Nat} {xs spare : List Value} (hg : B ≤ g) (hh : w.heap[g]? = some (.cells (xs ++ spare).toArray e (0, 0))) (hc : xs.length + spare.length = cap) (hm : cap ≤ maxLen) :
    Own e w B (.slice (some ⟨g, 0, none⟩) xs.length cap) xs :=
  ⟨by simp, .inr ⟨g, cap, _, rfl, hg, hh, by omega, hm, by simp; omega, by simp⟩⟩
theorem Own.below {e : TypeId} {w w' : World} {B B' : Nat} {v : Value} {xs : List Value} (h : Own e w B v xs) (hb : Below B' w w') (hB : ∀ g, v.ownBlock = some g → g < B') : Own e w' B v xs := by
  rcases h.form with ⟨rfl, rfl⟩ | ⟨g, cap, spare, rfl, hg, hh, hc, hm⟩
  · exact Own.nil _ _ _
  · exact Own.of_block hg ((hb.block g (hB g rfl)).trans hh) hc hm
theorem Own.lt {e : TypeId} {w : World} {B : Nat} {v : Value} {xs : List Value} (h : Own e w B v xs) : ∀ g, v.ownBlock = some g → g < w.heap.size := fun g hg => (World.ownsRow.lt h g hg).2
theorem Own.ge {e : TypeId} {w : World} {B : Nat} {v : Value} {xs : List Value} (h : Own e w B v xs) : ∀ g, v.ownBlock = some g → B ≤ g := fun g hg => (World.ownsRow.lt h g hg).1
/-- .. over all that leaves the old blocks as they were. -/
theorem Own.past {e : TypeId} {w w' : World} {B B' : Nat} {v : Value} {xs : List Value} (h : Own e w B v xs) (hb : Below B' w w') (hB : w.heap.size ≤ B') : Own e w' B v xs :=
  h.below hb fun g hg => Nat.lt_of_lt_of_le (h.lt g hg) hB
theorem Own.kept {e : TypeId} {w w' : World} {B : Nat} {v : Value} {xs : List Value} {row : Option Nat} (h : Own e w B v xs) (hg : w.grownBy w' row) (hne : v.ownBlock = none ∨ v.ownBlock ≠ row) : Own e w' B v xs :=
  World.ownsRow.kept h hg hne
theorem Own.base {e : TypeId} {w : World} {B B' : Nat} {v : Value} {xs : List Value} (h : Own e w B v xs) (hB : B' ≤ B) : Own e w B' v xs := by
  rcases h.form with ⟨rfl, rfl⟩ | ⟨g, cap, spare, rfl, hg, hh, hc, hm⟩
  · exact Own.nil _ _ _
  · exact Own.of_block (by omega) hh hc hm
/-- What is owned reads as it is owned. -/
theorem Own.rd {α : Type} {f : α → Value} {e : TypeId} {w : World} {B : Nat} {v : Value} {zs : List α} (h : Own e w B v (zs.map f)) :
    ∃ a c, v = .slice a zs.length c ∧ Rd f w a zs ∧ zs.length ≤ c ∧ c ≤ maxLen ∧ (a = none → c = 0) ∧ (∀ b o, a = some ⟨b, o, none⟩ → B ≤ b ∧ b < w.heap.size) := by
  rcases h.form with ⟨rfl, hz⟩ | ⟨g, cap, spare, rfl, hg, hh, hc, hm⟩
  · obtain rfl : zs = [] := by simpa using hz
    exact ⟨none, 0, rfl, Rd.nil _ _ _, Nat.le_refl _, Nat.zero_le _, fun _ => rfl, fun _ _ h => by cases h⟩
  · refine ⟨some ⟨g, 0, none⟩, cap, by simp, ?_, by simp at hc; omega, hm, (fun h => by cases h), ?_⟩
    · intro i hi
      refine ⟨g, 0, rfl, ?_⟩
      simp [World.cell?, hh, List.getElem?_append, hi]
    · rintro b o hbo
      cases hbo
      exact ⟨hg, (Array.getElem?_eq_some_iff.1 hh).1⟩
theorem Own.len {e : TypeId} {w : World} {B n cap : Nat} {a : Option Addr} {xs : List Value} (h : Own e w B (.slice a n cap) xs) : xs.length = n := by
  rcases h.form with ⟨h0, rfl⟩ | ⟨g', cap', spare, hv, _⟩
  · cases h0; rfl
  · injection hv with e1 e2 e3; exact e2.symm
theorem Own.cell {e : TypeId} {w : World} {B n g cap : Nat} {xs : List Value} (h : Own e w B (.slice (some ⟨g, 0, none⟩) n cap) xs) (i : Nat) (hi : i < xs.length) : w.cell? ⟨g, i, none⟩ = some xs[i] := by
  have hl := h.len
  subst hl
  rw [World.ownsRow.cellAt h i (by omega), List.getElem?_eq_getElem hi]
theorem Own.cellE {e : TypeId} {w : World} {B n g cap : Nat} {xs : List Value} (h : Own e w B (.slice (some ⟨g, 0, none⟩) n cap) xs) (i : Nat) (hi : i < n) : ∃ u, w.cell? ⟨g, i, none⟩ = some u :=
  ⟨_, h.cell i (by rw [h.len]; exact hi)⟩
theorem Own.free {e : TypeId} {w : World} {B n g cap : Nat} {xs : List Value} (h : Own e w B (.slice (some ⟨g, 0, none⟩) n cap) xs) (i : Nat) : w.frozen? ⟨g, i, none⟩ = false := by
  have hl := h.len
  subst hl
  exact World.ownsRow.frozenAt h i

/-- What a walk asks of a slice type t of elements e (one cell each, zero value z). -/
def SliceT (P : Program) (t e : TypeId) (z : Value) : Prop :=
  P.underlying t = some (.slice e) ∧ ∃ bytes, bytes ≤ 24 ∧ (P.info? e).map (fun i => (i.zero, i.size, i.bytes)) = some (some z, 1, bytes) ∧ z.cells = #[z]
theorem Own.store {e : TypeId} {w : World} {B g n cap : Nat} {xs : List Value} (h : Own e w B (.slice (some ⟨g, 0, none⟩) n cap) xs) (i : Nat) (hi : i < xs.length) (u : Value) :
    Own e (w.setCell ⟨g, i, none⟩ u) B (.slice (some ⟨g, 0, none⟩) n cap) (xs.set i u) := by
  rcases h.form with ⟨h0, _⟩ | ⟨g', cap', spare, hv, hg, hh, hc, hm⟩
  · cases h0
  · injection hv with e1 e2 e3
    injection e1 with e1; injection e1 with e1
    subst e1 e3
    rw [e2, show xs.length = (xs.set i u).length by simp]
    refine Own.of_block (spare := spare) hg ?_ (by simpa using hc) hm
    simp [World.setCell, Array.getElem?_modify, hh, hi]
theorem grown_below {w w' : World} {row : Option Nat} {B : Nat} (hg : w.grownBy w' row) (hB : B ≤ w.heap.size) (hr : ∀ k, row = some k → B ≤ k) : Below B w w' := (Below.refl B w).grown hg hB hr
section
variable {P : Program} {ops : Array Oper} {rest : List Oper} {o : Oper} {a : Act} {Q : Exit → Act → World → Prop}
/-- make([]T, n). -/
theorem law_make {t e : TypeId} {z : Value} (hT : SliceT P t e z) (w : World) (hg : o.guard = none) (l c : Operand) (hop : o.op = Op.makeSlice t l c) (n : Nat) (kl kc : IntKind)
    (hl : a.eval l = .int kl (n : Int)) (hc : a.eval c = .int kc (n : Int)) (hn : n ≤ 1099511627776)
    (hK : ∀ w', Own e w' w.heap.size (.slice (some ⟨w.heap.size, 0, none⟩) n n) (List.replicate n z) → Below w.heap.size w w' → w.heap.size < w'.heap.size → wpList P ops Q rest (a.put o.dst (.slice (some ⟨w.heap.size, 0, none⟩) n n)) w') :
    wpList P ops Q (o :: rest) a w := by
  obtain ⟨ht, bytes, hby, hi0, hz⟩ := hT
  obtain ⟨i, hi, hz0, hz1, hz2⟩ := info_parts hi0
  refine wpList_make_full w hg l c t hop w.heap.size e i z 1 ht hi hz0 hz1 kl kc n n n hl hc rfl rfl ?_ (by unfold maxLen; omega) (Nat.le_refl _) fun w' hown hgr => ?_
  · rw [hz2]; exact Nat.le_trans (Nat.mul_le_mul_right n hby) (by omega)
  · refine hK w' ?_ (grown_below hgr (Nat.le_refl _) (fun k hk => by cases hk)) ?_
    · unfold Own
      rw [hz, toList_madeCells_one, Nat.mul_one] at hown
      rw [List.length_replicate]
      exact hown
    · rcases hown.2 with ⟨h0, _⟩ | ⟨g, cap, cur, hv, _, hh, _⟩
      · cases h0
      · injection hv with e1 _ _
        injection e1 with e1; injection e1 with e1
        subst e1
        exact (Array.getElem?_eq_some_iff.1 hh).1
/-- make([]T, 0, n). -/
theorem law_make0 {t e : TypeId} {z : Value} (hT : SliceT P t e z) (w : World) (hg : o.guard = none) (l c : Operand) (hop : o.op = Op.makeSlice t l c) (n : Nat) (kl kc : IntKind)
    (hl : a.eval l = .int kl 0) (hc : a.eval c = .int kc (n : Int)) (hn : n ≤ 1099511627776)
    (hK : ∀ w', Own e w' w.heap.size (.slice (some ⟨w.heap.size, 0, none⟩) 0 n) [] → Below w.heap.size w w' → w.heap.size < w'.heap.size → wpList P ops Q rest (a.put o.dst (.slice (some ⟨w.heap.size, 0, none⟩) 0 n)) w') :
    wpList P ops Q (o :: rest) a w := by
  obtain ⟨ht, bytes, hby, hi0, hz⟩ := hT
  obtain ⟨i, hi, hz0, hz1, hz2⟩ := info_parts hi0
  refine wpList_make_own w hg l c t hop w.heap.size e i z 1 ht hi hz0 hz1 kl kc n n hl hc rfl ?_ (by unfold maxLen; omega) (Nat.le_refl _) fun w' hown hgr => ?_
  · rw [hz2]; exact Nat.le_trans (Nat.mul_le_mul_right n hby) (by omega)
  · refine hK w' hown (grown_below hgr (Nat.le_refl _) (fun k hk => by cases hk)) ?_
    rcases hown.2 with ⟨h0, _⟩ | ⟨g, cap, cur, hv, _, hh, _⟩
    · cases h0
    · injection hv with e1 _ _
      injection e1 with e1; injection e1 with e1
      subst e1
      exact (Array.getElem?_eq_some_iff.1 hh).1
/-- append(s, x...), x a slice that reads as zs. -/
theorem law_append {t e : TypeId} {z : Value} (hT : SliceT P t e z) (w : World) (hg : o.guard = none) (s x : Operand) (hop : o.op = .call { callee := .builtin .append, args := #[s, x], argTypes := #[t, t] })
    {α : Type} (f : α → Value) (B : Nat) (v : Value) (xs : List Value) (hs : a.eval s = v) (hown : Own e w B v xs) (ax : Option Addr) (c : Nat) (zs : List α) (hx : a.eval x = .slice ax zs.length c) (hr : Rd f w ax zs) (hax : ax = none → c = 0)
    (hf : ∀ y ∈ zs, (f y).oneCell' = true) (hn : xs.length + zs.length ≤ 1099511627776) (hB : B ≤ w.heap.size)
    (hK : ∀ v' w', Own e w' B v' (xs ++ zs.map f) → w.grownBy w' v.ownBlock → wpList P ops Q rest (a.put o.dst v') w') : wpList P ops Q (o :: rest) a w := by
  obtain ⟨ht, bytes, hby, hi0, hz⟩ := hT
  obtain ⟨i, hi, hz0, hz1, hz2⟩ := info_parts hi0
  by_cases h0 : zs = []
  · subst h0
    rcases ax with _ | ad
    · obtain rfl := hax rfl
      refine wpList_append_own_none hg s x t hop B e i 1 ht hi v xs.length xs hs hown hx ?_
      exact hK v w (by simpa using hown) ⟨rfl, rfl, rfl, Nat.le_refl _, fun _ _ _ => rfl⟩
    · refine wpList_append_own w hg s x t hop B e i z 1 bytes ht hi hz0 hz1 hz2 (by rw [hz]; rfl) (by decide) v xs.length xs hs hown ad 0 c [] hx rfl (fun j u hj => by simp at hj) (fun u hu => by simp at hu) (by unfold maxLen; omega) ?_ hB fun v' w' h1 h2 _ => hK v' w' (by simpa [Own] using h1) h2
      exact Nat.le_trans (Nat.mul_le_mul_left _ hby) (by simp at hn; omega)
  · have h1 : 0 < zs.length := List.length_pos_iff.2 h0
    obtain ⟨b, off, rfl, _⟩ := hr 0 h1
    refine wpList_append_own w hg s x t hop B e i z 1 bytes ht hi hz0 hz1 hz2 (by rw [hz]; rfl) (by decide) v xs.length xs hs hown ⟨b, off, none⟩ zs.length c (zs.map f) hx (by simp) (fun j u hj => ?_) (fun u hu => ?_) (by unfold maxLen; omega) ?_ hB fun v' w' h1 h2 _ => hK v' w' (by simpa [Own] using h1) h2
    · have hj' : j < zs.length := by
        rcases Nat.lt_or_ge j zs.length with h | h
        · exact h
        · simp [List.getElem?_eq_none h] at hj
      obtain ⟨b', off', hbo, hc⟩ := hr j hj'
      cases hbo
      have : u = f zs[j] := by simpa [List.getElem?_eq_getElem hj'] using hj.symm
      rw [this, ← hc]
      by_cases hj0 : j = 0
      · subst hj0; simp [Addr.add]
      · simp [Addr.add, hj0]
    · obtain ⟨y, hy, rfl⟩ := List.mem_map.1 hu
      exact hf y hy
    · exact Nat.le_trans (Nat.mul_le_mul_left _ hby) (by omega)
/-- append(s, x): one element (it lies in a new block of its own). -/
theorem law_append1 {t e : TypeId} {z : Value} (hT : SliceT P t e z) (w : World) (hg : o.guard = none) (s x : Operand) (hop : o.op = .call { callee := .builtin .append, args := #[s, x], argTypes := #[t, t] })
    (B : Nat) (v : Value) (xs : List Value) (hs : a.eval s = v) (hown : Own e w B v xs) (u : Value) (hx : a.eval x = .slice (some ⟨w.heap.size, 0, none⟩) 1 1) (hu : u.oneCell' = true) (hn : xs.length < 1099511627776) (hB : B ≤ w.heap.size)
    (hK : ∀ v' w', Own e w' B v' (xs ++ [u]) → w.grownBy w' v.ownBlock → wpList P ops Q rest (a.put o.dst v') w') : wpList P ops Q (o :: rest) a (w.alloc (.cells #[u] e)) := by
  refine law_append hT (w.alloc (.cells #[u] e)) hg s x hop (fun y : Value => y) B v xs hs (World.ownsRow.alloc hown _) (some ⟨w.heap.size, 0, none⟩) 1 [u] hx ?_ (fun h => by cases h) (fun y hy => ?_) (by simp; omega) (by simp; omega) fun v' w' h1 h2 => hK v' w' (by simpa using h1) ?_
  · intro i hi
    obtain rfl : i = 0 := by simpa using hi
    exact ⟨_, _, rfl, by simp⟩
  · simp at hy; subst hy; exact hu
  · exact ⟨h2.os, h2.tape, h2.output, Nat.le_trans (by simp) h2.size, fun k hk hne => (h2.block k (by simp; omega) hne).trans (Below.heap_alloc w _ k hk)⟩
end

theorem Own.ne {e e' : TypeId} {w : World} {B B' : Nat} {v v' : Value} {xs xs' : List Value} (h : Own e w B v xs) (h' : Own e' w B' v' xs') (hne : e ≠ e') : v.ownBlock = none ∨ v.ownBlock ≠ v'.ownBlock := by
  rcases h.form with ⟨rfl, rfl⟩ | ⟨g, cap, spare, rfl, hg, hh, hc, hm⟩
  · exact .inl rfl
  · rcases h'.form with ⟨rfl, rfl⟩ | ⟨g', cap', spare', rfl, hg', hh', hc', hm'⟩
    · exact .inr (by simp [Value.ownBlock])
    · refine .inr ?_
      simp only [Value.ownBlock, ne_eq, Option.some.injEq]
      rintro rfl
      rw [hh] at hh'
      simp only [Option.some.injEq, Obj.cells.injEq] at hh'
      exact hne hh'.2.1
theorem Own.setCell_other {e : TypeId} {w : World} {B : Nat} {v : Value} {xs : List Value} (h : Own e w B v xs) (p : Addr) (u : Value) (hne : v.ownBlock = none ∨ v.ownBlock ≠ some p.block) : Own e (w.setCell p u) B v xs := by
  rcases h.form with ⟨rfl, rfl⟩ | ⟨g, cap, spare, rfl, hg, hh, hc, hm⟩
  · exact Own.nil _ _ _
  · refine Own.of_block hg ?_ hc hm
    rw [Below.heap_setCell _ _ _ _ (by simpa [Value.ownBlock] using hne)]
    exact hh

/-- Rows of numbers, each in a block of its own. -/
structure Inner (ei : TypeId) (w : World) (B : Nat) (rs : List Row) : Prop where
  own : ∀ r ∈ rs, Own ei w B r.val (r.z.map (.int .i64))
  apart : (rs.map Row.val).Pairwise fun r s => r.ownBlock = none ∨ r.ownBlock ≠ s.ownBlock
theorem Inner.nil (ei : TypeId) (w : World) (B : Nat) : Inner ei w B [] := ⟨fun r hr => (by cases hr), .nil⟩
theorem Inner.past {ei : TypeId} {w w' : World} {B B' : Nat} {rs : List Row} (h : Inner ei w B rs) (hb : Below B' w w') (hB : w.heap.size ≤ B') : Inner ei w' B rs :=
  ⟨fun r hr => (h.own r hr).past hb hB, h.apart⟩
theorem Inner.setCell_outer {ei eo : TypeId} {w : World} {B B' : Nat} {rs : List Row} {g i : Nat} {n c : Nat} {xs : List Value} (h : Inner ei w B rs) (ho : Own eo w B' (.slice (some ⟨g, 0, none⟩) n c) xs) (hne : ei ≠ eo) (u : Value) :
    Inner ei (w.setCell ⟨g, i, none⟩ u) B rs :=
  ⟨fun r hr => (h.own r hr).setCell_other _ _ (by simpa [Value.ownBlock] using (h.own r hr).ne ho hne), h.apart⟩
theorem Inner.kept_outer {ei eo : TypeId} {w w' : World} {B B' : Nat} {rs : List Row} {v : Value} {xs : List Value} (h : Inner ei w B rs) (ho : Own eo w B' v xs) (hne : ei ≠ eo) (hg : w.grownBy w' v.ownBlock) : Inner ei w' B rs :=
  ⟨fun r hr => (h.own r hr).kept hg ((h.own r hr).ne ho hne), h.apart⟩
theorem Inner.snoc {ei : TypeId} {w w' : World} {B : Nat} {rs : List Row} (h : Inner ei w B rs) (hb : Below w.heap.size w w') (hB : B ≤ w.heap.size) (r : Row) (hr : Own ei w' w.heap.size r.val (r.z.map (.int .i64))) : Inner ei w' B (rs ++ [r]) := by
  refine ⟨fun s hs => ?_, ?_⟩
  · rcases List.mem_append.1 hs with h1 | h1
    · exact (h.own s h1).past hb (Nat.le_refl _)
    · simp at h1; subst h1; exact hr.base hB
  · rw [List.map_append, List.pairwise_append]
    refine ⟨h.apart, by simp, fun s' hs' x hx => ?_⟩
    obtain ⟨s, hs, rfl⟩ := List.mem_map.1 hs'
    simp at hx; subst hx
    cases hsb : s.val.ownBlock with
    | none => exact .inl rfl
    | some g =>
      refine .inr ?_
      intro e
      have h1 := (h.own s hs).lt g hsb
      have h2 := hr.ge g e.symm
      omega
/-- A slice of rows that the call owns, through and through. -/
structure OwnM (eo ei : TypeId) (w : World) (B : Nat) (v : Value) (rs : List Row) : Prop where
  outer : Own eo w B v (rs.map Row.val)
  inner : Inner ei w B rs
theorem OwnM.past {eo ei : TypeId} {w w' : World} {B B' : Nat} {v : Value} {rs : List Row} (h : OwnM eo ei w B v rs) (hb : Below B' w w') (hB : w.heap.size ≤ B') : OwnM eo ei w' B v rs := ⟨h.outer.past hb hB, h.inner.past hb hB⟩
theorem slice_inj {a a' : Option Addr} {n n' c c' : Nat} (h : Value.slice a n c = .slice a' n' c') : a = a' ∧ n = n' ∧ c = c' := by injection h with h1 h2 h3; exact ⟨h1, h2, h3⟩
theorem OwnM.rd {eo ei : TypeId} {w : World} {B : Nat} {v : Value} {rs : List Row} (h : OwnM eo ei w B v rs) : ∃ a c, v = .slice a rs.length c ∧ RdM w a rs ∧ rs.length ≤ c ∧ c ≤ maxLen ∧ (a = none → c = 0) := by
  obtain ⟨a, c, h1, h2, h3, h4, h5, _⟩ := h.outer.rd
  refine ⟨a, c, h1, ⟨h2, fun r hr => ?_⟩, h3, h4, h5⟩
  obtain ⟨a', c', e1, e2, e3, e4, e5, _⟩ := (h.inner.own r hr).rd
  obtain ⟨rfl, _, rfl⟩ := slice_inj e1
  exact ⟨e2, e3, e4, e5⟩
theorem OwnM.rdm {eo ei : TypeId} {w : World} {B n c : Nat} {a : Option Addr} {rs : List Row} (h : OwnM eo ei w B (.slice a n c) rs) : RdM w a rs := by
  obtain ⟨a', c', h1, h2, _⟩ := h.rd
  obtain ⟨rfl, _, rfl⟩ := slice_inj h1
  exact h2
/-- A call hands back rows of its own that hold the numbers zss. -/
def RetOwnM (eo ei : TypeId) (zss : List (List Int)) (w : World) (E : Ending) (w' : World) : Prop :=
  ∃ v rs, E = .returned v ∧ nums rs = zss ∧ OwnM eo ei w' w.heap.size v rs ∧ Below w.heap.size w w'
/-- Old blocks outside S are as they were. -/
structure Kept (S : Nat → Prop) (w w' : World) : Prop where
  os : w'.os = w.os
  tape : w'.tape = w.tape
  output : w'.output = w.output
  size : w.heap.size ≤ w'.heap.size
  block : ∀ k, k < w.heap.size → ¬ S k → w'.heap[k]? = w.heap[k]?
theorem Kept.refl (S : Nat → Prop) (w : World) : Kept S w w := ⟨rfl, rfl, rfl, Nat.le_refl _, fun _ _ _ => rfl⟩
theorem Kept.trans {S : Nat → Prop} {a b c : World} (h : Kept S a b) (k : Kept S b c) : Kept S a c :=
  ⟨k.os.trans h.os, k.tape.trans h.tape, k.output.trans h.output, Nat.le_trans h.size k.size, fun i hi hn => (k.block i (Nat.lt_of_lt_of_le hi h.size) hn).trans (h.block i hi hn)⟩
theorem Kept.setCell {S : Nat → Prop} {a w : World} (h : Kept S a w) {p : Addr} (hp : S p.block) (u : Value) : Kept S a (w.setCell p u) :=
  h.trans ⟨rfl, rfl, rfl, by simp [World.setCell], fun k _ hn => Below.heap_setCell _ _ _ _ (fun e => hn (by rw [e]; exact hp))⟩
theorem Kept.of_below {w w' : World} (S : Nat → Prop) (h : Below w.heap.size w w') : Kept S w w' := ⟨h.os, h.tape, h.output, h.size, fun k hk _ => h.block k hk⟩
theorem Kept.below {S : Nat → Prop} {w w' : World} (h : Kept S w w') (B : Nat) (hB : B ≤ w.heap.size) (hS : ∀ k, k < B → ¬ S k) : Below B w w' := ⟨h.os, h.tape, h.output, h.size, fun k hk => h.block k (by omega) (hS k hk)⟩
theorem Kept.mono {S T : Nat → Prop} {w w' : World} (h : Kept S w w') (hS : ∀ k, S k → T k) : Kept T w w' := ⟨h.os, h.tape, h.output, h.size, fun k hk hn => h.block k hk (fun hs => hn (hS k hs))⟩
theorem Own.keptS {e : TypeId} {w w' : World} {B : Nat} {S : Nat → Prop} {v : Value} {xs : List Value} (h : Own e w B v xs) (hk : Kept S w w') (hS : ∀ g, v.ownBlock = some g → ¬ S g) : Own e w' B v xs := by
  rcases h.form with ⟨rfl, rfl⟩ | ⟨g, cap, spare, rfl, hg, hh, hc, hm⟩
  · exact Own.nil _ _ _
  · exact Own.of_block hg ((hk.block g (h.lt g rfl) (hS g rfl)).trans hh) hc hm
/-- The blocks of a slice of rows. -/
def blocksIn (v : Value) (rs : List Row) (S : Nat → Prop) : Prop := (∀ g, v.ownBlock = some g → S g) ∧ ∀ r ∈ rs, ∀ g, r.val.ownBlock = some g → S g
theorem OwnM.keptS {eo ei : TypeId} {w w' : World} {B : Nat} {S : Nat → Prop} {v : Value} {rs : List Row} (h : OwnM eo ei w B v rs) (hk : Kept S w w') (hS : blocksIn v rs (fun g => ¬ S g)) : OwnM eo ei w' B v rs :=
  ⟨h.outer.keptS hk hS.1, ⟨fun r hr => (h.inner.own r hr).keptS hk (hS.2 r hr), h.inner.apart⟩⟩
theorem OwnM.blocks {eo ei : TypeId} {w : World} {B : Nat} {v : Value} {rs : List Row} (h : OwnM eo ei w B v rs) : blocksIn v rs (fun g => B ≤ g ∧ g < w.heap.size) :=
  ⟨fun g hg => ⟨h.outer.ge g hg, h.outer.lt g hg⟩, fun r hr g hg => ⟨(h.inner.own r hr).ge g hg, (h.inner.own r hr).lt g hg⟩⟩
theorem blocksIn.mono {v : Value} {rs : List Row} {S T : Nat → Prop} (h : blocksIn v rs S) (hS : ∀ g, S g → T g) : blocksIn v rs T := ⟨fun g hg => hS g (h.1 g hg), fun r hr g hg => hS g (h.2 r hr g hg)⟩

/-- One row of an owned slice of rows has turned. -/
theorem OwnM.setRow {eo ei : TypeId} (hne : ei ≠ eo) {w w' : World} {B : Nat} {v : Value} {A D : List Row} {r r' : Row} (h : OwnM eo ei w B v (A ++ r :: D)) (hv : r'.val = r.val) (ho : Own ei w' B r.val (r'.z.map (.int .i64)))
    (hk : Kept (fun g => r.val.ownBlock = some g) w w') : OwnM eo ei w' B v (A ++ r' :: D) := by
  have hmap : (A ++ r' :: D).map Row.val = (A ++ r :: D).map Row.val := by simp [hv]
  have hr := h.inner.own r (by simp)
  refine ⟨?_, ?_, ?_⟩
  · rw [hmap]
    refine h.outer.keptS hk fun g hg he => ?_
    rcases hr.ne h.outer hne with h1 | h1
    · rw [h1] at he; cases he
    · exact h1 (he.trans hg.symm)
  · intro s hs
    have hap := h.inner.apart
    rw [List.map_append, List.map_cons, List.pairwise_append, List.pairwise_cons] at hap
    rcases List.mem_append.1 hs with h1 | h1
    · refine (h.inner.own s (by simp [h1])).keptS hk fun g hg he => ?_
      rcases hap.2.2 s.val (List.mem_map_of_mem h1) r.val (by simp) with h2 | h2
      · rw [h2] at hg; cases hg
      · exact h2 (hg.trans he.symm)
    · rcases List.mem_cons.1 h1 with rfl | h1
      · rw [hv]; exact ho
      · refine (h.inner.own s (by simp [h1])).keptS hk fun g hg he => ?_
        rcases hap.2.1.1 s.val (List.mem_map_of_mem h1) with h2 | h2
        · rw [h2] at he; cases he
        · exact h2 (he.trans hg.symm)
  · rw [hmap]; exact h.inner.apart
theorem OwnM.base {eo ei : TypeId} {w : World} {B B' : Nat} {v : Value} {rs : List Row} (h : OwnM eo ei w B v rs) (hB : B' ≤ B) : OwnM eo ei w B' v rs := ⟨h.outer.base hB, ⟨fun r hr => (h.inner.own r hr).base hB, h.inner.apart⟩⟩
theorem Own.setCell_below {e : TypeId} {w : World} {B : Nat} {v : Value} {xs : List Value} (h : Own e w B v xs) {p : Addr} (hp : p.block < B) (u : Value) : Own e (w.setCell p u) B v xs :=
  h.setCell_other p u (by
    cases hv : v.ownBlock with
    | none => exact .inl rfl
    | some g => exact .inr (by simp only [ne_eq, Option.some.injEq]; have := h.ge g hv; omega))
theorem OwnM.setCell_below {eo ei : TypeId} {w : World} {B : Nat} {v : Value} {rs : List Row} (h : OwnM eo ei w B v rs) {p : Addr} (hp : p.block < B) (u : Value) : OwnM eo ei (w.setCell p u) B v rs :=
  ⟨h.outer.setCell_below hp u, ⟨fun r hr => (h.inner.own r hr).setCell_below hp u, h.inner.apart⟩⟩
/-- The numbers k, k + 1, .. (n of them). -/
def upFrom (k : Int) (n : Nat) : List Int := (List.range n).map fun i : Nat => k + (i : Int)
theorem upFrom_length (k : Int) (n : Nat) : (upFrom k n).length = n := by simp [upFrom]
theorem upFrom_succ (k : Int) (n : Nat) : upFrom k (n + 1) = upFrom k n ++ [k + n] := by simp [upFrom, List.range_succ]
theorem upFrom_get (k : Int) (n i : Nat) (h : i < (upFrom k n).length) : (upFrom k n)[i] = k + i := by simp [upFrom]
theorem marked_set (zs : List Int) (k : Int) (i : Nat) (h : i < zs.length) : (upFrom k i ++ zs.drop i).set i (k + i) = upFrom k (i + 1) ++ zs.drop (i + 1) := by
  rw [upFrom_succ, List.set_append]
  simp only [upFrom_length, Nat.lt_irrefl, if_false, Nat.sub_self]
  rw [List.drop_eq_getElem_cons h, List.set_cons_zero, List.append_assoc]
  rfl
/-- The rows, overwritten by numbers that go up; how many numbers there are. -/
def markRows : Int → List Row → List Row
  | _, [] => []
  | k, r :: rs => { r with z := upFrom k r.z.length } :: markRows (k + r.z.length) rs
def total : List Row → Nat
  | [] => 0
  | r :: rs => r.z.length + total rs
theorem total_append (A D : List Row) : total (A ++ D) = total A + total D := by induction A with | nil => simp [total] | cons r A ih => simp [total, ih]; omega
theorem markRows_append (k : Int) (A D : List Row) : markRows k (A ++ D) = markRows k A ++ markRows (k + total A) D := by
  induction A generalizing k with
  | nil => simp [markRows, total]
  | cons r A ih => simp [markRows, total, ih, Int.add_assoc]
theorem markRows_length (k : Int) (A : List Row) : (markRows k A).length = A.length := by induction A generalizing k with | nil => rfl | cons r A ih => simp [markRows, ih]
theorem markRows_total (k : Int) (A : List Row) : total (markRows k A) = total A := by induction A generalizing k with | nil => rfl | cons r A ih => simp [markRows, total, ih, upFrom_length]
theorem markRows_mark (k m : Int) (A : List Row) : markRows k (markRows m A) = markRows k A := by
  induction A generalizing k m with
  | nil => rfl
  | cons r A ih => simp [markRows, ih, upFrom_length]
theorem total_le_of (A : List Row) (j : Nat) (h : j < A.length) : total (A.take j) + A[j].z.length ≤ total A := by
  have := congrArg total (List.take_append_drop j A)
  rw [total_append, List.drop_eq_getElem_cons h] at this
  simp only [total] at this; omega
theorem total_take_succ (A : List Row) (j : Nat) (h : j < A.length) : total (A.take (j + 1)) = total (A.take j) + A[j].z.length := by
  rw [List.take_succ_eq_append_getElem h, total_append]; simp [total]
theorem markRows_take_succ (k : Int) (A : List Row) (j : Nat) (h : j < A.length) : markRows k (A.take (j + 1)) = markRows k (A.take j) ++ [{ A[j] with z := upFrom (k + total (A.take j)) A[j].z.length }] := by
  rw [List.take_succ_eq_append_getElem h, markRows_append]; simp [markRows]
theorem markRows_val (k : Int) (A : List Row) : (markRows k A).map Row.val = A.map Row.val := by
  induction A generalizing k with
  | nil => rfl
  | cons r A ih => simp [markRows, ih, Row.val, upFrom_length]
/-- An element's address, of a slice whose address is a variable. -/
theorem at_slice {P : Program} {t e : TypeId} {z : Value} (hT : SliceT P t e z) {a : Option Addr} {b o : Nat} (ha : a = some ⟨b, o, none⟩) (n c j : Nat) (hj : j < n) (W : World) :
    Sem.run P (Instr.indexAt t (.slice a n c) (.int .i64 (j : Int))) W = .ok (.pointer (some ⟨b, o + j, none⟩)) W := by
  subst ha
  obtain ⟨ht, bytes, _, hi, _⟩ := hT
  obtain ⟨i, hi1, hi2⟩ := Option.map_eq_some_iff.1 hi
  simp only [Prod.mk.injEq] at hi2
  have h1 : (j : Int) < (n : Int) := by omega
  have e1 : P.elem t = e := by simp [Program.elem, ht]
  rw [run_indexAt_slice W t ⟨b, o, none⟩ n c .i64 j (by rw [e1]; exact ht)]
  by_cases h0 : j = 0
  · subst h0
    have : 0 < n := hj
    simp [e1, Addr.add, sizeOf, typeInfo, hi1, hi2, Result.andThen, this]
  · simp [e1, Addr.add, sizeOf, typeInfo, hi1, hi2, Result.andThen, h0, hj]
/-- A list that is being filled: the first k elements are there, the rest is z. -/
def fill (l : List Value) (z : Value) (k : Nat) : List Value := l.take k ++ List.replicate (l.length - k) z
theorem fill_zero (l : List Value) (z : Value) : fill l z 0 = List.replicate l.length z := by simp [fill]
theorem fill_full (l : List Value) (z : Value) : fill l z l.length = l := by simp [fill]
theorem fill_length (l : List Value) (z : Value) (k : Nat) (h : k ≤ l.length) : (fill l z k).length = l.length := by simp [fill]; omega
theorem fill_set (l : List Value) (z : Value) (k : Nat) (h : k < l.length) : (fill l z k).set k l[k] = fill l z (k + 1) := by
  apply List.ext_getElem?
  intro j
  simp only [fill, List.getElem?_set, List.getElem?_append, List.getElem?_take, List.length_take, List.length_append, List.length_replicate, List.getElem?_replicate]
  rcases Nat.lt_trichotomy j k with h1 | h1 | h1
  · simp [show ¬ k = j by omega, show j < min k l.length by omega, show j < min (k + 1) l.length by omega, h1, show j < k + 1 by omega]
  · subst h1; simp [show j < min (j + 1) l.length by omega, List.getElem?_eq_getElem h]; omega
  · simp only [show ¬ k = j by omega, if_false, show ¬ j < min k l.length by omega, show ¬ j < min (k + 1) l.length by omega]
    split <;> split <;> first | rfl | omega
theorem fill_map {α : Type} (f : α → Value) (zs : List α) (z : Value) (k : Nat) (h : k < zs.length) : (fill (zs.map f) z k).set k (f zs[k]) = fill (zs.map f) z (k + 1) := by
  have := fill_set (zs.map f) z k (by simpa using h)
  rwa [List.getElem_map] at this
theorem set_snoc (A : List Value) (n k : Nat) (z u : Value) (h : A.length = k) (hk : k < n) : (A ++ List.replicate (n - k) z).set k u = (A ++ [u]) ++ List.replicate (n - (k + 1)) z := by
  have e : n - k = (n - (k + 1)) + 1 := by omega
  rw [e, List.replicate_succ, List.set_append]
  simp [h]
/-- A row that was just made is stored into a slice of rows. -/
theorem rows_step {eo ei : TypeId} (hne : ei ≠ eo) {w wr w2 : World} {n k g : Nat} {rs' : List Row} {r : Row}
    (hown : Own eo wr w.heap.size (.slice (some ⟨g, 0, none⟩) n n) (rs'.map Row.val ++ List.replicate (n - k) (.slice none 0 0))) (hin : Inner ei wr w.heap.size rs') (hb : Below w.heap.size w wr) (hb2 : Below wr.heap.size wr w2)
    (hv : Own ei w2 wr.heap.size r.val (r.z.map (.int .i64))) (hk : k < n) (hl : rs'.length = k) (hg : w.heap.size ≤ g) :
    Own eo (w2.setCell ⟨g, k, none⟩ r.val) w.heap.size (.slice (some ⟨g, 0, none⟩) n n) ((rs' ++ [r]).map Row.val ++ List.replicate (n - (k + 1)) (.slice none 0 0)) ∧
      Inner ei (w2.setCell ⟨g, k, none⟩ r.val) w.heap.size (rs' ++ [r]) ∧ Below w.heap.size w (w2.setCell ⟨g, k, none⟩ r.val) := by
  have ho2 := hown.past hb2 (Nat.le_refl _)
  have hi2 := hin.snoc hb2 hb.size r hv
  refine ⟨?_, hi2.setCell_outer ho2 hne _, (hb.trans (hb2.mono hb.size)).setCell hg _⟩
  have := ho2.store k (by rw [ho2.len]; exact hk) r.val
  rw [set_snoc _ _ _ _ _ (by simpa using hl) hk] at this
  simpa using this
/-- A call hands back a slice of its own with the elements xs, and leaves old memory as it was. -/
def RetOwn (e : TypeId) (xs : List Value) (w : World) (E : Ending) (w' : World) : Prop := ∃ v, E = .returned v ∧ Own e w' w.heap.size v xs ∧ Below w.heap.size w w'
end
section
theorem tI64 : SliceT Tryd.prog 30 2 (.int .i64 0) := ⟨Tryd.underlying30, 8, by decide, by kernel_rfl, rfl⟩
theorem tRows : SliceT Tryd.prog 22 30 (.slice none 0 0) := ⟨Tryd.underlying22, 24, by decide, by kernel_rfl, rfl⟩
end
end Go.Proofs.YtccohcdgcpcbjaaDoor
