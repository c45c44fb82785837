/- Slices of arrows: two cells an element. -/
import Derived.Test.YtggjmnihnjdoaaaDoorMem3
import Derived.Test.YtggjmnihnjdoaaaDoorEdges
import Derived.Deep.RegionLaw
namespace Go.Proofs.YtggjmnihnjdoaaaDoor
open Go.RowKit
/-- An arrow, told by one number. -/
def encA (p : Nat) : List Value := [.int .i64 (p / 16 : Nat), .int .i64 (p % 16 : Nat)]
def valA (p : Nat) : Value := .agg #[.int .i64 (p / 16 : Nat), .int .i64 (p % 16 : Nat)]
def flA (L : List Nat) : List Value := L.flatMap encA
theorem flA_nil : flA [] = [] := rfl
theorem flA_cons (p : Nat) (L : List Nat) : flA (p :: L) = encA p ++ flA L := rfl
theorem flA_append (L L' : List Nat) : flA (L ++ L') = flA L ++ flA L' := by simp [flA]
theorem flA_length (L : List Nat) : (flA L).length = L.length * 2 := by
  induction L with
  | nil => rfl
  | cons p L ih => rw [flA_cons, List.length_append, ih, List.length_cons]; simp [encA]; omega
theorem flA_get : ∀ (L : List Nat) (i : Nat) (hi : i < L.length), (flA L)[i * 2]? = some (.int .i64 (L[i] / 16 : Nat)) ∧ (flA L)[i * 2 + 1]? = some (.int .i64 (L[i] % 16 : Nat)) := by
  intro L
  induction L with
  | nil => intro i hi; exact absurd hi (Nat.not_lt_zero i)
  | cons p L ih =>
    intro i hi
    cases i with
    | zero => exact ⟨rfl, rfl⟩
    | succ i =>
      have h := ih i (by simpa using hi)
      rw [flA_cons, show (i + 1) * 2 = i * 2 + 2 by omega]
      rw [List.getElem?_append_right (by simp [encA]), List.getElem?_append_right (by simp [encA])]
      simpa [encA] using h
theorem flA_one (u : Value) (L : List Nat) (h : u ∈ flA L) : u.oneCell' = true := by
  obtain ⟨p, _, hu⟩ := List.mem_flatMap.1 h
  simp [encA] at hu
  rcases hu with rfl | rfl <;> rfl
def OwnA (w : World) (B : Nat) (v : Value) (L : List Nat) : Prop := w.ownsRow B 78 2 v L.length (flA L)
theorem OwnA.form {w : World} {B : Nat} {v : Value} {L : List Nat} (h : OwnA w B v L) :
    (v = .slice none 0 0 ∧ L = []) ∨ ∃ g cap cur, v = .slice (some ⟨g, 0, none⟩) L.length cap ∧ B ≤ g ∧ w.heap[g]? = some (.cells cur 78 (0, 0)) ∧ L.length ≤ cap ∧ cap ≤ maxLen ∧ cur.size = cap * 2 ∧ cur.toList.take (L.length * 2) = flA L := by
  obtain ⟨_, h⟩ := h
  rcases h with ⟨hv, hn⟩ | ⟨g, cap, cur, hv, hg, hh, hn, hm, hs, ht⟩
  · exact .inl ⟨hv, List.eq_nil_of_length_eq_zero hn⟩
  · exact .inr ⟨g, cap, cur, hv, hg, hh, hn, hm, hs, ht⟩
theorem OwnA.of_block {w : World} {B g cap : Nat} {L : List Nat} {cur : Array Value} (hg : B ≤ g) (hh : w.heap[g]? = some (.cells cur 78 (0, 0))) (hn : L.length ≤ cap) (hm : cap ≤ maxLen) (hs : cur.size = cap * 2) (ht : cur.toList.take (L.length * 2) = flA L) :
    OwnA w B (.slice (some ⟨g, 0, none⟩) L.length cap) L := ⟨flA_length L, .inr ⟨g, cap, cur, rfl, hg, hh, hn, hm, hs, ht⟩⟩
theorem OwnA.nil (w : World) (B : Nat) : OwnA w B (.slice none 0 0) [] := ⟨rfl, .inl ⟨rfl, rfl⟩⟩
theorem OwnA.new (w : World) : OwnA (w.alloc (.cells #[] 78)) w.heap.size (.slice (some ⟨w.heap.size, 0, none⟩) 0 0) [] :=
  OwnA.of_block (L := []) (Nat.le_refl _) (cur := #[]) (by show (w.heap.push (.cells #[] 78))[w.heap.size]? = _; simp) (Nat.le_refl _) (Nat.zero_le _) rfl rfl
theorem OwnA.lt {w : World} {B : Nat} {v : Value} {L : List Nat} (h : OwnA w B v L) : ∀ g, v.ownBlock = some g → g < w.heap.size := fun g hg => (World.ownsRow.lt h g hg).2
theorem OwnA.ge {w : World} {B : Nat} {v : Value} {L : List Nat} (h : OwnA w B v L) : ∀ g, v.ownBlock = some g → B ≤ g := fun g hg => (World.ownsRow.lt h g hg).1
theorem OwnA.below {w w' : World} {B B' : Nat} {v : Value} {L : List Nat} (h : OwnA w B v L) (hb : Below B' w w') (hB : ∀ g, v.ownBlock = some g → g < B') : OwnA w' B v L := by
  rcases h.form with ⟨rfl, rfl⟩ | ⟨g, cap, cur, rfl, hg, hh, hn, hm, hs, ht⟩
  · exact OwnA.nil _ _
  · exact OwnA.of_block hg ((hb.block g (hB g rfl)).trans hh) hn hm hs ht
theorem OwnA.past {w w' : World} {B B' : Nat} {v : Value} {L : List Nat} (h : OwnA w B v L) (hb : Below B' w w') (hB : w.heap.size ≤ B') : OwnA w' B v L :=
  h.below hb fun g hg => Nat.lt_of_lt_of_le (h.lt g hg) hB
theorem OwnA.kept {w w' : World} {B : Nat} {v : Value} {L : List Nat} {row : Option Nat} (h : OwnA w B v L) (hg : w.grownBy w' row) (hne : v.ownBlock = none ∨ v.ownBlock ≠ row) : OwnA w' B v L :=
  World.ownsRow.kept h hg hne
theorem OwnA.base {w : World} {B B' : Nat} {v : Value} {L : List Nat} (h : OwnA w B v L) (hB : B' ≤ B) : OwnA w B' v L := by
  rcases h.form with ⟨rfl, rfl⟩ | ⟨g, cap, cur, rfl, hg, hh, hn, hm, hs, ht⟩
  · exact OwnA.nil _ _
  · exact OwnA.of_block (by omega) hh hn hm hs ht
/-- It reads so. -/
def RdA (w : World) (a : Option Addr) (L : List Nat) : Prop := ∀ i (hi : i < L.length), ∃ b o, a = some ⟨b, o, none⟩ ∧ w.cell? ⟨b, o + i * 2, none⟩ = some (.int .i64 (L[i] / 16 : Nat)) ∧ w.cell? ⟨b, o + i * 2 + 1, none⟩ = some (.int .i64 (L[i] % 16 : Nat))
theorem RdA.below {w w' : World} {B : Nat} {a : Option Addr} {L : List Nat} (h : RdA w a L) (hb : Below B w w') (hB : w.heap.size ≤ B) : RdA w' a L := by
  intro i hi
  obtain ⟨b, o, h1, h2, h3⟩ := h i hi
  exact ⟨b, o, h1, cellB hb h2 hB, cellB hb h3 hB⟩
theorem OwnA.rd {w : World} {B : Nat} {v : Value} {L : List Nat} (h : OwnA w B v L) : ∃ a c, v = .slice a L.length c ∧ RdA w a L ∧ L.length ≤ c ∧ (a = none → c = 0) ∧ ∀ b o, a = some ⟨b, o, none⟩ → B ≤ b ∧ b < w.heap.size ∧ o = 0 := by
  rcases h.form with ⟨rfl, rfl⟩ | ⟨g, cap, cur, rfl, hg, hh, hn, hm, hs, ht⟩
  · exact ⟨none, 0, rfl, fun i hi => absurd hi (Nat.not_lt_zero i), Nat.le_refl _, fun _ => rfl, fun b o h => by cases h⟩
  · refine ⟨some ⟨g, 0, none⟩, cap, rfl, ?_, hn, (fun h => by cases h), fun b o h => by cases h; exact ⟨hg, (Array.getElem?_eq_some_iff.1 hh).1, rfl⟩⟩
    intro i hi
    have h1 := flA_get L i hi
    rw [← ht] at h1
    rw [List.getElem?_take_of_lt (by omega), List.getElem?_take_of_lt (by omega)] at h1
    refine ⟨g, 0, rfl, ?_, ?_⟩
    · simpa [World.cell?, hh] using h1.1
    · simpa [World.cell?, hh] using h1.2
section
variable {P : Program} {ops : Array Oper} {rest : List Oper} {o : Oper} {a : Act} {Q : Exit → Act → World → Prop}
/-- What a walk asks of the type. -/
def SliceA (P : Program) (t : TypeId) : Prop := P.underlying t = some (.slice 78) ∧ (P.info? 78).map (fun i => (i.zero, i.size, i.bytes)) = some (some (.agg #[.int .i64 0, .int .i64 0]), 2, 16)
/-- append(s, x): one arrow, in a block of its own, number g. -/
theorem law_pushA {t : TypeId} (hT : SliceA P t) (w : World) (hg : o.guard = none) (s x : Operand) (hop : o.op = .call { callee := .builtin .append, args := #[s, x], argTypes := #[t, t] })
    (B : Nat) (v : Value) (L : List Nat) (hs : a.eval s = v) (hown : OwnA w B v L) (p : Nat) (g : Nat) (hx : a.eval x = .slice (some ⟨g, 0, none⟩) 1 1) (hgs : g = w.heap.size) (u1 u2 : Value) (h1 : u1 = .int .i64 (p / 16 : Nat)) (h2 : u2 = .int .i64 (p % 16 : Nat)) (hn : L.length < 1099511627776) (hB : B ≤ w.heap.size)
    (hK : ∀ v' w', OwnA w' B v' (L ++ [p]) → w.grownBy w' v.ownBlock → wpList P ops Q rest (a.put o.dst v') w') : wpList P ops Q (o :: rest) a (w.alloc (.cells #[u1, u2] 78)) := by
  subst hgs
  subst h1; subst h2
  obtain ⟨ht, hi0⟩ := hT
  obtain ⟨i, hi, hz0, hz1, hz2⟩ := info_parts hi0
  have hown2 : (w.alloc (.cells #[.int .i64 (p / 16 : Nat), .int .i64 (p % 16 : Nat)] 78)).ownsRow B 78 2 v L.length (flA L) := World.ownsRow.alloc hown _
  refine wpList_append_own (w.alloc (.cells #[.int .i64 (p / 16 : Nat), .int .i64 (p % 16 : Nat)] 78)) hg s x t hop B 78 i _ 2 16 ht hi hz0 hz1 hz2 rfl (by decide) v L.length (flA L) hs hown2 ⟨w.heap.size, 0, none⟩ 1 1 (encA p) hx rfl (fun j u hj => ?_) (fun u hu => flA_one u [p] (by simpa [flA] using hu)) (by unfold maxLen; omega) (by omega) (by simp; omega) fun v' w' k1 k2 _ => hK v' w' ?_ ?_
  · have hh : (w.alloc (.cells #[.int .i64 (p / 16 : Nat), .int .i64 (p % 16 : Nat)] 78)).heap[w.heap.size]? = some (.cells #[.int .i64 (p / 16 : Nat), .int .i64 (p % 16 : Nat)] 78 (0, 0)) := by
      show (w.heap.push _)[w.heap.size]? = _; simp
    have hadd : (⟨w.heap.size, 0, none⟩ : Addr).add j = ⟨w.heap.size, j, none⟩ := by unfold Addr.add; split <;> simp_all
    rw [hadd]
    simp only [World.cell?, hh]
    simpa [encA] using hj
  · unfold OwnA
    rw [List.length_append, flA_append]
    simpa [flA] using k1
  · exact ⟨k2.os, k2.tape, k2.output, Nat.le_trans (by simp) k2.size, fun k hk hne => (k2.block k (by simp; omega) hne).trans (Below.heap_alloc w _ k hk)⟩
end
theorem OwnA.ne {e : TypeId} {w : World} {B B' : Nat} {v v' : Value} {L : List Nat} {xs : List Value} (h : OwnA w B v L) (h' : Own e w B' v' xs) (hne : e ≠ 78) : v.ownBlock = none ∨ v.ownBlock ≠ v'.ownBlock := by
  rcases h.form with ⟨rfl, rfl⟩ | ⟨g, cap, cur, rfl, hg, hh, _⟩
  · exact .inl rfl
  · right
    rcases h'.form with ⟨rfl, rfl⟩ | ⟨g', cap', sp, rfl, hg', hh', _⟩
    · intro e; cases e
    · intro e
      have : g = g' := by simpa [Value.ownBlock] using e
      subst this
      rw [hh] at hh'
      simp at hh'
      exact hne hh'.2.symm
theorem Own.neA {e : TypeId} {w : World} {B B' : Nat} {v v' : Value} {L : List Nat} {xs : List Value} (h : Own e w B' v' xs) (h' : OwnA w B v L) (hne : e ≠ 78) : v'.ownBlock = none ∨ v'.ownBlock ≠ v.ownBlock := by
  rcases h'.ne h hne with h1 | h1
  · cases hv : v'.ownBlock with
    | none => exact .inl rfl
    | some k => right; rw [h1]; simp
  · exact .inr (fun e => h1 e.symm)
theorem tArrows : SliceA Tryd.prog 76 := ⟨Tryd.underlying76, by kernel_rfl⟩
end Go.Proofs.YtggjmnihnjdoaaaDoor
