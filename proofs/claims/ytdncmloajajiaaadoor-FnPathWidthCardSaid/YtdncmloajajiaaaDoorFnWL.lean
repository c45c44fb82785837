/- FnPathWidth: what the law asks, plain. -/
import Derived.Test.YtdncmloajajiaaaDoorTwD
import Derived.Test.YtdncmloajajiaaaDoorW9O
import Derived.Test.YtdncmloajajiaaaDoorCutE
namespace Go.Proofs.YtdncmloajajiaaaDoor
open Go.RowKit
section
structure PwF (A : List Nat) (n K : Nat) (O : List Int) : Prop where
  pwO : pwO (A.map mems) = O
  pwW : pwW (A.map mems) = (K : Int)
  ord : OrdP (A.map mems) O
  olen : O.length = n
  sep : sepL (A.map mems) O = (K : Int)
  pa : paO (A.map mems) (K : Int) = O
  pas : PaP (A.map mems) (K : Int)
  pan : ¬ PaP (A.map mems) ((K : Int) - 1)
  k16 : K ≤ 16
  any : ∀ l : List Int, Ord n l → l.length = n → OrdP (A.map mems) l ∧ ∃ s : Nat, sepL (A.map mems) l = (s : Int) ∧ K ≤ s ∧ s ≤ 16
  tw : twV (bhN A) (2 ^ n - 1) 0 ≤ K
  none : (∀ a b, bt A a b = false) → K = 0
  cut : ∀ (A' : List Nat) (u v : Nat), GA n A' → CutA A A' u v → ∃ m : Nat, Go.Proofs.YtdncmloajajiaaaDoor.pwW (A'.map mems) = (m : Int) ∧ m ≤ K ∧ K ≤ m + 1
theorem sep0_ga {n : Nat} {A : List Nat} (hA : GA n A) : sep0 (A.map mems) = sepV A (2 ^ n - 1) 0 := by
  unfold sep0
  rw [hA.masks, List.length_map, hA.len]
theorem pwF_ga {n : Nat} {A : List Nat} (hA : GA n A) : ∃ K O, PwF A n K O := by
  have hn := hA.le
  have hg := hA.gok
  have hgl : (A.map mems).length = n := by rw [List.length_map, hA.len]
  obtain ⟨h1, h2, h3⟩ := ordF_ord (A := A) (n := n) (k := sepV A (2 ^ n - 1) 0) hn (Int.le_refl _)
  have h4 := order_ge A hn h1 h2
  have hs0 := sep0_ga hA
  refine ⟨sepV A (2 ^ n - 1) 0, castN (ordF A (2 ^ n - 1) (sepV A (2 ^ n - 1) 0) n 0), ?_⟩
  have hord : ∀ l : List Int, Ord n l → l.length = n → OrdP (A.map mems) l := fun l hl hll => ⟨hg, by rw [hgl]; exact hll, by rw [hgl]; exact hl⟩
  have hsl : ∀ l : List Int, Ord n l → l.length = n → sepL (A.map mems) l = (sepTo A l n : Nat) := fun l hl hll => by
    unfold sepL
    rw [if_pos (hord l hl hll), hA.masks, hll]
  exact {
    pwO := by unfold Go.Proofs.YtdncmloajajiaaaDoor.pwO; rw [if_pos hg, hs0, hA.masks, hgl]
    pwW := by unfold Go.Proofs.YtdncmloajajiaaaDoor.pwW; rw [if_pos hg, hs0]
    ord := hord _ h1 h2
    olen := h2
    sep := by rw [hsl _ h1 h2]; omega
    pa := by unfold paO; rw [if_pos ⟨hg, by rw [hs0]; exact Int.le_refl _⟩, hA.masks, hgl]
    pas := ⟨hg, by rw [hs0]; exact Int.le_refl _⟩
    pan := fun h => by have := h.2; rw [hs0] at this; omega
    k16 := Nat.le_trans h4 (sepTo_le _ _ _)
    any := fun l hl hll => ⟨hord l hl hll, _, hsl l hl hll, order_ge A hn hl hll, sepTo_le _ _ _⟩
    tw := tw_sep hA
    none := fun h => none_sep hn h
    cut := fun A' u v hA' hc => by
      obtain ⟨c1, c2⟩ := cut_sep hn hc
      refine ⟨sepV A' (2 ^ n - 1) 0, ?_, c1, c2⟩
      unfold Go.Proofs.YtdncmloajajiaaaDoor.pwW
      rw [if_pos hA'.gok, sep0_ga hA'] }
theorem edges_noneW {n : Nat} {A : List Nat} (h : GA n A) (he : edgesL (A.map mems) = []) : ∀ a b, bt A a b = false := by
  have key : ∀ a b, a < b → bt A a b = false := by
    intro a b hab
    rw [Bool.eq_false_iff]
    intro hb
    have hlt := h.lt hb
    have hm : [(a : Int), (b : Int)] ∈ edgesL (A.map mems) := by
      unfold edgesL
      rw [List.mem_flatMap]
      refine ⟨a, List.mem_range.2 (by rw [List.length_map, h.len]; exact hlt.1), ?_⟩
      unfold rowEdges
      rw [List.mem_map]
      refine ⟨(b : Int), ?_, rfl⟩
      rw [List.mem_filter, h.row hlt.1, mems_mem (by have := h.in2 a; have : 2 ^ n ≤ 65536 := Nat.pow_le_pow_right (n := 2) (i := n) (j := 16) (by decide) h.le; omega)]
      exact ⟨⟨b, rfl, hb⟩, by simp; omega⟩
    rw [he] at hm; cases hm
  intro a b
  rcases Nat.lt_trichotomy a b with h1 | h1 | h1
  · exact key a b h1
  · subst h1; exact h.irr a
  · rw [h.sym]; exact key b a h1
theorem edge_shapeW {n : Nat} {A : List Nat} (h : GA n A) {e : List Int} (he : e ∈ edgesL (A.map mems)) : ∃ u v : Nat, e = [(u : Int), (v : Int)] ∧ u < n ∧ v < n ∧ u ≠ v ∧ bt A u v = true := by
  unfold edgesL at he
  rw [List.mem_flatMap] at he
  obtain ⟨u, hu, he⟩ := he
  rw [List.mem_range, List.length_map, h.len] at hu
  unfold rowEdges at he
  rw [List.mem_map] at he
  obtain ⟨v, hv, rfl⟩ := he
  rw [List.mem_filter, h.row hu, mems_mem (by have := h.in2 u; have : 2 ^ n ≤ 65536 := Nat.pow_le_pow_right (n := 2) (i := n) (j := 16) (by decide) h.le; omega)] at hv
  obtain ⟨⟨i, hi, hb⟩, hlt⟩ := hv
  obtain rfl : v = (i : Int) := by omega
  have hlt2 : (u : Int) < (i : Int) := by simpa using hlt
  exact ⟨u, i, rfl, hu, (h.lt hb).2, by omega, hb⟩
theorem cutA_of {n : Nat} {A : List Nat} (hA : GA n A) {u v : Nat} (hu : u < n) (hv : v < n) (huv : u ≠ v) : CutA A (cutG A u v) u v := ⟨fun a b => cutG_bit hA hu hv huv a b⟩
/-- The dice as they lie now. -/
theorem DiceR.here {w wr : World} {g n c : Nat} {a : Option Addr} {zs : List Int} (h : DiceR w wr g n c a zs) : DiceR wr wr g n c a zs := ⟨h.ex, h.rd, Kept.refl _ _, h.lt, h.rd⟩
theorem DiceR.trans {w wr w' : World} {g n c : Nat} {a : Option Addr} {zs : List Int} (h : DiceR w wr g n c a zs) (k : DiceR wr w' g n c a zs) : DiceR w w' g n c a zs := ⟨k.ex, k.rd, h.kept.trans k.kept, h.old, h.rd0⟩
end
end Go.Proofs.YtdncmloajajiaaaDoor
