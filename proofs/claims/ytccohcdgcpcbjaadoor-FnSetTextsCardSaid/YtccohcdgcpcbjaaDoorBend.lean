/- A text bent: the reference's. -/
import Derived.Test.YtccohcdgcpcbjaaDoorOrd
import Derived.Test.YtccohcdgcpcbjaaDoorText
import Derived.Laws.IdiomStrings
namespace Go.Proofs.YtccohcdgcpcbjaaDoor
open Go.RowKit
section
theorem setSame {w : World} {p : Addr} {u v : Value} (h : w.cell? p = some u) : (w.setCell p v).cell? p = some v := by
  first
    | exact World.cell?_setCell_same h
    | exact World.cell?_setCell_same _ h
    | exact World.cell?_setCell_same _ _ h
    | exact World.cell?_setCell_same _ _ _ h
theorem setOther {w : World} {b i k : Nat} {u v : Value} (h : w.cell? ⟨b, i, none⟩ = some u) (hne : ¬ k = i) : (w.setCell ⟨b, k, none⟩ v).cell? ⟨b, i, none⟩ = some u := by
  have h2 : (⟨b, k, none⟩ : Addr) ≠ ⟨b, i, none⟩ := fun e => hne (congrArg Addr.off e)
  rw [← h]
  first
    | exact World.cell?_setCell_other h2
    | exact World.cell?_setCell_other _ h2
    | exact World.cell?_setCell_other _ _ h2
    | exact World.cell?_setCell_other _ _ _ h2
    | exact World.cell?_setCell_other _ _ _ _ h2
/-- Bytes in memory of one's own, to be written. -/
structure Buf (w : World) (B : Nat) (a : Option Addr) (c : Nat) (zs : List Int) : Prop where
  rd : Rd (Value.int .u8) w a zs
  le : zs.length ≤ c
  cm : c ≤ maxLen
  nil : a = none → c = 0
  own : ∀ ad, a = some ad → ∃ b, ad = ⟨b, 0, none⟩ ∧ B ≤ b ∧ b < w.heap.size ∧ ∀ k, k < zs.length → w.frozen? ⟨b, k, none⟩ = false
  byte : ∀ z ∈ zs, 0 ≤ z ∧ z < 256
section
variable {w w' : World} {B c : Nat} {a : Option Addr} {zs : List Int}
theorem Buf.keep {S : Nat → Prop} (h : Buf w B a c zs) (k : Kept S w w') (hS : ∀ j, B ≤ j → ¬ S j) : Buf w' B a c zs := by
  refine ⟨?_, h.le, h.cm, h.nil, ?_, h.byte⟩
  · intro i hi
    obtain ⟨b, o, hab, cz⟩ := h.rd i hi
    obtain ⟨b', hb, hB, _⟩ := h.own _ hab
    refine ⟨b, o, hab, cellK k cz (hS b ?_)⟩
    injection hb with h1 _ _
    omega
  · intro ad had
    obtain ⟨b, hb, hB, hl, hf⟩ := h.own ad had
    exact ⟨b, hb, hB, Nat.lt_of_lt_of_le hl k.size, fun j hj => (World.frozen?_of_block (k.block b hl (hS b hB))).trans (hf j hj)⟩
theorem Buf.of_own {n : Nat} (h : Own 5 w B (.slice a n c) (zs.map (.int .u8))) (hb : ∀ z ∈ zs, 0 ≤ z ∧ z < 256) : Buf w B a c zs := by
  obtain ⟨a', c', h1, h2, h3, h4, h5, h6⟩ := Own.rd (f := Value.int .u8) h
  obtain ⟨rfl, rfl, rfl⟩ := slice_inj h1
  refine ⟨h2, h3, h4, h5, ?_, hb⟩
  intro ad had
  subst had
  rcases h.form with ⟨e1, _⟩ | ⟨g, cap, spare, e1, hg, _⟩
  · cases e1
  · obtain ⟨e2, _, _⟩ := slice_inj e1
    injection e2 with e2
    subst e2
    exact ⟨g, rfl, hg, (h6 g 0 rfl).2, fun k _ => h.free k⟩
theorem Buf.take (h : Buf w B a c zs) (k : Nat) : Buf w B a c (zs.take k) := by
  refine ⟨h.rd.take k, by rw [List.length_take]; have := h.le; omega, h.cm, h.nil, ?_, fun z hz => h.byte z (List.mem_of_mem_take hz)⟩
  intro ad had
  obtain ⟨b, hb, hB, hl, hf⟩ := h.own ad had
  exact ⟨b, hb, hB, hl, fun j hj => hf j (by rw [List.length_take] at hj; omega)⟩
theorem Buf.store {b : Nat} (h : Buf w B (some ⟨b, 0, none⟩) c zs) (k : Nat) (_hk : k < zs.length) (y : Int) (hy : 0 ≤ y ∧ y < 256) : Buf (w.setCell ⟨b, k, none⟩ (.int .u8 y)) B (some ⟨b, 0, none⟩) c (zs.set k y) := by
  refine ⟨?_, by rw [List.length_set]; exact h.le, h.cm, h.nil, ?_, ?_⟩
  · intro i hi
    rw [List.length_set] at hi
    obtain ⟨b', o', hab, cz⟩ := h.rd i hi
    injection hab with hab
    injection hab with h1 h2 _
    subst h1; subst h2
    rw [Nat.zero_add] at cz
    refine ⟨b, 0, rfl, ?_⟩
    rw [Nat.zero_add, List.getElem_set]
    by_cases hki : k = i
    · subst hki
      rw [if_pos rfl]
      exact setSame cz
    · rw [if_neg hki]
      exact setOther cz hki
  · intro ad had
    obtain ⟨b', hb, hB, hl, hf⟩ := h.own ad had
    refine ⟨b', hb, hB, by simpa [World.setCell] using hl, fun j hj => ?_⟩
    rw [World.frozen?_setCell]
    exact hf j (by rw [List.length_set] at hj; exact hj)
  · intro z hz
    rcases List.mem_or_eq_of_mem_set hz with hz | rfl
    · exact h.byte z hz
    · exact hy
theorem Buf.some (h : Buf w B a c zs) (hp : 0 < zs.length) : ∃ b, a = some ⟨b, 0, none⟩ ∧ B ≤ b := by
  obtain ⟨b, o, hab, _⟩ := h.rd 0 hp
  obtain ⟨b', hb, hB, _⟩ := h.own _ hab
  exact ⟨b', by rw [hab, hb], hB⟩
/-- The bytes of a text. -/
def intsOf (s : ByteArray) : List Int := s.data.toList.map fun b => (b.toNat : Int)
theorem intsOf_len (s : ByteArray) : (intsOf s).length = s.size := by
  unfold intsOf
  rw [List.length_map, Array.length_toList]; rfl
def textOf (zs : List Int) : ByteArray := ⟨(zs.map fun z => UInt8.ofNat z.toNat).toArray⟩
theorem textOf_size (zs : List Int) : (textOf zs).size = zs.length := by
  unfold textOf
  show (List.toArray _).size = _
  simp
/-- The text of bytes in memory. -/
theorem run_text (h : Buf w B a c zs) : (convert 35 9 (.slice a zs.length c)).run Tryd.prog w = .ok (.string (textOf zs)) w := by
  cases a with
  | none =>
    have h0 := h.nil rfl
    have hz : zs = [] := List.eq_nil_of_length_eq_zero (by have := h.le; omega)
    subst hz
    refine (run_convert_bytes_string w 35 9 5 none 0 c Tryd.underlying35 Tryd.underlying5 Tryd.underlying9).trans ?_
    rfl
  | some ad =>
    have hl : (zs.map fun z => UInt8.ofNat z.toNat).length = zs.length := List.length_map _
    have := run_convert_bytes_back (P := Tryd.prog) w 35 9 5 ad c (zs.map fun z => UInt8.ofNat z.toNat) Tryd.underlying35 Tryd.underlying5 Tryd.underlying9 (fun j hj => by
      rw [hl] at hj
      obtain ⟨b, o, hab, cz⟩ := h.rd j hj
      injection hab with hab
      subst hab
      have hz := h.byte _ (List.getElem_mem hj)
      have e1 : (Addr.add ⟨b, o, none⟩ j) = ⟨b, o + j, none⟩ := by
        by_cases h0 : j = 0
        · subst h0; simp [Addr.add]
        · simp [Addr.add, h0]
      rw [e1, cz, List.getElem_map]
      congr 2
      rw [UInt8.toNat_ofNat']
      omega)
    rw [hl] at this
    exact this
/-- What the conversion of a text lays. -/
theorem buf_new (w : World) (s : ByteArray) (hs : s.size ≤ maxLen) : Buf (w.drew.alloc (.cells (bytesRow s (grownCap w s.size 0 5)) 5 ((bytesRow s (grownCap w s.size 0 5)).size, (bytesRow s (grownCap w s.size 0 5)).size + 1))) w.heap.size (some ⟨w.heap.size, 0, none⟩) (grownCap w s.size 0 5) (intsOf s) := by
  have hge := grownCap_ge w s.size 0 5
  have hsz : s.size ≤ (bytesRow s (grownCap w s.size 0 5)).size := by
    unfold bytesRow
    rw [Array.size_append, Array.size_map]
    exact Nat.le_add_right _ _
  refine ⟨?_, by rw [intsOf_len]; exact hge, grownCap_le_maxLen _ _ _ _ hs, (fun h => by cases h), ?_, ?_⟩
  · intro j hj
    refine ⟨w.heap.size, 0, rfl, ?_⟩
    have hj2 : j < s.data.size := by rw [intsOf_len] at hj; exact hj
    rw [Nat.zero_add]
    have hh : (w.drew.alloc (.cells (bytesRow s (grownCap w s.size 0 5)) 5 ((bytesRow s (grownCap w s.size 0 5)).size, (bytesRow s (grownCap w s.size 0 5)).size + 1))).heap[w.heap.size]? = some (.cells (bytesRow s (grownCap w s.size 0 5)) 5 ((bytesRow s (grownCap w s.size 0 5)).size, (bytesRow s (grownCap w s.size 0 5)).size + 1)) := by
      show (w.heap.push _)[w.heap.size]? = _
      simp
    have e1 : (intsOf s)[j] = ((s.data[j]).toNat : Int) := by simp [intsOf]
    have e2 : (bytesRow s (grownCap w s.size 0 5))[j]? = some (.int .u8 ((s.data[j]).toNat : Int)) := by
      unfold bytesRow
      rw [Array.getElem?_append_left (by rw [Array.size_map]; exact hj2), Array.getElem?_map, Array.getElem?_eq_getElem hj2]
      rfl
    rw [e1]
    unfold World.cell?
    rw [hh]
    simp [e2]
  · intro ad had
    injection had with had
    subst had
    refine ⟨w.heap.size, rfl, Nat.le_refl _, by show _ < (w.heap.push _).size; simp, fun k hk => ?_⟩
    have h9 := World.frozen?_alloc_mark w.drew (bytesRow s (grownCap w s.size 0 5)) 5 (bytesRow s (grownCap w s.size 0 5)).size ((bytesRow s (grownCap w s.size 0 5)).size + 1) k
    rw [intsOf_len] at hk
    refine Eq.trans h9 ?_
    have : decide ((bytesRow s (grownCap w s.size 0 5)).size ≤ k) = false := decide_eq_false (by omega)
    rw [this]; rfl
  · intro z hz
    obtain ⟨b, _, rfl⟩ := List.mem_map.1 hz
    have := b.toNat_lt
    omega
end
end
end Go.Proofs.YtccohcdgcpcbjaaDoor
