/- A list and its text: one tells the other. -/
import Derived.Test.YtccohcdgcpcbjaaDoorTxtSet
namespace Go.Proofs.YtccohcdgcpcbjaaDoor
open Go.RowKit
section
theorem good_not45 {vs : List Nat} (h : GoodT [45] vs) : False := by
  have h2 : spl 44 [45] = [[45]] := by decide
  have h3 := h.2.2
  rw [h2] at h3
  have hne := h.ne
  cases vs with
  | nil => exact hne rfl
  | cons v vs =>
    rw [List.map_cons] at h3
    injection h3 with h4 _
    have hm : (45 : UInt8) ∈ dec v := by rw [← h4]; simp
    have := (dec16 (h.1 v List.mem_cons_self)).2.1 45 hm
    have e : (45 : UInt8).toNat = 45 := rfl
    omega
theorem tsR_set {s : List Int} (h : setStr s ≠ ⟨#[]⟩) : tsR (setStr s) = (s, true) := by
  by_cases hok : OkTxt s
  · by_cases h0 : s = []
    · subst h0
      rw [setStr_nil]
      exact tsR_dash
    · have hs := setStr_ok hok h0
      have hl : Go.Lib.join (s.map digs) [44] ≠ [] := by
        intro e
        rw [hs, e] at h
        exact h rfl
      obtain ⟨vs, hg, he⟩ := good_of_set hl h0 hs
      rw [hs]
      have hr := tsR_good (l := Go.Lib.join (s.map digs) [44]) (fun e => good_not45 (e ▸ hg)) hg
      rw [hr, he]
  · exact absurd (setStr_no hok) h
theorem set_tsR {u : ByteArray} (h : (tsR u).2 = true) : setStr (tsR u).1 = u := by
  obtain ⟨l, rfl⟩ : ∃ l, u = str l := ⟨u.data.toList, (str_data u).symm⟩
  by_cases hd : l = [45]
  · subst hd
    rw [tsR_dash]; exact setStr_nil
  · by_cases hx : ∃ vs, GoodT l vs
    · obtain ⟨vs, hv⟩ := hx
      rw [tsR_good hd hv]; exact hv.set
    · rw [tsR_bad hd (fun vs hv => hx ⟨vs, hv⟩)] at h
      cases h
theorem join_len2 (L : List (List UInt8)) (sep : List UInt8) (hs : sep.length ≤ 1) (hL : ∀ l ∈ L, l.length ≤ 2) : ∀ k, k ≤ L.length → (Go.Lib.join (L.take k) sep).length ≤ 3 * k := by
  intro k
  induction k with
  | zero => intro _; simp [Go.Lib.join_nil]
  | succ k ih =>
    intro h
    rw [join_take L sep k (by omega), List.length_append, List.length_append]
    have h1 := ih (by omega)
    have h2 := hL _ (List.getElem_mem (show k < L.length by omega))
    split
    · omega
    · simp; omega
theorem setStr_size (s : List Int) : (setStr s).size ≤ 64 := by
  unfold setStr
  rw [str_size]
  unfold setBytes
  split
  · rename_i hok
    split
    · simp
    · have h := join_len2 (s.map digs) [44] (by simp) (fun l hl => by
        obtain ⟨v, hv, rfl⟩ := List.mem_map.1 hl
        have h3 := hok.2 v hv
        exact (dec16 (v := v.toNat) (by omega)).1) (s.map digs).length (Nat.le_refl _)
      rw [List.take_length, List.length_map] at h
      have := hok.1
      omega
  · simp
end
end Go.Proofs.YtccohcdgcpcbjaaDoor
