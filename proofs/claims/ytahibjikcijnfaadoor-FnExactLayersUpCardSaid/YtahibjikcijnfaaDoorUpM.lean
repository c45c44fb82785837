/- Plain facts: an orientation has one arrow of each edge, just where it has half as many arrows as there are ends. -/
import Derived.Test.YtahibjikcijnfaaDoorMissM
namespace Go.Proofs.YtahibjikcijnfaaDoor
theorem sumN_mono {n : Nat} {f g : Nat → Nat} (h : ∀ i, i < n → f i ≤ g i) : sumN n f ≤ sumN n g := by
  induction n with
  | zero => exact Nat.le_refl _
  | succ n ih => have := ih (fun i hi => h i (by omega)); have := h n (by omega); simp only [sumN]; omega
theorem sumN_eq {n : Nat} {f g : Nat → Nat} (h : ∀ i, i < n → f i ≤ g i) (e : sumN n f = sumN n g) : ∀ i, i < n → f i = g i := by
  induction n with
  | zero => intro i hi; omega
  | succ n ih =>
    have h1 := sumN_mono (n := n) (fun i hi => h i (by omega)); have h2 := h n (by omega)
    simp only [sumN] at e
    intro i hi
    rcases Nat.lt_succ_iff_lt_or_eq.1 hi with h3 | rfl
    · exact ih (fun i hi => h i (by omega)) (by omega) i h3
    · omega
theorem sumN_zero' (n : Nat) : sumN n (fun _ => 0) = 0 := by induction n with | zero => rfl | succ n ih => simp [sumN, ih]
theorem sumN_swap (n m : Nat) (F : Nat → Nat → Nat) : sumN n (fun i => sumN m (fun j => F i j)) = sumN m (fun j => sumN n (fun i => F i j)) := by
  induction n with
  | zero => simp only [sumN]; rw [sumN_zero']
  | succ n ih => simp only [sumN]; rw [ih, ← sumN_add]
theorem cnt_len {n : Nat} {l : List Int} (h : Inc n l) : l.length = cntR n (fun u => decide ((u : Int) ∈ l)) := by
  have hd : l.Nodup := List.Pairwise.imp (fun h => by omega) h.2
  have hd2 : (((List.range n).filter fun u : Nat => decide ((u : Int) ∈ l)).map fun i : Nat => (i : Int)).Nodup := by
    rw [List.Nodup, List.pairwise_map]
    refine List.Pairwise.imp ?_ (List.nodup_range.filter _)
    intro a b hab e; exact hab (by omega)
  have h1 := hd2.length_le_of_subset (l₂ := l) (fun x hx => by
    obtain ⟨i, hi, rfl⟩ := List.mem_map.1 hx
    rw [List.mem_filter] at hi
    simpa using hi.2)
  have h2 := hd.length_le_of_subset (l₂ := ((List.range n).filter fun u : Nat => decide ((u : Int) ∈ l)).map fun i : Nat => (i : Int)) (fun x hx => by
    have h3 := h.1 x hx
    refine List.mem_map.2 ⟨x.toNat, ?_, by omega⟩
    rw [List.mem_filter, List.mem_range, Int.toNat_of_nonneg h3.1]
    exact ⟨by omega, by simpa using hx⟩)
  rw [List.length_map] at h1 h2
  unfold cntR; omega
/-- One row of an orientation, as the reference looks at it: its first k. -/
def UpRow (g up : List (List Int)) (v k : Nat) : Prop := ∀ i, i < k → (row up (v : Int)).getD i 0 ∈ row g (v : Int) ∧ (v : Int) ∉ row up ((row up (v : Int)).getD i 0) ∧ (0 < i → (row up (v : Int)).getD (i - 1) 0 < (row up (v : Int)).getD i 0)
theorem UpRow.inc {g up : List (List Int)} (hg : GOk g) {v : Nat} (hv : v < g.length) (h : UpRow g up v (row up (v : Int)).length) : Inc g.length (row up (v : Int)) := by
  have key : ∀ k, k ≤ (row up (v : Int)).length → Inc g.length ((row up (v : Int)).take k) := by
    intro k
    induction k with
    | zero => intro _; simpa using inc_nil _
    | succ k ih =>
      intro hk
      have hk' : k < (row up (v : Int)).length := by omega
      obtain ⟨h1, _, h3⟩ := h k hk'
      rw [getD_eq _ k hk'] at h1 h3
      refine inc_take_succ _ _ k hk' (ih (by omega)) ?_ ?_
      · exact gok_range hg (u := (v : Int)) (by omega) (by omega) h1
      · intro h0
        have := h3 h0
        rwa [getD_eq _ (k - 1) (by omega)] at this
  have := key _ (Nat.le_refl _)
  rwa [List.take_length] at this
structure SpecUp (g up : List (List Int)) : Prop where
  ok : GOk g
  len : up.length = g.length
  rows : ∀ v : Nat, v < g.length → UpRow g up v (row up (v : Int)).length
  half : 2 * sumN g.length (fun v => (row up (v : Int)).length) = sumN g.length (fun v => (row g (v : Int)).length)
noncomputable instance (g up : List (List Int)) : Decidable (SpecUp g up) := Classical.propDecidable _
/-- One vertex, as the program looks at it. -/
def UpAt (g up : List (List Int)) (u : Nat) : Prop := (∀ v ∈ row up (u : Int), v ∈ row g (u : Int)) ∧ ∀ v ∈ row g (u : Int), ¬ (v ∈ row up (u : Int) ↔ (u : Int) ∈ row up v)
structure ImplUp (g up : List (List Int)) : Prop where
  ok : GOk g
  len : up.length = g.length
  inc : ∀ b ∈ up, Inc g.length b
  at' : ∀ u : Nat, u < g.length → UpAt g up u
theorem row_mem_of {up : List (List Int)} {v : Nat} (hv : v < up.length) : row up (v : Int) ∈ up := by rw [row_nat _ _ hv]; exact List.getElem_mem hv
theorem up_iff {g up : List (List Int)} : SpecUp g up ↔ ImplUp g up := by
  have cnt : ∀ (hg : GOk g) (hl : up.length = g.length) (hi : ∀ v : Nat, v < g.length → Inc g.length (row up (v : Int))),
      2 * sumN g.length (fun v => (row up (v : Int)).length) = sumN g.length (fun v => sumN g.length fun u => bit01 (decide ((u : Int) ∈ row up (v : Int))) + bit01 (decide ((v : Int) ∈ row up (u : Int)))) ∧
      sumN g.length (fun v => (row g (v : Int)).length) = sumN g.length (fun v => sumN g.length fun u => bit01 (decide ((u : Int) ∈ row g (v : Int)))) := by
    intro hg hl hi
    constructor
    · have e1 : sumN g.length (fun v => (row up (v : Int)).length) = sumN g.length (fun v => sumN g.length fun u => bit01 (decide ((u : Int) ∈ row up (v : Int)))) :=
        sumN_congr fun v hv => by rw [cnt_len (hi v hv), cntR_sum]
      have e2 : sumN g.length (fun v => sumN g.length fun u => bit01 (decide ((u : Int) ∈ row up (v : Int))) + bit01 (decide ((v : Int) ∈ row up (u : Int)))) = sumN g.length (fun v => sumN g.length fun u => bit01 (decide ((u : Int) ∈ row up (v : Int)))) + sumN g.length (fun v => sumN g.length fun u => bit01 (decide ((v : Int) ∈ row up (u : Int)))) := by
        rw [← sumN_add]; apply sumN_congr; intro v _; rw [sumN_add]
      rw [e2, e1, sumN_swap g.length g.length (fun v u => bit01 (decide ((v : Int) ∈ row up (u : Int))))]
      omega
    · apply sumN_congr; intro v hv
      have hinc : Inc g.length (row g (v : Int)) := hg.inc v hv
      rw [cnt_len hinc, cntR_sum]
  have ptw : ∀ (hg : GOk g) (hsub : ∀ v : Nat, v < g.length → ∀ u ∈ row up (v : Int), u ∈ row g (v : Int)) (hanti : ∀ v u : Nat, v < g.length → u < g.length → (u : Int) ∈ row up (v : Int) → (v : Int) ∉ row up (u : Int)) (v u : Nat), v < g.length → u < g.length →
      bit01 (decide ((u : Int) ∈ row up (v : Int))) + bit01 (decide ((v : Int) ∈ row up (u : Int))) ≤ bit01 (decide ((u : Int) ∈ row g (v : Int))) ∧ (bit01 (decide ((u : Int) ∈ row up (v : Int))) + bit01 (decide ((v : Int) ∈ row up (u : Int))) = bit01 (decide ((u : Int) ∈ row g (v : Int))) ↔ ((u : Int) ∈ row g (v : Int) → ¬ ((u : Int) ∈ row up (v : Int) ↔ (v : Int) ∈ row up (u : Int)))) := by
    intro hg hsub hanti v u hv hu
    have hs := gok_sym hg (u := (v : Int)) (v := (u : Int)) (by omega) (by omega) (by omega) (by omega)
    by_cases h1 : (u : Int) ∈ row up (v : Int)
    · have h2 := hanti v u hv hu h1
      have h3 := hsub v hv _ h1
      simp [h1, h2, h3, bit01]
    · by_cases h2 : (v : Int) ∈ row up (u : Int)
      · have h3 := hs.2 (hsub u hu _ h2)
        simp [h1, h2, h3, bit01]
      · by_cases h3 : (u : Int) ∈ row g (v : Int)
        · simp [h1, h2, h3, bit01]
        · simp [h1, h2, h3, bit01]
  constructor
  · intro h
    have hg := h.ok
    have hinc : ∀ v : Nat, v < g.length → Inc g.length (row up (v : Int)) := fun v hv => UpRow.inc hg hv (h.rows v hv)
    have hsub : ∀ v : Nat, v < g.length → ∀ u ∈ row up (v : Int), u ∈ row g (v : Int) := fun v hv u hu => by
      obtain ⟨i, hi, rfl⟩ := List.mem_iff_getElem.1 hu
      have := (h.rows v hv i hi).1
      rwa [getD_eq _ i hi] at this
    have hanti : ∀ v u : Nat, v < g.length → u < g.length → (u : Int) ∈ row up (v : Int) → (v : Int) ∉ row up (u : Int) := fun v u hv _ hu => by
      obtain ⟨i, hi, e⟩ := List.mem_iff_getElem.1 hu
      have := (h.rows v hv i hi).2.1
      rwa [getD_eq _ i hi, e] at this
    obtain ⟨c1, c2⟩ := cnt hg h.len hinc
    have hh := h.half
    rw [c1, c2] at hh
    have p := ptw hg hsub hanti
    have heq := sumN_eq (fun v hv => sumN_mono fun u hu => (p v u hv hu).1) hh
    refine ⟨hg, h.len, ?_, fun u hu => ⟨hsub u hu, fun v hv => ?_⟩⟩
    · intro b hb
      obtain ⟨i, hi, rfl⟩ := List.mem_iff_getElem.1 hb
      have := hinc i (by have := h.len; omega)
      rwa [row_nat _ _ hi] at this
    · have hvr := gok_range hg (u := (u : Int)) (by omega) (by omega) hv
      obtain ⟨n, rfl⟩ := Int.eq_ofNat_of_zero_le hvr.1
      have hn : n < g.length := by omega
      have h5 := sumN_eq (fun w hw => (p u w hu hw).1) (heq u hu) n hn
      exact ((p u n hu hn).2.1 h5) hv
  · intro h
    have hg := h.ok
    have hinc : ∀ v : Nat, v < g.length → Inc g.length (row up (v : Int)) := fun v hv => h.inc _ (row_mem_of (by have := h.len; omega))
    have hsub : ∀ v : Nat, v < g.length → ∀ u ∈ row up (v : Int), u ∈ row g (v : Int) := fun v hv => (h.at' v hv).1
    have hanti : ∀ v u : Nat, v < g.length → u < g.length → (u : Int) ∈ row up (v : Int) → (v : Int) ∉ row up (u : Int) := fun v u hv _ hu hvu => (h.at' v hv).2 _ (hsub v hv _ hu) ⟨fun _ => hvu, fun _ => hu⟩
    obtain ⟨c1, c2⟩ := cnt hg h.len hinc
    have p := ptw hg hsub hanti
    refine ⟨hg, h.len, fun v hv i hi => ?_, ?_⟩
    · have hm : (row up (v : Int)).getD i 0 ∈ row up (v : Int) := by rw [getD_eq _ i hi]; exact List.getElem_mem hi
      have hr := (hinc v hv).1 _ hm
      refine ⟨hsub v hv _ hm, ?_, fun h0 => ?_⟩
      · generalize (row up (v : Int)).getD i 0 = x at *
        obtain ⟨n, rfl⟩ := Int.eq_ofNat_of_zero_le hr.1
        exact hanti v n hv (by omega) hm
      · rw [getD_eq _ i hi, getD_eq _ (i - 1) (by omega)]
        exact inc_lt (hinc v hv) (i - 1) i hi (by omega)
    · rw [c1, c2]
      apply sumN_congr; intro v hv
      apply sumN_congr; intro u hu
      exact (p v u hv hu).2.2 fun he => (h.at' v hv).2 _ he
end Go.Proofs.YtahibjikcijnfaaDoor
