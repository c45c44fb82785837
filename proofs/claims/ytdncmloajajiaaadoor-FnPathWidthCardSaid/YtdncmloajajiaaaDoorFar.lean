/- Plain facts: distances, and what a search in breadth knows. · Distances: the reference's search. · The part of a set in which a vertex is: the reference's; connected sets. -/
import Derived.Test.YtdncmloajajiaaaDoorMask
import Derived.Test.YtdncmloajajiaaaDoorSetOk
import Derived.Test.YtdncmloajajiaaaDoorEdges
import Derived.Test.YtdncmloajajiaaaDoorCode2
import Derived.Test.YtdncmloajajiaaaDoorMem3
import Derived.Deep.RegionWith
import Derived.StillTailTactics
namespace Go.Proofs.YtdncmloajajiaaaDoor
open Go.RowKit
section
/-- Within d steps of v, by members of a set alone. -/
def Ball (g : List (List Int)) (ins : List Int) (v : Int) : Nat → Int → Prop
  | 0, u => u = v
  | d + 1, u => Ball g ins v d u ∨ (u ∈ ins ∧ ∃ x, Ball g ins v d x ∧ u ∈ row g x)
theorem Ball.mono {g : List (List Int)} {ins : List Int} {v u : Int} {d e : Nat} (h : Ball g ins v d u) (hde : d ≤ e) : Ball g ins v e u := by
  induction e with
  | zero => obtain rfl : d = 0 := by omega
            exact h
  | succ e ih =>
    rcases Nat.eq_or_lt_of_le hde with rfl | h1
    · exact h
    · exact .inl (ih (by omega))
theorem exists_least {P : Nat → Prop} (h : ∃ d, P d) : ∃ d, P d ∧ ∀ e, e < d → ¬ P e := by
  apply Classical.byContradiction
  intro hn
  have key : ∀ n, ∀ m, m ≤ n → ¬ P m := by
    intro n
    induction n with
    | zero => intro m hm hp; exact hn ⟨m, hp, fun e he => by omega⟩
    | succ n ih =>
      intro m hm hp
      exact hn ⟨m, hp, fun e he => ih e (by omega)⟩
  obtain ⟨d, hd⟩ := h
  exact key d d (Nat.le_refl _) hd
open Classical in
/-- The distance; -1 where there is no way. -/
noncomputable def far (g : List (List Int)) (ins : List Int) (v u : Int) : Int := if h : ∃ d, Ball g ins v d u then ((Classical.choose (exists_least h) : Nat) : Int) else -1
theorem far_none {g : List (List Int)} {ins : List Int} {v u : Int} (h : ¬ ∃ d, Ball g ins v d u) : far g ins v u = -1 := by unfold far; rw [dif_neg h]
theorem far_spec {g : List (List Int)} {ins : List Int} {v u : Int} (h : ∃ d, Ball g ins v d u) : ∃ d : Nat, far g ins v u = d ∧ Ball g ins v d u ∧ ∀ e, e < d → ¬ Ball g ins v e u := by
  unfold far; rw [dif_pos h]
  exact ⟨_, rfl, (Classical.choose_spec (exists_least h)).1, (Classical.choose_spec (exists_least h)).2⟩
theorem far_eq {g : List (List Int)} {ins : List Int} {v u : Int} {d : Nat} (h1 : Ball g ins v d u) (h2 : ∀ e, Ball g ins v e u → d ≤ e) : far g ins v u = d := by
  obtain ⟨e, h3, h4, h5⟩ := far_spec ⟨d, h1⟩
  have h6 := h2 e h4
  have : e = d := by
    apply Classical.byContradiction
    intro hne
    exact h5 d (by omega) h1
  rw [h3, this]
theorem far_nonneg {g : List (List Int)} {ins : List Int} {v u : Int} : 0 ≤ far g ins v u ↔ ∃ d, Ball g ins v d u := by
  constructor
  · intro h
    apply Classical.byContradiction
    intro hn
    rw [far_none hn] at h; omega
  · intro h
    obtain ⟨d, h1, _⟩ := far_spec h
    omega
/-- The distances of all vertices. -/
noncomputable def farL (g : List (List Int)) (ins : List Int) (v : Int) : List Int := (List.range g.length).map fun u : Nat => far g ins v u
theorem farL_len (g : List (List Int)) (ins : List Int) (v : Int) : (farL g ins v).length = g.length := by simp [farL]
/-- What the search knows ahead of its i-th turn: distances D, the queue M. -/
structure Bfs (g : List (List Int)) (ins : List Int) (v : Int) (D : List Int) (M : List Int) (i : Nat) : Prop where
  len : D.length = g.length
  first : M.getD 0 0 = v ∧ 0 < M.length
  zero : D.getD v.toNat 0 = 0
  lim : ∀ u ∈ M, D.getD u.toNat 0 < M.length
  rng : ∀ u ∈ M, 0 ≤ u ∧ u < g.length
  nod : M.Nodup
  neg : ∀ u : Nat, u < g.length → (u : Int) ∉ M → D.getD u 0 = -1
  pos : ∀ u ∈ M, 0 ≤ D.getD u.toNat 0 ∧ Ball g ins v (D.getD u.toNat 0).toNat u
  sort : ∀ j k, j < k → k < M.length → D.getD (M.getD j 0).toNat 0 ≤ D.getD (M.getD k 0).toNat 0
  near : ∀ k, k < M.length → i < M.length → D.getD (M.getD k 0).toNat 0 ≤ D.getD (M.getD i 0).toNat 0 + 1
  done : ∀ j, j < i → j < M.length → ∀ y ∈ row g (M.getD j 0), y ∈ ins → y ∈ M ∧ D.getD y.toNat 0 ≤ D.getD (M.getD j 0).toNat 0 + 1
/-- .. and ahead of the k-th neighbour of the i-th. -/
structure BfsIn (g : List (List Int)) (ins : List Int) (v : Int) (D : List Int) (M : List Int) (i k : Nat) : Prop extends Bfs g ins v D M i where
  lt : i < M.length
  part : ∀ q, q < k → (row g (M.getD i 0)).getD q 0 ∈ ins → (row g (M.getD i 0)).getD q 0 ∈ M ∧ D.getD ((row g (M.getD i 0)).getD q 0).toNat 0 ≤ D.getD (M.getD i 0).toNat 0 + 1
section
variable {g : List (List Int)} {ins : List Int} {v : Int} {D M : List Int} {i k : Nat}
theorem Bfs.start (_hg : GOk g) (hv : 0 ≤ v ∧ v < g.length) : Bfs g ins v ((List.replicate g.length (-1)).set v.toNat 0) [v] 0 := by
  have hvn : v.toNat < g.length := by omega
  have get : ∀ u : Nat, u < g.length → ((List.replicate g.length (-1 : Int)).set v.toNat 0).getD u 0 = if v.toNat = u then 0 else -1 := by
    intro u hu
    rw [getD_eq _ u (by simpa using hu), List.getElem_set]
    simp
  refine ⟨by simp, ⟨rfl, by simp⟩, by rw [get _ hvn, if_pos rfl], ?_, ?_, by simp, ?_, ?_, ?_, ?_, ?_⟩
  · intro u hu; simp at hu; subst hu; rw [get _ hvn, if_pos rfl]; simp
  · intro u hu; simp at hu; subst hu; exact hv
  · intro u hu hn
    rw [get u hu, if_neg]
    intro e; apply hn; simp; omega
  · intro u hu
    simp at hu; subst hu
    rw [get _ hvn, if_pos rfl]
    exact ⟨Int.le_refl 0, rfl⟩
  · intro j k h1 h2; simp at h2; omega
  · intro k hk _; simp at hk; subst hk; omega
  · intro j hj; omega
/-- The turn begins. -/
theorem Bfs.enter (h : Bfs g ins v D M i) (hi : i < M.length) : BfsIn g ins v D M i 0 := ⟨h, hi, fun q hq => absurd hq (Nat.not_lt_zero q)⟩
/-- A neighbour that is known, or is outside. -/
theorem BfsIn.skip (h : BfsIn g ins v D M i k) (hs : (row g (M.getD i 0)).getD k 0 ∈ ins → (row g (M.getD i 0)).getD k 0 ∈ M) : BfsIn g ins v D M i (k + 1) := by
  refine ⟨h.toBfs, h.lt, fun q hq hin => ?_⟩
  rcases Nat.lt_succ_iff_lt_or_eq.1 hq with h1 | rfl
  · exact h.part q h1 hin
  · have hm := hs hin
    refine ⟨hm, ?_⟩
    obtain ⟨p, hp, e⟩ := List.mem_iff_getElem.1 hm
    have := h.near p hp h.lt
    rwa [getD_eq M p hp, e] at this
theorem getD_set (D : List Int) (a b : Nat) (x : Int) (hb : b < D.length) : (D.set a x).getD b 0 = if a = b then x else D.getD b 0 := by
  rw [getD_eq _ b (by simpa using hb), List.getElem_set, getD_eq D b hb]
theorem getD_snoc (M : List Int) (y : Int) (k : Nat) (h : k ≤ M.length) : (M ++ [y]).getD k 0 = if k < M.length then M.getD k 0 else y := by
  rw [getD_eq _ k (by simp; omega), List.getElem_append]
  split
  · rename_i h1; rw [getD_eq M k h1]
  · simp
/-- A neighbour that is new. -/
theorem BfsIn.take (hg : GOk g) (h : BfsIn g ins v D M i k) (hk : k < (row g (M.getD i 0)).length) (hin : (row g (M.getD i 0)).getD k 0 ∈ ins) (hn : (row g (M.getD i 0)).getD k 0 ∉ M) :
    BfsIn g ins v (D.set ((row g (M.getD i 0)).getD k 0).toNat (D.getD (M.getD i 0).toNat 0 + 1)) (M ++ [(row g (M.getD i 0)).getD k 0]) i (k + 1) := by
  have hxM : M.getD i 0 ∈ M := by rw [getD_eq M i h.lt]; exact List.getElem_mem h.lt
  have hxr := h.rng _ hxM
  have hyr : 0 ≤ (row g (M.getD i 0)).getD k 0 ∧ (row g (M.getD i 0)).getD k 0 < g.length := by
    have := gok_range hg hxr.1 hxr.2 (v := (row g (M.getD i 0)).getD k 0) (by rw [getD_eq _ k hk]; exact List.getElem_mem hk)
    exact this
  have hyx : (row g (M.getD i 0)).getD k 0 ∈ row g (M.getD i 0) := by rw [getD_eq _ k hk]; exact List.getElem_mem hk
  have hiM : i < (M ++ [(row g (M.getD i 0)).getD k 0]).length := by have := h.lt; simp; omega
  have eI : (M ++ [(row g (M.getD i 0)).getD k 0]).getD i 0 = M.getD i 0 := by rw [getD_snoc _ _ _ (by have := h.lt; omega), if_pos h.lt]
  have part0 := h.part
  have near0 := h.near
  have done0 := h.done
  generalize hx : M.getD i 0 = x at *
  generalize hy : (row g x).getD k 0 = y at *
  have hDl := h.len
  have set_other : ∀ u : Int, 0 ≤ u → u < g.length → u ≠ y → (D.set y.toNat (D.getD x.toNat 0 + 1)).getD u.toNat 0 = D.getD u.toNat 0 := by
    intro u h0 h1 hne
    rw [getD_set _ _ _ _ (by omega), if_neg (by omega)]
  have set_y : (D.set y.toNat (D.getD x.toNat 0 + 1)).getD y.toNat 0 = D.getD x.toNat 0 + 1 := by
    rw [getD_set _ _ _ _ (by omega), if_pos rfl]
  have inM : ∀ u ∈ M, (D.set y.toNat (D.getD x.toNat 0 + 1)).getD u.toNat 0 = D.getD u.toNat 0 := fun u hu => set_other u (h.rng u hu).1 (h.rng u hu).2 (fun e => hn (e ▸ hu))
  have memM : ∀ p, p < M.length → M.getD p 0 ∈ M := fun p hp => by rw [getD_eq M p hp]; exact List.getElem_mem hp
  have eX : (D.set y.toNat (D.getD x.toNat 0 + 1)).getD x.toNat 0 = D.getD x.toNat 0 := inM x hxM
  have getM : ∀ p, p < M.length → (M ++ [y]).getD p 0 = M.getD p 0 := fun p hp => by rw [getD_snoc _ _ _ (by omega), if_pos hp]
  have getL : (M ++ [y]).getD M.length 0 = y := by rw [getD_snoc _ _ _ (Nat.le_refl _), if_neg (Nat.lt_irrefl _)]
  refine ⟨⟨by simpa using hDl, ?_, ?_, ?_, ?_, ?_, ?_, ?_, ?_, ?_, ?_⟩, hiM, ?_⟩
  · have := h.first
    exact ⟨by rw [getM 0 this.2]; exact this.1, by simp⟩
  · have hvM : v ∈ M := by rw [← h.first.1]; exact memM 0 h.first.2
    rw [inM v hvM]; exact h.zero
  · intro u hu
    rw [List.length_append, List.length_singleton]
    rcases List.mem_append.1 hu with h1 | h1
    · rw [inM u h1]; have := h.lim u h1; omega
    · simp at h1; subst h1
      rw [set_y]; have := h.lim x hxM; omega
  · intro u hu
    rcases List.mem_append.1 hu with h1 | h1
    · exact h.rng u h1
    · simp at h1; subst h1; exact hyr
  · rw [List.nodup_append]
    refine ⟨h.nod, by simp, ?_⟩
    intro a ha b hb e
    simp at hb; subst hb; subst e; exact hn ha
  · intro u hu hm
    have h1 : (u : Int) ∉ M := fun h1 => hm (List.mem_append.2 (.inl h1))
    have h2 : (u : Int) ≠ y := fun e => hm (by rw [e]; simp)
    have := set_other (u : Int) (by omega) (by omega) h2
    rw [Int.toNat_natCast] at this
    rw [this]; exact h.neg u hu h1
  · intro u hu
    rcases List.mem_append.1 hu with h1 | h1
    · rw [inM u h1]; exact h.pos u h1
    · simp at h1; subst h1
      have hp := h.pos x hxM
      rw [set_y]
      refine ⟨by omega, ?_⟩
      have e : (D.getD x.toNat 0 + 1).toNat = (D.getD x.toNat 0).toNat + 1 := by omega
      rw [e]
      exact .inr ⟨hin, x, hp.2, hyx⟩
  · intro j q hjq hq
    rw [List.length_append, List.length_singleton] at hq
    have hj : j < M.length := by omega
    rw [getM j hj, inM _ (memM j hj)]
    rcases Nat.lt_succ_iff_lt_or_eq.1 hq with h1 | rfl
    · rw [getM q h1, inM _ (memM q h1)]; exact h.sort j q hjq h1
    · rw [getL, set_y]; exact near0 j hj h.lt
  · intro q hq _
    rw [eI, eX]
    rw [List.length_append, List.length_singleton] at hq
    rcases Nat.lt_succ_iff_lt_or_eq.1 hq with h1 | rfl
    · rw [getM q h1, inM _ (memM q h1)]; exact near0 q h1 h.lt
    · rw [getL, set_y]; omega
  · intro j hj hjl z hz hzin
    have hjM : j < M.length := by have := h.lt; omega
    rw [getM j hjM] at hz ⊢
    rw [inM _ (memM j hjM)]
    obtain ⟨h1, h2⟩ := done0 j hj hjM z hz hzin
    exact ⟨List.mem_append.2 (.inl h1), by rw [inM z h1]; exact h2⟩
  · intro q hq hqin
    rw [eI] at hqin ⊢
    rw [eX]
    rcases Nat.lt_succ_iff_lt_or_eq.1 hq with h1 | rfl
    · obtain ⟨h2, h3⟩ := part0 q h1 hqin
      exact ⟨List.mem_append.2 (.inl h2), by rw [inM _ h2]; exact h3⟩
    · rw [hy, set_y]; exact ⟨by simp, by omega⟩
/-- The turn has ended. -/
theorem BfsIn.leave (h : BfsIn g ins v D M i k) (hk : k = (row g (M.getD i 0)).length) : Bfs g ins v D M (i + 1) := by
  refine ⟨h.len, h.first, h.zero, h.lim, h.rng, h.nod, h.neg, h.pos, h.sort, ?_, ?_⟩
  · intro q hq hi
    have h1 := h.near q hq h.lt
    have h2 := h.sort i (i + 1) (by omega) hi
    omega
  · intro j hj hjl y hy hin
    rcases Nat.lt_succ_iff_lt_or_eq.1 hj with h1 | rfl
    · exact h.done j h1 hjl y hy hin
    · obtain ⟨q, hq, rfl⟩ := List.mem_iff_getElem.1 hy
      have := h.part q (by omega) (by rw [getD_eq _ q hq]; exact hin)
      rwa [getD_eq _ q hq] at this
/-- The search has ended: the distances. -/
theorem Bfs.final (h : Bfs g ins v D M M.length) : D = farL g ins v := by
  have clo : ∀ d u, Ball g ins v d u → u ∈ M ∧ D.getD u.toNat 0 ≤ d := by
    intro d
    induction d with
    | zero =>
      intro u hu
      have e : u = v := hu
      subst e
      have hm : u ∈ M := by rw [← h.first.1, getD_eq M 0 h.first.2]; exact List.getElem_mem h.first.2
      refine ⟨hm, ?_⟩
      rw [h.zero]; exact Int.le_refl 0
    | succ d ih =>
      intro u hu
      rcases hu with h1 | ⟨hin, x, hx, hux⟩
      · obtain ⟨h2, h3⟩ := ih u h1
        exact ⟨h2, by omega⟩
      · obtain ⟨h2, h3⟩ := ih x hx
        obtain ⟨p, hp, e⟩ := List.mem_iff_getElem.1 h2
        have := h.done p hp hp u (by rw [getD_eq M p hp, e]; exact hux) hin
        rw [getD_eq M p hp, e] at this
        exact ⟨this.1, by omega⟩
  apply List.ext_getElem (by rw [h.len, farL_len])
  intro u hu hu'
  have hug : u < g.length := by rw [← h.len]; exact hu
  have e1 : (farL g ins v)[u] = far g ins v (u : Int) := by simp [farL]
  rw [e1, ← getD_eq D u hu]
  by_cases hm : (u : Int) ∈ M
  · have hp := h.pos _ hm
    rw [Int.toNat_natCast] at hp
    have := far_eq hp.2 (fun e he => by
      have := (clo e _ he).2
      rw [Int.toNat_natCast] at this
      omega)
    rw [this]; omega
  · rw [h.neg u hug hm, far_none]
    rintro ⟨d, hd⟩
    exact hm (clo d _ hd).1
theorem Bfs.few (h : Bfs g ins v D M i) : M.length ≤ g.length := nodup_le M g.length h.nod h.rng
theorem Bfs.known (h : Bfs g ins v D M i) {u : Nat} (hu : u < g.length) : ((u : Int) ∈ M ∧ 0 ≤ D.getD u 0) ∨ ((u : Int) ∉ M ∧ D.getD u 0 = -1) := by
  by_cases hm : (u : Int) ∈ M
  · have := (h.pos _ hm).1
    rw [Int.toNat_natCast] at this
    exact .inl ⟨hm, this⟩
  · exact .inr ⟨hm, h.neg u hu hm⟩
end
end
section
noncomputable def fromL (g : List (List Int)) (ins : List Int) (v : Int) : List Int := if v ∈ ins then farL g ins v else List.replicate g.length (-1)
set_option maxRecDepth 100000 in
set_option maxHeartbeats 8000000 in
theorem l3From_any (a : Option Addr) (rs : List Row) (c : Nat) (v : Nat) (a2 : Option Addr) (ys : List Int) (c2 : Nat) (w : World) (hg : GOk (nums rs)) (hr : RdM w a rs) (hn : Small rs) (hy : Rd (Value.int .i64) w a2 ys) (hm2 : ys.length ≤ 1048576) (hv : v < rs.length) :
    Calls Tryd.prog 51 #[.agg #[.slice a rs.length c], .int .i64 v, .slice a2 ys.length c2] w (RetOwn 2 ((fromL (nums rs) ys v).map (.int .i64)) w) := by
  have RA := hid hr; have RY := hid hy; have HG := hid hg; clear hr hy hg
  have hn1 := hn.1
  have h16 : rs.length ≤ 16 := by have := HG.out.le; rwa [nums_length] at this
  have hy16 : ys.length ≤ 16777216 := by omega
  obtain ⟨w0, hw0⟩ : ∃ w0, w0 = (w.alloc (.cells #[.slice a rs.length c] 29)) := ⟨_, rfl⟩
  have B0 := hid (show Below w.heap.size w w0 by rw [hw0]; exact ((Below.refl _ _).alloc (Nat.le_refl _) _))
  have c0 : w0.cell? ⟨w.heap.size, 0, none⟩ = some (.slice a rs.length c) := by rw [hw0]; simp [go_sem]
  replace RA := hid (RA.out.below B0.out (Nat.le_refl _))
  replace RY := hid (RY.out.below B0.out (Nat.le_refl _))
  have HW := hid hw0; clear hw0
  have hsz : w0.heap.size = w.heap.size + 1 := by rw [HW.out]; simp
  have HO := hid (show Own 2 (w0.alloc (.cells #[] 2)) w0.heap.size (.slice (some ⟨w0.heap.size, 0, none⟩) 0 0) [] from own_new 2 w0 [] (by decide))
  have HE0 := hid (alloc_below w0 (.cells #[] 2))
  rw [hsz] at HO HE0
  go_enter Tryd.func51, Tryd.ntmps51
  go_wp2
  rw [← HW.out]
  go_loopw [7, 8] (fun o x wr => ∃ k : Nat, k ≤ rs.length ∧ x = .int .i64 k ∧ Own 2 wr (w.heap.size + 1) o ((List.replicate k (-1 : Int)).map (.int .i64)) ∧ Below (w.heap.size + 1) w0 wr) (fun _ x _ => rs.length - (intOf x).toNat)
  case atStart => exact ⟨0, Nat.zero_le _, rfl, HO.out, HE0.out⟩
  case round =>
    obtain ⟨k, hk, rfl, ho, hb⟩ := hrel
    have OM := hid ho; have LB := hid hb; clear ho hb
    have hz0 : w0.heap.size ≤ w.heap.size + 1 := by omega
    have c01 := cellB LB.out c0 hz0
    have hBw := LB.out.size
    go_wp2_with fail
    refine (l1Size_any a rs c wr hn1).mono ?_
    rintro e w1 ⟨rfl, hb1⟩
    have OM1 := hid (OM.out.past hb1 (Nat.le_refl _))
    have hBw1 : w.heap.size + 1 ≤ w1.heap.size := by have := hb1.size; omega
    have LB1 := hid (LB.out.trans (hb1.mono (show w.heap.size + 1 ≤ wr.heap.size by omega)))
    clear hb1 OM LB c01 hBw
    by_cases hlt : k < rs.length
    · have hi0 : (k : Int) < (rs.length : Int) := by omega
      have HS := hid (show (List.replicate (k + 1) (-1 : Int)).map (Value.int .i64) = (List.replicate k (-1 : Int)).map (Value.int .i64) ++ [.int .i64 (-1)] by
        rw [List.replicate_succ', List.map_append]; rfl)
      have hlen : ((List.replicate k (-1 : Int)).map (Value.int .i64)).length ≤ 16 := by simp; omega
      generalize (List.replicate k (-1 : Int)).map (Value.int .i64) = XS at *
      go_wp2_with (at_builtin; refine law_push tI64 _ rfl _ _ rfl (w.heap.size + 1) _ XS rfl OM1.out _ _ rfl ?c0 rfl ?c1 ?c2 ?_)
      case c0 => simp
      case c1 => omega
      case c2 => exact hBw1
      intro v' w' h1 h2
      have HN := hid h1
      have HBB := hid (LB1.out.trans (grown_below h2 hBw1 (fun g hg => OM1.out.ge g hg)))
      clear h1 h2
      go_wp2
      go_roundw
      case rel => exact ⟨k + 1, by omega, by go_num, by rw [HS.out]; exact HN.out, HBB.out⟩
      case measure => simp [intOf]; omega
    · obtain rfl : k = rs.length := by omega
      have hz0' : w0.heap.size ≤ w.heap.size + 1 := hz0
      have RY1 := hid (RY.out.below LB1.out hz0)
      have B1 := hid (B0.out.trans (LB1.out.mono (by omega)))
      by_cases hvy : (v : Int) ∈ ys
      · have H4 := hid (show decide ((v : Int) ∈ ys) = true by simpa using hvy)
        have HF := hid (show fromL (nums rs) ys v = farL (nums rs) ys v by unfold fromL; rw [if_pos hvy])
        clear hvy
        have hvn : v < (nums rs).length := by rw [nums_length]; exact hv
        have hvi : (v : Int) < (rs.length : Int) := by omega
        have hDl0 : (List.replicate rs.length (-1 : Int)).length = rs.length := by simp
        have HST0 := hid (Bfs.start (g := nums rs) (ins := ys) (v := (v : Int)) HG.out ⟨by omega, by omega⟩)
        rw [nums_length, Int.toNat_natCast] at HST0
        have hml0 : ((List.replicate rs.length (-1 : Int)).map (Value.int .i64)).length = rs.length := by simp
        generalize List.replicate rs.length (-1 : Int) = D0 at *
        rcases OM1.out.form with ⟨_, hnil⟩ | ⟨bo, cap, spare, hform, hge, _, _, _⟩
        · rw [hnil] at hml0; simp at hml0; omega
        rw [hml0] at hform
        subst hform
        have hbl : bo < w1.heap.size := OM1.out.lt bo rfl
        have hcO := OM1.out.cell v (by rw [hml0]; exact hv)
        have hfO := OM1.out.free v
        have hst := OM1.out.store v (by rw [hml0]; exact hv) (.int .i64 0)
        rw [← List.map_set] at hst
        have hsz2 : (w1.setCell ⟨bo, v, none⟩ (.int .i64 0)).heap.size = w1.heap.size := by simp [World.setCell]
        have hal := alloc_below (w1.setCell ⟨bo, v, none⟩ (.int .i64 0)) (.cells #[.int .i64 (v : Int)] 2)
        have OUT0 := hid (hst.past hal (Nat.le_refl _))
        have MET0 := hid (show Own 2 ((w1.setCell ⟨bo, v, none⟩ (.int .i64 0)).alloc (.cells #[.int .i64 (v : Int)] 2)) w1.heap.size (.slice (some ⟨w1.heap.size, 0, none⟩) 1 1) ([(v : Int)].map (Value.int .i64)) from by
          have := own_new 2 (w1.setCell ⟨bo, v, none⟩ (.int .i64 0)) [.int .i64 (v : Int)] (by simp [maxLen])
          rwa [hsz2] at this)
        have LB2 := hid ((LB1.out.setCell (p := ⟨bo, v, none⟩) hge (.int .i64 0)).trans (hal.mono (by rw [hsz2]; exact hBw1)))
        clear hst hal hsz2 OM1 LB1
        go_wp2_with (go_at_call 70; refine (l1Has_b _ _ _ _ _ _ H4.out RY1.out hy16).mono ?_; rintro e w' ⟨rfl, rfl⟩)
        go_loopw [9, 10, 11, 12] (fun mv x _ _ wr => ∃ (D M : List Int) (i : Nat), i ≤ M.length ∧ x = .int .i64 i ∧ Own 2 wr (w.heap.size + 1) (.slice (some ⟨bo, 0, none⟩) rs.length cap) (D.map (.int .i64)) ∧ Own 2 wr w1.heap.size mv (M.map (.int .i64)) ∧ Bfs (nums rs) ys v D M i ∧ Below (w.heap.size + 1) w0 wr) (fun _ x _ _ _ => rs.length - (intOf x).toNat)
        case atStart => exact ⟨_, _, 0, Nat.zero_le _, rfl, OUT0.out, MET0.out, HST0.out, LB2.out⟩
        case round =>
          obtain ⟨D, M, i, hiM, rfl, hoD, hoM, hbf, hb⟩ := hrel
          have OD := hid hoD; have OE := hid hoM; have HBF := hid hbf; have LL := hid hb
          clear hoD hoM hb
          have hfew := hbf.few
          rw [nums_length] at hfew
          have hDl := hbf.len
          rw [nums_length] at hDl
          have hz1 : w0.heap.size ≤ w.heap.size + 1 := by omega
          by_cases hlt2 : i < M.length
          · have hii : (i : Int) < (M.length : Int) := by omega
            have hxr := hbf.rng _ (List.getElem_mem hlt2)
            have HENT := hid (hbf.enter hlt2)
            clear hbf
            have hml : (M.map (Value.int .i64)).length = M.length := by simp
            rcases OE.out.form with ⟨_, hnil⟩ | ⟨mb, mcap, mspare, hform, hmge, _, _, _⟩
            · rw [hnil] at hml; simp at hml; omega
            rw [hml] at hform
            subst hform
            have cme := OE.out.cell i (by rw [hml]; exact hlt2)
            rw [List.getElem_map] at cme
            have HMX := hid (getD_eq M i hlt2)
            generalize M[i] = x at *
            obtain ⟨n, rfl⟩ := Int.eq_ofNat_of_zero_le hxr.1
            rw [nums_length] at hxr
            have hnr : n < rs.length := by omega
            have hni : (n : Int) < (rs.length : Int) := by omega
            obtain ⟨rb, ro, hra, crow, hrok⟩ := (RA.out.below LL.out hz1).at n hnr
            have hatr := at_slice tRows hra rs.length c n hnr
            have HRA := hid hra; clear hra hrok
            have HROW := hid (row_rs rs n hnr)
            have RR0 := hid (RA.out.row _ (List.getElem_mem hnr)).1
            have hzr := hn.2 _ (List.getElem_mem hnr)
            have hrg := hid (fun y (hy : y ∈ rs[n].z) => (show 0 ≤ y ∧ y < rs.length by
              have := gok_range HG.out (u := (n : Int)) (v := y) (by omega) (by rw [nums_length]; omega) (by rw [HROW.out]; exact hy)
              rwa [nums_length] at this))
            generalize rs[n] = r at *
            have c02 := cellB LL.out c0 hz1
            have B2 := hid (B0.out.trans (LL.out.mono (by omega)))
            have hz0 : w.heap.size + 1 ≤ w0.heap.size := by omega
            go_wp2
            have qc02 := fun (p : Bel _) => cellB p.h c02 (Nat.le_refl _)
            have qcme := fun (p : Bel _) => cellB p.h cme (Nat.le_refl _)
            have qcrow := fun (p : Bel _) => cellB p.h crow (Nat.le_refl _)
            refine wp_quiet_b (by kernel_rfl) (by kernel_rfl) ?_
            repeat (go_big_quiet_step (fail))
            refine wpQuiet_nil ?_
            intro _ hw'
            obtain ⟨⟨w1, hb⟩, rfl⟩ := hw'
            clear qc02 qcme qcrow
            replace OD := hid (OD.out.past hb (Nat.le_refl _))
            replace OE := hid (OE.out.past hb (Nat.le_refl _))
            replace LL := hid (bonL LL.out hb hz0)
            replace B2 := hid (bon B2.out hb)
            replace c02 := cellB hb c02 (Nat.le_refl _)
            replace cme := cellB hb cme (Nat.le_refl _)
            replace crow := cellB hb crow (Nat.le_refl _)
            clear hb
            go_wp2
            go_loopw [9, 12] (fun mv y wq => ∃ (D M : List Int) (k : Nat), k ≤ r.z.length ∧ y = .int .i64 k ∧ Own 2 wq (w.heap.size + 1) (.slice (some ⟨bo, 0, none⟩) rs.length cap) (D.map (.int .i64)) ∧ Own 2 wq w1.heap.size mv (M.map (.int .i64)) ∧ BfsIn (nums rs) ys v D M i k ∧ M.getD i 0 = (n : Int) ∧ Below (w.heap.size + 1) w0 wq) (fun _ y _ => r.z.length - (intOf y).toNat)
            case atStart => exact ⟨D, M, 0, Nat.zero_le _, rfl, OD.out, OE.out, HENT.out, HMX.out, LL.out⟩
            case round =>
              obtain ⟨D2, M2, k, hk2, rfl, hoD, hoM, hbi, hmx, hb⟩ := hrel
              have OD2 := hid hoD; have OE2 := hid hoM; have HBI := hid hbi; have LM := hid hb
              clear hoD hoM hb
              have hrowe : row (nums rs) (M2.getD i 0) = r.z := by rw [hmx]; exact HROW.out
              have HMX2 := hid hmx
              have hfew2 := hbi.toBfs.few
              rw [nums_length] at hfew2
              have hiM2 := hbi.lt
              have hDl2 := hbi.toBfs.len
              rw [nums_length] at hDl2
              by_cases hlk : k < r.z.length
              · have hki : (k : Int) < (r.z.length : Int) := by omega
                obtain ⟨yb, yo, hya, cy⟩ := (RR0.out.below LM.out hz1) k hlk
                have haty := at_slice tI64 hya r.z.length r.c k hlk
                have hyb : yb < w0.heap.size := by
                  obtain ⟨b0, o0, h0, h1⟩ := RR0.out k hlk
                  rw [hya] at h0
                  have hb0 : yb = b0 := by simp at h0; exact h0.1
                  rw [hb0]; exact World.block_lt_of_cell? _ _ h1
                have HYA := hid hya; clear hya
                have hyr := hrg.out _ (List.getElem_mem hlk)
                have hyg : (row (nums rs) (M2.getD i 0)).getD k 0 = r.z[k] := by rw [hrowe, getD_eq r.z k hlk]
                have HSKIP := hid (fun (h : r.z[k] ∈ ys → r.z[k] ∈ M2) => hbi.skip (by rw [hyg]; exact h))
                have HTAKE := hid (fun (h1 : r.z[k] ∈ ys) (h2 : r.z[k] ∉ M2) => (show BfsIn (nums rs) ys v (D2.set (r.z[k]).toNat (D2.getD (n : Int).toNat 0 + 1)) (M2 ++ [r.z[k]]) i (k + 1) from by
                  have := hbi.take HG.out (by rw [hrowe]; exact hlk) (by rw [hyg]; exact h1) (by rw [hyg]; exact h2)
                  rwa [hyg, hmx] at this))
                have hlim := hbi.toBfs.lim _ (show M2.getD i 0 ∈ M2 by rw [getD_eq M2 i hiM2]; exact List.getElem_mem hiM2)
                have hpos := (hbi.toBfs.pos _ (show M2.getD i 0 ∈ M2 by rw [getD_eq M2 i hiM2]; exact List.getElem_mem hiM2)).1
                rw [hmx, Int.toNat_natCast] at hlim hpos
                have hknown := fun u hu => hbi.toBfs.known (u := u) hu
                clear hbi hyg hrowe
                generalize r.z[k] = y at *
                obtain ⟨m, rfl⟩ := Int.eq_ofNat_of_zero_le hyr.1
                have hmr : m < rs.length := by omega
                have hmi : (m : Int) < (rs.length : Int) := by omega
                have hkn := hknown m (by rw [nums_length]; exact hmr)
                clear hknown
                have hdml : (D2.map (Value.int .i64)).length = rs.length := by simp [hDl2]
                have cd := OD2.out.cell m (by rw [hdml]; exact hmr)
                rw [List.getElem_map] at cd
                rw [getD_eq D2 m (by omega)] at hkn
                have hyi16 : ys.length ≤ 16777216 := hy16
                have RY2 := hid (RY.out.below LM.out hz1)
                rcases hkn with ⟨hmM, hd0⟩ | ⟨hmM, hd0⟩
                · have HFIN := hid (HSKIP.out fun _ => hmM)
                  have d0 : decide (D2[m] < 0) = false := by rw [decide_eq_false_iff_not]; omega
                  clear hmM
                  generalize D2[m] = dm at *
                  go_wp2
                  go_roundw
                  case rel => exact ⟨D2, M2, k + 1, by omega, by go_num, OD2.out, OE2.out, HFIN.out, HMX2.out, LM.out⟩
                  case measure => simp [intOf]; omega
                · have d0 : decide (D2[m] < 0) = true := by rw [decide_eq_true_iff]; omega
                  by_cases hmy : (m : Int) ∈ ys
                  · have H5 := hid (show decide ((m : Int) ∈ ys) = true by simpa using hmy)
                    have HFIN := hid (HTAKE.out hmy hmM)
                    clear hmy hmM
                    have hml2 : (M2.map (Value.int .i64)).length = M2.length := by simp
                    rcases OE2.out.form with ⟨_, hnil⟩ | ⟨mb2, mcap2, mspare2, hform2, hmge2, _, _, _⟩
                    · rw [hnil] at hml2; simp at hml2; omega
                    rw [hml2] at hform2
                    subst hform2
                    have cme2 := OE2.out.cell i (by rw [hml2]; exact hiM2)
                    rw [List.getElem_map] at cme2
                    rw [← getD_eq M2 i hiM2, HMX2.out] at cme2
                    have hii2 : (i : Int) < (M2.length : Int) := by omega
                    have cdn := OD2.out.cell n (by rw [hdml]; exact hnr)
                    rw [List.getElem_map] at cdn
                    have hnD : n < D2.length := by omega
                    have hgn := getD_eq D2 n hnD
                    rw [hgn] at hpos hlim
                    rw [Int.toNat_natCast, Int.toNat_natCast, hgn] at HFIN
                    generalize D2[n] = dn at *
                    have hfm := OD2.out.free m
                    have hw1 : IntKind.i64.wrap (dn + 1) = dn + 1 := IntWalk.i64_in _ (by omega)
                    rw [hd0] at cd
                    have hst := OD2.out.store m (by rw [hdml]; exact hmr) (.int .i64 (dn + 1))
                    rw [← List.map_set] at hst
                    clear hst hgn hd0 hnD
                    have hne1 : ¬ yb = bo := by omega
                    have hne2 : ¬ bo = yb := by omega
                    go_wp2_with (go_at_call 70; refine (l1Has_b _ _ _ _ _ _ H5.out RY2.out hyi16).mono ?_; rintro e w' ⟨rfl, rfl⟩)
                    go_still_tail 14, (by kernel_rfl)
                    change wpList _ _ _ _ _ wr.drew
                    have DR : Drawn wr wr.drew := ⟨1, rfl⟩
                    have OD3 := hid (OD2.out.past (DR.below wr.heap.size) (Nat.le_refl _))
                    have OE3 := hid (OE2.out.past (DR.below wr.heap.size) (Nat.le_refl _))
                    have LM3 := hid (LM.out.trans (DR.below _))
                    have cy3 := dcell DR cy
                    have cd3 := dcell DR cd
                    have cme3 := dcell DR cme2
                    have cdn3 := dcell DR cdn
                    have hfm3 := OD3.out.free m
                    clear DR OD2 OE2 LM RY2 cy cd cme2 cdn hfm
                    generalize wr.drew = w5 at *
                    have hst := OD3.out.store m (by rw [hdml]; exact hmr) (.int .i64 (dn + 1))
                    rw [← List.map_set] at hst
                    have OD4 := hid hst; clear hst
                    have OE4 := hid (OE3.out.setCell_below (p := ⟨bo, m, none⟩) hbl (.int .i64 (dn + 1)))
                    have LM4 := hid (LM3.out.setCell (p := ⟨bo, m, none⟩) hge (.int .i64 (dn + 1)))
                    have hsz5 : (w5.setCell ⟨bo, m, none⟩ (.int .i64 (dn + 1))).heap.size = w5.heap.size := by simp [World.setCell]
                    have hBm5 : w1.heap.size ≤ (w5.setCell ⟨bo, m, none⟩ (.int .i64 (dn + 1))).heap.size := by
                      have h1 := OE3.out.lt mb2 rfl
                      rw [hsz5]; omega
                    clear OD3 OE3 LM3
                    go_wp2_with (at_builtin; refine law_push tI64 _ rfl _ _ rfl w1.heap.size _ (M2.map (.int .i64)) rfl OE4.out _ _ rfl ?c0 rfl ?c1 ?c2 ?_)
                    case c0 => simp [World.setCell]
                    case c1 => rw [hml2]; omega
                    case c2 => exact hBm5
                    intro v' w' h1 h2
                    have HN := hid (show Own 2 w' w1.heap.size v' ((M2 ++ [(m : Int)]).map (Value.int .i64)) by rw [List.map_append]; exact h1)
                    have hkeep : (Value.slice (some ⟨bo, 0, none⟩) rs.length cap).ownBlock = none ∨ (Value.slice (some ⟨bo, 0, none⟩) rs.length cap).ownBlock ≠ (Value.slice (some ⟨mb2, 0, none⟩) M2.length mcap2).ownBlock := .inr (by simp [Value.ownBlock]; omega)
                    have OD5 := hid (OD4.out.kept h2 hkeep)
                    have LM5 := hid (LM4.out.trans (grown_below h2 (Nat.le_trans (by omega) hBm5) (fun g hg => Nat.le_trans hBw1 (OE4.out.ge g hg))))
                    have HMX5 := hid (show (M2 ++ [(m : Int)]).getD i 0 = (n : Int) by rw [getD_snoc _ _ _ (by omega), if_pos hiM2]; exact HMX2.out)
                    clear h1 h2 OD4 OE4 LM4
                    go_wp2
                    go_roundw
                    case rel => exact ⟨D2.set m (dn + 1), M2 ++ [(m : Int)], k + 1, by omega, by go_num, OD5.out, HN.out, HFIN.out, HMX5.out, LM5.out⟩
                    case measure => simp [intOf]; omega
                  · have H5 := hid (show decide ((m : Int) ∈ ys) = false by simpa using hmy)
                    have HFIN := hid (HSKIP.out fun h => absurd h hmy)
                    clear hmy hmM
                    rw [hd0] at cd
                    go_wp2_with (first | (go_at_call 70; refine (l1Has_b _ _ _ _ _ _ H5.out RY2.out hyi16).mono ?_; rintro e w' ⟨rfl, rfl⟩))
                    go_roundw
                    case rel => exact ⟨D2, M2, k + 1, by omega, by go_num, OD2.out, OE2.out, HFIN.out, HMX2.out, LM.out⟩
                    case measure => simp [intOf]; omega
              · obtain rfl : k = r.z.length := by omega
                have HFIN := hid (hbi.leave (by rw [hrowe]))
                go_wp2
                go_roundw
                case rel => exact ⟨D2, M2, i + 1, by omega, by go_num, OD2.out, OE2.out, HFIN.out, LM.out⟩
                case measure => simp [intOf]; omega
          · obtain rfl : i = M.length := by omega
            have HFIN := hid (show D.map (Value.int .i64) = (fromL (nums rs) ys v).map (Value.int .i64) by rw [hbf.final, HF.out])
            rw [HFIN.out] at OD
            have hml : (M.map (Value.int .i64)).length = M.length := by simp
            have hpM := hbf.first.2
            rcases OE.out.form with ⟨_, hnil⟩ | ⟨mb, mcap, mspare, hform, hmge, _, _, _⟩
            · rw [hnil] at hml; simp at hml; omega
            rw [hml] at hform
            subst hform
            go_wp2
            go_ret
            exact ⟨_, rfl, OD.out.base (by omega), B0.out.trans (LL.out.mono (by omega))⟩
      · have H4 := hid (show decide ((v : Int) ∈ ys) = false by simpa using hvy)
        have HF := hid (show (List.replicate rs.length (-1 : Int)) = fromL (nums rs) ys v by unfold fromL; rw [if_neg hvy, nums_length])
        clear hvy
        rw [HF.out] at OM1
        go_wp2_with (first | (go_at_call 70; refine (l1Has_b _ _ _ _ _ _ H4.out RY1.out hy16).mono ?_; rintro e w' ⟨rfl, rfl⟩))
        go_ret
        exact ⟨_, rfl, OM1.out.base (by omega), B1.out⟩
end
section
/-- Whom a vertex leads to, in order. -/
noncomputable def partTo (g : List (List Int)) (ins : List Int) (v : Int) (k : Nat) : List Int := ((List.range k).filter fun u => decide (0 ≤ (fromL g ins v).getD u 0)).map fun u : Nat => (u : Int)
theorem partTo_succ (g : List (List Int)) (ins : List Int) (v : Int) (k : Nat) : partTo g ins v (k + 1) = partTo g ins v k ++ if 0 ≤ (fromL g ins v).getD k 0 then [(k : Int)] else [] := by
  unfold partTo
  rw [List.range_succ, List.filter_append, List.map_append]
  by_cases h : 0 ≤ (fromL g ins v).getD k 0
  · rw [if_pos h, List.filter_cons_of_pos (by rw [decide_eq_true_iff]; exact h)]; rfl
  · rw [if_neg h, List.filter_cons_of_neg (by rw [decide_eq_true_iff]; exact h)]; rfl
theorem partTo_len (g : List (List Int)) (ins : List Int) (v : Int) (k : Nat) : (partTo g ins v k).length ≤ k := by
  have := List.length_filter_le (fun u => decide (0 ≤ (fromL g ins v).getD u 0)) (List.range k)
  simpa [partTo] using this
theorem fromL_len (g : List (List Int)) (ins : List Int) (v : Int) : (fromL g ins v).length = g.length := by
  unfold fromL; split
  · exact farL_len _ _ _
  · simp
noncomputable def partL (g : List (List Int)) (ins : List Int) (v : Int) : List Int := partTo g ins v g.length
/-- A set that is not empty, all of which its first member leads to. -/
def ConnP (g : List (List Int)) (s : List Int) : Prop := s ≠ [] ∧ ∀ u ∈ s, ∃ d, Ball g s (s.getD 0 0) d u
noncomputable instance (g : List (List Int)) (s : List Int) : Decidable (ConnP g s) := Classical.propDecidable _
theorem ball_in {g : List (List Int)} {s : List Int} {v : Int} (hv : v ∈ s) {d : Nat} {u : Int} (h : Ball g s v d u) : u ∈ s := by
  induction d generalizing u with
  | zero => have e : u = v := h
            rw [e]; exact hv
  | succ d ih =>
    rcases h with h1 | ⟨h1, _⟩
    · exact ih h1
    · exact h1
/-- As many as the set has: all. -/
theorem conn_len {g : List (List Int)} {s : List Int} (hs : SetP g s) (h0 : s ≠ []) : (partL g s (s.getD 0 0)).length = s.length ↔ ConnP g s := by
  have hpos : 0 < s.length := List.length_pos_iff.2 h0
  have hv : s.getD 0 0 ∈ s := by rw [getD_eq s 0 hpos]; exact List.getElem_mem hpos
  generalize hv0 : s.getD 0 0 = v at *
  have hF : fromL g s v = farL g s v := by unfold fromL; rw [if_pos hv]
  have hmem : ∀ x, x ∈ partL g s v ↔ ∃ u : Nat, x = u ∧ u < g.length ∧ ∃ d, Ball g s v d (u : Int) := by
    intro x
    unfold partL partTo
    rw [List.mem_map]
    constructor
    · rintro ⟨u, hu, rfl⟩
      rw [List.mem_filter, List.mem_range, decide_eq_true_iff, hF] at hu
      refine ⟨u, rfl, hu.1, ?_⟩
      have h1 := hu.2
      rw [getD_eq _ u (by rw [farL_len]; exact hu.1)] at h1
      have e : (farL g s v)[u]'(by rw [farL_len]; exact hu.1) = far g s v (u : Int) := by simp [farL]
      rw [e] at h1
      exact far_nonneg.1 h1
    · rintro ⟨u, rfl, hu, hd⟩
      refine ⟨u, ?_, rfl⟩
      rw [List.mem_filter, List.mem_range, decide_eq_true_iff, hF]
      refine ⟨hu, ?_⟩
      rw [getD_eq _ u (by rw [farL_len]; exact hu)]
      have e : (farL g s v)[u]'(by rw [farL_len]; exact hu) = far g s v (u : Int) := by simp [farL]
      rw [e]
      exact far_nonneg.2 hd
  have hnd : (partL g s v).Nodup := by
    unfold partL partTo
    rw [List.Nodup, List.pairwise_map]
    refine List.Pairwise.imp ?_ (List.nodup_range.filter _)
    intro a b hab e; exact hab (by omega)
  have hsd : s.Nodup := List.Pairwise.imp (fun h => by omega) hs.2.2
  have hsub : partL g s v ⊆ s := fun x hx => by
    obtain ⟨u, rfl, _, d, hd⟩ := (hmem x).1 hx
    exact ball_in hv hd
  constructor
  · intro hl
    refine ⟨h0, fun u hu => ?_⟩
    rw [hv0]
    apply Classical.byContradiction
    intro hn
    have hu0 := hs.2.1 u hu
    obtain ⟨m, rfl⟩ := Int.eq_ofNat_of_zero_le hu0.1
    have hnp : (m : Int) ∉ partL g s v := fun h => by
      obtain ⟨k, e, _, hd⟩ := (hmem _).1 h
      rw [e] at hn; exact hn hd
    have hsub2 : partL g s v ⊆ s.erase (m : Int) := fun x hx => by
      rw [List.mem_erase_of_ne (fun e => hnp (by rw [← e]; exact hx))]
      exact hsub hx
    have h1 := hnd.length_le_of_subset hsub2
    rw [List.length_erase_of_mem hu] at h1
    omega
  · intro h
    have h1 := hnd.length_le_of_subset hsub
    have h2 := hsd.length_le_of_subset (l₂ := partL g s v) (fun x hx => by
      have hx0 := hs.2.1 x hx
      obtain ⟨m, rfl⟩ := Int.eq_ofNat_of_zero_le hx0.1
      have := h.2 _ hx
      rw [hv0] at this
      exact (hmem _).2 ⟨m, rfl, by omega, this⟩)
    omega
end
end Go.Proofs.YtdncmloajajiaaaDoor
