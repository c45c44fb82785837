/- Arrows: who is among them; one more; the other way round. -/
import Derived.Test.YtggjmnihnjdoaaaDoorArrS
import Derived.Test.YtggjmnihnjdoaaaDoorForM
import Derived.Deep.RegionHeld3
import Derived.Handy
namespace Go.Proofs.YtggjmnihnjdoaaaDoor
open Go.RowKit
section
theorem eqA : EqlAt Tryd.prog 78 (fun x : Nat => .agg (encA x).toArray) (fun x y => decide (x = y)) := by
  refine ⟨fun x y w => ?_, GuardAt.agg _ (by kernel_rfl)⟩
  have u3 := Tryd.underlying3
  have a3 := Tryd.isAgg3
  have z3 := Tryd.sizeOf3
  have hS : Tryd.prog.underlying 78 = some (.struct (Tryd.prog.fieldsOf 78)) := by kernel_rfl
  have hp : Tryd.prog.stoodInHeld 78 = false := by kernel_rfl
  simp only [encA]
  rw [run_eql_struct, show (10000 : Nat) = 9999 + 1 from rfl, run_equalIn_agg w 9999 78 _ _ hS hp]
  simp only [Program.fieldsOf, Tryd.underlying78]
  go_simp
  by_cases h1 : x / 16 = y / 16 <;> by_cases h2 : x % 16 = y % 16
  · have : x = y := by omega
    subst this; simp
  · have : x ≠ y := fun e => h2 (by rw [e])
    simp [this]; omega
  · have : x ≠ y := fun e => h1 (by rw [e])
    simp [this]; omega
  · have : x ≠ y := fun e => h1 (by rw [e])
    simp [this]; omega
theorem containsA_any (g c : Nat) (B : Nat) (L : List Nat) (x : Nat) (u1 u2 : Value) (h1 : u1 = .int .i64 (x / 16 : Nat)) (h2 : u2 = .int .i64 (x % 16 : Nat)) (w : World) (hL : L.length ≤ 1000000) (ho : OwnA w B (.slice (some ⟨g, 0, none⟩) L.length c) L) :
    Calls Tryd.prog 73 #[.slice (some ⟨g, 0, none⟩) L.length c, .agg #[u1, u2]] w fun e w' => e = .returned (.bool (decide (x ∈ L))) ∧ Below w.heap.size w w' := by
  subst h1; subst h2
  obtain ⟨a, c', hv, hr, _⟩ := ho.rd
  obtain ⟨rfl, _, rfl⟩ := slice_inj hv
  have h := AnyQ.slices_Contains Tryd.containsA 2 Tryd.isAgg78 Tryd.sizeOf78 encA (fun _ => rfl) _ eqA g 0 L.length c L x w (Nat.le_refl _) (by omega) (fun j hj i v hv => by
    obtain ⟨b, o, he, k1, k2⟩ := hr j hj
    obtain ⟨rfl, rfl⟩ : g = b ∧ 0 = o := by simpa using he
    rw [getElem!_pos L j hj] at hv
    rcases (show i = 0 ∨ i = 1 ∨ 2 ≤ i by omega) with rfl | rfl | h2
    · have : v = .int .i64 (L[j] / 16 : Nat) := by simpa [encA] using hv.symm
      rw [this]; exact k1
    · have : v = .int .i64 (L[j] % 16 : Nat) := by simpa [encA] using hv.symm
      rw [this]; exact k2
    · rw [List.getElem?_eq_none (by simpa [encA] using h2)] at hv; cases hv)
  refine Calls.mono h ?_
  rintro e w' ⟨rfl, hb⟩
  refine ⟨?_, hb⟩
  congr 2
  rw [List.take_length]
  apply Bool.eq_iff_iff.2
  rw [List.any_eq_true, decide_eq_true_iff]
  constructor
  · rintro ⟨y, hy, he⟩
    obtain rfl : x = y := by simpa using he
    exact hy
  · intro hx; exact ⟨x, hx, by simp⟩
set_option maxHeartbeats 1000000 in
theorem opposite_any (u v : Int) (w : World) :
    Calls Tryd.prog 75 #[.agg #[.int .i64 u, .int .i64 v]] w fun e w' => e = .returned (.agg #[.int .i64 v, .int .i64 u]) ∧ Below w.heap.size w w' := by
  have B0 := hid (alloc_below w (.cells #[.int .i64 u, .int .i64 v] 78))
  go_enter Tryd.func75, Tryd.ntmps75
  go_wp2
  go_returns
  exact ⟨rfl, B0.out.alloc (by simp) _⟩
theorem containsA_b (g c : Nat) (B : Nat) (L : List Nat) (p q x : Nat) (w : World) (b : Bool) (hx : cod p q = x) (hq : q < 16) (hb : decide (x ∈ L) = b) (hL : L.length ≤ 1000000) (ho : OwnA w B (.slice (some ⟨g, 0, none⟩) L.length c) L) :
    Calls Tryd.prog 73 #[.slice (some ⟨g, 0, none⟩) L.length c, .agg #[.int .i64 p, .int .i64 q]] w fun e w' => e = .returned (.bool b) ∧ Below w.heap.size w w' := by
  subst hb; subst hx
  exact containsA_any g c B L (cod p q) _ _ (by rw [cod_div hq]) (by rw [cod_mod hq]) w hL ho
/-- The two cells of one arrow. -/
theorem OwnA.two {w : World} {B g n c : Nat} {L : List Nat} (h : OwnA w B (.slice (some ⟨g, 0, none⟩) n c) L) {k p q : Nat} (hk : k < L.length) (hx : cod p q = L[k]) (hq : q < 16) : w.cell? ⟨g, k * 2, none⟩ = some (.int .i64 p) ∧ w.cell? ⟨g, k * 2 + 1, none⟩ = some (.int .i64 q) := by
  obtain ⟨a, c', hv, hr, _⟩ := h.rd
  obtain ⟨rfl, _, _⟩ := slice_inj hv
  obtain ⟨b, o, he, k1, k2⟩ := hr k hk
  obtain ⟨rfl, rfl⟩ : g = b ∧ 0 = o := by simpa using he
  rw [← hx, cod_div hq, Nat.zero_add] at k1
  rw [← hx, cod_mod hq, Nat.zero_add] at k2
  exact ⟨k1, k2⟩
theorem eql_arrow (p q p' q' : Nat) (hq : q < 16) (hq' : q' < 16) (b : Bool) (hb : decide (cod p q = cod p' q') = b) (W : World) :
    (binOp .eql 78 (.agg #[.int .i64 p, .int .i64 q]) (.agg #[.int .i64 p', .int .i64 q'])).run Tryd.prog W = .ok (.bool b) W := by
  subst hb
  have h := eqA.1 (cod p q) (cod p' q') W
  simp only [encA, cod_div hq, cod_mod hq, cod_div hq', cod_mod hq'] at h
  exact h
variable {P : Program} {ops : Array Oper} {o : Oper} {a : Act} {K : Act → World → Prop} {Q : Exit → Act → World → Prop} {E : Prop}
/-- One arrow appended inside a region that draws. -/
theorem step_pushA {t : TypeId} (hT : SliceA P t) (W : World) (hg : o.guard = none) (s x : Operand) (hop : o.op = .call { callee := .builtin .append, args := #[s, x], argTypes := #[t, t] })
    (B : Nat) (v : Value) (L : List Nat) (hs : a.eval s = v) (hown : OwnA W B v L) (p : Nat) (g : Nat) (hx : a.eval x = .slice (some ⟨g, 0, none⟩) 1 1) (hgs : g = W.heap.size) (u1 u2 : Value) (h1 : u1 = .int .i64 (p / 16 : Nat)) (h2 : u2 = .int .i64 (p % 16 : Nat)) (hn : L.length < 1099511627776) (hB : B ≤ W.heap.size)
    (hK : ∀ v' w', OwnA w' B v' (L ++ [p]) → W.grownBy w' v.ownBlock → K (a.put o.dst v') w') :
    if Region.wanted o (yielded ops a.tmps) = true then Oper.wp P o a (W.alloc (.cells #[u1, u2] 78)) K Q else E := by
  have hw : Region.wanted o (yielded ops a.tmps) = true := by simp [Region.wanted, hg]
  rw [if_pos hw]
  subst hgs; subst h1; subst h2
  obtain ⟨ht, hi0⟩ := hT
  obtain ⟨i, hi, hz0, hz1, hz2⟩ := info_parts hi0
  have hown2 : (W.alloc (.cells #[.int .i64 (p / 16 : Nat), .int .i64 (p % 16 : Nat)] 78)).ownsRow B 78 2 v L.length (flA L) := World.ownsRow.alloc hown _
  refine wp_append_own (W.alloc (.cells #[.int .i64 (p / 16 : Nat), .int .i64 (p % 16 : Nat)] 78)) s x t hop B 78 i _ 2 16 ht hi hz0 hz1 hz2 rfl (by decide) v L.length (flA L) hs hown2 ⟨W.heap.size, 0, none⟩ 1 1 (encA p) hx rfl (fun j u hj => ?_) (fun u hu => flA_one u [p] (by simpa [flA] using hu)) (by unfold maxLen; omega) (by omega) (by simp; omega) fun v' w' k1 k2 _ => hK v' w' ?_ ?_
  · have hh : (W.alloc (.cells #[.int .i64 (p / 16 : Nat), .int .i64 (p % 16 : Nat)] 78)).heap[W.heap.size]? = some (.cells #[.int .i64 (p / 16 : Nat), .int .i64 (p % 16 : Nat)] 78 (0, 0)) := by
      show (W.heap.push _)[W.heap.size]? = _; simp
    have hadd : (⟨W.heap.size, 0, none⟩ : Addr).add j = ⟨W.heap.size, j, none⟩ := by unfold Addr.add; split <;> simp_all
    rw [hadd]
    simp only [World.cell?, hh]
    simpa [encA] using hj
  · unfold OwnA
    rw [List.length_append, flA_append]
    simpa [flA] using k1
  · exact ⟨k2.os, k2.tape, k2.output, Nat.le_trans (by simp) k2.size, fun k hk hne => (k2.block k (by simp; omega) hne).trans (Below.heap_alloc W _ k hk)⟩
end
end Go.Proofs.YtggjmnihnjdoaaaDoor
