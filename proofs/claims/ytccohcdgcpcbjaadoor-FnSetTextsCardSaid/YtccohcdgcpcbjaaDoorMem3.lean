/- Small laws on memory, more. · What the written walks of the exact laws ask for. · Regions that draw, whose callees only lay blocks of their own: walked once, in the text's order. · A region that draws, whose first operations are quiet (their callees lay blocks of their own) and whose last ones go in the text's order: a store behind calls. · One element appended inside a region that draws. -/
import Derived.Test.YtccohcdgcpcbjaaDoorMem
import Derived.Test.YtccohcdgcpcbjaaDoorGr
import Derived.StillTailTactics
import Derived.Deep.RegionHeld3
namespace Go.Proofs.YtccohcdgcpcbjaaDoor
open Go.RowKit
section
section
theorem dcell {w w' : World} {p : Addr} {v : Value} (d : Drawn w w') (h : w.cell? p = some v) : w'.cell? p = some v := by obtain ⟨n, rfl⟩ := d; exact h
section
variable {P : Program} {ops : Array Oper} {rest : List Oper} {o : Oper} {a : Act} {Q : Exit → Act → World → Prop}
/-- append(s, x), one element: x's own block is number g. -/
theorem law_push {t e : TypeId} {z : Value} (hT : SliceT P t e z) (w : World) (hg : o.guard = none) (s x : Operand) (hop : o.op = .call { callee := .builtin .append, args := #[s, x], argTypes := #[t, t] })
    (B : Nat) (v : Value) (xs : List Value) (hs : a.eval s = v) (hown : Own e w B v xs) (u : Value) (g : Nat) (hx : a.eval x = .slice (some ⟨g, 0, none⟩) 1 1) (hgs : g = w.heap.size) (hu : u.oneCell' = true) (hn : xs.length < 1099511627776) (hB : B ≤ w.heap.size)
    (hK : ∀ v' w', Own e w' B v' (xs ++ [u]) → w.grownBy w' v.ownBlock → wpList P ops Q rest (a.put o.dst v') w') : wpList P ops Q (o :: rest) a (w.alloc (.cells #[u] e)) := by
  subst hgs
  exact law_append1 hT w hg s x hop B v xs hs hown u hx hu hn hB hK
end
end
section
theorem cellK {S : Nat → Prop} {w w' : World} {p : Addr} {v : Value} (hk : Kept S w w') (hc : w.cell? p = some v) (hn : ¬ S p.block) : w'.cell? p = some v :=
  (World.cell?_of_block (w := w) (hk.block p.block (World.block_lt_of_cell? _ _ hc) hn)).trans hc
theorem ownL_rd {e : TypeId} {w : World} {B n c : Nat} {a : Option Addr} {zs : List Int} (h : Own e w B (.slice a n c) (zs.map (Value.int .i64))) : Rd (Value.int .i64) w a zs := by
  obtain ⟨a', c', h1, h2, _⟩ := h.rd
  obtain ⟨rfl, _, rfl⟩ := slice_inj h1
  exact h2
theorem ownL_blocks {e : TypeId} {w : World} {B : Nat} {v : Value} {xs : List Value} (h : Own e w B v xs) : ∀ g, v.ownBlock = some g → B ≤ g ∧ g < w.heap.size := fun g hg => ⟨h.ge g hg, h.lt g hg⟩
theorem blocks_ge {v : Value} {rs : List Row} {B B' T : Nat} (h : blocksIn v rs (fun g => B ≤ g ∧ g < T)) (hB : B' ≤ B) : blocksIn v rs (fun g => B' ≤ g ∧ g < T) := h.mono fun _ hg => ⟨Nat.le_trans hB hg.1, hg.2⟩
theorem blocksL_ge {v : Value} {B B' T : Nat} (h : ∀ g, v.ownBlock = some g → B ≤ g ∧ g < T) (hB : B' ≤ B) : ∀ g, v.ownBlock = some g → B' ≤ g ∧ g < T := fun g hg => ⟨Nat.le_trans hB (h g hg).1, (h g hg).2⟩
def SmallZ (z : List (List Int)) : Prop := z.length ≤ 1048576 ∧ ∀ r ∈ z, r.length ≤ 1048576
theorem small_of {rs : List Row} {z : List (List Int)} (h : nums rs = z) (hs : SmallZ z) : Small rs := by
  subst h
  refine ⟨by have := hs.1; simpa [nums] using this, fun r hr => hs.2 r.z (List.mem_map_of_mem hr)⟩
theorem small_len {rs : List Row} (h : Small rs) : rs.length ≤ 1099511627776 := Nat.le_trans h.1 (by decide)
theorem total_le (rs : List Row) (m : Nat) (h : ∀ r ∈ rs, r.z.length ≤ m) : total rs ≤ rs.length * m := by
  induction rs with
  | nil => simp [total]
  | cons r rs ih =>
    have h1 := h r (by simp)
    have h2 := ih (fun q hq => h q (by simp [hq]))
    simp only [total, List.length_cons, Nat.add_mul]
    omega
theorem small_total {rs : List Row} (h : Small rs) : total rs ≤ 1099511627776 := by
  have h1 := total_le rs 1048576 h.2
  have h2 := Nat.mul_le_mul_right 1048576 h.1
  omega
theorem held1_n (a : Option Addr) (n c : Nat) (k : Int) (w : World) (hr : Rd (Value.int .i64) w a (upFrom k n)) (hn : n ≤ 1099511627776) (h0 : 0 ≤ k) (h1 : k ≤ 4398046511104) :
    Calls Tryd.prog 15 #[.slice a n c, .int .i64 k] w fun e w' => e = .returned (.int .i64 (k + n)) ∧ w = w' := by
  have := held1_any a (upFrom k n) n c k w rfl hr hn h0 h1
  rwa [upFrom_length] at this
end
end
section
/-- A world that stands behind W: W's blocks are as they were. -/
structure Bel (W : World) where
  w : World
  h : Below W.heap.size W w
instance (W : World) : Inhabited (Bel W) := ⟨⟨W, Below.refl _ _⟩⟩
theorem wp_quiet_b {P : Program} {id : Nat} {Q : Exit → Act → World → Prop} {a : Act} {W : World} {l : List Oper} (hm : P.follows .mixedOrders = true) (hB : Region.lexB .any l.toArray = true)
    (h : wpQuiet P l.toArray (fun w' => ∃ p : Bel W, w' = p.w) (fun a' => ∀ w', (∃ p : Bel W, w' = p.w) → Q .normal a' w') l a) : (Code.region id l.toArray true).wp P Q a W :=
  wp_region_quiet (C := fun w' => ∃ p : Bel W, w' = p.w) hm hB ⟨⟨{ W with drawn := W.drawn + 1 }, (Below.refl _ _).drew⟩, rfl⟩ (by simpa using h)
theorem qb {P : Program} {f : FuncId} {args : Array Value} {W : World} {p : Bel W} {v : Value}
    (h : Calls P f args p.w fun e w' => e = .returned v ∧ Below p.w.heap.size p.w w') : Calls P f args p.w fun e w'' => e = .returned v ∧ ∃ p' : Bel W, w'' = p'.w :=
  h.mono fun _ w' ⟨he, hb⟩ => ⟨he, ⟨w', p.h.trans (hb.mono p.h.size)⟩, rfl⟩
theorem qbs {P : Program} {f : FuncId} {args : Array Value} {W : World} {p : Bel W} {v : Value}
    (h : Calls P f args p.w fun e w' => e = .returned v ∧ p.w = w') : Calls P f args p.w fun e w'' => e = .returned v ∧ ∃ p' : Bel W, w'' = p'.w :=
  h.mono fun _ _ ⟨he, hb⟩ => ⟨he, p, hb.symm⟩
theorem qbd {P : Program} {f : FuncId} {args : Array Value} {W : World} {p : Bel W} {v : Value}
    (h : Calls P f args p.w fun e w' => e = .returned v ∧ Drawn p.w w') : Calls P f args p.w fun e w'' => e = .returned v ∧ ∃ p' : Bel W, w'' = p'.w :=
  h.mono fun _ w' ⟨he, hb⟩ => ⟨he, ⟨w', p.h.trans (hb.below _)⟩, rfl⟩
theorem Drawn.bel {a b : World} (h : Drawn a b) : Below a.heap.size a b := h.below _
theorem Rd.bel {α : Type} {f : α → Value} {W : World} {a : Option Addr} {zs : List α} (h : Rd f W a zs) (p : Bel W) : Rd f p.w a zs := h.below p.h (Nat.le_refl _)
theorem RdM.bel {W : World} {a : Option Addr} {rs : List Row} (h : RdM W a rs) (p : Bel W) : RdM p.w a rs := h.below p.h (Nat.le_refl _)
theorem Rd.take {α : Type} {f : α → Value} {w : World} {a : Option Addr} {zs : List α} (h : Rd f w a zs) (k : Nat) : Rd f w a (zs.take k) := by
  intro i hi
  have hi' : i < zs.length := by simp at hi; omega
  obtain ⟨b, o, h1, h2⟩ := h i hi'
  exact ⟨b, o, h1, by rw [h2, List.getElem_take]⟩
theorem bon {w0 W W' : World} (h : Below w0.heap.size w0 W) (hb : Below W.heap.size W W') : Below w0.heap.size w0 W' := h.trans (hb.mono h.size)
end
section
section
variable {P : Program} {ops : Array Oper} {md : Region.Mode} {C : World → Prop}
/-- Whatever order is picked among the first n operations; then L. -/
def headQ (P : Program) (md : Region.Mode) (ops : Array Oper) (C : World → Prop) (n : Nat) (L : Array Bool → Act → Prop) : Nat → Array Bool → Act → Prop
  | 0, listed, a => L listed a
  | f + 1, listed, a => Region.ready md ops listed ≠ [] ∧ ∀ i ∈ Region.ready md ops listed, i < n ∧ qOp P ops C i (headQ P md ops C n L f (listed.setIfInBounds i true)) a
theorem any_of_headQ {n g : Nat} {L : Array Bool → Act → Prop} {Q : Exit → Act → World → Prop} (hL : ∀ listed a w, C w → L listed a → wpAny P md ops Q g listed a w) (f : Nat) :
    ∀ (listed : Array Bool) (a : Act) (w : World), C w → headQ P md ops C n L f listed a → wpAny P md ops Q (f + g) listed a w := by
  induction f with
  | zero => intro listed a w hw h; rw [Nat.zero_add]; exact hL _ _ _ hw h
  | succ f ih =>
    intro listed a w hw h
    rw [Nat.succ_add]
    refine ⟨fun h0 => absurd h0 h.1, fun i hi => ?_⟩
    exact wpOp_of_qOp hw (fun a' w' hw' h' => ih _ a' w' hw' h') (h.2 i hi).2
theorem headQ_first {n i : Nat} {oi : Oper} {v : Value} {L : Array Bool → Act → Prop} (hi : ops[i]? = some oi) (hsel : ∀ (j : Nat) (o : Oper) cs b, ops[j]? = some o → o.op ≠ .select cs b)
    (hs : Region.sinkB md ops n = true) (hc : Region.chainB md ops n = true) (hn : n < ops.size) (hin : i < n) (hdone : ∀ listed a, L listed a → ∀ j ∈ Region.ready md ops listed, n ≤ j) (f : Nat) :
    ∀ (listed : Array Bool) (a : Act), HeadInv md ops n listed →
      (∀ j oj, ops[j]? = some oj → j ≠ i → listed.getD j true = false → (∀ e ∈ oj.after, Region.binds md e = true → e.on ≠ i) → oi.apart ops oj = true) →
      i ∈ Region.ready md ops listed → YieldsIn P ops C oi v a → headQ P md ops C n L f (listed.setIfInBounds i true) (a.put oi.dst v) → headQ P md ops C n L (f + 1) listed a := by
  induction f with
  | zero =>
    intro listed a inv _ hr hy H
    have hun := (mem_ready.1 hr).1
    refine ⟨fun e => (by rw [e] at hr; cases hr), fun j hj => ?_⟩
    have hjn : j < n := Nat.lt_of_not_le fun h => tail_waits hs hc hn inv _ i rfl hin hun j h hj
    refine ⟨hjn, ?_⟩
    rcases Decidable.em (j = i) with rfl | hji
    · exact hy.qOp hi H
    · have := hdone _ _ H j (ready_mono hj hji)
      exact absurd this (Nat.not_le_of_lt hjn)
  | succ f ih =>
    intro listed a inv hfree hr hy H
    have hun := (mem_ready.1 hr).1
    refine ⟨fun e => (by rw [e] at hr; cases hr), fun j hj => ?_⟩
    have hjn : j < n := Nat.lt_of_not_le fun h => tail_waits hs hc hn inv _ i rfl hin hun j h hj
    refine ⟨hjn, ?_⟩
    rcases Decidable.em (j = i) with rfl | hji
    · exact hy.qOp hi H
    obtain ⟨hjun, oj, hoj, hall⟩ := mem_ready.1 hj
    have hnot : ∀ e ∈ oj.after, Region.binds md e = true → e.on ≠ i := by
      intro e he hb heq
      have h1 := hall e he hb
      rw [heq, getD_both hun] at h1; cases h1
    have h2 := qOp_put hoj (hfree j oj hoj hji hjun hnot) (fun cs b => hsel i oi cs b hi) (fun cs b => hsel j oj cs b hoj) hy (H.2 j (ready_mono hj hji)).2
    refine qOp_mono (fun a' h3 => ih _ a' (inv.set hj hjn) ?_ (ready_mono hr (Ne.symm hji)) h3.1 ?_) h2
    · intro k ok hk hki hkun hno
      refine hfree k ok hk hki ?_ hno
      rcases Decidable.em (j = k) with rfl | hjk
      · exact hjun
      · rwa [getD_set_ne true hjk] at hkun
    · rw [Array.setIfInBounds_comm _ _ hji]; exact h3.2
theorem headQ_lex {n g : Nat} {Lq : Act → Prop} (hsel : Region.noSelect ops = true) (hs : Region.sinkB md ops n = true) (hc : Region.chainB md ops n = true) (hn : n < ops.size) (l : List Oper) :
    ∀ (k : Nat) (listed : Array Bool) (a : Act), (∀ j, j < l.length → l[j]? = ops[k + j]?) → k + l.length = n → HeadInv md ops n listed →
    Region.lexHead md ops g l.length k listed = true → wpQuiet P ops C Lq l a → headQ P md ops C n (fun listed' a' => Region.seqB md ops g n listed' = true ∧ Lq a') l.length listed a := by
  induction l with
  | nil =>
    intro k listed a _ hk _ hB h
    obtain rfl : k = n := by simpa using hk
    exact ⟨by simpa [Region.lexHead] using hB, h⟩
  | cons o l ih =>
    intro k listed a hl hk inv hB h
    have h0 : ops[k]? = some o := by simpa using (hl 0 (by simp)).symm
    simp only [List.length_cons, Region.lexHead, Bool.and_eq_true] at hB
    obtain ⟨⟨hr, hf⟩, hB'⟩ := hB
    have hkn : k < n := by simp only [List.length_cons] at hk; omega
    have hr' : k ∈ Region.ready md ops listed := by simpa using hr
    have hq : qOp P ops C k (wpQuiet P ops C Lq l) a := by unfold qOp; simp only [h0]; exact h
    obtain ⟨v, hy, hK⟩ := yieldsIn_of_qOp h0 hq
    refine headQ_first h0 (Region.noSelect_spec hsel) hs hc hn hkn (fun listed' a' hL => seqB_ready hL.1) l.length listed a inv (Region.free_spec h0 hf) hr' hy ?_
    refine ih (k + 1) _ _ (fun j hj => ?_) (by simp only [List.length_cons] at hk; omega) (inv.set hr' hkn) hB' hK
    have := hl (j + 1) (by simp; omega)
    simpa [Nat.add_assoc, Nat.add_comm 1 j] using this
theorem region_quiet_tail {id : Nat} {Q : Exit → Act → World → Prop} {a : Act} {w : World} {l : List Oper} (n : Nat) (hm : P.follows .mixedOrders = true) (hB : Region.lexTailB .any l.toArray n = true) (hC : C { w with drawn := w.drawn + 1 })
    (h : wpQuiet P l.toArray C (fun a' => ∀ w', C w' → wpList P l.toArray Q (l.drop n) a' w') (l.take n) a) : (Code.region id l.toArray true).wp P Q a w := by
  simp only [Region.lexTailB, Bool.and_eq_true, decide_eq_true_eq] at hB
  obtain ⟨⟨⟨⟨hsel, hn⟩, hs⟩, hc⟩, hlex⟩ := hB
  have hn' : n < l.length := by simpa using hn
  have htl : (l.take n).length = n := by simp; omega
  have hdl : (l.drop n).length = l.toArray.size - n := by simp
  have inv0 : HeadInv .any l.toArray n (Array.replicate l.toArray.size false) := by
    refine ⟨by simp, ?_, ?_⟩
    · intro j oj _ hl; rw [getD_replicate_false] at hl; cases hl
    · intro t _ ht; exact getD_in (by simpa using ht) (getD_replicate_false _ _)
  have H := headQ_lex (md := .any) (g := l.toArray.size - n) hsel hs hc hn (l.take n) 0 _ a (fun j hj => by
    have hj' : j < n := by rw [htl] at hj; exact hj
    simp [hj']) (by simpa using htl) inv0 (by rw [htl]; exact hlex) h
  refine wp_region_any hm ?_
  have H2 := any_of_headQ (Q := Q) (g := l.toArray.size - n) (fun listed a' w' hw' hL => by
    have := wpAny_of_seq (md := .any) (Q' := Q) (l.drop n) n listed a' w' (fun j => by simp [List.getElem?_drop]) (by rw [hdl]; exact hL.1) (hL.2 w' hw')
    rwa [hdl] at this) _ _ _ _ hC H
  rw [htl, show n + (l.toArray.size - n) = l.toArray.size by omega] at H2
  exact H2
theorem wp_quiet_tail_b {id : Nat} {Q : Exit → Act → World → Prop} {a : Act} {W : World} {l : List Oper} (n : Nat) (hm : P.follows .mixedOrders = true) (hB : Region.lexTailB .any l.toArray n = true)
    (h : wpQuiet P l.toArray (fun w' => ∃ p : Bel W, w' = p.w) (fun a' => ∀ w', (∃ p : Bel W, w' = p.w) → wpList P l.toArray Q (l.drop n) a' w') (l.take n) a) : (Code.region id l.toArray true).wp P Q a W :=
  region_quiet_tail (C := fun w' => ∃ p : Bel W, w' = p.w) n hm hB ⟨⟨{ W with drawn := W.drawn + 1 }, (Below.refl _ _).drew⟩, rfl⟩ h
end
end
section
variable {P : Program}
theorem step_push {ops : Array Oper} {o : Oper} {a : Act} {K : Act → World → Prop} {Q : Exit → Act → World → Prop} {E : Prop}
    {t e : TypeId} {z : Value} (hT : SliceT P t e z) (W : World) (hg : o.guard = none) (s x : Operand) (hop : o.op = .call { callee := .builtin .append, args := #[s, x], argTypes := #[t, t] })
    (B : Nat) (v : Value) (xs : List Value) (hs : a.eval s = v) (hown : Own e W B v xs) (u : Value) (g : Nat) (hx : a.eval x = .slice (some ⟨g, 0, none⟩) 1 1) (hgs : g = W.heap.size) (hu : u.oneCell' = true) (hn : xs.length < 1099511627776) (hB : B ≤ W.heap.size)
    (hK : ∀ v' w', Own e w' B v' (xs ++ [u]) → W.grownBy w' v.ownBlock → K (a.put o.dst v') w') :
    if Region.wanted o (yielded ops a.tmps) = true then Oper.wp P o a (W.alloc (.cells #[u] e)) K Q else E := by
  have hw : Region.wanted o (yielded ops a.tmps) = true := by simp [Region.wanted, hg]
  rw [if_pos hw]
  subst hgs
  obtain ⟨ht, bytes, hby, hi0, hz⟩ := hT
  obtain ⟨i, hi, hz0, hz1, hz2⟩ := info_parts hi0
  refine wp_append_own (W.alloc (.cells #[u] e)) s x t hop B e i z 1 bytes ht hi hz0 hz1 hz2 (by rw [hz]; rfl) (by decide) v xs.length xs hs (World.ownsRow.alloc hown _) ⟨W.heap.size, 0, none⟩ 1 1 [u] hx (by simp) (fun j y hj => ?_) (fun y hy => ?_) (by unfold maxLen; omega) ?_ (by simp; omega) fun v' w' h1 h2 _ => hK v' w' (by simpa [Own] using h1) ?_
  · have hj0 : j = 0 := by
      rcases Nat.eq_zero_or_pos j with h | h
      · exact h
      · rw [List.getElem?_eq_none (by simp; omega)] at hj; cases hj
    subst hj0
    have : u = y := by simpa using hj
    subst this
    simp [Addr.add]
  · simp at hy; subst hy; exact hu
  · exact Nat.le_trans (Nat.mul_le_mul_left _ hby) (by omega)
  · exact ⟨h2.os, h2.tape, h2.output, Nat.le_trans (by simp) h2.size, fun k hk hne => (h2.block k (by simp; omega) hne).trans (Below.heap_alloc W _ k hk)⟩
end
end Go.Proofs.YtccohcdgcpcbjaaDoor
