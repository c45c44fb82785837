/- A map from arrows to numbers. · All that an arrow leads to: the program's. · ForcedBy: the program's. -/
import Derived.Test.YtggjmnihnjdoaaaDoorArrC
import Derived.Test.YtggjmnihnjdoaaaDoorForM
import Derived.Maps.OwnOps
import Derived.Maps.RangeWalk
import Derived.DeepKeys4
import Derived.Maps.AppendAt
import Derived.Test.YtggjmnihnjdoaaaDoorForI
import Derived.Deep.Cut
import Derived.Carry
import Derived.Test.YtggjmnihnjdoaaaDoorForS
namespace Go.Proofs.YtggjmnihnjdoaaaDoor
open Go.RowKit
section
section
open Go.RowKit Go.Maps
theorem arrow_lt : 78 < Tryd.prog.types.size := of_decide_eq_true (show decide (78 < Tryd.prog.types.size) = true by kernel_rfl)
theorem keyed_arrow : Keyed Tryd.prog 78 :=
  Keyed.of_law (deep_law_laid (by kernel_rfl) (m := 20) (by decide) arrow_lt (by kernel_rfl) (by kernel_rfl))
/-- What an arrow's key reads as. -/
noncomputable def klA (p : Nat) : Lit := (keyOf Tryd.prog 78 (valA p)).getD (.bool false)
theorem klA_all : ((List.range 256).all fun p => (keyOf Tryd.prog 78 (valA p)).isSome) = true := by kernel_rfl
set_option maxRecDepth 100000
theorem keyOf_valA {p : Nat} (hp : p < 256) : keyOf Tryd.prog 78 (valA p) = some (klA p) := by
  have h := List.all_eq_true.1 klA_all p (List.mem_range.2 hp)
  unfold klA
  cases hk : keyOf Tryd.prog 78 (valA p) with
  | none => rw [hk] at h; cases h
  | some l => rfl
theorem valA_inj {p q : Nat} (h : valA p = valA q) : p = q := by
  unfold valA at h
  simp at h
  omega
theorem klA_inj {p q : Nat} (hp : p < 256) (hq : q < 256) (h : klA p = klA q) : p = q :=
  valA_inj (keyed_arrow.inj (keyOf_valA hp) (h ▸ keyOf_valA hq))
theorem klA_key {p : Nat} (hp : p < 256) : WideAt.IsKeyLit (klA p) := keyed_arrow.key (keyOf_valA hp)
/-- D reads as the pairs of Q. -/
structure Like (Q : List (Nat × Nat)) (D : DataW Unit) : Prop where
  isMap : IsMap D
  has : ∀ p, p < 256 → Maps.has D (klA p) = decide (p ∈ Q.map Prod.fst)
  at_ : ∀ p d, (p, d) ∈ Q → D.atKey (klA p) (.lit (.int .i64 0)) = .lit (.int .i64 (d : Nat))
  key : ∀ kl, Maps.has D kl = true → ∃ p ∈ Q.map Prod.fst, kl = klA p
theorem Like.nil : Like [] (.map []) where
  isMap := isMap_empty
  has p _ := by simp [Maps.has]
  at_ p d h := by cases h
  key kl h := by simp [Maps.has] at h
theorem Like.put {Q : List (Nat × Nat)} {D : DataW Unit} (h : Like Q D) (hq : QOk Q) {p : Nat} (hp : p < 256) (d : Nat) (hn : p ∉ Q.map Prod.fst) : Like (Q ++ [(p, d)]) (D.put (klA p) (.lit (.int .i64 (d : Nat)))) where
  isMap := h.isMap.put _ _
  has q hq' := by
    by_cases e : q = p
    · subst e
      rw [has_put_same h.isMap (klA_key hp)]
      simp
    · rw [has_put_other (fun e' => e (klA_inj hq' hp e')), h.has q hq']
      simp [e]
  at_ q e' hm := by
    rcases List.mem_append.1 hm with h1 | h1
    · have hq256 := hq.2 _ h1
      have hne : q ≠ p := fun e => hn (e ▸ List.mem_map.2 ⟨_, h1, rfl⟩)
      rw [atKey_put_other (fun e' => hne (klA_inj hq256 hp e'))]
      exact h.at_ q e' h1
    · simp at h1
      obtain ⟨rfl, rfl⟩ := h1
      exact atKey_put_same h.isMap (klA_key hp) _ _
  key kl hk := by
    by_cases e : kl = klA p
    · exact ⟨p, by simp, e⟩
    · rw [has_put_other e] at hk
      obtain ⟨q, hq', rfl⟩ := h.key kl hk
      exact ⟨q, by rw [List.map_append]; exact List.mem_append_left _ hq', rfl⟩
/-- Block b is a map that reads as the pairs of Q. -/
def MapA (w : World) (b : Nat) (Q : List (Nat × Nat)) : Prop := ∃ D : DataW Unit, w.ownsMap Tryd.prog 78 (plainElem Tryd.prog 3) b Q.length D ∧ Like Q D
theorem MapA.made (w : World) : MapA (w.alloc (.map #[] 0)) w.heap.size [] := ⟨_, World.ownsMap_made w _ _ _, Like.nil⟩
theorem MapA.lt {w : World} {b : Nat} {Q : List (Nat × Nat)} (h : MapA w b Q) : b < w.heap.size := by
  obtain ⟨D, h, _⟩ := h
  exact h.lt
theorem MapA.kept {w w' : World} {b : Nat} {Q : List (Nat × Nat)} {row : Option Nat} (h : MapA w b Q) (hg : w.grownBy w' row) (hne : some b ≠ row) : MapA w' b Q := by
  obtain ⟨D, h, hl⟩ := h
  exact ⟨D, h.kept hg hne, hl⟩
theorem MapA.past {w w' : World} {b B : Nat} {Q : List (Nat × Nat)} (h : MapA w b Q) (hb : Below B w w') (hB : b < B) : MapA w' b Q := by
  have hlt := h.lt
  obtain ⟨D, ⟨es, clock, hbk, F, hs, hD⟩, hl⟩ := h
  exact ⟨D, ⟨es, clock, (hb.block b hB).trans hbk, F, hs, hD⟩, hl⟩
/-- A range over it is under way: those of L have come. -/
def RngA (w : World) (b r : Nat) (Q : List (Nat × Nat)) (L : List Nat) : Prop :=
  ∃ (n : Nat) (D : DataW Unit) (left : Lit → Bool) (cnt : Nat), w.ranges Tryd.prog 78 (plainElem Tryd.prog 3) b r n D left cnt ∧ Like Q D ∧ n = Q.length ∧ L.Nodup ∧ (∀ p ∈ L, p ∈ Q.map Prod.fst) ∧ ∀ p ∈ Q.map Prod.fst, (left (klA p) = true ↔ p ∉ L) ∧ ∀ kl, left kl = true → Maps.has D kl = true
theorem RngA.owns {w : World} {b r : Nat} {Q : List (Nat × Nat)} {L : List Nat} (h : RngA w b r Q L) : MapA w b Q := by
  obtain ⟨n, D, left, cnt, h, hl, rfl, _⟩ := h
  exact ⟨D, h.owns, hl⟩
theorem RngA.lt {w : World} {b r : Nat} {Q : List (Nat × Nat)} {L : List Nat} (h : RngA w b r Q L) : r < w.heap.size := by
  obtain ⟨n, D, left, cnt, h, _⟩ := h
  exact h.lt
theorem RngA.kept {w w' : World} {b r : Nat} {Q : List (Nat × Nat)} {L : List Nat} {row : Option Nat} (h : RngA w b r Q L) (hg : w.grownBy w' row) (hb : some b ≠ row) (hr : some r ≠ row) : RngA w' b r Q L := by
  obtain ⟨n, D, left, cnt, h, rest⟩ := h
  exact ⟨n, D, left, cnt, h.kept hg hb hr, rest⟩
theorem RngA.left_kept {w w' : World} {b r : Nat} {Q : List (Nat × Nat)} {L : List Nat} {row : Option Nat} (h : RngA w b r Q L) (hg : w.grownBy w' row) (hb : some b ≠ row) (hr : some r ≠ row) : w'.rangeLeft b r = w.rangeLeft b r := by
  obtain ⟨n, D, left, cnt, h, rest⟩ := h
  rw [(h.kept hg hb hr).left_eq, h.left_eq]
section
variable {ops : Array Oper} {rest : List Oper} {o : Oper} {a : Act} {K : Exit → Act → World → Prop}
/-- 'v, ok := m[k]'. -/
theorem law_mapOk (w : World) (hg : o.guard = none) (m x : Operand) (hop : o.op = Op.lookup 82 m x true) (b : Nat) (Q : List (Nat × Nat)) (hm : a.eval m = .map (some b)) (h : MapA w b Q) (p : Nat) (hp : p < 256) (u1 u2 : Value) (hx : a.eval x = .agg #[u1, u2]) (h1 : u1 = .int .i64 (p / 16 : Nat)) (h2 : u2 = .int .i64 (p % 16 : Nat))
    (hK : ∀ c : Int, (∀ d, (p, d) ∈ Q → c = (d : Nat)) → wpList Tryd.prog ops K rest (a.put o.dst (.tuple #[.int .i64 c, .bool (decide (p ∈ Q.map Prod.fst))])) w) : wpList Tryd.prog ops K (o :: rest) a w := by
  subst h1; subst h2
  obtain ⟨D, h, hl⟩ := h
  refine wpList_lookup_own_ok_int w hg m x _ hop 78 3 .i64 keyed_arrow Tryd.underlying82 Tryd.underlying3 (by kernel_rfl) b _ D hm h _ (klA p) hx (keyOf_valA hp) fun c hc _ => ?_
  rw [hl.has p hp]
  refine hK c fun d hd => ?_
  have := hl.at_ p d hd
  rw [this] at hc
  simpa using hc.symm
/-- 'm[k]', where k is there. -/
theorem law_mapAt (w : World) (hg : o.guard = none) (m x : Operand) (hop : o.op = Op.lookup 82 m x false) (b : Nat) (Q : List (Nat × Nat)) (hm : a.eval m = .map (some b)) (h : MapA w b Q) (p d : Nat) (hp : p < 256) (hd : (p, d) ∈ Q) (u1 u2 : Value) (hx : a.eval x = .agg #[u1, u2]) (h1 : u1 = .int .i64 (p / 16 : Nat)) (h2 : u2 = .int .i64 (p % 16 : Nat))
    (hK : wpList Tryd.prog ops K rest (a.put o.dst (.int .i64 (d : Nat))) w) : wpList Tryd.prog ops K (o :: rest) a w := by
  subst h1; subst h2
  obtain ⟨D, h, hl⟩ := h
  refine wpList_lookup_own_int w hg m x _ hop 78 3 .i64 keyed_arrow Tryd.underlying82 Tryd.underlying3 (by kernel_rfl) b _ D hm h _ (klA p) hx (keyOf_valA hp) fun c hc _ => ?_
  have := hl.at_ p d hd
  rw [this] at hc
  obtain rfl : (d : Int) = c := by simpa using hc
  exact hK
/-- 'm[k] = v', where k is not there. -/
theorem law_mapPut (w : World) (hg : o.guard = none) (m x v : Operand) (hop : o.op = Op.mapUpdate 82 m x v) (b : Nat) (Q : List (Nat × Nat)) (hQ : QOk Q) (hm : a.eval m = .map (some b)) (h : MapA w b Q) (p d : Nat) (hp : p < 256) (hn : p ∉ Q.map Prod.fst) (u1 u2 : Value) (hx : a.eval x = .agg #[u1, u2]) (h1 : u1 = .int .i64 (p / 16 : Nat)) (h2 : u2 = .int .i64 (p % 16 : Nat)) (hv : a.eval v = .int .i64 (d : Nat)) (hd : d < 1000000)
    (hK : ∀ w', MapA w' b (Q ++ [(p, d)]) → w.grownBy w' (some b) → wpList Tryd.prog ops K rest (a.put o.dst undef) w') : wpList Tryd.prog ops K (o :: rest) a w := by
  subst h1; subst h2
  obtain ⟨D, h, hl⟩ := h
  refine wpList_mapUpdate_own w hg m x v _ hop 78 3 keyed_arrow Tryd.underlying82 (plainElem Tryd.prog 3) b _ D hm h (by have := hQ.len; unfold maxLen; omega) _ _ (klA p) hx hv (keyOf_valA hp) (.lit (.int .i64 (d : Nat))) [] (plainElem_int Tryd.underlying3 (WalkArith.wf_i64 (by omega))) fun w' h' hg' => hK w' ⟨_, ?_, hl.put hQ hp d hn⟩ hg'
  rw [List.length_append]
  exact h'
/-- 'range m'. -/
theorem law_rangeA (w : World) (hg : o.guard = none) (m : Operand) (hop : o.op = Op.range 82 m) (b : Nat) (Q : List (Nat × Nat)) (hQ : QOk Q) (hm : a.eval m = .map (some b)) (h : MapA w b Q)
    (hK : ∀ w', RngA w' b w.heap.size Q [] → w.grownBy w' none → w'.heap.size = w.heap.size + 1 → wpList Tryd.prog ops K rest (a.put o.dst (.pointer (some ⟨w.heap.size, 0, none⟩))) w') : wpList Tryd.prog ops K (o :: rest) a w := by
  obtain ⟨D, h, hl⟩ := h
  refine wpList_range_own w hg m _ hop 78 3 keyed_arrow Tryd.underlying82 _ b _ D hm h fun w' h1 h2 h3 => hK w' ⟨_, D, _, _, h1, hl, rfl, List.nodup_nil, (fun p hp => by cases hp), fun p hp => ⟨?_, fun _ h => h⟩⟩ h2 h3
  obtain ⟨x, hx, rfl⟩ := List.mem_map.1 hp
  rw [hl.has _ (hQ.2 x hx)]
  simpa using ⟨x.2, hx⟩
/-- The step. -/
theorem law_nextA (w : World) (hg : o.guard = none) (it : Operand) (hop : o.op = Op.next it false) (b r : Nat) (Q : List (Nat × Nat)) (hQ : QOk Q) (L : List Nat) (hit : a.eval it = .pointer (some ⟨r, 0, none⟩)) (h : RngA w b r Q L)
    (hDone : (∀ p ∈ Q.map Prod.fst, p ∈ L) → wpList Tryd.prog ops K rest (a.put o.dst (.tuple #[.bool false])) w)
    (hMore : ∀ (p : Nat) (c : Int) (w' : World), p ∈ Q.map Prod.fst → p ∉ L → RngA w' b r Q (L ++ [p]) → w'.rangeLeft b r < w.rangeLeft b r → w.grownBy w' (some r) → w'.heap.size = w.heap.size → (Instr.entry (.pointer (some ⟨r, 0, none⟩))).run Tryd.prog w' = .ok (.tuple #[.agg #[.int .i64 (p / 16 : Nat), .int .i64 (p % 16 : Nat)], .int .i64 c]) w' → wpList Tryd.prog ops K rest (a.put o.dst (.tuple #[.bool true, .agg #[.int .i64 (p / 16 : Nat), .int .i64 (p % 16 : Nat)], .int .i64 c])) w') :
    wpList Tryd.prog ops K (o :: rest) a w := by
  obtain ⟨n, D, left, cnt, h, hl, hn, hnd, hsub, hlf⟩ := h
  refine wpList_plain hg fun K' hK' => ?_
  unfold Oper.wp
  rcases h.next keyed_arrow o.type with ⟨h0, hl0, hrun⟩ | ⟨key, v, kl, y, w', cnt', hkey, hlk, hv, hat, hrun, hrg, hlt, hgr, hsz, hen⟩
  · simp [execOp, hop, hit, hrun, Result.andThen]
    refine hK' _ _ (hDone fun p hp => ?_)
    have h1 := (hlf p hp).1
    rw [hl0] at h1
    simpa using h1
  · obtain ⟨c, rfl, _⟩ := plainElem_int_inv Tryd.underlying3 hv
    have hex : ∃ p ∈ Q.map Prod.fst, kl = klA p := by
      refine hl.key kl ?_
      cases hQe : Q with
      | nil =>
        subst hQe
        obtain ⟨es, clock, since, seen, c0, hb, F, hs, hD, _, _, _, _, h2, _⟩ := h
        obtain ⟨x, hx, _⟩ := h2 kl hlk
        have : es.size = 0 := by rw [hn] at hs; simpa using hs
        have : es.toList.length = 0 := by simpa using this
        rw [List.eq_nil_of_length_eq_zero this] at hx
        cases hx
      | cons q0 Q0 => exact (hlf q0.1 (by rw [hQe]; simp)).2 kl hlk
    obtain ⟨p, hp, rfl⟩ := hex
    have hp256 : p < 256 := by
      obtain ⟨x, hx, rfl⟩ := List.mem_map.1 hp
      exact hQ.2 x hx
    obtain rfl : key = valA p := keyed_arrow.inj hkey (keyOf_valA hp256)
    simp [execOp, hop, hit, hrun, Result.andThen]
    refine hK' _ _ (hMore p c w' hp ((hlf p hp).1.1 hlk) ⟨n, D, _, cnt', hrg, hl, hn, ?_, ?_, ?_⟩ (by rw [hrg.left_eq, h.left_eq]; exact hlt) hgr hsz hen)
    · rw [List.nodup_append]
      refine ⟨hnd, by simp, fun a' ha b' hb e => ?_⟩
      simp at hb
      subst hb; subst e
      exact (hlf _ hp).1.1 hlk ha
    · intro q hq
      rcases List.mem_append.1 hq with h1 | h1
      · exact hsub q h1
      · simp at h1; subst h1; exact hp
    · intro q hq
      have hq256 : q < 256 := by
        obtain ⟨x, hx, rfl⟩ := List.mem_map.1 hq
        exact hQ.2 x hx
      refine ⟨?_, fun kl hkl => (hlf q hq).2 kl (by simp at hkl; exact hkl.1)⟩
      have hsame : (klA q).sameKey (klA p) = decide (q = p) := by
        by_cases e : q = p
        · subst e; rw [WideAt.sameKey_self (klA_key hq256)]; simp
        · rw [sameKey_ne (fun e' => e (klA_inj hq256 hp256 e'))]; simp [e]
      rw [hsame]
      simp only [Bool.and_eq_true, Bool.not_eq_true', decide_eq_false_iff_not, List.mem_append, List.mem_singleton, not_or]
      rw [(hlf q hq).1]
/-- append(s, x): one arrow; where the new slice lies. -/
theorem law_pushA_w {t : TypeId} (hT : SliceA Tryd.prog t) (w : World) (hg : o.guard = none) (s x : Operand) (hop : o.op = .call { callee := .builtin .append, args := #[s, x], argTypes := #[t, t] })
    (B : Nat) (v : Value) (L : List Nat) (hs : a.eval s = v) (hown : OwnA w B v L) (p : Nat) (g : Nat) (hx : a.eval x = .slice (some ⟨g, 0, none⟩) 1 1) (hgs : g = w.heap.size) (u1 u2 : Value) (h1 : u1 = .int .i64 (p / 16 : Nat)) (h2 : u2 = .int .i64 (p % 16 : Nat)) (hn : L.length < 1099511627776) (hB : B ≤ w.heap.size)
    (hK : ∀ v' w', OwnA w' B v' (L ++ [p]) → w.grownBy w' v.ownBlock → (v'.ownBlock = v.ownBlock ∨ v'.ownBlock = some (w.heap.size + 1)) → wpList Tryd.prog ops K rest (a.put o.dst v') w') : wpList Tryd.prog ops K (o :: rest) a (w.alloc (.cells #[u1, u2] 78)) := by
  subst hgs
  subst h1; subst h2
  obtain ⟨ht, hi0⟩ := hT
  obtain ⟨i, hi, hz0, hz1, hz2⟩ := info_parts hi0
  have hown2 : (w.alloc (.cells #[.int .i64 (p / 16 : Nat), .int .i64 (p % 16 : Nat)] 78)).ownsRow B 78 2 v L.length (flA L) := World.ownsRow.alloc hown _
  refine wpList_append_own_at (w.alloc (.cells #[.int .i64 (p / 16 : Nat), .int .i64 (p % 16 : Nat)] 78)) hg s x t hop B 78 i _ 2 16 ht hi hz0 hz1 hz2 rfl (by decide) v L.length (flA L) hs hown2 ⟨w.heap.size, 0, none⟩ 1 1 (encA p) hx rfl (fun j u hj => ?_) (fun u hu => flA_one u [p] (by simpa [flA] using hu)) (by unfold maxLen; omega) (by omega) (by simp; omega) fun v' w' k1 k2 _ k3 => hK v' w' ?_ ?_ ?_
  · have hh : (w.alloc (.cells #[.int .i64 (p / 16 : Nat), .int .i64 (p % 16 : Nat)] 78)).heap[w.heap.size]? = some (.cells #[.int .i64 (p / 16 : Nat), .int .i64 (p % 16 : Nat)] 78 (0, 0)) := by
      show (w.heap.push _)[w.heap.size]? = _; simp
    have hadd : (⟨w.heap.size, 0, none⟩ : Addr).add j = ⟨w.heap.size, j, none⟩ := by unfold Addr.add; split <;> simp_all
    rw [hadd]
    simp only [World.cell?, hh]
    simpa [encA] using hj
  · unfold OwnA
    rw [List.length_append, flA_append]
    simpa [flA] using k1
  · exact ⟨k2.os, k2.tape, k2.output, Nat.le_trans (by simp) k2.size, fun k hk hne => (k2.block k (by simp; omega) hne).trans (Below.heap_alloc w _ k hk)⟩
  · simpa using k3
theorem OwnA.neMap {w : World} {B b : Nat} {v : Value} {L : List Nat} {Q : List (Nat × Nat)} (h : OwnA w B v L) (hm : MapA w b Q) : v.ownBlock = none ∨ v.ownBlock ≠ some b := by
  rcases h.form with ⟨rfl, _⟩ | ⟨g, cap, cur, rfl, _, hh, _⟩
  · exact .inl rfl
  · right
    obtain ⟨D, ⟨es, clock, hb, _⟩, _⟩ := hm
    intro e
    have : g = b := by simpa [Value.ownBlock] using e
    subst this
    rw [hh] at hb
    cases hb
theorem MapA.neOwn {w : World} {B b : Nat} {v : Value} {L : List Nat} {Q : List (Nat × Nat)} (hm : MapA w b Q) (h : OwnA w B v L) : some b ≠ v.ownBlock := by
  rcases h.neMap hm with h1 | h1
  · rw [h1]; simp
  · exact fun e => h1 e.symm
theorem OwnA.free {w w' : World} {B b : Nat} {v : Value} {L : List Nat} {Q : List (Nat × Nat)} (h : OwnA w B v L) (hm : MapA w b Q) (hg : w.grownBy w' (some b)) : OwnA w' B v L := h.kept hg (h.neMap hm)
/-- 'm[k] = v' in a region: an equation. -/
theorem MapA.put {w : World} {b : Nat} {Q : List (Nat × Nat)} (h : MapA w b Q) (hQ : QOk Q) {p d : Nat} (hp : p < 256) (hn : p ∉ Q.map Prod.fst) (hd : d < 1000000) {x y : Nat} (hx : x = p / 16) (hy : y = p % 16) :
    ∃ w', (Instr.mapUpdate 82 (.map (some b)) (.agg #[.int .i64 (x : Nat), .int .i64 (y : Nat)]) (.int .i64 (d : Nat))).run Tryd.prog w = .ok () w' ∧ MapA w' b (Q ++ [(p, d)]) ∧ w.grownBy w' (some b) := by
  subst hx; subst hy
  obtain ⟨D, h, hl⟩ := h
  obtain ⟨w', h1, h2, h3⟩ := h.update (t := 82) (e := 3) keyed_arrow Tryd.underlying82 (by have := hQ.len; unfold maxLen; omega) (key := valA p) (val := .int .i64 (d : Nat)) (keyOf_valA hp) (plainElem_int Tryd.underlying3 (WalkArith.wf_i64 (by omega)))
  exact ⟨w', h1, ⟨_, by rw [List.length_append]; exact h2, hl.put hQ hp d hn⟩, h3⟩
theorem MapA.at_ {w : World} {b : Nat} {Q : List (Nat × Nat)} (h : MapA w b Q) {p d : Nat} (hp : p < 256) (hd : (p, d) ∈ Q) {x y : Nat} (hx : x = p / 16) (hy : y = p % 16) :
    (Instr.lookup 82 (.map (some b)) (.agg #[.int .i64 (x : Nat), .int .i64 (y : Nat)]) false).run Tryd.prog w = .ok (.int .i64 (d : Nat)) w := by
  subst hx; subst hy
  obtain ⟨D, h, hl⟩ := h
  obtain ⟨c, h1, h2, _⟩ := h.lookup_int (t := 82) keyed_arrow Tryd.underlying82 Tryd.underlying3 (by kernel_rfl) (key := valA p) (keyOf_valA hp)
  rw [hl.at_ p d hd] at h2
  obtain rfl : (d : Int) = c := by simpa using h2
  exact h1
end
end
section
section
theorem below_dr {B : Nat} {a W : World} (h : Below B a W) : Below B a W.drew := h.trans (Drawn.below (a := W) (b := W.drew) ⟨1, rfl⟩ B)
theorem MapA.drewA {w : World} {b : Nat} {Q : List (Nat × Nat)} (h : MapA w b Q) : MapA w.drew b Q := h.past (Drawn.below (a := w) (b := w.drew) ⟨1, rfl⟩ (b + 1)) (Nat.lt_succ_self _)
theorem addAll_zero0 (d : Nat) (Q : List (Nat × Nat)) (L : List Nat) : addAll d Q (L.take 0) = Q := by rw [List.take_zero]; rfl
theorem MapA.cell_ne {w : World} {b : Nat} {Q : List (Nat × Nat)} (h : MapA w b Q) {p : Addr} {v : Value} (hc : w.cell? p = some v) : p.block ≠ b := by
  obtain ⟨D, ⟨es, clock, hb, _⟩, _⟩ := h
  intro e
  subst e
  simp [World.cell?, hb] at hc
theorem cellG {w w' : World} {b : Nat} {Q : List (Nat × Nat)} (h : MapA w b Q) (hg : w.grownBy w' (some b)) {p : Addr} {v : Value} (hc : w.cell? p = some v) : w'.cell? p = some v :=
  (World.cell?_of_block (w := w) (hg.block p.block (World.block_lt_of_cell? _ _ hc) (fun e => h.cell_ne hc (by simpa using e)))).trans hc
theorem ownA_one (W : World) (x : Nat) (u1 u2 : Value) (h1 : u1 = .int .i64 (x / 16 : Nat)) (h2 : u2 = .int .i64 (x % 16 : Nat)) : OwnA (W.alloc (.cells #[u1, u2] 78)) W.heap.size (.slice (some ⟨W.heap.size, 0, none⟩) 1 1) [x] := by
  subst h1; subst h2
  exact OwnA.of_block (L := [x]) (Nat.le_refl _) (cur := #[.int .i64 (x / 16 : Nat), .int .i64 (x % 16 : Nat)]) (by show (W.heap.push _)[W.heap.size]? = _; simp) (Nat.le_refl _) (by decide) rfl rfl
theorem bq_zero (A : List Nat) (x : Nat) : bq A x 0 = [(x, 0)] := rfl
attribute [local irreducible] frL bq addAll bqE
def FfStart (w0 : World) (x : Nat) (m l : Value) (wc : World) : Prop := ∃ bm, m = .map (some bm) ∧ w0.heap.size ≤ bm ∧ MapA wc bm [(x, 0)] ∧ OwnA wc w0.heap.size l [x] ∧ (∃ g, l.ownBlock = some g) ∧ Below w0.heap.size w0 wc
set_option maxRecDepth 100000 in
set_option maxHeartbeats 8000000 in
theorem forcedFrom_any (a : Option Addr) (A : List Nat) (n c p q x : Nat) (w : World) (hx : cod p q = x) (hA : GA n A) (hr : Rd maskF w a A) (hp : p < n) (hq : q < n) (hT : TabOk w) :
    Calls Tryd.prog 77 #[.slice a n c, .agg #[.int .i64 p, .int .i64 q]] w fun e w' => ∃ bm, e = .returned (.map (some bm)) ∧ w.heap.size ≤ bm ∧ MapA w' bm (bqE A x) ∧ Below w.heap.size w w' := by
  have RA := hid hr; have RT := hid hT; have HA := hid hA
  have h16 := hA.le
  have hx256 : x < 256 := by rw [← hx]; unfold cod; omega
  have hxa : p = x / 16 := by rw [← hx, cod_div (by omega)]
  have hxb : q = x % 16 := by rw [← hx, cod_mod (by omega)]
  have HQ := hid (fun k => bq_ok (A := A) hx256 k)
  have HQI := hid (fun k => bq_in hA (x := x) (by rw [← hxa]; exact hp) (by rw [← hxb]; exact hq) k)
  have HEND := hid (fun k (hk : (bq A x k).length = k) => bq_end (A := A) hx256 hk)
  have HPA := hid (show Value.int .i64 (p : Int) = .int .i64 (x / 16 : Nat) by rw [hxa])
  have HPB := hid (show Value.int .i64 (q : Int) = .int .i64 (x % 16 : Nat) by rw [hxb])
  clear hr hT hA
  obtain ⟨w0, hw0⟩ : ∃ w0, w0 = (w.alloc (.cells #[.int .i64 (p : Int), .int .i64 (q : Int)] 78)) := ⟨_, rfl⟩
  have B0 := hid (show Below w.heap.size w w0 by rw [hw0]; exact ((Below.refl _ _).alloc (Nat.le_refl _) _))
  have c0 : w0.cell? ⟨w.heap.size, 0, none⟩ = some (.int .i64 (p : Int)) := by rw [hw0]; simp [go_sem]
  have c0a : w0.cell? ⟨w.heap.size, 1, none⟩ = some (.int .i64 (q : Int)) := by rw [hw0]; simp [go_sem]
  replace RA := hid (RA.out.below B0.out (Nat.le_refl _))
  replace RT := hid (RT.out.below B0.out (Nat.le_refl _))
  have HW := hid hw0; clear hw0
  have HC0 := hid c0; have HC0a := hid c0a
  have RT0 := hid RT.out; have RA0 := hid RA.out; have B00 := hid B0.out
  have hsz0 : w0.heap.size = w.heap.size + 1 := by rw [HW.out]; simp
  have hle0 : w.heap.size ≤ w0.heap.size := by omega
  clear hsz0
  have hbd : Below w0.heap.size w0 w0.drew := Drawn.below ⟨1, rfl⟩ _
  have hq0 : QOk ([] : List (Nat × Nat)) := ⟨List.nodup_nil, fun p hp => by cases hp⟩
  -- the three orders
  have mA := (MapA.made w0).drewA
  obtain ⟨wA, hA1, hA2, hA3⟩ := mA.put hq0 hx256 (by simp) (d := 0) (by decide) hxa hxb
  have bA0 : Below w0.heap.size w0 (w0.alloc (.map #[] 0)).drew := below_dr (alloc_below w0 _)
  have bA : Below w0.heap.size w0 wA := bA0.trans (grown_below hA3 bA0.size (fun k hk => by cases hk; exact Nat.le_refl _))
  have mB : MapA ((w0.alloc (.map #[] 0)).alloc (.cells #[.int .i64 p, .int .i64 q] 78)).drew w0.heap.size [] := ((MapA.made w0).kept (World.grownBy_alloc _ _ none) (by simp)).drewA
  obtain ⟨wB, hB1, hB2, hB3⟩ := mB.put hq0 hx256 (by simp) (d := 0) (by decide) hxa hxb
  have bB0 : Below w0.heap.size w0 ((w0.alloc (.map #[] 0)).alloc (.cells #[.int .i64 p, .int .i64 q] 78)).drew := below_dr ((alloc_below w0 _).alloc (by simp) _)
  have bB : Below w0.heap.size w0 wB := bB0.trans (grown_below hB3 bB0.size (fun k hk => by cases hk; exact Nat.le_refl _))
  have mC := (MapA.made (w0.alloc (.cells #[.int .i64 p, .int .i64 q] 78))).drewA
  obtain ⟨wC, hC1, hC2, hC3⟩ := mC.put hq0 hx256 (by simp) (d := 0) (by decide) hxa hxb
  have bC0 : Below w0.heap.size w0 (w0.alloc (.cells #[.int .i64 p, .int .i64 q] 78)).drew := below_dr (alloc_below w0 _)
  have bC1 : Below w0.heap.size w0 ((w0.alloc (.cells #[.int .i64 p, .int .i64 q] 78)).alloc (.map #[] 0)).drew := below_dr ((alloc_below w0 _).alloc (by simp) _)
  have bC : Below w0.heap.size w0 wC := bC1.trans (grown_below hC3 bC1.size (fun k hk => by cases hk; simp))
  have SA := hid (show FfStart w0 x (.map (some w0.heap.size)) (.slice (some ⟨wA.heap.size, 0, none⟩) 1 1) (wA.alloc (.cells #[.int .i64 p, .int .i64 q] 78)) from
    ⟨_, rfl, Nat.le_refl _, hA2.kept (World.grownBy_alloc _ _ none) (by simp), (ownA_one wA x _ _ HPA.out HPB.out).base bA.size, ⟨_, rfl⟩, bA.alloc bA.size _⟩)
  have SB := hid (show FfStart w0 x (.map (some w0.heap.size)) (.slice (some ⟨w0.heap.size + 1, 0, none⟩) 1 1) wB from
    ⟨_, rfl, Nat.le_refl _, hB2, by
      have h1 := ownA_one (w0.alloc (.map #[] 0)) x _ _ HPA.out HPB.out
      have h2 := ((h1.base (B' := w0.heap.size) (by simp)).past (Drawn.below ⟨1, rfl⟩ _) (Nat.le_refl _)).free mB hB3
      simpa using h2, ⟨_, rfl⟩, bB⟩)
  have SC := hid (show FfStart w0 x (.map (some (w0.heap.size + 1))) (.slice (some ⟨w0.heap.size, 0, none⟩) 1 1) wC from
    ⟨_, rfl, Nat.le_succ _, by simpa using hC2, by
      have h1 := ownA_one w0 x _ _ HPA.out HPB.out
      exact (((h1.past (alloc_below _ (.map #[] 0)) (Nat.le_refl _))).past (Drawn.below ⟨1, rfl⟩ _) (Nat.le_refl _)).free mC hC3, ⟨_, rfl⟩, bC⟩)
  have hA1' : (Instr.mapUpdate 82 (.map (some w0.heap.size)) (.agg #[.int .i64 (p : Int), .int .i64 (q : Int)]) (.int .i64 0)).run Tryd.prog (w0.alloc (.map #[] 0)).drew = .ok () wA := hA1
  have hB1' : (Instr.mapUpdate 82 (.map (some w0.heap.size)) (.agg #[.int .i64 (p : Int), .int .i64 (q : Int)]) (.int .i64 0)).run Tryd.prog ((w0.alloc (.map #[] 0)).alloc (.cells #[.int .i64 p, .int .i64 q] 78)).drew = .ok () wB := hB1
  have hC1' : (Instr.mapUpdate 82 (.map (some (w0.heap.size + 1))) (.agg #[.int .i64 (p : Int), .int .i64 (q : Int)]) (.int .i64 0)).run Tryd.prog ((w0.alloc (.cells #[.int .i64 p, .int .i64 q] 78)).alloc (.map #[] 0)).drew = .ok () wC := by
    have := hC1
    simpa using this
  have f0 := cellB hbd HC0.out (Nat.le_refl _)
  have f1 := cellB hbd HC0a.out (Nat.le_refl _)
  have FA := hid (And.intro (cellB bA HC0.out (Nat.le_refl _)) (cellB bA HC0a.out (Nat.le_refl _)))
  have FB := hid (And.intro (cellB bB HC0.out (Nat.le_refl _)) (cellB bB HC0a.out (Nat.le_refl _)))
  have FC := hid (And.intro (cellB bC HC0.out (Nat.le_refl _)) (cellB bC HC0a.out (Nat.le_refl _)))
  have FA0 := hid (And.intro (cellB bA0 HC0.out (Nat.le_refl _)) (cellB bA0 HC0a.out (Nat.le_refl _)))
  have FB0 := hid (And.intro (cellB bB0 HC0.out (Nat.le_refl _)) (cellB bB0 HC0a.out (Nat.le_refl _)))
  have FC0 := hid (And.intro (cellB bC0 HC0.out (Nat.le_refl _)) (cellB bC0 HC0a.out (Nat.le_refl _)))
  have FC1 := hid (And.intro (cellB bC1 HC0.out (Nat.le_refl _)) (cellB bC1 HC0a.out (Nat.le_refl _)))
  have FA2 := hid (And.intro (cellB (bA.alloc bA.size (.cells #[.int .i64 (p : Int), .int .i64 q] 78)) HC0.out (Nat.le_refl _)) (cellB (bA.alloc bA.size (.cells #[.int .i64 (p : Int), .int .i64 q] 78)) HC0a.out (Nat.le_refl _)))
  clear mA mB mC hA1 hB1 hC1 hA2 hB2 hC2 hA3 hB3 hC3 bA bB bC bA0 bB0 bC0 bC1 hbd hq0 c0 c0a hxa hxb hx
  have hmm := @run_makeMap Tryd.prog
  go_enter Tryd.func77, Tryd.ntmps77
  go_upto_region 1 with fail
  rw [← HW.out]
  go_cut [5, 6] from 12 (fun m l wc => FfStart w0 x m l wc)
  case first =>
    go_region_held3 (fun w' => w'.cell? ⟨w.heap.size, 0, none⟩ = some (.int .i64 p) ∧ w'.cell? ⟨w.heap.size, 1, none⟩ = some (.int .i64 q)) (first | exact ⟨f0, f1⟩ | exact FA.out | exact FB.out | exact FC.out | exact FA0.out | exact FB0.out | exact FC0.out | exact FC1.out | exact FA2.out) ((first | fail))
    all_goals (go_wp2_with fail; go_meet)
    all_goals (first | exact SA.out | exact SB.out | exact SC.out)
  case rest =>
    clear hA1' hB1' hC1' SA SB SC FA FB FC FA0 FB0 FC0 FC1 FA2 f0 f1 hmm RA RT B0
    obtain ⟨bm, rfl, hbm, hM, hL, hog, hbl⟩ := hcut
    have MST := hid hM; have LST := hid hL; have GST := hid hog; have BST := hid hbl
    clear hM hL hog hbl
    go_wp2
    go_loopw [6, 7] (fun l i wr => ∃ k : Nat, i = .int .i64 k ∧ k ≤ (bq A x k).length ∧ OwnA wr w0.heap.size l ((bq A x k).map Prod.fst) ∧ (∃ g, l.ownBlock = some g) ∧ MapA wr bm (bq A x k) ∧ Below w0.heap.size w0 wr) (fun _ i _ => 257 - (intOf i).toNat)
    case atStart => exact ⟨0, rfl, Nat.zero_le _, by rw [bq_zero]; exact LST.out, GST.out, by rw [bq_zero]; exact MST.out, BST.out⟩
    case round =>
      clear MST LST GST BST
      obtain ⟨k, rfl, hk, ho, hog, hm, hb⟩ := hrel
      obtain ⟨g, cap, rfl⟩ := ownA_slice ho hog
      rw [List.length_map] at ho ⊢
      have OL := hid ho; have MM := hid hm; have BL := hid hb
      have hq256 := (HQ.out k).len
      have HDI := hid (bq_dist A x k)
      have HQK := hid (HQ.out k)
      have HQN := hid (HQI.out k)
      have HND := hid (HEND.out k)
      have HSM := hid (fun (h : k < (bq A x k).length) => bq_some h)
      generalize hQg : bq A x k = Q at *
      clear hQg ho hog hm
      by_cases hlt : k < Q.length
      · have hki : (k : Int) < (Q.length : Int) := by omega
        have hNX := HSM.out hlt
        have HNX := hid hNX
        have HQm := hid (List.getElem_mem hlt)
        have hmem := HQm.out
        have hin := HQN.out _ hmem
        have hdk := HDI.out _ hmem
        have hy256 := HQK.out.2 _ hmem
        have hge : (Q.map Prod.fst)[k]'(by simpa using hlt) = Q[k].1 := by simp
        clear hNX HSM HND
        have hgy0 : Q[k] = Q[k] := rfl
        generalize hyd : Q[k] = yd at *
        obtain ⟨y, d⟩ := yd
        have hgy : (Q[k]).1 = y := by rw [hyd]
        simp only at hin hdk hy256 hge hmem
        clear hyd hgy0
        obtain ⟨ya, hya⟩ : ∃ ya, ya = y / 16 := ⟨_, rfl⟩
        obtain ⟨yb, hyb⟩ : ∃ yb, yb = y % 16 := ⟨_, rfl⟩
        have hyc : cod ya yb = y := by rw [hya, hyb]; exact cod_self y
        have hyb16 : yb < 16 := by omega
        have hyan : ya < n := by rw [hya]; exact hin.1
        have hybn : yb < n := by rw [hyb]; exact hin.2
        have HYA := hid hya; have HYB := hid hyb; have HYC := hid hyc; have HYD := hid hmem
        obtain ⟨cy0, cy1⟩ := OL.out.two (k := k) (by simpa using hlt) (hyc.trans hge.symm) hyb16
        have RA := hid (RA0.out.below hb (Nat.le_refl _)); have RT := hid (RT0.out.below hb (Nat.le_refl _))
        have hszr := hb.size
        have HGK := hid hgy
        clear hin hya hyb hyc hmem hge hgy
        go_wp2_with (go_at_call 74; refine (forces_x a A n c y ya yb _ HYC.out HA.out RA.out hyan hybn RT.out).mono ?_; rintro e w5 ⟨fg, fc, rfl, hown, hb5⟩; have OF := hid hown; have OL5 := hid (OL.out.past hb5 (Nat.le_refl _)); have MM5 := hid (MM.out.past hb5 MM.out.lt); have BL5 := hid (bon BL.out hb5); have hfg : g ≠ fg := (by have h1 := OL.out.lt g rfl; have h2 := hown.ge fg rfl; omega); have HFG := hid hfg; clear hown hb5 hfg)
        go_loopw [6, 30] (fun l ix wq => ∃ j : Nat, ix = .int .i64 j ∧ j ≤ (frL A y).length ∧ OwnA wq w0.heap.size l ((addAll (d + 1) Q ((frL A y).take j)).map Prod.fst) ∧ (∃ g, l.ownBlock = some g) ∧ l.ownBlock ≠ some fg ∧ MapA wq bm (addAll (d + 1) Q ((frL A y).take j)) ∧ OwnA wq w0.heap.size (.slice (some ⟨fg, 0, none⟩) (frL A y).length fc) (frL A y) ∧ Below w0.heap.size w0 wq) (fun _ ix _ => (frL A y).length - (intOf ix).toNat)
        case atStart => exact ⟨0, rfl, Nat.zero_le _, by rw [addAll_zero0]; exact OL5.out, ⟨_, rfl⟩, (fun e => HFG.out (by simpa [Value.ownBlock] using e)), by rw [addAll_zero0]; exact MM5.out, OF.out.base hszr, BL5.out⟩
        case round =>
          obtain ⟨j, rfl, hj, ho, hog, hsep, hm, hf, hb2⟩ := hrel
          obtain ⟨g2, cap2, rfl⟩ := ownA_slice ho hog
          rw [List.length_map] at ho hsep hog ⊢
          have hQ2 := addAll_ok (d := d + 1) (L := (frL A y).take j) HQK.out (fun z hz => frL_lt (List.mem_of_mem_take hz))
          have hpre := addAll_pre (d + 1) ((frL A y).take j) Q
          have HSN := hid (fun z => addAll_snoc (d + 1) Q ((frL A y).take j) z)
          generalize hQe : addAll (d + 1) Q ((frL A y).take j) = Q2 at *
          have HQ2 := hid hQ2; have HQE := hid hQe
          have hq2 := hQ2.len
          have hsz2 := hb2.size
          have hyd2 : (y, d) ∈ Q2 := hpre.subset HYD.out
          have hk2 : k < Q2.length := Nat.lt_of_lt_of_le hlt hpre.length_le
          have hgk : (Q2.map Prod.fst)[k]'(by simpa using hk2) = y := by
            have h1 := hpre.getElem hlt
            have h2 := HGK.out
            rw [List.getElem_map, ← h1, h2]
          have HGK2 := hid hgk; have HYD2 := hid hyd2
          have OQ := hid ho; have MQ := hid hm; have FQ := hid hf; have BQ := hid hb2; have HSEP := hid hsep
          clear hQ2 hpre hQe hyd2 hgk ho hog hm hf hsep OL MM BL OL5 MM5 BL5 OF HFG cy0 cy1 hszr
          by_cases hlt2 : j < (frL A y).length
          · have hji : (j : Int) < ((frL A y).length : Int) := by omega
            have hfl256 := frL_lenS A y
            have HTK := hid (List.take_succ_eq_append_getElem hlt2)
            have hz256 := frL_lt (List.getElem_mem hlt2)
            obtain ⟨z, hzz⟩ : ∃ z, z = (frL A y)[j]'hlt2 := ⟨_, rfl⟩
            rw [← hzz] at hz256 HTK
            obtain ⟨za, hza⟩ : ∃ za, za = z / 16 := ⟨_, rfl⟩
            obtain ⟨zb, hzb⟩ : ∃ zb, zb = z % 16 := ⟨_, rfl⟩
            have hzc : cod za zb = z := by rw [hza, hzb]; exact cod_self z
            have hzb16 : zb < 16 := by omega
            have HZA := hid hza; have HZB := hid hzb
            have HZV := hid (show Value.int .i64 (za : Int) = .int .i64 (z / 16 : Nat) by rw [hza])
            have HZW := hid (show Value.int .i64 (zb : Int) = .int .i64 (z % 16 : Nat) by rw [hzb])
            obtain ⟨cz0, cz1⟩ := FQ.out.two (k := j) hlt2 (hzc.trans hzz) hzb16
            have HST := hid (show addAll (d + 1) Q ((frL A y).take (j + 1)) = addQ (d + 1) Q2 z by rw [HTK.out]; exact HSN.out z)
            obtain ⟨wb, hwb⟩ : ∃ wb, wb = wr.alloc (.cells #[.int .i64 (za : Int), .int .i64 (zb : Int)] 78) := ⟨_, rfl⟩
            have hbA : Below wr.heap.size wr wb := hwb ▸ alloc_below _ _
            have cb0 : wb.cell? ⟨wr.heap.size, 0, none⟩ = some (.int .i64 (za : Int)) := by rw [hwb]; simp [go_sem]
            have cb1 : wb.cell? ⟨wr.heap.size, 1, none⟩ = some (.int .i64 (zb : Int)) := by rw [hwb]; simp [go_sem]
            have MB := hid (MQ.out.past hbA MQ.out.lt)
            have OB := hid (OQ.out.past hbA (Nat.le_refl _))
            have FB := hid (FQ.out.past hbA (Nat.le_refl _))
            have BB := hid (bon BQ.out hbA)
            obtain ⟨ck0, ck1⟩ := OB.out.two (k := k) (by simpa using hk2) (HYC.out.trans HGK2.out.symm) hyb16
            have HWB := hid hwb
            have HLT2 := hid (show j + 1 ≤ (frL A y).length from hlt2)
            clear hzz hza hzb hzc hwb hbA
            by_cases hz : z ∈ Q2.map Prod.fst
            · have hdz : decide (z ∈ Q2.map Prod.fst) = true := by rw [decide_eq_true_iff]; exact hz
              have HS2 := hid (show addAll (d + 1) Q ((frL A y).take (j + 1)) = Q2 from HST.out.trans (addQ_there hz))
              clear hz
              go_wp2_with (at_lookup; rw [← HWB.out]; refine law_mapOk wb rfl _ _ rfl bm Q2 rfl MB.out z hz256 _ _ rfl HZV.out HZW.out ?_; intro cc _)
              go_roundw
              case rel => exact ⟨j + 1, by go_num, HLT2.out, by rw [HS2.out]; exact OB.out, ⟨_, rfl⟩, HSEP.out, by rw [HS2.out]; exact MB.out, FB.out, BB.out⟩
              case measure => have hlt3 := HLT2.out; simp [intOf]; omega
            · have hdz : decide (z ∈ Q2.map Prod.fst) = false := by rw [decide_eq_false_iff_not]; exact hz
              have HS2 := hid (show addAll (d + 1) Q ((frL A y).take (j + 1)) = Q2 ++ [(z, d + 1)] from HST.out.trans (addQ_new hz))
              have MD := hid MB.out.drewA
              have hbD : Below wb.heap.size wb wb.drew := Drawn.below ⟨1, rfl⟩ _
              have OD := hid (OB.out.past hbD (Nat.le_refl _))
              have FD := hid (FB.out.past hbD (Nat.le_refl _))
              have BD := hid (bon BB.out hbD)
              have hlk := MD.out.at_ (p := y) (d := d) hy256 HYD2.out HYA.out HYB.out
              obtain ⟨wu, hu1, hu2, hu3⟩ := MD.out.put HQ2.out (p := z) (d := d + 1) hz256 hz (by omega) HZA.out HZB.out
              have hu1' : (Instr.mapUpdate 82 (.map (some bm)) (.agg #[.int .i64 (za : Int), .int .i64 (zb : Int)]) (.int .i64 ((d : Int) + 1))).run Tryd.prog wb.drew = .ok () wu := hu1
              have hwr : IntKind.i64.wrap ((d : Int) + 1) = (d : Int) + 1 := IntWalk.i64_in _ (by omega)
              have D3 : Drawn wb wb.drew := ⟨1, rfl⟩
              have f0 := dcell D3 cb0
              have f1 := dcell D3 cb1
              have f2 := dcell D3 ck0
              have f3 := dcell D3 ck1
              have k0 := cellG MD.out hu3 f0
              have k1 := cellG MD.out hu3 f1
              have k2 := cellG MD.out hu3 f2
              have k3 := cellG MD.out hu3 f3
              have MU := hid hu2
              have OU := hid (OD.out.free MD.out hu3)
              have FU := hid (FD.out.free MD.out hu3)
              have BU := hid (BD.out.trans (grown_below hu3 BD.out.size (fun b hb => by cases hb; exact hbm)))
              have hsu := BU.out.size
              have hki2 : (k : Int) < (Q2.length : Int) := by omega
              have HLL := hid (show (Q2.map Prod.fst).length < 1099511627776 by rw [List.length_map]; omega)
              clear hz hu1 hu2 hu3 hbD ck0 ck1
              go_wp2_with (at_lookup; rw [← HWB.out]; refine law_mapOk wb rfl _ _ rfl bm Q2 rfl MB.out z hz256 _ _ rfl HZV.out HZW.out ?_; intro cc _)
              go_region_held3 (fun w' => w'.cell? ⟨wr.heap.size, 0, none⟩ = some (.int .i64 za) ∧ w'.cell? ⟨wr.heap.size, 1, none⟩ = some (.int .i64 zb) ∧ w'.cell? ⟨g2, k * 2, none⟩ = some (.int .i64 ya) ∧ w'.cell? ⟨g2, k * 2 + 1, none⟩ = some (.int .i64 yb)) (first | exact ⟨f0, f1, f2, f3⟩ | exact ⟨k0, k1, k2, k3⟩) ((first | fail))
              clear f0 f1 f2 f3 hlk hu1'
              go_wp2_with (at_builtin; refine law_pushA_w tArrows _ rfl _ _ rfl w0.heap.size _ _ rfl OU.out z _ rfl rfl _ _ HZV.out HZW.out HLL.out hsu ?_; intro v' w8 h1 h2 h3)
              have O8 := hid h1
              have M8 := hid (MU.out.kept h2 (MU.out.neOwn OU.out))
              have F8 := hid (FU.out.kept h2 (.inr (fun e => HSEP.out e.symm)))
              have B8 := hid (BU.out.trans (grown_below h2 hsu (fun b hb => OU.out.ge b hb)))
              have S8 := hid (show v'.ownBlock ≠ some fg from fun e => by
                rcases h3 with h4 | h4
                · exact HSEP.out (h4.symm.trans e)
                · have h5 := FU.out.lt fg rfl
                  rw [h4] at e
                  have : wu.heap.size + 1 = fg := by simpa using e
                  omega)
              clear h1 h2 h3
              go_wp2
              go_roundw
              case rel => exact ⟨j + 1, by go_num, HLT2.out, by rw [HS2.out, List.map_append]; exact O8.out, ownA_some O8.out (by simp), S8.out, by rw [HS2.out]; exact M8.out, F8.out, B8.out⟩
              case measure => have hlt3 := HLT2.out; simp [intOf]; omega
          · obtain rfl : j = (frL A y).length := by omega
            have HE2 := hid (show bq A x (k + 1) = Q2 by rw [HNX.out, ← HQE.out, List.take_length])
            go_wp2
            go_roundw
            case rel => exact ⟨k + 1, by go_num, by rw [HE2.out]; exact hk2, by rw [HE2.out]; exact OQ.out, ⟨_, rfl⟩, by rw [HE2.out]; exact MQ.out, BQ.out⟩
            case measure => simp [intOf]; omega
      · obtain rfl : k = Q.length := by omega
        have hE := HND.out rfl
        go_wp2
        go_ret
        exact ⟨bm, rfl, by omega, hE ▸ MM.out, B00.out.trans (BL.out.mono hle0)⟩
end
end
end
section
section
noncomputable def forcedR (g : List (List Int)) (u v : Int) : List (List Int) := if EdgeP g u v then (keyL (bqE (g.map maskL) (cod u.toNat v.toNat))).map prI else []
/-- Sorted, what has come is all. -/
theorem keys_sorted {Q : List (Nat × Nat)} (h : QOk Q) {L L' : List Nat} (hn : L.Nodup) (hs : ∀ p ∈ L, p ∈ Q.map Prod.fst) (ha : ∀ p ∈ Q.map Prod.fst, p ∈ L) (hp : L'.Perm L) (ho : L'.Pairwise (· ≤ ·)) : L' = keyL Q := by
  apply sortedN_ext _ (keyL_sorted Q) (fun y => by rw [hp.mem_iff, keyL_mem h]; exact ⟨hs y, ha y⟩)
  exact (ho.and (hp.nodup_iff.2 hn)).imp (fun ⟨h1, h2⟩ => Nat.lt_of_le_of_ne h1 h2)
theorem RngA.facts {w : World} {b r : Nat} {Q : List (Nat × Nat)} {L : List Nat} (h : RngA w b r Q L) : L.Nodup ∧ ∀ p ∈ L, p ∈ Q.map Prod.fst := by
  obtain ⟨n, D, left, cnt, _, _, _, h1, h2, _⟩ := h
  exact ⟨h1, h2⟩
theorem keyL_len (Q : List (Nat × Nat)) : (keyL Q).length ≤ 256 := by
  have : (keyL Q).length ≤ (List.range 256).length := List.length_filter_le _ _
  simpa using this
theorem law_nextH {ops : Array Oper} {rest : List Oper} {o : Oper} {a : Act} {K : Exit → Act → World → Prop} (w : World) (hg : o.guard = none) (it : Operand) (hop : o.op = Op.next it false) (b r : Nat) (Q : List (Nat × Nat)) (hQ : QOk Q) (L : List Nat) (hit : a.eval it = .pointer (some ⟨r, 0, none⟩)) (h : RngA w b r Q L)
    (hDone : Hid (∀ p ∈ Q.map Prod.fst, p ∈ L) → wpList Tryd.prog ops K rest (a.put o.dst (.tuple #[.bool false])) w)
    (hMore : ∀ (p pa pb : Nat) (c : Int) (w' : World), Hid (pa = p / 16 ∧ pb = p % 16 ∧ p ∈ Q.map Prod.fst ∧ p ∉ L ∧ RngA w' b r Q (L ++ [p]) ∧ w'.rangeLeft b r < w.rangeLeft b r ∧ w.grownBy w' (some r) ∧ w'.heap.size = w.heap.size) → (Instr.entry (.pointer (some ⟨r, 0, none⟩))).run Tryd.prog w' = .ok (.tuple #[.agg #[.int .i64 (pa : Int), .int .i64 (pb : Int)], .int .i64 c]) w' → wpList Tryd.prog ops K rest (a.put o.dst (.tuple #[.bool true, .agg #[.int .i64 (pa : Int), .int .i64 (pb : Int)], .int .i64 c])) w') :
    wpList Tryd.prog ops K (o :: rest) a w :=
  law_nextA w hg it hop b r Q hQ L hit h (fun h => hDone (hid h)) (fun p c w' h1 h2 h3 h4 h5 h6 h7 => hMore p _ _ c w' (hid ⟨rfl, rfl, h1, h2, h3, h4, h5, h6⟩) h7)
theorem forcedR_small (g : List (List Int)) (u v : Int) : SmallZ (forcedR g u v) := by
  unfold forcedR
  split
  · refine ⟨by rw [List.length_map]; exact Nat.le_trans (keyL_len _) (by decide), fun r hr => ?_⟩
    obtain ⟨p, _, rfl⟩ := List.mem_map.1 hr
    simp [prI]
  · exact ⟨by decide, fun r hr => by cases hr⟩
attribute [local irreducible] frL bq addAll bqE keyL
theorem result_any (x : Nat) (u v : Nat) (w : World) (hu : u = x / 16) (hv : v = x % 16) :
    Calls Tryd.prog 80 #[.agg #[.int .i64 u, .int .i64 v]] w fun e w' => ∃ g, e = .returned (.slice (some ⟨g, 0, none⟩) 2 2) ∧ Own 2 w' w.heap.size (.slice (some ⟨g, 0, none⟩) 2 2) ((prI x).map (.int .i64)) ∧ Below w.heap.size w w' := by
  have HP := hid (show [Value.int .i64 (u : Int), .int .i64 (v : Int)] = (prI x).map (.int .i64) by unfold prI; rw [hu, hv]; rfl)
  have hb0 := alloc_below w (.cells #[.int .i64 (u : Int), .int .i64 (v : Int)] 78)
  have ON := hid (own_new 2 (w.alloc (.cells #[.int .i64 (u : Int), .int .i64 (v : Int)] 78)) [.int .i64 (u : Int), .int .i64 (v : Int)] (show (2 : Nat) ≤ maxLen by decide))
  have hb1 := hid (hb0.alloc (by simp) (.cells #[.int .i64 (u : Int), .int .i64 (v : Int)] 2))
  have hsz : (w.alloc (.cells #[.int .i64 (u : Int), .int .i64 (v : Int)] 78)).heap.size = w.heap.size + 1 := by simp
  clear hu hv
  rw [hsz] at ON
  have ON2 := hid (show Own 2 ((w.alloc (.cells #[.int .i64 (u : Int), .int .i64 (v : Int)] 78)).alloc (.cells #[.int .i64 (u : Int), .int .i64 (v : Int)] 2)) w.heap.size (.slice (some ⟨w.heap.size + 1, 0, none⟩) 2 2) ((prI x).map (.int .i64)) by rw [← HP.out]; exact ON.out.base (Nat.le_succ _))
  clear hsz hb0 ON
  go_enter Tryd.func80, Tryd.ntmps80
  go_wp2
  go_ret
  exact ⟨_, rfl, ON2.out, hb1.out⟩
set_option maxRecDepth 100000 in
set_option maxHeartbeats 8000000 in
theorem implForcedBy_any (a : Option Addr) (rs : List Row) (c : Nat) (u v : Int) (w : World) (hr : RdM w a rs) (hn : Small rs) (_hu : I64 u) (_hv : I64 v) (hT : TabOk w) :
    Calls Tryd.prog 23 #[.agg #[.slice a rs.length c], .int .i64 u, .int .i64 v] w (RetOwnM 41 2 (forcedR (nums rs) u v) w) := by
  have RA := hid hr; have RT := hid hT; clear hr hT _hu _hv
  obtain ⟨w0, hw0⟩ : ∃ w0, w0 = (w.alloc (.cells #[.slice a rs.length c] 28)) := ⟨_, rfl⟩
  have B0 := hid (show Below w.heap.size w w0 by rw [hw0]; exact ((Below.refl _ _).alloc (Nat.le_refl _) _))
  have c0 : w0.cell? ⟨w.heap.size, 0, none⟩ = some (.slice a rs.length c) := by rw [hw0]; simp [go_sem]
  replace RA := hid (RA.out.below B0.out (Nat.le_refl _))
  replace RT := hid (RT.out.below B0.out (Nat.le_refl _))
  have HW := hid hw0; clear hw0
  by_cases he : EdgeP (nums rs) u v
  · have H1 := hid (show decide (EdgeP (nums rs) u v) = true by simpa using he)
    have HR := hid (show forcedR (nums rs) u v = (keyL (bqE ((nums rs).map maskL) (cod u.toNat v.toNat))).map prI by unfold forcedR; rw [if_pos he])
    have HG := hid he.1.1
    obtain ⟨⟨hg, hu0, hu1⟩, hv⟩ := he
    have hv2 := row_mem hg hu0 hu1 hv
    have hg16 := hg.le
    rw [nums_length] at hu1 hg16 hv2
    obtain ⟨p, rfl⟩ := Int.eq_ofNat_of_zero_le hu0
    obtain ⟨q, rfl⟩ := Int.eq_ofNat_of_zero_le hv2.1
    have hpn : p < rs.length := by omega
    have hqn : q < rs.length := by omega
    have HGA := hid (show GA rs.length ((nums rs).map maskL) by have := GA.of hg; rwa [nums_length] at this)
    have hx256 : cod p q < 256 := by unfold cod; omega
    have HQ := hid (show QOk (bqE ((nums rs).map maskL) (cod p q)) from by unfold bqE; exact bq_ok hx256 256)
    simp only [Int.toNat_natCast] at HR
    clear hg hu0 hu1 hv hv2 hx256
    obtain ⟨x, hx⟩ : ∃ x, x = cod p q := ⟨_, rfl⟩
    rw [← hx] at HQ HR
    have HX := hid hx
    clear hx
    go_enter Tryd.func23, Tryd.ntmps23
    go_wp2_with fail
    rw [← HW.out]
    go_wp2_with fail
    refine (implEdgeIn_c a rs c _ _ _ true H1.out RA.out hn).mono ?_
    rintro e w1 ⟨rfl, hb⟩
    replace RA := hid (RA.out.below hb (Nat.le_refl _))
    replace RT := hid (RT.out.below hb (Nat.le_refl _))
    replace B0 := hid (bon B0.out hb)
    replace c0 := cellB hb c0 (Nat.le_refl _)
    clear hb
    obtain ⟨wn, rfl⟩ : ∃ wn, wn = w1 := ⟨_, rfl⟩
    have OV0 := hid (OwnA.new wn)
    have hbv := alloc_below wn (.cells #[] 78)
    have BV0 := hid hbv
    have c0w := cellB hbv c0 (Nat.le_refl _)
    go_wp2_with fail
    obtain ⟨wv, hwv⟩ : ∃ wv, wv = wn.alloc (.cells #[] 78) := ⟨_, rfl⟩
    rw [← hwv] at OV0 BV0 hbv ⊢
    clear c0w
    have c0v := cellB hbv c0 (Nat.le_refl _)
    have RAv := hid (RA.out.below hbv (Nat.le_refl _)); have RTv := hid (RT.out.below hbv (Nat.le_refl _))
    clear hwv hbv
    refine (netsOf_any a rs c _ HG.out RAv.out hn).mono ?_
    rintro e w2 ⟨nv, rfl, hown, hb⟩
    obtain ⟨na, nc, rfl, hsr, _, _, _, _⟩ := Own.rd (f := netF) hown
    have RN := hid hsr.masks
    rw [nums_length]
    have OV2 := hid (OV0.out.past hb (Nat.le_refl _)); have BV2 := hid (bon BV0.out hb); have RT2 := hid (RTv.out.below hb (Nat.le_refl _))
    clear hown hsr hb c0v
    go_wp2_with fail
    refine (forcedFrom_any na _ rs.length nc p q x _ HX.out.symm HGA.out RN.out hpn hqn RT2.out).mono ?_
    rintro e w3 ⟨bm, rfl, hbm, hmp, hb⟩
    have OV3 := hid (OV2.out.past hb (Nat.le_refl _)); have BV3 := hid (bon BV2.out hb)
    have MP3 := hid hmp
    have hsz3 := BV3.out.size
    clear hb hmp
    generalize bqE ((nums rs).map maskL) x = Q at *
    go_wp2_with (at_range; refine law_rangeA w3 rfl _ rfl bm Q HQ.out rfl MP3.out ?_; intro w4 hrg hg4 hs4)
    go_frame
    have RG4 := hid hrg
    have hb4 : Below w3.heap.size w3 w4 := grown_below hg4 (Nat.le_refl _) (fun k hk => by cases hk)
    have OV4 := hid (OV3.out.past hb4 (Nat.le_refl _)); have BV4 := hid (bon BV3.out hb4)
    have HBM := hid (show bm < w3.heap.size from MP3.out.lt)
    clear hrg hg4 hs4 hb4
    go_loopw [7] (fun l wr => ∃ L : List Nat, RngA wr bm w3.heap.size Q L ∧ OwnA wr wn.heap.size l L ∧ (∃ g, l.ownBlock = some g) ∧ l.ownBlock ≠ some w3.heap.size ∧ Below wn.heap.size wn wr) (fun _ wr => wr.rangeLeft bm w3.heap.size)
    case atStart => exact ⟨[], RG4.out, OV4.out, ⟨_, rfl⟩, (fun e => by
      have h1 := OV3.out.lt wn.heap.size rfl
      have h2 : some wn.heap.size = some w3.heap.size := e
      injection h2 with h2
      omega), BV4.out⟩
    case round =>
      clear RG4 OV4 BV4
      obtain ⟨L, hrg, ho, hog, hns, hb⟩ := hrel
      have RG := hid hrg; have OO := hid ho; have OG := hid hog; have NS := hid hns; have BL := hid hb
      clear hrg ho hog hns
      go_wp2_with (at_next; refine law_nextH _ rfl _ rfl bm w3.heap.size Q HQ.out L rfl RG.out ?_ ?_)
      · intro HA0
        obtain ⟨f1, f2⟩ := RG.out.facts
        have HALL := hid (fun L' hp ho => keys_sorted HQ.out f1 f2 (fun p hp => by obtain ⟨pp, hpp, rfl⟩ := List.mem_map.1 hp; exact HA0.out pp.1 pp.2 hpp) (L' := L') hp ho)
        have HL256 := hid (show ∀ y ∈ L, y < 256 from fun y hy => by
          obtain ⟨pp, hpp, rfl⟩ := List.mem_map.1 (f2 y hy)
          exact HQ.out.2 pp hpp)
        have HLN := hid (show L.length < 1000000 from by
          have h1 : L.length ≤ (Q.map Prod.fst).length := f1.length_le_of_subset f2
          have h2 := HQ.out.len
          rw [List.length_map] at h1
          omega)
        clear f1 f2
        obtain ⟨gs, gcap, rfl⟩ := ownA_slice OO.out OG.out
        have hszr := BL.out.size
        go_wp2_with (go_at_call 78; refine (sortA_any wn.heap.size L HL256.out HLN.out gs gcap _ OO.out).mono ?_; rintro e w9 ⟨rfl, L', h1, h2, h3, h4⟩; have hE := HALL.out L' h1 h2; have hLL := h1.length_eq; subst hE; have O9 := hid h3; have HLL := hid hLL; have B9 := hid (BL.out.trans (grown_below h4 hszr (fun g hg => by cases hg; exact OO.out.ge gs rfl))); have OM9 := hid (show OwnM 41 2 (w9.alloc (.cells #[] 41)) w9.heap.size (.slice (some ⟨w9.heap.size, 0, none⟩) 0 0) [] from ⟨own_new 41 w9 [] (by decide), Inner.nil _ _ _⟩); have BM9 := hid (alloc_below w9 (.cells #[] 41)); clear h1 h2 h3 h4 hLL)
        generalize w9.alloc (.cells #[] 41) = wz at *
        go_loopw [9, 38] (fun o ix wr => ∃ (k : Nat) (rs2 : List Row), ix = .int .i64 k ∧ k ≤ L.length ∧ OwnM 41 2 wr w9.heap.size o rs2 ∧ nums rs2 = ((keyL Q).take k).map prI ∧ Below w9.heap.size w9 wr) (fun _ ix _ => L.length - (intOf ix).toNat)
        case atStart => exact ⟨0, [], rfl, Nat.zero_le _, OM9.out, by rw [List.take_zero]; rfl, BM9.out⟩
        case round =>
          clear OM9 BM9 RG OO OG NS BL
          obtain ⟨k, rs2, rfl, hk, hom, hnu, hb⟩ := hrel
          have OM := hid hom; have NU := hid hnu; have BW := hid hb
          have hszw := hb.size
          have hl256 : L.length ≤ 256 := by rw [← HLL.out]; exact keyL_len Q
          clear hom hnu
          by_cases hlt : k < L.length
          · have hki : (k : Int) < (L.length : Int) := by omega
            have hkL : k < (keyL Q).length := by rw [HLL.out]; exact hlt
            have HTK := hid (List.take_succ_eq_append_getElem hkL)
            obtain ⟨z, hzz⟩ : ∃ z, z = (keyL Q)[k]'hkL := ⟨_, rfl⟩
            rw [← hzz] at HTK
            obtain ⟨za, hza⟩ : ∃ za, za = z / 16 := ⟨_, rfl⟩
            obtain ⟨zb, hzb⟩ : ∃ zb, zb = z % 16 := ⟨_, rfl⟩
            have hzc : cod za zb = z := by rw [hza, hzb]; exact cod_self z
            obtain ⟨cz0', cz1'⟩ := O9.out.two (k := k) hkL (hzc.trans hzz) (by omega)
            have cz0 := cellB hb cz0' (Nat.le_refl _)
            have cz1 := cellB hb cz1' (Nat.le_refl _)
            obtain ⟨wb, hwb⟩ : ∃ wb, wb = wr.alloc (.cells #[.int .i64 (za : Int), .int .i64 (zb : Int)] 78) := ⟨_, rfl⟩
            have hbA : Below wr.heap.size wr wb := hwb ▸ alloc_below _ _
            have OMB := hid (OM.out.past hbA (Nat.le_refl _))
            have BWB := hid (bon BW.out hbA)
            have HRES := hid (result_any z za zb wb hza hzb)
            have HWB := hid hwb
            have HK1 := hid (show k + 1 ≤ L.length from hlt)
            clear hzz hza hzb hzc cz0' cz1' hwb hbA
            go_wp2_with (first | (go_at_call 80; rw [← HWB.out]; refine HRES.out.mono ?_; rintro e w6 ⟨g6, rfl, h1, h2⟩; have RZ := hid h1; have OM6 := hid (OMB.out.past h2 (Nat.le_refl _)); have BW6 := hid (bon BWB.out h2); have HI6 := hid (OMB.out.inner.snoc h2 BWB.out.size ⟨some ⟨g6, 0, none⟩, prI z, 2⟩ h1); have HML := hid (show (rs2.map Row.val).length < 1099511627776 by (have h9 := congrArg List.length NU.out; rw [nums_length, List.length_map, List.length_take] at h9; rw [List.length_map]; omega)); have hs6 := BW6.out.size; clear h1 h2) | (at_builtin; refine law_push tRows _ rfl _ _ rfl w9.heap.size _ (rs2.map Row.val) rfl OM6.out.outer _ _ rfl rfl rfl HML.out hs6 ?_; intro v8 w8 k1 k2))
            have OM8 := hid (show OwnM 41 2 w8 w9.heap.size v8 (rs2 ++ [⟨some ⟨g6, 0, none⟩, prI z, 2⟩]) from ⟨by rw [List.map_append]; exact k1, HI6.out.kept_outer OM6.out.outer (by decide) k2⟩)
            have BW8 := hid (BW6.out.trans (grown_below k2 hs6 (fun g hg => OM6.out.outer.ge g hg)))
            have NU8 := hid (show nums (rs2 ++ [(⟨some ⟨g6, 0, none⟩, prI z, 2⟩ : Row)]) = ((keyL Q).take (k + 1)).map prI by
              rw [HTK.out, List.map_append, ← NU.out]; simp [nums])
            clear k1 k2
            go_wp2
            go_roundw
            case rel => exact ⟨k + 1, _, by go_num, HK1.out, OM8.out, NU8.out, BW8.out⟩
            case measure => have h7 := HK1.out; simp [intOf]; omega
          · obtain rfl : k = L.length := by omega
            have HFN := hid (show nums rs2 = forcedR (nums rs) p q by rw [HR.out, NU.out, ← HLL.out, List.take_length])
            have hs9 : w.heap.size ≤ w9.heap.size := (B0.out.trans (B9.out.mono B0.out.size)).size
            go_wp2
            go_ret
            exact ⟨_, rs2, rfl, HFN.out, OM.out.base hs9, (B0.out.trans (B9.out.mono B0.out.size)).trans (BW.out.mono hs9)⟩
      · intro p1 pa pb cc w5 H8 hen5
        have hp256 : p1 < 256 := by
          obtain ⟨d1, hd1⟩ := H8.out.2.2.1
          exact HQ.out.2 (p1, d1) hd1
        have HPV := hid (show Value.int .i64 (pa : Int) = .int .i64 (p1 / 16 : Nat) by rw [H8.out.1])
        have HPW := hid (show Value.int .i64 (pb : Int) = .int .i64 (p1 % 16 : Nat) by rw [H8.out.2.1])
        have RG5 := hid H8.out.2.2.2.2.1
        have HLT5 := hid H8.out.2.2.2.2.2.1
        have hg5 := H8.out.2.2.2.2.2.2.1
        have B5 := hid (BL.out.trans (grown_below hg5 BL.out.size (fun k hk => by cases hk; exact hsz3)))
        have O5 := hid (OO.out.kept hg5 (.inr NS.out))
        have HRW := hid (show w3.heap.size < w5.heap.size from RG5.out.lt)
        have HLL := hid (show L.length < 1099511627776 from by
          obtain ⟨f1, f2⟩ := RG.out.facts
          have h1 : L.length ≤ (Q.map Prod.fst).length := f1.length_le_of_subset f2
          have h2 := HQ.out.len
          rw [List.length_map] at h1
          omega)
        clear hg5
        obtain ⟨wb, hwb⟩ : ∃ wb, wb = w5.alloc (.cells #[.int .i64 (pa : Int), .int .i64 (pb : Int)] 78) := ⟨_, rfl⟩
        have hga : w5.grownBy wb none := hwb ▸ World.grownBy_alloc _ _ none
        have hba : Below w5.heap.size w5 wb := hwb ▸ alloc_below _ _
        have OB := hid (O5.out.past hba (Nat.le_refl _))
        have BB := hid (bon B5.out hba)
        have RB := hid (RG5.out.kept hga (by simp) (by simp))
        have HLK := hid (RG5.out.left_kept hga (by simp) (by simp))
        have hsb := BB.out.size
        have hsb5 := hba.size
        have HWB := hid hwb
        have HSB := hid (show w5.heap.size + 1 = wb.heap.size by rw [hwb]; simp)
        clear hwb hga hba
        go_wp2_with (at_builtin; rw [← HWB.out]; refine law_pushA_w tArrows _ rfl _ _ rfl wn.heap.size _ _ rfl OB.out p1 _ rfl HSB.out _ _ HPV.out HPW.out HLL.out hsb ?_; intro v8 w8 k1 k2 k3)
        have hnb : some bm ≠ _ := RB.out.owns.neOwn OB.out
        have hnr := NS.out
        have RG8 := hid (RB.out.kept k2 hnb (fun e => hnr e.symm))
        have HL8 := hid (RB.out.left_kept k2 hnb (fun e => hnr e.symm))
        have O8 := hid k1
        have B8 := hid (BB.out.trans (grown_below k2 hsb (fun g hg => OB.out.ge g hg)))
        have N8 := hid (show v8.ownBlock ≠ some w3.heap.size from fun e => by
          rcases k3 with k4 | k4
          · exact hnr (k4.symm.trans e)
          · rw [k4] at e
            injection e with e
            have := HRW.out
            omega)
        clear k1 k2 k3 hnb hnr
        go_wp2
        go_roundw
        case rel => exact ⟨L ++ [p1], RG8.out, O8.out, ownA_some O8.out (by simp), N8.out, B8.out⟩
        case measure => rw [HL8.out, HLK.out]; exact HLT5.out
  · have H1 := hid (show decide (EdgeP (nums rs) u v) = false by simpa using he)
    have HR := hid (show forcedR (nums rs) u v = [] by unfold forcedR; rw [if_neg he])
    clear he
    go_enter Tryd.func23, Tryd.ntmps23
    go_wp2_with fail
    rw [← HW.out]
    go_wp2_with fail
    refine (implEdgeIn_c a rs c _ _ _ false H1.out RA.out hn).mono ?_
    rintro e w2 ⟨rfl, hb⟩
    replace RA := hid (RA.out.below hb (Nat.le_refl _))
    replace RT := hid (RT.out.below hb (Nat.le_refl _))
    replace B0 := hid (bon B0.out hb)
    replace c0 := cellB hb c0 (Nat.le_refl _)
    clear hb
    go_wp2
    go_ret
    exact ⟨_, [], rfl, HR.out.symm, ownM_nil _ _ _ _, B0.out⟩
end
end
end Go.Proofs.YtggjmnihnjdoaaaDoor
