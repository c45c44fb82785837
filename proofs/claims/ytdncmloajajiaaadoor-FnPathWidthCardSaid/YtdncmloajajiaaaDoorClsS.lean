/- A slice of one's own that does not begin where its block does. · All that an arrow leads to: the reference's. · ForcedBy: the reference's. -/
import Derived.Test.YtdncmloajajiaaaDoorMem3
import Derived.ArgAppend
import Derived.Test.YtdncmloajajiaaaDoorForS
import Derived.Deep.RegionHeld3
import Derived.Test.YtdncmloajajiaaaDoorGreedy
import Derived.Test.YtdncmloajajiaaaDoorOrderI
import Derived.Carry
import Derived.Deep.Cut
namespace Go.Proofs.YtdncmloajajiaaaDoor
open Go.RowKit
section
section
def OwnO (e : TypeId) (w : World) (B : Nat) (v : Value) (xs : List Value) : Prop :=
  ∃ g o cap cur, v = .slice (some ⟨g, o, none⟩) xs.length cap ∧ B ≤ g ∧ w.heap[g]? = some (.cells cur e (0, 0)) ∧ xs.length ≤ cap ∧ cap ≤ maxLen ∧ o + cap ≤ cur.size ∧ ∀ j u, xs[j]? = some u → cur[o + j]? = some u
theorem Own.toO {e : TypeId} {w : World} {B g n c : Nat} {xs : List Value} (h : Own e w B (.slice (some ⟨g, 0, none⟩) n c) xs) : OwnO e w B (.slice (some ⟨g, 0, none⟩) n c) xs := by
  rcases h.form with ⟨h1, _⟩ | ⟨g', cap, sp, hv, hg, hh, hc, hm⟩
  · cases h1
  · rw [hv]
    refine ⟨g', 0, cap, _, rfl, hg, hh, by omega, hm, by simp; omega, fun j u hj => ?_⟩
    rw [Nat.zero_add]
    have hjl : j < xs.length := by
      rcases Nat.lt_or_ge j xs.length with h1 | h1
      · exact h1
      · rw [List.getElem?_eq_none h1] at hj; cases hj
    simp [List.getElem?_append_left hjl, hj]
theorem OwnO.lt {e : TypeId} {w : World} {B : Nat} {v : Value} {xs : List Value} (h : OwnO e w B v xs) : ∃ g o cap, v = .slice (some ⟨g, o, none⟩) xs.length cap ∧ B ≤ g ∧ g < w.heap.size := by
  obtain ⟨g, o, cap, cur, hv, hg, hh, _⟩ := h
  exact ⟨g, o, cap, hv, hg, (Array.getElem?_eq_some_iff.1 hh).1⟩
theorem OwnO.past {e : TypeId} {w w' : World} {B B' : Nat} {v : Value} {xs : List Value} (h : OwnO e w B v xs) (hb : Below B' w w') (hB : w.heap.size ≤ B') : OwnO e w' B v xs := by
  obtain ⟨g, o, cap, cur, hv, hg, hh, rest⟩ := h
  exact ⟨g, o, cap, cur, hv, hg, (hb.block g (Nat.lt_of_lt_of_le (Array.getElem?_eq_some_iff.1 hh).1 hB)).trans hh, rest⟩
theorem OwnO.base {e : TypeId} {w : World} {B B' : Nat} {v : Value} {xs : List Value} (h : OwnO e w B v xs) (hB : B' ≤ B) : OwnO e w B' v xs := by
  obtain ⟨g, o, cap, cur, hv, hg, rest⟩ := h
  exact ⟨g, o, cap, cur, hv, by omega, rest⟩
theorem OwnO.kept {e : TypeId} {w w' : World} {B : Nat} {v : Value} {xs : List Value} {row : Option Nat} (h : OwnO e w B v xs) (hg : w.grownBy w' row) (hne : ∀ g o n c, v = .slice (some ⟨g, o, none⟩) n c → some g ≠ row) : OwnO e w' B v xs := by
  obtain ⟨g, o, cap, cur, hv, hB, hh, rest⟩ := h
  exact ⟨g, o, cap, cur, hv, hB, (hg.block g (Array.getElem?_eq_some_iff.1 hh).1 (hne g o _ _ hv)).trans hh, rest⟩
theorem OwnO.rd {e : TypeId} {w : World} {B : Nat} {v : Value} {xs : List Value} (h : OwnO e w B v xs) : ∃ g o cap, v = .slice (some ⟨g, o, none⟩) xs.length cap ∧ Rd (fun y : Value => y) w (some ⟨g, o, none⟩) xs ∧ xs.length ≤ cap ∧ B ≤ g ∧ g < w.heap.size := by
  obtain ⟨g, o, cap, cur, hv, hg, hh, h1, h2, h3, h4⟩ := h
  refine ⟨g, o, cap, hv, fun i hi => ⟨g, o, rfl, ?_⟩, h1, hg, (Array.getElem?_eq_some_iff.1 hh).1⟩
  have := h4 i xs[i] (List.getElem?_eq_getElem hi)
  simp [World.cell?, hh, this]
/-- Its rest. -/
theorem OwnO.tail {e : TypeId} {w : World} {B g o n c : Nat} {x : Value} {xs : List Value} (h : OwnO e w B (.slice (some ⟨g, o, none⟩) n c) (x :: xs)) : OwnO e w B (.slice (some ⟨g, o + 1, none⟩) xs.length (c - 1)) xs := by
  obtain ⟨g', o', cap, cur, hv, hg, hh, h1, h2, h3, h4⟩ := h
  injection hv with e1 e2 e3
  injection e1 with e1
  injection e1 with e1 e4
  subst e1; subst e4; subst e3
  simp only [List.length_cons] at h1
  refine ⟨g, o + 1, c - 1, cur, rfl, hg, hh, by omega, by omega, by omega, fun j u hj => ?_⟩
  have := h4 (j + 1) u (by simpa using hj)
  rw [show o + 1 + j = o + (j + 1) by omega]; exact this
/-- An empty one. -/
theorem OwnO.none_left {e : TypeId} {w : World} {B g o n c : Nat} {xs : List Value} (h : OwnO e w B (.slice (some ⟨g, o, none⟩) n c) xs) (o' : Nat) (ho : o' ≤ o) : OwnO e w B (.slice (some ⟨g, o', none⟩) 0 0) [] := by
  obtain ⟨g', o2, cap, cur, hv, hg, hh, h1, h2, h3, h4⟩ := h
  injection hv with e1 e2 e3
  injection e1 with e1
  injection e1 with e1 e4
  subst e1; subst e4; subst e3
  exact ⟨g, o', 0, cur, rfl, hg, hh, Nat.le_refl _, by decide, by omega, fun j u hj => by simp at hj⟩
variable {P : Program} {ops : Array Oper} {rest : List Oper} {o : Oper} {a : Act} {Q : Exit → Act → World → Prop}
/-- append(s, x), one element. -/
theorem law_pushO {t e : TypeId} {z : Value} (hT : SliceT P t e z) (w : World) (hg : o.guard = none) (s x : Operand) (hop : o.op = .call { callee := .builtin .append, args := #[s, x], argTypes := #[t, t] })
    (B : Nat) (v : Value) (xs : List Value) (hs : a.eval s = v) (hown : OwnO e w B v xs) (u : Value) (g : Nat) (hx : a.eval x = .slice (some ⟨g, 0, none⟩) 1 1) (hgs : g = w.heap.size) (hu : u.oneCell' = true) (hn : xs.length < 1099511627776) (hB : B ≤ w.heap.size)
    (hK : ∀ v' w', OwnO e w' B v' (xs ++ [u]) → (∃ gv ov nv cv, v = .slice (some ⟨gv, ov, none⟩) nv cv ∧ w.grownBy w' (some gv) ∧ ∃ gv' ov' nv' cv', v' = .slice (some ⟨gv', ov', none⟩) nv' cv' ∧ (gv' = gv ∨ w.heap.size ≤ gv')) → wpList P ops Q rest (a.put o.dst v') w') :
    wpList P ops Q (o :: rest) a (w.alloc (.cells #[u] e)) := by
  subst hgs
  obtain ⟨ht, bytes, hby, hi0, hz⟩ := hT
  obtain ⟨i, hi, hz0, hz1, hz2⟩ := info_parts hi0
  obtain ⟨gv, ov, cap, cur, rfl, hBg, hh, hc, hm, hsz, hcur⟩ := hown.past (alloc_below w (.cells #[u] e)) (Nat.le_refl _)
  have hglt : gv < w.heap.size := by
    obtain ⟨g1, o1, c1, hv1, _, h1⟩ := hown.lt
    injection hv1 with e1 _ _
    injection e1 with e1; injection e1 with e1
    omega
  have hnews : ∀ j y, [u][j]? = some y → (w.alloc (.cells #[u] e)).cell? ((⟨w.heap.size, 0, none⟩ : Addr).add j) = some y := by
    intro j y hj
    have hj0 : j = 0 := by
      rcases Nat.eq_zero_or_pos j with h | h
      · exact h
      · rw [List.getElem?_eq_none (by simp; omega)] at hj; cases hj
    subst hj0
    have : u = y := by simpa using hj
    subst this
    simp [Addr.add]
  have hone : ∀ y ∈ [u], y.oneCell' = true := by intro y hy; simp at hy; subst hy; exact hu
  have hbytes : (xs.length + 1) * bytes ≤ 140737488355328 := Nat.le_trans (Nat.mul_le_mul_left _ hby) (by omega)
  by_cases hroom : xs.length + 1 ≤ cap
  · have hlt : ov + xs.length < cur.size := by omega
    have hr := run_append_room_cells (P := P) (w := w.alloc (.cells #[u] e)) t o.type e i ht hi gv ov xs.length cap ⟨w.heap.size, 0, none⟩ 1 1 [u] (by simp [hz1]) hnews hone hroom (fun j hj => by
      obtain rfl : j = 0 := by simpa using hj
      simp [World.cell?, hh, hz1, hlt]) (fun j hj => by simp [World.frozen?, hh])
    refine wpList_plain hg fun K hKK => ?_
    unfold Oper.wp execOp
    simp only [hop, resolve, invoke, builtin, Sem.run_bind, Sem.run_pure, Result.andThen_ok, List.map_toArray, List.map_cons, List.map_nil, hs, hx, hr]
    have hw' : (w.alloc (.cells #[u] e)).setCells gv (ov + xs.length * i.size) [u] = (w.alloc (.cells #[u] e)).setCell ⟨gv, ov + xs.length, none⟩ u := by
      rw [hz1]; simp [World.setCells]
    rw [hw']
    refine hKK _ _ (hK _ _ ⟨gv, ov, cap, cur.setIfInBounds (ov + xs.length) u, by simp, hBg, ?_, by simpa using hroom, hm, by simpa using hsz, fun j y hj => ?_⟩ ⟨gv, ov, _, _, rfl, ?_, gv, ov, _, _, rfl, .inl rfl⟩)
    · simp [World.setCell, Array.getElem?_modify, hh]
    · by_cases hjx : j < xs.length
      · rw [List.getElem?_append_left hjx] at hj
        rw [Array.getElem?_setIfInBounds_ne (by omega)]
        exact hcur j y hj
      · have hj2 : j = xs.length := by
          rcases Nat.lt_or_ge xs.length j with h1 | h1
          · rw [List.getElem?_eq_none (by simp; omega)] at hj; cases hj
          · omega
        subst hj2
        simp at hj
        subst hj
        simp [hlt]
    · refine ⟨rfl, rfl, rfl, by simp [World.setCell], fun k hk hne => ?_⟩
      have hk2 : k ≠ gv := fun e => hne (by rw [e])
      rw [Below.heap_setCell _ _ _ _ (fun e => hk2 (by simpa using e))]
      exact Below.heap_alloc w _ k hk
  · have hcells : ∀ j y, xs[j]? = some y → (w.alloc (.cells #[u] e)).cell? ((⟨gv, ov, none⟩ : Addr).add j) = some y := by
      intro j y hj
      have hadd : (⟨gv, ov, none⟩ : Addr).add j = ⟨gv, ov + j, none⟩ := by unfold Addr.add; split <;> simp_all
      rw [hadd]
      simp [World.cell?, hh, hcur j y hj]
    obtain ⟨v', w', hr, h2, h3⟩ := run_append_arg_grows (P := P) (w := w.alloc (.cells #[u] e)) t o.type e i z 1 bytes ht hi hz0 hz1 hz2 (by rw [hz]; rfl) (by decide) ⟨gv, ov, none⟩ xs.length cap xs (by simp) hcells ⟨w.heap.size, 0, none⟩ 1 1 [u] (by simp) hnews (by omega) (by unfold maxLen; omega) hbytes
    have hO : Own e w' (w.alloc (.cells #[u] e)).heap.size v' (xs ++ [u]) := by unfold Own; rw [List.length_append]; exact h2
    refine wpList_plain hg fun K hKK => ?_
    unfold Oper.wp execOp
    simp only [hop, resolve, invoke, builtin, Sem.run_bind, Sem.run_pure, Result.andThen_ok, List.map_toArray, List.map_cons, List.map_nil, hs, hx, hr]
    rcases hO.form with ⟨_, h0⟩ | ⟨g', cap', sp, hv', hg', _⟩
    · simp at h0
    · subst hv'
      have hg2 : w.heap.size ≤ g' := by simp at hg'; omega
      refine hKK _ _ (hK _ _ (hO.toO.base (by simp; omega)) ⟨gv, ov, _, _, rfl, ?_, g', 0, _, _, rfl, .inr hg2⟩)
      exact ⟨h3.os, h3.tape, h3.output, Nat.le_trans (by simp) h3.size, fun k hk _ => (h3.block k (by simp; omega) (by simp)).trans (Below.heap_alloc w _ k hk)⟩
end
end
section
section
theorem Own.neO {e e' : TypeId} {w : World} {B B' g o n c : Nat} {v : Value} {xs ys : List Value} (h : Own e w B v xs) (h' : OwnO e' w B' (.slice (some ⟨g, o, none⟩) n c) ys) (hne : e ≠ e') : v.ownBlock = none ∨ v.ownBlock ≠ some g := by
  rcases h.form with ⟨rfl, _⟩ | ⟨g1, cap, sp, rfl, _, hh, _⟩
  · exact .inl rfl
  · right
    obtain ⟨g2, o2, cap2, cur, hv, _, hh2, _⟩ := h'
    injection hv with e1 _ _
    injection e1 with e1; injection e1 with e1 _
    subst e1
    intro e3
    have : g1 = g := by simpa [Value.ownBlock] using e3
    subst this
    rw [hh] at hh2
    injection hh2 with hh2
    injection hh2 with _ e4 _
    exact hne e4
theorem keyL_addQ {Q : List (Nat × Nat)} {d y : Nat} (h : QOk Q) (hy : y < 256) {L' : List Nat} (hs : L'.Pairwise (· < ·)) (hm : ∀ z, z ∈ L' ↔ z ∈ keyL Q ∨ z = y) : L' = keyL (addQ d Q y) :=
  sortedN_ext hs (keyL_sorted _) fun z => by rw [hm, keyL_mem h, keyL_mem (addQ_ok h hy), addQ_fst_mem]
theorem addAll_len (d : Nat) (Q : List (Nat × Nat)) (L : List Nat) : Q.length ≤ (addAll d Q L).length := (addAll_pre d L Q).length_le
/-- What the two loops hold. -/
structure ClsR (w0 wr : World) (Q : List (Nat × Nat)) (m : Nat) (tv ov : Value) (ts qs : List Row) : Prop where
  out : OwnM 33 2 wr w0.heap.size ov qs
  nout : nums qs = (keyL Q).map prI
  som : ∃ a' c', ov = .slice (some a') qs.length c'
  todo : OwnO 33 wr w0.heap.size tv (ts.map Row.val)
  ntodo : nums ts = ((Q.map Prod.fst).drop m).map prI
  rows : ∀ r ∈ ts, Own 2 wr w0.heap.size r.val (r.z.map (.int .i64))
  sep : ∀ g o n c, tv = .slice (some ⟨g, o, none⟩) n c → ov.ownBlock ≠ some g
theorem ClsR.past {w0 wr w' : World} {Q : List (Nat × Nat)} {m : Nat} {tv ov : Value} {ts qs : List Row} (h : ClsR w0 wr Q m tv ov ts qs) (hb : Below wr.heap.size wr w') : ClsR w0 w' Q m tv ov ts qs :=
  ⟨h.out.past hb (Nat.le_refl _), h.nout, h.som, h.todo.past hb (Nat.le_refl _), h.ntodo, fun r hr => (h.rows r hr).past hb (Nat.le_refl _), h.sep⟩
/-- One more has been put to both. -/
theorem ClsR.push {w0 wr w5 w6 : World} {Q : List (Nat × Nat)} {m d y : Nat} {tv ov v6 tv6 : Value} {ts qs qs6 : List Row} {r : Row} {L6 : List Nat} (h : ClsR w0 wr Q m tv ov ts qs) (hQ : QOk Q) (hy : y < 256) (hm : m ≤ Q.length) (hn : y ∉ Q.map Prod.fst) (hrz : r.z = prI y)
    (hr : Own 2 w5 w0.heap.size r.val (r.z.map (.int .i64)))
    (hb5 : Below wr.heap.size wr w5) (h1 : OwnM 33 2 w5 w0.heap.size v6 qs6) (h2 : nums qs6 = L6.map prI) (h3 : L6.Pairwise (· < ·)) (h4 : ∀ z, z ∈ L6 ↔ z ∈ keyL Q ∨ z = y) (h5 : v6 = ov ∨ ∀ g, v6.ownBlock = some g → wr.heap.size ≤ g) (h6 : ∃ a' c', v6 = .slice (some a') qs6.length c')
    (k1 : OwnO 33 w6 w0.heap.size tv6 (ts.map Row.val ++ [r.val])) (k2 : ∃ gv ov nv cv, tv = .slice (some ⟨gv, ov, none⟩) nv cv ∧ w5.grownBy w6 (some gv) ∧ ∃ gv' ov' nv' cv', tv6 = .slice (some ⟨gv', ov', none⟩) nv' cv' ∧ (gv' = gv ∨ w5.heap.size ≤ gv')) :
    ClsR w0 w6 (addQ d Q y) m tv6 v6 (ts ++ [r]) qs6 := by
  have hL := keyL_addQ (d := d) hQ hy h3 h4
  obtain ⟨gv, o1, nv, cv, rfl, hg, gv', o2, nv', cv', rfl, hloc⟩ := k2
  obtain ⟨gt, ot, ct, hvt, _, hgt⟩ := h.todo.lt
  have egt : gv = gt := by injection hvt with e1 _ _; injection e1 with e1; injection e1
  subst egt
  have hsz := hb5.size
  have hsep6 : v6.ownBlock ≠ some gv := by
    rcases h5 with rfl | h5
    · exact h.sep _ _ _ _ rfl
    · intro e; have := h5 _ e; omega
  have htodo5 := h.todo.past hb5 (Nat.le_refl _)
  refine ⟨⟨h1.outer.kept hg (.inr hsep6), ⟨fun s hs => (h1.inner.own s hs).kept hg ((h1.inner.own s hs).neO htodo5 (by decide)), h1.inner.apart⟩⟩, by rw [h2, hL], h6, by rw [List.map_append]; exact k1, ?_, ?_, ?_⟩
  · rw [addQ_new hn, List.map_append, List.drop_append_of_le_length (by simpa using hm), List.map_append, ← h.ntodo]
    simp [nums, hrz]
  · intro s hs
    rcases List.mem_append.1 hs with h7 | h7
    · have h8 := (h.rows s h7).past hb5 (Nat.le_refl _)
      exact h8.kept hg (h8.neO htodo5 (by decide))
    · simp at h7
      subst h7
      exact hr.kept hg (hr.neO htodo5 (by decide))
  · intro g o n c hv e
    injection hv with e1 _ _
    injection e1 with e1; injection e1 with e1 _
    subst e1
    rcases hloc with rfl | h7
    · exact hsep6 e
    · have := h1.outer.lt _ e
      omega
/-- The first of the rest has been taken. -/
theorem ClsR.step {w0 wr : World} {Q : List (Nat × Nat)} {m : Nat} {tv tv' ov : Value} {r : Row} {ts qs : List Row} (h : ClsR w0 wr Q m tv ov (r :: ts) qs) (h1 : OwnO 33 wr w0.heap.size tv' (ts.map Row.val)) (h2 : ∀ g o n c, tv' = .slice (some ⟨g, o, none⟩) n c → ∃ o' n' c', tv = .slice (some ⟨g, o', none⟩) n' c') : ClsR w0 wr Q (m + 1) tv' ov ts qs := by
  refine ⟨h.out, h.nout, h.som, h1, ?_, fun s hs => h.rows s (by simp [hs]), ?_⟩
  · have := congrArg List.tail h.ntodo
    simp only [nums, List.map_cons, List.tail_cons] at this
    show nums ts = _
    unfold nums
    rw [this, ← List.map_tail, List.tail_drop]
  · intro g o n c hv
    obtain ⟨o', n', c', hv'⟩ := h2 g o n c hv
    exact h.sep g o' n' c' hv'
theorem keyL_one {x : Nat} (hx : x < 256) : keyL [(x, 0)] = [x] := by
  refine (sortedN_ext (l := [x]) (by simp) (keyL_sorted _) fun z => ?_).symm
  rw [keyL_mem ⟨by simp, by intro p hp; simp at hp; subst hp; exact hx⟩]
  simp
theorem keyL_length {Q : List (Nat × Nat)} (h : QOk Q) : (keyL Q).length = Q.length := by
  have h1 : (keyL Q).length ≤ (Q.map Prod.fst).length := List.Nodup.length_le_of_subset ((keyL_sorted Q).imp fun hab => Nat.ne_of_lt hab) (fun y hy => (keyL_mem h y).1 hy)
  have h2 : (Q.map Prod.fst).length ≤ (keyL Q).length := h.1.length_le_of_subset (fun y hy => (keyL_mem h y).2 hy)
  rw [List.length_map] at h1 h2
  omega
theorem bq_zeroS (A : List Nat) (x : Nat) : bq A x 0 = [(x, 0)] := rfl
attribute [local irreducible] frL bq addAll bqE keyL
theorem Inner.join {ei : TypeId} {w : World} {B B2 : Nat} {qs fs : List Row} (h1 : Inner ei w B qs) (h2 : Inner ei w B2 fs) (hB : B ≤ B2) (hlt : ∀ r ∈ qs, ∀ g, r.val.ownBlock = some g → g < B2) : Inner ei w B (qs ++ fs) := by
  refine ⟨fun r hr => ?_, ?_⟩
  · rcases List.mem_append.1 hr with h | h
    · exact h1.own r h
    · exact (h2.own r h).base hB
  · rw [List.map_append, List.pairwise_append]
    refine ⟨h1.apart, h2.apart, fun a ha b hb => ?_⟩
    obtain ⟨r, hr, rfl⟩ := List.mem_map.1 ha
    obtain ⟨s, hs, rfl⟩ := List.mem_map.1 hb
    cases hg : r.val.ownBlock with
    | none => exact .inl rfl
    | some g =>
      right
      intro e
      have h3 := hlt r hr g hg
      have h4 := (h2.own s hs).ge g e.symm
      omega
theorem Inner.freeO {w w' : World} {B B' gv o n c : Nat} {rs : List Row} {ys : List Value} (h : Inner 2 w B rs) (ho : OwnO 33 w B' (.slice (some ⟨gv, o, none⟩) n c) ys) (hg : w.grownBy w' (some gv)) : Inner 2 w' B rs :=
  ⟨fun r hr => (h.own r hr).kept hg ((h.own r hr).neO ho (by decide)), h.apart⟩
theorem addAll_zeroS (d : Nat) (Q : List (Nat × Nat)) (L : List Nat) : addAll d Q (L.take 0) = Q := by rw [List.take_zero]; unfold addAll; rfl
def ClPost (A : List Nat) (x : Nat) (w : World) (e : Ending) (w' : World) : Prop :=
  ∃ (v : Value) (qs : List Row), e = .returned v ∧ OwnM 33 2 w' w.heap.size v qs ∧ nums qs = (keyL (bqE A x)).map prI ∧ (∃ a' c', v = .slice (some a') qs.length c') ∧ Below w.heap.size w w'
set_option maxRecDepth 100000 in
set_option maxHeartbeats 8000000 in
theorem l13Class_any (a : Option Addr) (rs : List Row) (c n : Nat) (A : List Nat) (p q x : Nat) (w : World) (hx : cod p q = x) (hA : GA n A) (hnm : nums rs = A.map mems) (hr : RdM w a rs) (hp : p < n) (hq : q < n) :
    Calls Tryd.prog 31 #[.agg #[.slice a rs.length c], .int .i64 p, .int .i64 q] w (ClPost A x w) := by
  have HA := hid hA; have HNM := hid hnm; have RA := hid hr
  have h16 := hA.le
  have hx256 : x < 256 := by rw [← hx]; unfold cod; omega
  have hxa : p = x / 16 := by rw [← hx, cod_div (by omega)]
  have hxb : q = x % 16 := by rw [← hx, cod_mod (by omega)]
  have HQ := hid (fun k => bq_ok (A := A) hx256 k)
  have HQI := hid (fun k => bq_in hA (x := x) (by rw [← hxa]; exact hp) (by rw [← hxb]; exact hq) k)
  have HEND := hid (fun k (hk : (bq A x k).length = k) => bq_end (A := A) hx256 hk)
  have HPR := hid (show [Value.int .i64 (p : Int), .int .i64 (q : Int)] = (prI x).map (Value.int .i64) by unfold prI; rw [hxa, hxb]; rfl)
  clear hA hnm hr
  obtain ⟨w0, hw0⟩ : ∃ w0, w0 = (w.alloc (.cells #[.slice a rs.length c] 29)) := ⟨_, rfl⟩
  have B0 := hid (show Below w.heap.size w w0 by rw [hw0]; exact ((Below.refl _ _).alloc (Nat.le_refl _) _))
  have c0 : w0.cell? ⟨w.heap.size, 0, none⟩ = some (.slice a rs.length c) := by rw [hw0]; simp [go_sem]
  replace RA := hid (RA.out.below B0.out (Nat.le_refl _))
  have HW := hid hw0; clear hw0
  have HC0 := hid c0; have RA0 := hid RA.out; have B00 := hid B0.out
  have hsz0 : w0.heap.size = w.heap.size + 1 := by rw [HW.out]; simp
  have HSZ0 := hid hsz0
  obtain ⟨w1, hw1⟩ : ∃ w1, w1 = w0.alloc (.cells #[.int .i64 (p : Int), .int .i64 (q : Int)] 2) := ⟨_, rfl⟩
  have b1 : Below w0.heap.size w0 w1 := hw1 ▸ alloc_below _ _
  have s1 : w1.heap.size = w0.heap.size + 1 := by rw [hw1]; simp
  have r1 : Own 2 w1 w0.heap.size (.slice (some ⟨w0.heap.size, 0, none⟩) 2 2) ((prI x).map (Value.int .i64)) := by
    rw [hw1, ← HPR.out]; exact own_new 2 w0 [.int .i64 (p : Int), .int .i64 (q : Int)] (show (2 : Nat) ≤ maxLen by decide)
  obtain ⟨w2, hw2⟩ : ∃ w2, w2 = w1.alloc (.cells #[.slice (some ⟨w0.heap.size, 0, none⟩) 2 2] 33) := ⟨_, rfl⟩
  have b2 : Below w1.heap.size w1 w2 := hw2 ▸ alloc_below _ _
  have s2 : w2.heap.size = w1.heap.size + 1 := by rw [hw2]; simp
  have r2 : Own 33 w2 w1.heap.size (.slice (some ⟨w1.heap.size, 0, none⟩) 1 1) [.slice (some ⟨w0.heap.size, 0, none⟩) 2 2] := by
    rw [hw2]; exact own_new 33 w1 [.slice (some ⟨w0.heap.size, 0, none⟩) 2 2] (show (1 : Nat) ≤ maxLen by decide)
  obtain ⟨w3, hw3⟩ : ∃ w3, w3 = w2.alloc (.cells #[.int .i64 (p : Int), .int .i64 (q : Int)] 2) := ⟨_, rfl⟩
  have b3 : Below w2.heap.size w2 w3 := hw3 ▸ alloc_below _ _
  have s3 : w3.heap.size = w2.heap.size + 1 := by rw [hw3]; simp
  have r3 : Own 2 w3 w2.heap.size (.slice (some ⟨w2.heap.size, 0, none⟩) 2 2) ((prI x).map (Value.int .i64)) := by
    rw [hw3, ← HPR.out]; exact own_new 2 w2 [.int .i64 (p : Int), .int .i64 (q : Int)] (show (2 : Nat) ≤ maxLen by decide)
  obtain ⟨w4, hw4⟩ : ∃ w4, w4 = w3.alloc (.cells #[.slice (some ⟨w2.heap.size, 0, none⟩) 2 2] 33) := ⟨_, rfl⟩
  have b4 : Below w3.heap.size w3 w4 := hw4 ▸ alloc_below _ _
  have r4 : Own 33 w4 w3.heap.size (.slice (some ⟨w3.heap.size, 0, none⟩) 1 1) [.slice (some ⟨w2.heap.size, 0, none⟩) 2 2] := by
    rw [hw4]; exact own_new 33 w3 [.slice (some ⟨w2.heap.size, 0, none⟩) 2 2] (show (1 : Nat) ≤ maxLen by decide)
  have bw4 := hid (((b1.trans (b2.mono (by omega))).trans (b3.mono (by omega))).trans (b4.mono (by omega)))
  have START := hid (show ClsR w0 w4 [(x, 0)] 0 (.slice (some ⟨w1.heap.size, 0, none⟩) 1 1) (.slice (some ⟨w3.heap.size, 0, none⟩) 1 1) [⟨some ⟨w0.heap.size, 0, none⟩, prI x, 2⟩] [⟨some ⟨w2.heap.size, 0, none⟩, prI x, 2⟩] from by
    refine ⟨⟨r4.base (by omega), ⟨fun r hr => ?_, by simp⟩⟩, by rw [keyL_one hx256]; rfl, ⟨_, _, rfl⟩, ?_, rfl, fun r hr => ?_, fun g o n c hv e => ?_⟩
    · simp at hr; subst hr; exact (r3.base (by omega)).past b4 (Nat.le_refl _)
    · exact ((((r2.base (B' := w0.heap.size) (by omega)).past b3 (Nat.le_refl _)).past b4 (Nat.le_refl _))).toO
    · simp at hr; subst hr; exact (((r1.past b2 (Nat.le_refl _)).past b3 (Nat.le_refl _)).past b4 (Nat.le_refl _))
    · injection hv with e1 _ _
      injection e1 with e1; injection e1 with e1 _
      have : w3.heap.size = g := by simpa [Value.ownBlock] using e
      omega)
  rw [s2, s1] at hw4
  rw [s3, s2, s1] at START
  rw [hw1] at hw2
  rw [hw2] at hw3
  rw [hw3] at hw4
  have HW4 := hid hw4
  clear r1 r2 r3 r4 b1 b2 b3 b4 s1 s2 s3 B0 c0 RA hxa hxb hw1 hw2 hw3 hx hw4
  go_enter Tryd.func31, Tryd.ntmps31
  go_wp2
  rw [← HW.out]
  rw [show w.heap.size + 1 = w0.heap.size from hsz0.symm]
  rw [← HW4.out]
  clear hsz0
  go_loopw [7, 8, 9, 10] (fun tv ov _ _ wr => ∃ (k : Nat) (ts qs : List Row), k ≤ (bq A x k).length ∧ ClsR w0 wr (bq A x k) k tv ov ts qs ∧ Below w0.heap.size w0 wr) (fun tv ov _ _ _ => 257 - (lenV ov - lenV tv))
  case atStart => exact ⟨0, _, _, Nat.zero_le _, by rw [bq_zeroS]; exact START.out, bw4.out⟩
  case round =>
    clear START bw4
    obtain ⟨k, ts, qs, hk, hcl, hb⟩ := hrel
    have CL := hid hcl; have BL := hid hb
    have c0 := cellB hb HC0.out (Nat.le_refl _)
    have RA := hid (RA0.out.below hb (Nat.le_refl _))
    have hszr := hb.size
    have htn := hcl.ntodo
    obtain ⟨tg, to, tc, htv, htr, htc, _, _⟩ := hcl.todo.rd
    subst htv
    rw [List.length_map] at htc ⊢
    cases ts with
    | nil =>
      have hkl : (bq A x k).length = k := by
        have h1 := congrArg List.length htn
        simp [nums] at h1
        omega
      have hE := HEND.out k hkl
      have HF := hid (show nums qs = (keyL (bqE A x)).map prI by rw [hE]; exact hcl.nout)
      clear htn htr hkl hE hcl
      go_wp2
      go_ret
      exact ⟨_, qs, rfl, CL.out.out.base (by have := HSZ0.out; omega), HF.out, CL.out.som, B00.out.trans (BL.out.mono (by have := HSZ0.out; omega))⟩
    | cons r ts =>
      have hlen : (r :: ts).length = (bq A x k).length - k := by
        have h1 := congrArg List.length htn
        simpa [nums] using h1
      have hkl : k < (bq A x k).length := by simp at hlen; omega
      have HNX := hid (bq_some hkl)
      have hdr : ((bq A x k).map Prod.fst).drop k = ((bq A x k)[k]).1 :: ((bq A x k).map Prod.fst).drop (k + 1) := by
        rw [List.drop_eq_getElem_cons (by simpa using hkl)]; simp
      have hQm := List.getElem_mem hkl
      have hin := HQI.out k _ hQm
      have hy256 := (HQ.out k).2 _ hQm
      have HQK := hid (HQ.out k)
      have HQN := hid (HQI.out k)
      rw [hdr] at htn
      generalize hQg : bq A x k = Q at *
      generalize hyg : (Q[k]).1 = y at *
      generalize hdg : (Q[k]).2 = d at *
      have hrz : r.z = prI y := by have := congrArg List.head? htn; simpa [nums] using this
      have hq256 := HQK.out.len
      obtain ⟨ra, rz, rc⟩ := r
      simp only at hrz
      subst hrz
      obtain ⟨ya, hya⟩ : ∃ ya, ya = y / 16 := ⟨_, rfl⟩
      obtain ⟨yb, hyb⟩ : ∃ yb, yb = y % 16 := ⟨_, rfl⟩
      have hyc : cod ya yb = y := by rw [hya, hyb]; exact cod_self y
      have hyan : ya < n := by rw [hya]; exact hin.1
      have hybn : yb < n := by rw [hyb]; exact hin.2
      have HYC := hid hyc
      have hrd := ownL_rd (show Own 2 wr w0.heap.size (.slice ra 2 rc) ((prI y).map (Value.int .i64)) from hcl.rows ⟨ra, prI y, rc⟩ (by simp))
      obtain ⟨rb, ro, hra, e0⟩ := hrd 0 (by simp [prI])
      obtain ⟨rb', ro', hra', e1⟩ := hrd 1 (by simp [prI])
      subst hra
      obtain ⟨rfl, rfl⟩ : rb = rb' ∧ ro = ro' := by simpa using hra'
      simp only [prI, List.getElem_cons_zero, List.getElem_cons_succ, Nat.add_zero] at e0 e1
      rw [← hya] at e0
      rw [← hyb] at e1
      obtain ⟨tg', to', hta, ct⟩ := htr 0 (by simp)
      obtain ⟨rfl, rfl⟩ : tg = tg' ∧ to = to' := by simpa using hta
      have ct2 : wr.cell? ⟨tg, to, none⟩ = some (.slice (some ⟨rb, ro, none⟩) 2 rc) := by simpa [Row.val, prI] using ct
      obtain ⟨n1, hn1⟩ : ∃ n1, n1 = ts.length + 1 := ⟨_, rfl⟩
      have htl : (List.map Row.val (⟨some ⟨rb, ro, none⟩, prI y, rc⟩ :: ts)).length = n1 := by rw [hn1]; simp
      have htc2 : n1 ≤ tc := by simp at htc; omega
      simp only [List.length_cons, ← hn1] at hlen htc ⊢
      have hpos : 0 < n1 := by omega
      have hposi : (0 : Int) < (n1 : Int) := by omega
      have hposd : decide (0 < n1) = true := by rw [decide_eq_true_iff]; exact hpos
      have h1i : (1 : Int) ≤ (n1 : Int) := by omega
      have h1c : (n1 : Int) ≤ (tc : Int) := by omega
      rw [htl] at hcl
      have CL2 := hid hcl
      have HN1 := hid hn1; have HLEN := hid hlen
      clear CL hcl htn htr hlen hdr hQm hin hya hyb hyc hra' hta ct hn1 htl hrd hQg hyg hdg htc
      have D3 : Drawn wr wr.drew := ⟨1, rfl⟩
      have f0 := dcell D3 c0
      have f1 := dcell D3 ct2
      have f2 := dcell D3 e0
      have f3 := dcell D3 e1
      have RA3 := hid (RA.out.below (D3.below wr.heap.size) (Nat.le_refl _))
      have BL3 := hid (bon BL.out (D3.below wr.heap.size))
      have CL3 := hid (CL2.out.past (D3.below wr.heap.size))
      clear c0 ct2 e0 e1
      have CN1 := hid (fun (W : World) (h : ClsR w0 W Q k (.slice (some ⟨tg, to, none⟩) n1 tc) u8 (⟨some ⟨rb, ro, none⟩, prI y, rc⟩ :: ts) qs) => (show ClsR w0 W Q (k + 1) (.slice (some ⟨tg, to + 1, none⟩) (n1 - 1) (tc - 1)) u8 ts qs from h.step (by
        have h1 := h.todo
        rw [List.map_cons] at h1
        have h2 := h1.tail
        rw [List.length_map] at h2
        rw [HN1.out]; exact h2) (fun g o n c hv => by
          injection hv with e1 _ _
          injection e1 with e1; injection e1 with e1 _
          subst e1
          exact ⟨_, _, _, rfl⟩)))
      have CN2 := hid (fun (W : World) (htc1 : tc = 1) (h : ClsR w0 W Q k (.slice (some ⟨tg, to, none⟩) n1 tc) u8 (⟨some ⟨rb, ro, none⟩, prI y, rc⟩ :: ts) qs) => (show ClsR w0 W Q (k + 1) (.slice (some ⟨tg, to, none⟩) (n1 - 1) 0) u8 ts qs from by
        have hts : ts = [] := by
          have h3 := HN1.out
          exact List.eq_nil_of_length_eq_zero (by omega)
        have hn : n1 = 1 := by have := HN1.out; rw [hts] at this; simpa using this
        subst hts
        refine h.step (by
          have h1 := h.todo
          rw [hn]
          exact h1.none_left to (Nat.le_refl _)) (fun g o n c hv => by
          injection hv with e1 _ _
          injection e1 with e1; injection e1 with e1 _
          subst e1
          exact ⟨_, _, _, rfl⟩)))
      have HLT7 := hid (fun r (hr : r ∈ qs) g (hg : r.val.ownBlock = some g) => (CL2.out.out.inner.own r hr).lt g hg)
      have HFT := hid (show tg < wr.heap.size from by
        obtain ⟨g1, o1, c1, hv1, _, h1⟩ := CL2.out.todo.lt
        have e1 : tg = g1 := by
          injection hv1 with h9 _ _
          injection h9 with h9
          injection h9
        omega)
      go_wp2
      go_region_held3 (fun w' => w'.cell? ⟨w.heap.size, 0, none⟩ = some (.slice a rs.length c) ∧ w'.cell? ⟨tg, to, none⟩ = some (.slice (some ⟨rb, ro, none⟩) 2 rc) ∧ w'.cell? ⟨rb, ro, none⟩ = some (.int .i64 ya) ∧ w'.cell? ⟨rb, ro + 1, none⟩ = some (.int .i64 yb)) (first | exact ⟨f0, f1, f2, f3⟩ | exact ⟨g0, g1, g2, g3⟩) ((first | (go_at_call 71; refine (l13Forces_any a rs c n A ya yb _ HA.out HNM.out RA3.out hyan hybn).mono ?_; rintro e w7 ⟨fv, fq, rfl, hown, hnu, hso, hb7⟩; obtain ⟨fg, fc, rfl⟩ := ownM_slice hown hso; have OF := hid hown; have NF := hid (HYC.out ▸ hnu); have g0 := cellB hb7 f0 (Nat.le_refl _); have g1 := cellB hb7 f1 (Nat.le_refl _); have g2 := cellB hb7 f2 (Nat.le_refl _); have g3 := cellB hb7 f3 (Nat.le_refl _); have CL7 := hid (CL3.out.past hb7); have BL7 := hid (bon BL3.out hb7); have HSZ7 := hid hb7.size; clear hown hnu hso hb7)))
      have hszw : wr.heap.size ≤ w7.heap.size := HSZ7.out
      have BASE := hid (show Inner 2 w7 w0.heap.size (qs ++ fq) from CL7.out.out.inner.join OF.out.inner hszr HLT7.out)
      have HFG := hid (show tg ≠ fg from by have h1 := OF.out.outer.ge fg rfl; have h2 := HFT.out; have h3 : wr.drew.heap.size = wr.heap.size := rfl; omega)
      have HFL := hid (show fq.length = (frL A y).length by have h1 := congrArg List.length NF.out; rwa [nums_length, List.length_map] at h1)
      have OF0 := hid (OF.out.base hszr)
      have C71 := hid (CN1.out w7 CL7.out)
      have C72 := hid (fun h => CN2.out w7 h CL7.out)
      have HLO := hid (show lenV u8 = Q.length from by
        obtain ⟨a', c', h1⟩ := CL7.out.som
        have h2 := congrArg List.length CL7.out.nout
        rw [nums_length, List.length_map, keyL_length HQK.out] at h2
        rw [h1, ← h2]; rfl)
      clear CN1 CN2 CL3 CL2 CL7 f0 f1 f2 f3 g0 g1 g2 g3 RA3 BL3 RA BL OF HLT7 HFT
      go_wp2
      case inl =>
        have CN := hid (C72.out ‹tc = 1›)
        have HTV := hid (show ∀ g o n c, Value.slice (some ⟨tg, to, none⟩) (n1 - 1) 0 = .slice (some ⟨g, o, none⟩) n c → g ≠ fg from fun g o n c hv => by
          injection hv with e1 _ _
          injection e1 with e1; injection e1 with e1 _
          rw [← e1]; exact HFG.out)
        generalize Value.slice (some ⟨tg, to, none⟩) (n1 - 1) 0 = tv2 at CN HTV ⊢
        clear C71 C72
        go_loopw [7, 8, 10] (fun tv ov ix wr => ∃ (j : Nat) (ts2 qs2 : List Row), ix = .int .i64 j ∧ j ≤ fq.length ∧ ClsR w0 wr (addAll (d + 1) Q ((frL A y).take j)) (k + 1) tv ov ts2 qs2 ∧ (∀ g o n c, tv = .slice (some ⟨g, o, none⟩) n c → g ≠ fg) ∧ OwnM 33 2 wr w0.heap.size (.slice (some ⟨fg, 0, none⟩) fq.length fc) fq ∧ Inner 2 wr w0.heap.size (qs2 ++ fq.drop j) ∧ Below w0.heap.size w0 wr) (fun _ _ ix _ => fq.length - (intOf ix).toNat)
        case atStart => exact ⟨0, ts, qs, rfl, Nat.zero_le _, by rw [addAll_zeroS]; exact CN.out, HTV.out, OF0.out, BASE.out, BL7.out⟩
        case round =>
          clear CN HTV OF0 BASE BL7
          obtain ⟨j, ts2, qs2, rfl, hj, hcl, hsn, hnx, hin, hb2⟩ := hrel
          have hfl := HFL.out
          have hf256 := frL_lenS A y
          have hQ2 := addAll_ok (d := d + 1) (L := (frL A y).take j) HQK.out (fun z hz => frL_lt (List.mem_of_mem_take hz))
          have hln := addAll_len (d + 1) Q ((frL A y).take j)
          have HSNO := hid (fun z => addAll_snoc (d + 1) Q ((frL A y).take j) z)
          generalize hQe : addAll (d + 1) Q ((frL A y).take j) = Q2 at *
          have hq2 := hQ2.len
          have HQ2 := hid hQ2; have HQE := hid hQe; have HLN := hid hln
          obtain ⟨og, oc, rfl⟩ := ownM_slice hcl.out hcl.som
          have CC := hid hcl; have SN := hid hsn; have NX := hid hnx; have IN := hid hin; have BQ := hid hb2
          have hszr2 := hb2.size
          have hql : qs2.length ≤ 256 := by
            have h1 := congrArg List.length hcl.nout
            rw [nums_length, List.length_map] at h1
            rw [h1]
            exact sorted_len (keyL_sorted _) (fun z hz => by
              obtain ⟨p, hp, rfl⟩ := List.mem_map.1 ((keyL_mem hQ2 z).1 hz)
              exact hQ2.2 p hp)
          clear hQ2 hQe hln hcl hsn hnx hin hfl
          by_cases hlt2 : j < fq.length
          · have hji : (j : Int) < (fq.length : Int) := by omega
            have hjf : j < (frL A y).length := by have := HFL.out; omega
            have HTK := hid (List.take_succ_eq_append_getElem hjf)
            have hz256 := frL_lt (List.getElem_mem hjf)
            have hdp := List.drop_eq_getElem_cons hlt2
            have hrz : fq[j].z = prI (frL A y)[j] := by
              have h1 : (nums fq)[j]'(by rw [nums_length]; exact hlt2) = ((frL A y).map prI)[j]'(by simpa using hjf) := by simp only [NF.out]
              simpa [nums] using h1
            obtain ⟨nb, no, hna, cn, hnok⟩ := NX.out.rdm.at j hlt2
            obtain ⟨rfl, rfl⟩ : fg = nb ∧ 0 = no := by simpa using hna
            have hrd := hnok.1
            obtain ⟨z, hzz⟩ : ∃ z, z = (frL A y)[j]'hjf := ⟨_, rfl⟩
            rw [← hzz] at hz256 HTK hrz
            rw [hdp] at IN
            generalize fq[j] = r at *
            obtain ⟨ra2, rz2, rc2⟩ := r
            simp only at hrz
            subst hrz
            simp only at hrd
            obtain ⟨zb1, zo, hra, ez0⟩ := hrd 0 (by simp [prI])
            obtain ⟨zb2, zo2, hra', ez1⟩ := hrd 1 (by simp [prI])
            subst hra
            obtain ⟨rfl, rfl⟩ : zb1 = zb2 ∧ zo = zo2 := by simpa using hra'
            simp only [prI, List.getElem_cons_zero, List.getElem_cons_succ, Nat.add_zero] at ez0 ez1
            obtain ⟨za, hza⟩ : ∃ za, za = z / 16 := ⟨_, rfl⟩
            obtain ⟨zb, hzb⟩ : ∃ zb, zb = z % 16 := ⟨_, rfl⟩
            have hzc : cod za zb = z := by rw [hza, hzb]; exact cod_self z
            have hzb16 : zb < 16 := by omega
            rw [← hza] at ez0
            rw [← hzb] at ez1
            have cn2 : wr.cell? ⟨fg, j, none⟩ = some (.slice (some ⟨zb1, zo, none⟩) 2 rc2) := by simpa [prI] using cn
            have HZC := hid hzc
            have HJ := hid (show j + 1 ≤ fq.length from hlt2)
            have HST := hid (show addAll (d + 1) Q ((frL A y).take (j + 1)) = addQ (d + 1) Q2 z by rw [HTK.out]; exact HSNO.out z)
            clear hzz hza hzb hzc hra' hna cn hnok hrd hdp
            have D3 : Drawn wr wr.drew := ⟨1, rfl⟩
            have f1 := dcell D3 cn2
            have f2 := dcell D3 ez0
            have f3 := dcell D3 ez1
            have CC3 := hid (CC.out.past (D3.below wr.heap.size))
            have NX3 := hid (NX.out.past (D3.below wr.heap.size) (Nat.le_refl _))
            have IN3 := hid (IN.out.past (D3.below wr.heap.size) (Nat.le_refl _))
            have BQ3 := hid (bon BQ.out (D3.below wr.heap.size))
            have RO3 := hid CC3.out.out.rdm
            have NO3 := hid CC3.out.nout
            have HQL := hid (Nat.le_trans hql (show 256 ≤ 16777216 by decide))
            have hszd : w0.heap.size ≤ wr.drew.heap.size := BQ3.out.size
            clear cn2 ez0 ez1
            by_cases hz : z ∈ Q2.map Prod.fst
            · have HB1 := hid (show decide (z ∈ keyL Q2) = true by rw [decide_eq_true_iff]; exact (keyL_mem HQ2.out z).2 hz)
              have HS2 := hid (show addAll (d + 1) Q ((frL A y).take (j + 1)) = Q2 from HST.out.trans (addQ_there hz))
              have IN4 := hid (IN3.out.sub (rs' := qs2 ++ fq.drop (j + 1)) (List.Sublist.append_left (List.sublist_cons_self _ _) _))
              clear hz
              go_wp2
              go_region_held3 (fun w' => w'.cell? ⟨fg, j, none⟩ = some (.slice (some ⟨zb1, zo, none⟩) 2 rc2) ∧ w'.cell? ⟨zb1, zo, none⟩ = some (.int .i64 za) ∧ w'.cell? ⟨zb1, zo + 1, none⟩ = some (.int .i64 zb)) (first | exact ⟨f1, f2, f3⟩) ((first | (go_at_call 32; refine (l19Has_any _ qs2 _ (keyL Q2) za zb z _ _ NO3.out RO3.out HZC.out hzb16 HB1.out HQL.out).mono ?_; rintro e w' ⟨rfl, rfl⟩)))
              go_wp2
              go_roundw
              case rel => exact ⟨j + 1, ts2, qs2, by go_num, HJ.out, by rw [HS2.out]; exact CC3.out, SN.out, NX3.out, IN4.out, BQ3.out⟩
              case measure => have h7 := HJ.out; simp [intOf]; omega
            · have HB1 := hid (show decide (z ∈ keyL Q2) = false by rw [decide_eq_false_iff_not]; exact fun h => hz ((keyL_mem HQ2.out z).1 h))
              have HNK := hid (fun h : z ∈ keyL Q2 => hz ((keyL_mem HQ2.out z).1 h))
              have HZN := hid hz
              have INP := hid (IN3.out.sub (rs' := qs2 ++ [⟨some ⟨zb1, zo, none⟩, prI z, rc2⟩]) (List.Sublist.append_left (by simp) _))
              have HKS := hid (keyL_sorted Q2)
              clear hz
              go_wp2
              go_region_held3 (fun w' => w'.cell? ⟨fg, j, none⟩ = some (.slice (some ⟨zb1, zo, none⟩) 2 rc2) ∧ w'.cell? ⟨zb1, zo, none⟩ = some (.int .i64 za) ∧ w'.cell? ⟨zb1, zo + 1, none⟩ = some (.int .i64 zb)) (first | exact ⟨f1, f2, f3⟩) ((first | (go_at_call 32; refine (l19Has_any _ qs2 _ (keyL Q2) za zb z _ _ NO3.out RO3.out HZC.out hzb16 HB1.out HQL.out).mono ?_; rintro e w' ⟨rfl, rfl⟩)))
              have HTL0 := hid (show (List.map Row.val ts2).length < 1099511627776 by
                have h1 := congrArg List.length CC3.out.ntodo
                rw [nums_length, List.length_map, List.length_drop, List.length_map] at h1
                rw [List.length_map]; omega)
              go_wp2_with (first | (go_at_call 72; refine (l19Put_any og 0 qs2 oc (keyL Q2) _ rc2 z w0.heap.size _ NO3.out HKS.out CC3.out.out INP.out hql hszd).mono ?_; rintro e w6 ⟨v6, qs6, L6, rfl, h1, h2, h3, h4, ⟨h5, h8⟩, h6, h7⟩; have P1 := hid h1; have P2 := hid h2; have P3 := hid h3; have P4 := hid h4; have P5 := hid h5; have P6 := hid h6; have P7 := hid h7; have P8 := hid (h8 HNK.out); have cn6 := cellB h7 f1 (Nat.le_refl _); have CC6 := hid (CC3.out.past h7); have NX6 := hid (NX3.out.past h7 (Nat.le_refl _)); have IN6 := hid (IN3.out.past h7 (Nat.le_refl _)); have BQ6 := hid (bon BQ3.out h7); have OT6 := hid CC6.out.todo; have HTL := hid (HTL0.out); have hs6 := BQ6.out.size; clear h1 h2 h3 h4 h5 h6 h7 h8) | (at_builtin; refine law_pushO tRows _ rfl _ _ rfl w0.heap.size u7 _ rfl OT6.out _ _ rfl rfl rfl HTL.out hs6 ?_; intro v8 w8 k1 k2))
              have HK2 := hid (show k + 1 ≤ Q2.length by have := HLN.out; omega)
              have RZ6 := hid (IN6.out.own ⟨some ⟨zb1, zo, none⟩, prI z, rc2⟩ (by simp))
              have C8 := hid (ClsR.push (d := d + 1) CC3.out HQ2.out hz256 HK2.out HZN.out rfl RZ6.out P7.out P1.out P2.out P3.out P4.out P5.out P6.out k1 k2)
              obtain ⟨gv, go, gn, gc, hgv, hgr, gv', go', gn', gc', hgv', hloc⟩ := k2
              have hgfg : gv ≠ fg := SN.out _ _ _ _ hgv
              have N8 := hid (show OwnM 33 2 w8 w0.heap.size (.slice (some ⟨fg, 0, none⟩) fq.length fc) fq from ⟨NX6.out.outer.kept hgr (.inr (fun e => hgfg (by simpa [Value.ownBlock] using e.symm))), (NX6.out.inner.freeO (hgv ▸ OT6.out) hgr)⟩)
              have I8 := hid (show Inner 2 w8 w0.heap.size (qs6 ++ fq.drop (j + 1)) from (IN6.out.freeO (hgv ▸ OT6.out) hgr).perm (by
                have h1 := P8.out.append_right (fq.drop (j + 1))
                rw [List.append_assoc] at h1
                exact h1))
              have B8 := hid (BQ6.out.trans (grown_below hgr hs6 (fun b hb => by
                cases hb
                obtain ⟨g1, o1, c1, hv1, h1, _⟩ := OT6.out.lt
                rw [hgv] at hv1
                injection hv1 with e1 _ _
                injection e1 with e1; injection e1 with e1 _
                omega)))
              have S8 := hid (show ∀ g o n c, v8 = .slice (some ⟨g, o, none⟩) n c → g ≠ fg from fun g o n c hv => by
                rw [hgv'] at hv
                injection hv with e1 _ _
                injection e1 with e1; injection e1 with e1 _
                subst e1
                rcases hloc with h1 | h1
                · rw [h1]; exact hgfg
                · have h2 := NX6.out.outer.lt fg rfl
                  omega)
              clear hgv hgr hgv' hloc hgfg k1
              go_wp2
              go_roundw
              case rel => exact ⟨j + 1, _, qs6, by go_num, HJ.out, by rw [HST.out]; exact C8.out, S8.out, N8.out, I8.out, B8.out⟩
              case measure => have h7 := HJ.out; simp [intOf]; omega
          · obtain rfl : j = fq.length := by omega
            have HE2 := hid (show bq A x (k + 1) = Q2 by rw [HNX.out, ← HQE.out, HFL.out, List.take_length])
            have hk2 : k + 1 ≤ Q2.length := by have := HLN.out; omega
            go_wp2
            go_roundw
            case rel => exact ⟨k + 1, ts2, qs2, by rw [HE2.out]; exact hk2, by rw [HE2.out]; exact CC.out, BQ.out⟩
            case measure =>
              have h1 := HLO.out
              have h2 := HLEN.out
              have h3 : lenV u7 = ts2.length := by
                obtain ⟨g3, o3, c3, hv3, _⟩ := CC.out.todo.rd
                rw [hv3, List.length_map]; rfl
              have h4 : ts2.length = Q2.length - (k + 1) := by
                have h5 := congrArg List.length CC.out.ntodo
                rwa [nums_length, List.length_map, List.length_drop, List.length_map] at h5
              have h6 : qs2.length = Q2.length := by
                have h5 := congrArg List.length CC.out.nout
                rwa [nums_length, List.length_map, keyL_length HQ2.out] at h5
              show 257 - (qs2.length - lenV u7) < 257 - (lenV _ - n1)
              rw [h3]
              have h7 : lenV _ = Q.length := h1
              rw [h7]
              omega
      case inr =>
        have CN := hid C71.out
        have HTV := hid (show ∀ g o n c, Value.slice (some ⟨tg, to + 1, none⟩) (n1 - 1) (tc - 1) = .slice (some ⟨g, o, none⟩) n c → g ≠ fg from fun g o n c hv => by
          injection hv with e1 _ _
          injection e1 with e1; injection e1 with e1 _
          rw [← e1]; exact HFG.out)
        generalize Value.slice (some ⟨tg, to + 1, none⟩) (n1 - 1) (tc - 1) = tv2 at CN HTV ⊢
        clear C71 C72
        go_loopw [7, 8, 10] (fun tv ov ix wr => ∃ (j : Nat) (ts2 qs2 : List Row), ix = .int .i64 j ∧ j ≤ fq.length ∧ ClsR w0 wr (addAll (d + 1) Q ((frL A y).take j)) (k + 1) tv ov ts2 qs2 ∧ (∀ g o n c, tv = .slice (some ⟨g, o, none⟩) n c → g ≠ fg) ∧ OwnM 33 2 wr w0.heap.size (.slice (some ⟨fg, 0, none⟩) fq.length fc) fq ∧ Inner 2 wr w0.heap.size (qs2 ++ fq.drop j) ∧ Below w0.heap.size w0 wr) (fun _ _ ix _ => fq.length - (intOf ix).toNat)
        case atStart => exact ⟨0, ts, qs, rfl, Nat.zero_le _, by rw [addAll_zeroS]; exact CN.out, HTV.out, OF0.out, BASE.out, BL7.out⟩
        case round =>
          clear CN HTV OF0 BASE BL7
          obtain ⟨j, ts2, qs2, rfl, hj, hcl, hsn, hnx, hin, hb2⟩ := hrel
          have hfl := HFL.out
          have hf256 := frL_lenS A y
          have hQ2 := addAll_ok (d := d + 1) (L := (frL A y).take j) HQK.out (fun z hz => frL_lt (List.mem_of_mem_take hz))
          have hln := addAll_len (d + 1) Q ((frL A y).take j)
          have HSNO := hid (fun z => addAll_snoc (d + 1) Q ((frL A y).take j) z)
          generalize hQe : addAll (d + 1) Q ((frL A y).take j) = Q2 at *
          have hq2 := hQ2.len
          have HQ2 := hid hQ2; have HQE := hid hQe; have HLN := hid hln
          obtain ⟨og, oc, rfl⟩ := ownM_slice hcl.out hcl.som
          have CC := hid hcl; have SN := hid hsn; have NX := hid hnx; have IN := hid hin; have BQ := hid hb2
          have hszr2 := hb2.size
          have hql : qs2.length ≤ 256 := by
            have h1 := congrArg List.length hcl.nout
            rw [nums_length, List.length_map] at h1
            rw [h1]
            exact sorted_len (keyL_sorted _) (fun z hz => by
              obtain ⟨p, hp, rfl⟩ := List.mem_map.1 ((keyL_mem hQ2 z).1 hz)
              exact hQ2.2 p hp)
          clear hQ2 hQe hln hcl hsn hnx hin hfl
          by_cases hlt2 : j < fq.length
          · have hji : (j : Int) < (fq.length : Int) := by omega
            have hjf : j < (frL A y).length := by have := HFL.out; omega
            have HTK := hid (List.take_succ_eq_append_getElem hjf)
            have hz256 := frL_lt (List.getElem_mem hjf)
            have hdp := List.drop_eq_getElem_cons hlt2
            have hrz : fq[j].z = prI (frL A y)[j] := by
              have h1 : (nums fq)[j]'(by rw [nums_length]; exact hlt2) = ((frL A y).map prI)[j]'(by simpa using hjf) := by simp only [NF.out]
              simpa [nums] using h1
            obtain ⟨nb, no, hna, cn, hnok⟩ := NX.out.rdm.at j hlt2
            obtain ⟨rfl, rfl⟩ : fg = nb ∧ 0 = no := by simpa using hna
            have hrd := hnok.1
            obtain ⟨z, hzz⟩ : ∃ z, z = (frL A y)[j]'hjf := ⟨_, rfl⟩
            rw [← hzz] at hz256 HTK hrz
            rw [hdp] at IN
            generalize fq[j] = r at *
            obtain ⟨ra2, rz2, rc2⟩ := r
            simp only at hrz
            subst hrz
            simp only at hrd
            obtain ⟨zb1, zo, hra, ez0⟩ := hrd 0 (by simp [prI])
            obtain ⟨zb2, zo2, hra', ez1⟩ := hrd 1 (by simp [prI])
            subst hra
            obtain ⟨rfl, rfl⟩ : zb1 = zb2 ∧ zo = zo2 := by simpa using hra'
            simp only [prI, List.getElem_cons_zero, List.getElem_cons_succ, Nat.add_zero] at ez0 ez1
            obtain ⟨za, hza⟩ : ∃ za, za = z / 16 := ⟨_, rfl⟩
            obtain ⟨zb, hzb⟩ : ∃ zb, zb = z % 16 := ⟨_, rfl⟩
            have hzc : cod za zb = z := by rw [hza, hzb]; exact cod_self z
            have hzb16 : zb < 16 := by omega
            rw [← hza] at ez0
            rw [← hzb] at ez1
            have cn2 : wr.cell? ⟨fg, j, none⟩ = some (.slice (some ⟨zb1, zo, none⟩) 2 rc2) := by simpa [prI] using cn
            have HZC := hid hzc
            have HJ := hid (show j + 1 ≤ fq.length from hlt2)
            have HST := hid (show addAll (d + 1) Q ((frL A y).take (j + 1)) = addQ (d + 1) Q2 z by rw [HTK.out]; exact HSNO.out z)
            clear hzz hza hzb hzc hra' hna cn hnok hrd hdp
            have D3 : Drawn wr wr.drew := ⟨1, rfl⟩
            have f1 := dcell D3 cn2
            have f2 := dcell D3 ez0
            have f3 := dcell D3 ez1
            have CC3 := hid (CC.out.past (D3.below wr.heap.size))
            have NX3 := hid (NX.out.past (D3.below wr.heap.size) (Nat.le_refl _))
            have IN3 := hid (IN.out.past (D3.below wr.heap.size) (Nat.le_refl _))
            have BQ3 := hid (bon BQ.out (D3.below wr.heap.size))
            have RO3 := hid CC3.out.out.rdm
            have NO3 := hid CC3.out.nout
            have HQL := hid (Nat.le_trans hql (show 256 ≤ 16777216 by decide))
            have hszd : w0.heap.size ≤ wr.drew.heap.size := BQ3.out.size
            clear cn2 ez0 ez1
            by_cases hz : z ∈ Q2.map Prod.fst
            · have HB1 := hid (show decide (z ∈ keyL Q2) = true by rw [decide_eq_true_iff]; exact (keyL_mem HQ2.out z).2 hz)
              have HS2 := hid (show addAll (d + 1) Q ((frL A y).take (j + 1)) = Q2 from HST.out.trans (addQ_there hz))
              have IN4 := hid (IN3.out.sub (rs' := qs2 ++ fq.drop (j + 1)) (List.Sublist.append_left (List.sublist_cons_self _ _) _))
              clear hz
              go_wp2
              go_region_held3 (fun w' => w'.cell? ⟨fg, j, none⟩ = some (.slice (some ⟨zb1, zo, none⟩) 2 rc2) ∧ w'.cell? ⟨zb1, zo, none⟩ = some (.int .i64 za) ∧ w'.cell? ⟨zb1, zo + 1, none⟩ = some (.int .i64 zb)) (first | exact ⟨f1, f2, f3⟩) ((first | (go_at_call 32; refine (l19Has_any _ qs2 _ (keyL Q2) za zb z _ _ NO3.out RO3.out HZC.out hzb16 HB1.out HQL.out).mono ?_; rintro e w' ⟨rfl, rfl⟩)))
              go_wp2
              go_roundw
              case rel => exact ⟨j + 1, ts2, qs2, by go_num, HJ.out, by rw [HS2.out]; exact CC3.out, SN.out, NX3.out, IN4.out, BQ3.out⟩
              case measure => have h7 := HJ.out; simp [intOf]; omega
            · have HB1 := hid (show decide (z ∈ keyL Q2) = false by rw [decide_eq_false_iff_not]; exact fun h => hz ((keyL_mem HQ2.out z).1 h))
              have HNK := hid (fun h : z ∈ keyL Q2 => hz ((keyL_mem HQ2.out z).1 h))
              have HZN := hid hz
              have INP := hid (IN3.out.sub (rs' := qs2 ++ [⟨some ⟨zb1, zo, none⟩, prI z, rc2⟩]) (List.Sublist.append_left (by simp) _))
              have HKS := hid (keyL_sorted Q2)
              clear hz
              go_wp2
              go_region_held3 (fun w' => w'.cell? ⟨fg, j, none⟩ = some (.slice (some ⟨zb1, zo, none⟩) 2 rc2) ∧ w'.cell? ⟨zb1, zo, none⟩ = some (.int .i64 za) ∧ w'.cell? ⟨zb1, zo + 1, none⟩ = some (.int .i64 zb)) (first | exact ⟨f1, f2, f3⟩) ((first | (go_at_call 32; refine (l19Has_any _ qs2 _ (keyL Q2) za zb z _ _ NO3.out RO3.out HZC.out hzb16 HB1.out HQL.out).mono ?_; rintro e w' ⟨rfl, rfl⟩)))
              have HTL0 := hid (show (List.map Row.val ts2).length < 1099511627776 by
                have h1 := congrArg List.length CC3.out.ntodo
                rw [nums_length, List.length_map, List.length_drop, List.length_map] at h1
                rw [List.length_map]; omega)
              go_wp2_with (first | (go_at_call 72; refine (l19Put_any og 0 qs2 oc (keyL Q2) _ rc2 z w0.heap.size _ NO3.out HKS.out CC3.out.out INP.out hql hszd).mono ?_; rintro e w6 ⟨v6, qs6, L6, rfl, h1, h2, h3, h4, ⟨h5, h8⟩, h6, h7⟩; have P1 := hid h1; have P2 := hid h2; have P3 := hid h3; have P4 := hid h4; have P5 := hid h5; have P6 := hid h6; have P7 := hid h7; have P8 := hid (h8 HNK.out); have cn6 := cellB h7 f1 (Nat.le_refl _); have CC6 := hid (CC3.out.past h7); have NX6 := hid (NX3.out.past h7 (Nat.le_refl _)); have IN6 := hid (IN3.out.past h7 (Nat.le_refl _)); have BQ6 := hid (bon BQ3.out h7); have OT6 := hid CC6.out.todo; have HTL := hid (HTL0.out); have hs6 := BQ6.out.size; clear h1 h2 h3 h4 h5 h6 h7 h8) | (at_builtin; refine law_pushO tRows _ rfl _ _ rfl w0.heap.size u7 _ rfl OT6.out _ _ rfl rfl rfl HTL.out hs6 ?_; intro v8 w8 k1 k2))
              have HK2 := hid (show k + 1 ≤ Q2.length by have := HLN.out; omega)
              have RZ6 := hid (IN6.out.own ⟨some ⟨zb1, zo, none⟩, prI z, rc2⟩ (by simp))
              have C8 := hid (ClsR.push (d := d + 1) CC3.out HQ2.out hz256 HK2.out HZN.out rfl RZ6.out P7.out P1.out P2.out P3.out P4.out P5.out P6.out k1 k2)
              obtain ⟨gv, go, gn, gc, hgv, hgr, gv', go', gn', gc', hgv', hloc⟩ := k2
              have hgfg : gv ≠ fg := SN.out _ _ _ _ hgv
              have N8 := hid (show OwnM 33 2 w8 w0.heap.size (.slice (some ⟨fg, 0, none⟩) fq.length fc) fq from ⟨NX6.out.outer.kept hgr (.inr (fun e => hgfg (by simpa [Value.ownBlock] using e.symm))), (NX6.out.inner.freeO (hgv ▸ OT6.out) hgr)⟩)
              have I8 := hid (show Inner 2 w8 w0.heap.size (qs6 ++ fq.drop (j + 1)) from (IN6.out.freeO (hgv ▸ OT6.out) hgr).perm (by
                have h1 := P8.out.append_right (fq.drop (j + 1))
                rw [List.append_assoc] at h1
                exact h1))
              have B8 := hid (BQ6.out.trans (grown_below hgr hs6 (fun b hb => by
                cases hb
                obtain ⟨g1, o1, c1, hv1, h1, _⟩ := OT6.out.lt
                rw [hgv] at hv1
                injection hv1 with e1 _ _
                injection e1 with e1; injection e1 with e1 _
                omega)))
              have S8 := hid (show ∀ g o n c, v8 = .slice (some ⟨g, o, none⟩) n c → g ≠ fg from fun g o n c hv => by
                rw [hgv'] at hv
                injection hv with e1 _ _
                injection e1 with e1; injection e1 with e1 _
                subst e1
                rcases hloc with h1 | h1
                · rw [h1]; exact hgfg
                · have h2 := NX6.out.outer.lt fg rfl
                  omega)
              clear hgv hgr hgv' hloc hgfg k1
              go_wp2
              go_roundw
              case rel => exact ⟨j + 1, _, qs6, by go_num, HJ.out, by rw [HST.out]; exact C8.out, S8.out, N8.out, I8.out, B8.out⟩
              case measure => have h7 := HJ.out; simp [intOf]; omega
          · obtain rfl : j = fq.length := by omega
            have HE2 := hid (show bq A x (k + 1) = Q2 by rw [HNX.out, ← HQE.out, HFL.out, List.take_length])
            have hk2 : k + 1 ≤ Q2.length := by have := HLN.out; omega
            go_wp2
            go_roundw
            case rel => exact ⟨k + 1, ts2, qs2, by rw [HE2.out]; exact hk2, by rw [HE2.out]; exact CC.out, BQ.out⟩
            case measure =>
              have h1 := HLO.out
              have h2 := HLEN.out
              have h3 : lenV u7 = ts2.length := by
                obtain ⟨g3, o3, c3, hv3, _⟩ := CC.out.todo.rd
                rw [hv3, List.length_map]; rfl
              have h4 : ts2.length = Q2.length - (k + 1) := by
                have h5 := congrArg List.length CC.out.ntodo
                rwa [nums_length, List.length_map, List.length_drop, List.length_map] at h5
              have h6 : qs2.length = Q2.length := by
                have h5 := congrArg List.length CC.out.nout
                rwa [nums_length, List.length_map, keyL_length HQ2.out] at h5
              show 257 - (qs2.length - lenV u7) < 257 - (lenV _ - n1)
              rw [h3]
              have h7 : lenV _ = Q.length := h1
              rw [h7]
              omega
end
end
section
section
attribute [local irreducible] frL bq addAll bqE keyL
end
end
end Go.Proofs.YtdncmloajajiaaaDoor
