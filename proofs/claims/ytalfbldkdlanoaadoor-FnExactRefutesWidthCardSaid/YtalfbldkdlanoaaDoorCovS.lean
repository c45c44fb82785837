/- Least sets that meet all sets: the reference's. -/
import Derived.Test.YtalfbldkdlanoaaDoorCovM
import Derived.Test.YtalfbldkdlanoaaDoorMeet
import Derived.Test.YtalfbldkdlanoaaDoorAroA
import Derived.Test.YtalfbldkdlanoaaDoorQTail
namespace Go.Proofs.YtalfbldkdlanoaaDoor
open Go.RowKit
/-- Where a list goes on. -/
def nextL (l : List Int) : Nat := match l.getLast? with
  | none => 0
  | some x => x.toNat + 1
def kidsTo (l : List Int) (a v : Nat) : List (List Int) := (List.range' a (v - a)).map fun u : Nat => l ++ [(u : Int)]
def kids (n : Nat) (l : List Int) : List (List Int) := kidsTo l (nextL l) n
def setsL (n : Nat) : Nat → List (List Int)
  | 0 => [[]]
  | k + 1 => (setsL n k).flatMap (kids n)
theorem kidsTo_succ (l : List Int) (a v : Nat) (h : a ≤ v) : kidsTo l a (v + 1) = kidsTo l a v ++ [l ++ [(v : Int)]] := by
  unfold kidsTo
  rw [show v + 1 - a = (v - a) + 1 by omega, List.range'_concat, List.map_append]
  simp; omega
theorem kidsTo_self (l : List Int) (a : Nat) : kidsTo l a a = [] := by simp [kidsTo]
theorem kidsTo_len (l : List Int) (a v : Nat) : (kidsTo l a v).length = v - a := by simp [kidsTo]
theorem kids_mem {n : Nat} {l x : List Int} : x ∈ kids n l ↔ ∃ v : Nat, nextL l ≤ v ∧ v < n ∧ x = l ++ [(v : Int)] := by
  unfold kids kidsTo
  rw [List.mem_map]
  constructor
  · rintro ⟨v, hv, rfl⟩
    rw [List.mem_range'_1] at hv
    exact ⟨v, hv.1, by omega, rfl⟩
  · rintro ⟨v, h1, h2, rfl⟩
    exact ⟨v, by rw [List.mem_range'_1]; omega, rfl⟩
theorem nextL_snoc (l : List Int) (v : Nat) : nextL (l ++ [(v : Int)]) = v + 1 := by unfold nextL; simp
/-- Increasing lists of k numbers under n. -/
structure SetK (n k : Nat) (l : List Int) : Prop where
  inc : Inc n l
  len : l.length = k
  next : nextL l ≤ n
  lt : ∀ x ∈ l, x < (nextL l : Int)
theorem setsL_in {n : Nat} : ∀ k, ∀ l ∈ setsL n k, SetK n k l := by
  intro k
  induction k with
  | zero =>
    intro l hl
    have : l = [] := by simpa [setsL] using hl
    subst this
    exact ⟨⟨fun x hx => by simp at hx, List.Pairwise.nil⟩, rfl, Nat.zero_le _, fun x hx => by simp at hx⟩
  | succ k ih =>
    intro l hl
    unfold setsL at hl
    rw [List.mem_flatMap] at hl
    obtain ⟨p, hp, hl⟩ := hl
    obtain ⟨v, h1, h2, rfl⟩ := kids_mem.1 hl
    have h := ih p hp
    refine ⟨⟨fun x hx => ?_, ?_⟩, by rw [List.length_append, h.len]; rfl, by rw [nextL_snoc]; omega, fun x hx => ?_⟩
    · rcases List.mem_append.1 hx with h3 | h3
      · exact h.inc.1 x h3
      · have : x = (v : Int) := by simpa using h3
        omega
    · rw [List.pairwise_append]
      refine ⟨h.inc.2, by simp, fun x hx y hy => ?_⟩
      have h3 := h.lt x hx
      have : y = (v : Int) := by simpa using hy
      omega
    · rw [nextL_snoc]
      rcases List.mem_append.1 hx with h3 | h3
      · have := h.lt x h3; omega
      · have : x = (v : Int) := by simpa using h3
        omega
theorem setsL_nodup {n : Nat} : ∀ k, (setsL n k).Nodup := by
  intro k
  induction k with
  | zero => simp [setsL]
  | succ k ih =>
    unfold setsL List.Nodup
    rw [List.pairwise_flatMap]
    refine ⟨fun l _ => ?_, ?_⟩
    · unfold kids kidsTo
      rw [List.pairwise_map]
      exact (List.nodup_range').imp (fun hne e => hne (by have := List.append_cancel_left e; simp at this; omega))
    · refine ih.imp (fun hne x hx y hy e => hne ?_)
      obtain ⟨v, _, _, rfl⟩ := kids_mem.1 hx
      obtain ⟨u, _, _, rfl⟩ := kids_mem.1 hy
      exact (List.append_inj' e rfl).1
theorem setsL_len {n : Nat} (hn : n ≤ 16) (k : Nat) : (setsL n k).length ≤ 65536 := by
  have h1 := nodup_le ((setsL n k).map fun l => ((maskL l : Nat) : Int)) 65536 (by
    rw [List.Nodup, List.pairwise_map]
    refine (setsL_nodup k).imp_of_mem (fun {l l'} hl hl' hne e => hne ?_)
    have h2 := mems_maskL (setsL_in k l hl).inc (by omega)
    have h3 := mems_maskL (setsL_in k l' hl').inc (by omega)
    rw [← h2, ← h3, show maskL l = maskL l' by omega]) (fun v hv => by
    obtain ⟨l, hl, rfl⟩ := List.mem_map.1 hv
    have := maskL_lt l 16 (fun x hx => by have := (setsL_in k l hl).inc.1 x hx; omega)
    omega)
  rwa [List.length_map] at h1
/-- All sets of k are there. -/
theorem setsL_all {n : Nat} (hn : n ≤ 16) : ∀ k T, InR 0 n T → card T = k → mems T ∈ setsL n k := by
  have key : ∀ (m : Nat) (l : List Int), l.length = m → Inc n l → l ∈ setsL n m := by
    intro m
    induction m with
    | zero =>
      intro l hl _
      have : l = [] := List.eq_nil_of_length_eq_zero hl
      subst this; simp [setsL]
    | succ m ih =>
      intro l hl h
      have hne : l ≠ [] := by rintro rfl; simp at hl
      obtain ⟨p, x, rfl⟩ : ∃ p x, l = p ++ [x] := ⟨l.dropLast, l.getLast hne, (List.dropLast_concat_getLast hne).symm⟩
      have h1 : Inc n p := ⟨fun y hy => h.1 y (by simp [hy]), (List.pairwise_append.1 h.2).1⟩
      have h2 := ih p (by simpa using hl) h1
      show _ ∈ (setsL n m).flatMap (kids n)
      rw [List.mem_flatMap]
      refine ⟨p, h2, ?_⟩
      have hx := h.1 x (by simp)
      obtain ⟨v, rfl⟩ := Int.eq_ofNat_of_zero_le hx.1
      refine kids_mem.2 ⟨v, ?_, by omega, rfl⟩
      unfold nextL
      cases hl2 : p.getLast? with
      | none => exact Nat.zero_le _
      | some y =>
        have hy : y ∈ p := List.mem_of_getLast? hl2
        have h3 := (List.pairwise_append.1 h.2).2.2 y hy (v : Int) (by simp)
        have h4 := h1.1 y hy
        simp only; omega
  intro k T hT hc
  have hp : T < 4294967296 := Nat.lt_of_lt_of_le hT.lt (Nat.le_trans (Nat.pow_le_pow_right (by decide) (show n ≤ 32 by omega)) (by decide))
  have h1 : Inc n (mems T) := ⟨fun x hx => by
    obtain ⟨i, rfl, hi⟩ := (mems_mem hp).1 hx
    have := hT i hi; omega, mems_sorted T⟩
  exact key k _ (by rw [← hc]; unfold card mems; rw [List.length_map]) h1
theorem meet_nil {zs ys : List Int} : meetL zs ys = [] ↔ ∀ x ∈ zs, x ∉ ys := by
  unfold meetL
  rw [List.filter_eq_nil_iff]
  constructor
  · intro h x hx hy; exact h x hx (by simpa using hy)
  · intro h x hx hy; exact h x hx (by simpa using hy)
theorem hits_meets {zs : List Int} {Q : List (List Int)} (hz : ∀ x ∈ zs, 0 ≤ x) (hQ : ∀ q ∈ Q, ∀ x ∈ q, 0 ≤ x) : hits (Q.map maskL) (maskL zs) = true ↔ ∀ q ∈ Q, meetL zs q ≠ [] := by
  unfold hits
  rw [List.all_eq_true]
  constructor
  · intro h q hq hm
    have h1 := h (maskL q) (List.mem_map_of_mem hq)
    rw [decide_eq_true_iff] at h1
    apply h1
    apply Nat.eq_of_testBit_eq
    intro i
    rw [Nat.testBit_and, Nat.zero_testBit, testBit_maskL zs i hz, testBit_maskL q i (hQ q hq)]
    by_cases h2 : (i : Int) ∈ zs
    · have := meet_nil.1 hm _ h2
      simp [this]
    · simp [h2]
  · intro h t ht
    obtain ⟨q, hq, rfl⟩ := List.mem_map.1 ht
    rw [decide_eq_true_iff]
    intro h0
    apply h q hq
    rw [meet_nil]
    intro x hx hy
    have h1 := hz x hx
    obtain ⟨i, rfl⟩ := Int.eq_ofNat_of_zero_le h1
    have h2 : (maskL zs &&& maskL q).testBit i = true := by
      rw [Nat.testBit_and, testBit_maskL zs i hz, testBit_maskL q i (hQ q hq)]
      simp [hx, hy]
    rw [h0] at h2; simp at h2
def moreTo (n : Nat) (L : List (List Int)) (j : Nat) : List (List Int) := (L.take j).flatMap (kids n)
theorem moreTo_succ (n : Nat) (L : List (List Int)) (j : Nat) (h : j < L.length) : moreTo n L (j + 1) = moreTo n L j ++ kids n L[j] := by
  unfold moreTo
  rw [List.take_succ_eq_append_getElem h, List.flatMap_append]
  simp
theorem moreTo_len {n : Nat} (hn : n ≤ 16) (L : List (List Int)) (j : Nat) (h : j ≤ L.length) : (moreTo n L j).length ≤ 16 * j := by
  induction j with
  | zero => simp [moreTo]
  | succ j ih =>
    rw [moreTo_succ n L j (by omega), List.length_append]
    have := ih (by omega)
    have h2 : (kids n L[j]).length ≤ 16 := by unfold kids; rw [kidsTo_len]; omega
    omega
theorem next_get {l : List Int} {m : Nat} (h : l.length = m + 1) (h0 : ∀ x ∈ l, 0 ≤ x) : ∃ x : Nat, l[m]'(by omega) = (x : Int) ∧ nextL l = x + 1 := by
  have hne : l ≠ [] := by rintro rfl; simp at h
  have hx := h0 _ (List.getElem_mem (show m < l.length by omega))
  obtain ⟨x, hx2⟩ := Int.eq_ofNat_of_zero_le hx
  refine ⟨x, hx2, ?_⟩
  unfold nextL
  have : l.getLast? = some l[m] := by
    rw [List.getLast?_eq_getElem?, List.getElem?_eq_getElem (by omega)]
    congr 1
    congr 1
    omega
  rw [this, hx2]
  simp
set_option maxRecDepth 100000 in
set_option maxHeartbeats 8000000 in
theorem l11Sets_any (n k0 : Nat) (w : World) (hn : n ≤ 16) (hk0 : k0 ≤ 16) :
    Calls Tryd.prog 142 #[.int .i64 n, .int .i64 k0] w (RetOwnM 26 2 (setsL n k0) w) := by
  have HSK := hid (fun k l (hl : l ∈ setsL n k) => setsL_in k l hl)
  have HSL := hid (fun k => setsL_len hn k)
  have HML := hid (fun k j (h : j ≤ (setsL n k).length) => moreTo_len hn (setsL n k) j h)
  go_enter Tryd.func142, Tryd.ntmps142
  have B1 := hid (alloc_below w (.cells #[] 2))
  have BL := hid (show Below w.heap.size w ((w.alloc (.cells #[] 2)).alloc (.cells #[.slice (some ⟨w.heap.size, 0, none⟩) 0 0] 26)) from (alloc_below w _).alloc (by simp) _)
  have OM := hid (show OwnM 26 2 ((w.alloc (.cells #[] 2)).alloc (.cells #[.slice (some ⟨w.heap.size, 0, none⟩) 0 0] 26)) w.heap.size (.slice (some ⟨w.heap.size + 1, 0, none⟩) 1 1) [(⟨some ⟨w.heap.size, 0, none⟩, [], 0⟩ : Row)] from by
    have h1 := (own_new 2 w [] (by decide)).past (alloc_below (w.alloc (.cells #[] 2)) (.cells #[.slice (some ⟨w.heap.size, 0, none⟩) 0 0] 26)) (Nat.le_refl _)
    have h2 := (own_new 26 (w.alloc (.cells #[] 2)) [.slice (some ⟨w.heap.size, 0, none⟩) 0 0] (by simp [maxLen])).base (B' := w.heap.size) (by simp)
    have e : (w.alloc (.cells #[] 2)).heap.size = w.heap.size + 1 := by simp
    rw [e] at h2
    exact ⟨h2, (Inner.nil 2 w w.heap.size).snoc BL.out (Nat.le_refl _) ⟨some ⟨w.heap.size, 0, none⟩, [], 0⟩ h1⟩)
  go_wp2
  go_loopw [5, 6, 7, 8, 9, 10] (fun o x _ _ _ _ wr => ∃ (i : Nat) (ps : List Row), i ≤ k0 ∧ x = .int .i64 i ∧ OwnM 26 2 wr w.heap.size o ps ∧ nums ps = setsL n i ∧ Below w.heap.size w wr) (fun _ x _ _ _ _ _ => k0 - (intOf x).toNat)
  case atStart => exact ⟨0, _, Nat.zero_le _, rfl, OM.out, rfl, BL.out⟩
  case round =>
    clear OM BL B1
    obtain ⟨i0, ps, hi, rfl, hom, hnp, hb⟩ := hrel
    have OM := hid hom; have HNP := hid hnp; have BW := hid hb
    obtain ⟨oa, oc, hov, _⟩ := hom.rd
    subst hov
    clear hom hnp hb
    by_cases hlt0 : i0 < k0
    · have hii : (i0 : Int) < (k0 : Int) := by omega
      obtain ⟨wM, rfl⟩ : ∃ z, z = wr := ⟨_, rfl⟩
      have OQ0 := hid (own_new 26 wM [] (by decide))
      have BQ0 := hid (alloc_below wM (.cells #[] 26))
      obtain ⟨L, hL⟩ : ∃ L, setsL n i0 = L := ⟨_, rfl⟩
      have HLL := hid hL
      have HPS := hid (show ps.length = (setsL n i0).length by rw [← HNP.out, nums_length])
      have hpl : ps.length ≤ 65536 := by rw [HPS.out]; exact HSL.out i0
      have HIN := hid (fun l (hl : l ∈ L) => HSK.out i0 l (by rw [hL]; exact hl))
      have HNL := hid (show nums ps = L by rw [HNP.out, hL])
      clear hL
      go_wp2
      go_loopw [7, 8, 9, 10] (fun m x _ _ wq => ∃ (j : Nat) (qs : List Row), j ≤ ps.length ∧ x = .int .i64 j ∧ OwnM 26 2 wq wM.heap.size m qs ∧ nums qs = moreTo n L j ∧ Below wM.heap.size wM wq) (fun _ x _ _ _ => ps.length - (intOf x).toNat)
      case atStart => exact ⟨0, [], Nat.zero_le _, rfl, ⟨OQ0.out, Inner.nil _ _ _⟩, rfl, BQ0.out⟩
      case round =>
        clear OQ0 BQ0
        obtain ⟨j, qs, hj, rfl, hom, hnq, hb⟩ := hrel
        have OQ := hid hom; have HQ := hid hnq; have BL := hid hb
        have hb2 := hb
        clear hom hnq hb
        by_cases hlt : j < ps.length
        · have hji : (j : Int) < (ps.length : Int) := by omega
          have hjL : j < L.length := by rw [← HNL.out, nums_length]; exact hlt
          have hzj : ps[j].z = L[j] := by
            have h3 : (nums ps)[j]'(by rw [nums_length]; exact hlt) = L[j] := by simp [HNL.out]
            rw [← h3]; simp [nums]
          have HMS := hid (moreTo_succ n L j hjL)
          have HSJ := hid (HIN.out L[j] (List.getElem_mem hjL))
          obtain ⟨pb, po, rfl, cr, hok⟩ := (OM.out.rdm.below hb2 (Nat.le_refl _)).at j hlt
          rw [hzj] at cr
          have HOK0 := hid (show Rd (Value.int .i64) wr ps[j].a L[j] from by rw [← hzj]; exact hok.1)
          generalize L[j] = l at *
          have HZJ := hid hzj
          have hlen := HSJ.out.len
          have hnx := HSJ.out.next
          clear hzj hok hb2
          have HMJ := hid (show (moreTo n L j).length ≤ 16 * j by
            have h4 := HML.out i0 j (by rw [← HPS.out]; omega)
            rwa [HLL.out] at h4)
          by_cases hi0 : i0 = 0
          · have hl0 : l.length = 0 := by rw [hlen]; exact hi0
            have hl : l = [] := List.eq_nil_of_length_eq_zero hl0
            have hn0 : nextL l = 0 := by rw [hl]; rfl
            have ATST : Value.int .i64 0 = .int .i64 ((nextL l : Nat) : Int) := by rw [hn0]; rfl
            rw [hl0] at cr
            have hlb : l.length ≤ 16 := by omega
            have HAT := hid ATST
            clear hlen hl hl0 hi0 ATST hn0
            go_wp2
            clear cr
            go_loopw [7, 10] (fun m y wz => ∃ (v : Nat) (qs : List Row), nextL l ≤ v ∧ v ≤ n ∧ y = .int .i64 v ∧ OwnM 26 2 wz wM.heap.size m qs ∧ nums qs = moreTo n L j ++ kidsTo l (nextL l) v ∧ Below wM.heap.size wM wz) (fun _ y _ => n - (intOf y).toNat)
            case atStart => exact ⟨nextL l, qs, Nat.le_refl _, HSJ.out.next, HAT.out, OQ.out, by rw [kidsTo_self, List.append_nil]; exact HQ.out, BL.out⟩
            case round =>
              clear OQ BL HQ
              obtain ⟨v, qs, hv0, hvn, rfl, hom, hnq, hb⟩ := hrel
              have OQ := hid hom; have HQ := hid hnq; have BL := hid hb
              have hb2 := hb
              obtain ⟨ma, mc, hmv, _⟩ := hom.rd
              subst hmv
              clear hom hnq hb
              by_cases hlv : v < n
              · have hvi : (v : Int) < (n : Int) := by omega
                obtain ⟨pb', po', hpa', cr, hok⟩ := (OM.out.rdm.below hb2 (Nat.le_refl _)).at j hlt
                obtain ⟨rfl, rfl⟩ : pb = pb' ∧ po = po' := by simp at hpa'; exact hpa'
                have HOK := hid (show Rd (Value.int .i64) wr ps[j].a l from by rw [← HZJ.out]; exact hok.1)
                have hac := hok.2.2.2
                rw [HZJ.out] at cr
                have hszr := BL.out.size
                obtain ⟨Z, hZ⟩ : ∃ Z, l ++ [(v : Int)] = Z := ⟨_, rfl⟩
                have HZ := hid hZ
                have HMP := hid (show (l.map (Value.int .i64)) ++ [.int .i64 (v : Int)] = Z.map (.int .i64) by rw [← hZ, List.map_append]; rfl)
                have hql : (qs.map Row.val).length < 1099511627776 := by
                  have h3 := congrArg List.length HQ.out
                  rw [nums_length, List.length_append, kidsTo_len] at h3
                  have h4 := HMJ.out
                  rw [List.length_map]
                  omega
                have hll : (l.map (Value.int .i64)).length < 1099511627776 := by rw [List.length_map]; omega
                have hl16 : l.length ≤ 1048576 := by omega
                generalize ps[j].a = qa at *
                generalize ps[j].c = qc at *
                clear hZ hok hpa' hb2
                go_wp2_with fail
                refine (l1Copy_any qa l qc _ HOK.out hl16 hac).mono ?_
                rintro e w1 ⟨cv, rfl, hown, hb⟩
                obtain ⟨ca, cc, hcv, _⟩ := Own.rd hown
                subst hcv
                have OC := hid hown
                have B1 := hid hb
                have hs1 := hb.size
                clear hown hb cr
                go_wp2_with (at_builtin; refine law_push tI64 _ rfl _ _ rfl wr.heap.size _ (l.map (.int .i64)) rfl OC.out _ _ rfl ?c0 rfl ?c1 ?c2 ?_)
                case c0 => simp
                case c1 => exact hll
                case c2 => exact hs1
                intro rv w2 h1 h2
                have B2 := hid (B1.out.trans (grown_below h2 hs1 (fun g hg => OC.out.ge g hg)))
                rw [HMP.out] at h1
                obtain ⟨ra, rc, hrv, _⟩ := Own.rd h1
                subst hrv
                have OQ4 := hid (OQ.out.past B2.out (Nat.le_refl _))
                have IN4 := hid (OQ.out.inner.snoc B2.out hszr ⟨ra, Z, rc⟩ h1)
                have BL4 := hid (bon BL.out B2.out)
                have hs2 : wM.heap.size ≤ w2.heap.size := BL4.out.size
                clear h1 h2 OQ BL OC B1 B2
                go_wp2_with (at_builtin; refine law_push tRows _ rfl _ _ rfl wM.heap.size _ (qs.map Row.val) rfl OQ4.out.outer _ _ rfl ?c0 rfl ?c1 ?c2 ?_)
                case c0 => simp
                case c1 => exact hql
                case c2 => exact hs2
                intro v' w5 h3 h4
                have OQ5 := hid (rows_push (by decide) OQ4.out.outer IN4.out h3 h4)
                have BL5 := hid (BL4.out.trans (grown_below h4 hs2 (fun g hg => OQ4.out.outer.ge g hg)))
                have HQ5 := hid (show nums (qs ++ [(⟨ra, Z, rc⟩ : Row)]) = moreTo n L j ++ kidsTo l (nextL l) (v + 1) by
                  rw [nums_push, HQ.out, kidsTo_succ _ _ _ hv0, List.append_assoc, HZ.out])
                clear h3 h4 OQ4 IN4 BL4
                go_wp2
                go_roundw
                case rel => exact ⟨v + 1, _, by omega, by omega, by go_num, OQ5.out, HQ5.out, BL5.out⟩
                case measure => simp [intOf]; omega
              · obtain rfl : v = n := by omega
                have HQ6 := hid (show nums qs = moreTo v L (j + 1) by rw [HQ.out, HMS.out]; rfl)
                go_wp2
                go_roundw
                case rel => exact ⟨j + 1, qs, by omega, by go_num, OQ.out, HQ6.out, BL.out⟩
                case measure => simp [intOf]; omega
          · obtain ⟨i1, hi1⟩ : ∃ i1, i0 = i1 + 1 := ⟨i0 - 1, by omega⟩
            have hl1 : l.length = i1 + 1 := by rw [hlen]; exact hi1
            obtain ⟨x, hx, hxn⟩ := next_get hl1 (fun y hy => (HSJ.out.inc.1 y hy).1)
            have hxb : x + 1 ≤ n := by rw [← hxn]; exact hnx
            have ATST : Value.int .i64 ((x : Int) + 1) = .int .i64 ((nextL l : Nat) : Int) := by rw [hxn]; rfl
            obtain ⟨xb, xo, hxa, cx⟩ := HOK0.out i1 (by omega)
            rw [hx] at cx
            rw [hl1, hxa] at cr
            have hlb : l.length ≤ 17 := by omega
            have HAT := hid ATST
            clear hlen hx hi0 hi1 ATST hxn
            have OQB := hid OQ.out; have BLB := hid BL.out
            go_wp2
            have qcr := fun (p : Bel _) => cellB p.h cr (Nat.le_refl _)
            have qcx := fun (p : Bel _) => cellB p.h cx (Nat.le_refl _)
            refine wp_quiet_b (by kernel_rfl) (by kernel_rfl) ?_
            repeat (go_big_quiet_step (fail))
            refine wpQuiet_nil ?_
            intro _ hw'
            obtain ⟨⟨w1, hb⟩, rfl⟩ := hw'
            clear qcr qcx
            replace OQ := hid (OQ.out.past hb (Nat.le_refl _))
            replace BL := hid (bon BL.out hb)
            replace cr := cellB hb cr (Nat.le_refl _)
            replace cx := cellB hb cx (Nat.le_refl _)
            clear hb
            rename_i wi
            clear cr cx hxa hl1 OQB BLB
            go_wp2
            go_loopw [7, 10] (fun m y wz => ∃ (v : Nat) (qs : List Row), nextL l ≤ v ∧ v ≤ n ∧ y = .int .i64 v ∧ OwnM 26 2 wz wM.heap.size m qs ∧ nums qs = moreTo n L j ++ kidsTo l (nextL l) v ∧ Below wM.heap.size wM wz) (fun _ y _ => n - (intOf y).toNat)
            case atStart => exact ⟨nextL l, qs, Nat.le_refl _, HSJ.out.next, HAT.out, OQ.out, by rw [kidsTo_self, List.append_nil]; exact HQ.out, BL.out⟩
            case round =>
              clear OQ BL HQ
              obtain ⟨v, qs, hv0, hvn, rfl, hom, hnq, hb⟩ := hrel
              have OQ := hid hom; have HQ := hid hnq; have BL := hid hb
              have hb2 := hb
              obtain ⟨ma, mc, hmv, _⟩ := hom.rd
              subst hmv
              clear hom hnq hb
              by_cases hlv : v < n
              · have hvi : (v : Int) < (n : Int) := by omega
                obtain ⟨pb', po', hpa', cr, hok⟩ := (OM.out.rdm.below hb2 (Nat.le_refl _)).at j hlt
                obtain ⟨rfl, rfl⟩ : pb = pb' ∧ po = po' := by simp at hpa'; exact hpa'
                have HOK := hid (show Rd (Value.int .i64) wr ps[j].a l from by rw [← HZJ.out]; exact hok.1)
                have hac := hok.2.2.2
                rw [HZJ.out] at cr
                have hszr := BL.out.size
                obtain ⟨Z, hZ⟩ : ∃ Z, l ++ [(v : Int)] = Z := ⟨_, rfl⟩
                have HZ := hid hZ
                have HMP := hid (show (l.map (Value.int .i64)) ++ [.int .i64 (v : Int)] = Z.map (.int .i64) by rw [← hZ, List.map_append]; rfl)
                have hql : (qs.map Row.val).length < 1099511627776 := by
                  have h3 := congrArg List.length HQ.out
                  rw [nums_length, List.length_append, kidsTo_len] at h3
                  have h4 := HMJ.out
                  rw [List.length_map]
                  omega
                have hll : (l.map (Value.int .i64)).length < 1099511627776 := by rw [List.length_map]; omega
                have hl16 : l.length ≤ 1048576 := by omega
                generalize ps[j].a = qa at *
                generalize ps[j].c = qc at *
                clear hZ hok hpa' hb2
                go_wp2_with fail
                refine (l1Copy_any qa l qc _ HOK.out hl16 hac).mono ?_
                rintro e w1 ⟨cv, rfl, hown, hb⟩
                obtain ⟨ca, cc, hcv, _⟩ := Own.rd hown
                subst hcv
                have OC := hid hown
                have B1 := hid hb
                have hs1 := hb.size
                clear hown hb cr
                go_wp2_with (at_builtin; refine law_push tI64 _ rfl _ _ rfl wr.heap.size _ (l.map (.int .i64)) rfl OC.out _ _ rfl ?c0 rfl ?c1 ?c2 ?_)
                case c0 => simp
                case c1 => exact hll
                case c2 => exact hs1
                intro rv w2 h1 h2
                have B2 := hid (B1.out.trans (grown_below h2 hs1 (fun g hg => OC.out.ge g hg)))
                rw [HMP.out] at h1
                obtain ⟨ra, rc, hrv, _⟩ := Own.rd h1
                subst hrv
                have OQ4 := hid (OQ.out.past B2.out (Nat.le_refl _))
                have IN4 := hid (OQ.out.inner.snoc B2.out hszr ⟨ra, Z, rc⟩ h1)
                have BL4 := hid (bon BL.out B2.out)
                have hs2 : wM.heap.size ≤ w2.heap.size := BL4.out.size
                clear h1 h2 OQ BL OC B1 B2
                go_wp2_with (at_builtin; refine law_push tRows _ rfl _ _ rfl wM.heap.size _ (qs.map Row.val) rfl OQ4.out.outer _ _ rfl ?c0 rfl ?c1 ?c2 ?_)
                case c0 => simp
                case c1 => exact hql
                case c2 => exact hs2
                intro v' w5 h3 h4
                have OQ5 := hid (rows_push (by decide) OQ4.out.outer IN4.out h3 h4)
                have BL5 := hid (BL4.out.trans (grown_below h4 hs2 (fun g hg => OQ4.out.outer.ge g hg)))
                have HQ5 := hid (show nums (qs ++ [(⟨ra, Z, rc⟩ : Row)]) = moreTo n L j ++ kidsTo l (nextL l) (v + 1) by
                  rw [nums_push, HQ.out, kidsTo_succ _ _ _ hv0, List.append_assoc, HZ.out])
                clear h3 h4 OQ4 IN4 BL4
                go_wp2
                go_roundw
                case rel => exact ⟨v + 1, _, by omega, by omega, by go_num, OQ5.out, HQ5.out, BL5.out⟩
                case measure => simp [intOf]; omega
              · obtain rfl : v = n := by omega
                have HQ6 := hid (show nums qs = moreTo v L (j + 1) by rw [HQ.out, HMS.out]; rfl)
                go_wp2
                go_roundw
                case rel => exact ⟨j + 1, qs, by omega, by go_num, OQ.out, HQ6.out, BL.out⟩
                case measure => simp [intOf]; omega
        · obtain rfl : j = ps.length := by omega
          have HFIN := hid (show nums qs = setsL n (i0 + 1) by
            rw [HQ.out]
            show (L.take ps.length).flatMap (kids n) = (setsL n i0).flatMap (kids n)
            rw [HLL.out, List.take_of_length_le (by rw [← HNL.out, nums_length]; exact Nat.le_refl _)])
          have OQ2 := hid (OQ.out.base (B' := w.heap.size) BW.out.size)
          have BW2 := hid (bon BW.out (show Below wM.heap.size wM wr from BL.out))
          go_wp2
          go_roundw
          case rel => exact ⟨i0 + 1, qs, by omega, by go_num, OQ2.out, HFIN.out, BW2.out⟩
          case measure => simp [intOf]; omega
    · obtain rfl : i0 = k0 := by omega
      go_wp2
      go_ret
      exact ⟨_, _, rfl, HNP.out, OM.out, BW.out⟩
end Go.Proofs.YtalfbldkdlanoaaDoor
