/- Separation: plain, and the reference's. -/
import Derived.Test.YtdncmloajajiaaaDoorSepA
import Derived.Test.YtdncmloajajiaaaDoorLink
import Derived.Test.YtdncmloajajiaaaDoorOrdS
import Derived.Test.YtdncmloajajiaaaDoorBag
namespace Go.Proofs.YtdncmloajajiaaaDoor
open Go.RowKit
/-- One of these neighbours is not in the list. -/
def outB (l R : List Int) : Bool := R.any fun x => !decide (x ∈ l)
def outTo (g : List (List Int)) (l : List Int) (i : Nat) : Nat := maskL ((l.take i).filter fun v => outB l (row g v))
theorem outB_succ (l R : List Int) (k : Nat) (hk : k < R.length) : outB l (R.take (k + 1)) = (outB l (R.take k) || !decide (R[k] ∈ l)) := by
  unfold outB; rw [List.take_succ_eq_append_getElem hk, List.any_append, List.any_cons, List.any_nil, Bool.or_false]
theorem outTo_succ (g : List (List Int)) (l : List Int) (i : Nat) (hi : i < l.length) : outTo g l (i + 1) = if outB l (row g l[i]) = true then outTo g l i ||| 2 ^ l[i].toNat else outTo g l i := by
  unfold outTo
  rw [List.take_succ_eq_append_getElem hi, List.filter_append]
  by_cases h : outB l (row g l[i]) = true
  · rw [if_pos h]; simp [h, maskL_snoc]
  · rw [if_neg h]; simp [h]
theorem outTo_lt (g : List (List Int)) {l : List Int} (h : ∀ x ∈ l, 0 ≤ x ∧ x < 16) (i : Nat) : outTo g l i < 65536 :=
  maskL_lt _ 16 fun v hv => h v (List.mem_of_mem_take (List.mem_filter.1 hv).1)
theorem outTo_all {g : List (List Int)} (hg : GOk g) {l : List Int} (h : ∀ x ∈ l, 0 ≤ x ∧ x < (g.length : Int)) : outTo g l l.length = opM (g.map maskL) (maskL l) := by
  have hl16 : ∀ x ∈ l, 0 ≤ x ∧ x < 16 := fun x hx => by have := h x hx; have := hg.le; omega
  have hS : maskL l < 65536 := maskL_lt l 16 hl16
  apply mask_ext
  intro i
  rw [testBit_opM hS]
  unfold outTo
  rw [List.take_length, testBit_maskL _ _ (fun v hv => (h v (List.mem_filter.1 hv).1).1)]
  unfold openB
  rw [testBit_maskL _ _ (fun v hv => (h v hv).1)]
  by_cases hi : (i : Int) ∈ l
  · have hir := h _ hi
    have hil : i < g.length := by omega
    have hA : (g.map maskL).getD i 0 = maskL g[i] := by rw [List.getD_eq_getElem?_getD, List.getElem?_map, List.getElem?_eq_getElem hil]; rfl
    rw [hA, Bool.eq_iff_iff]
    simp only [decide_eq_true_eq, List.mem_filter, Bool.and_eq_true, hi, true_and]
    have hrow : row g (i : Int) = g[i] := by unfold row; simp [hil]
    rw [hrow]
    have hin : ∀ x ∈ g[i], 0 ≤ x := fun x hx => by
      have := gok_range hg (u := (i : Int)) (v := x) (by omega) (by omega) (by rw [hrow]; exact hx)
      exact this.1
    constructor
    · intro ho hz
      obtain ⟨x, hx, hn⟩ := List.any_eq_true.1 ho
      have hn' : x ∉ l := by simpa using hn
      have h0 := hin x hx
      have := (dif_zero _ _).1 hz x.toNat (by rw [testBit_maskL _ _ hin]; simpa [Int.toNat_of_nonneg h0] using hx)
      rw [testBit_maskL _ _ (fun v hv => (h v hv).1)] at this
      exact hn' (by simpa [Int.toNat_of_nonneg h0] using this)
    · intro hz
      rw [Ne, dif_zero] at hz
      obtain ⟨j, hj⟩ := Classical.not_forall.1 hz
      obtain ⟨h1, h2⟩ := Classical.not_imp.1 hj
      rw [testBit_maskL _ _ hin] at h1
      rw [testBit_maskL _ _ (fun v hv => (h v hv).1)] at h2
      exact List.any_eq_true.2 ⟨(j : Int), by simpa using h1, by simpa using h2⟩
  · rw [Bool.eq_iff_iff]
    simp [hi]
/-- The row is these members, and it lies. -/
structure QAt (q : Row) (M : Nat) (w : World) : Prop where
  z : q.z = mems M
  ok : q.ok w
  af : ∀ ad, q.a = some ad → ∃ b o, ad = ⟨b, o, none⟩
theorem Row.ok.below {B : Nat} {w w' : World} {r : Row} (h : r.ok w) (hb : Below B w w') (hB : w.heap.size ≤ B) : r.ok w' := ⟨h.1.below hb hB, h.2⟩
theorem QAt.below {B : Nat} {q : Row} {M : Nat} {w w' : World} (h : QAt q M w) (hb : Below B w w') (hB : w.heap.size ≤ B) : QAt q M w' := ⟨h.z, h.ok.below hb hB, h.af⟩
theorem QAt.own {q : Row} {M : Nat} {w : World} {B : Nat} (hz : q.z = mems M) (ho : Own 2 w B q.val (q.z.map (.int .i64))) : QAt q M w := by
  obtain ⟨qa, qz, qc⟩ := q
  obtain ⟨a, c, h1, h2, h3, h4, h5, h6⟩ := ho.rd
  unfold Row.val at h1
  simp only at h1 h2 h3 hz
  injection h1 with e1 e2 e3
  subst e1; subst e3
  refine ⟨hz, ⟨h2, h3, h4, h5⟩, ?_⟩
  intro ad had
  simp only at had
  rcases ho.form with ⟨h0, _⟩ | ⟨g, cap, spare, hv, _⟩
  · injection h0 with e1
    replace e1 : qa = none := e1
    rw [e1] at had; cases had
  · injection hv with e1
    replace e1 : qa = some ⟨g, 0, none⟩ := e1
    rw [e1] at had
    injection had with had
    exact ⟨g, 0, had.symm⟩
theorem mems_l16 {m : Nat} (h : m < 65536) : (mems m).length ≤ 16 := by
  have h1 := inc_length (n := 16) (s := mems m) ⟨mems_lt16 h, mems_sorted m⟩ (by decide)
  omega
theorem or_or (M P : Nat) : M ||| P ||| P = M ||| P := by rw [Nat.or_assoc, Nat.or_self]
set_option maxRecDepth 100000 in
set_option maxHeartbeats 4000000 in
theorem l12Open_any (a : Option Addr) (rs : List Row) (c : Nat) (a' : Option Addr) (l : List Int) (n' c' : Nat) (w : World) (hln : l.length = n') (hg : GOk (nums rs)) (hl : ∀ x ∈ l, 0 ≤ x ∧ x < (rs.length : Int)) (hl16 : n' ≤ 16) (hr : RdM w a rs) (hn : Small rs) (hz : Rd (Value.int .i64) w a' l) :
    Calls Tryd.prog 61 #[.agg #[.slice a rs.length c], .slice a' n' c'] w fun e w' => ∃ r : Row, e = .returned (.slice r.a r.z.length r.c) ∧ r.z = mems (opM ((nums rs).map maskL) (maskL l)) ∧ Below w.heap.size w w' := by
  subst hln
  have RA := hid hr; have RZ := hid hz; clear hr hz
  have HLR := hid hl
  have h16 : rs.length ≤ 16 := by have := hg.le; rwa [nums_length] at this
  have HALL := hid (outTo_all hg (l := l) (by rw [nums_length]; exact hl))
  have HLT := hid (outTo_lt (nums rs) (l := l) (fun x hx => by have := hl x hx; omega))
  have HG := hid hg
  have hn2 := hn.2
  clear hl hg
  obtain ⟨w0, hw0⟩ : ∃ w0, w0 = (w.alloc (.cells #[.slice a rs.length c] 29)) := ⟨_, rfl⟩
  have B0 := hid (show Below w.heap.size w w0 by rw [hw0]; exact ((Below.refl _ _).alloc (Nat.le_refl _) _))
  have c0 : w0.cell? ⟨w.heap.size, 0, none⟩ = some (.slice a rs.length c) := by rw [hw0]; simp [go_sem]
  replace RA := hid (RA.out.below B0.out (Nat.le_refl _))
  replace RZ := hid (RZ.out.below B0.out (Nat.le_refl _))
  have HW := hid hw0; clear hw0
  obtain ⟨w1, hw1⟩ : ∃ w1, w1 = w0.alloc (.cells #[] 2) := ⟨_, rfl⟩
  have hsz : w0.heap.size = w.heap.size + 1 := by rw [HW.out]; simp
  have hb1 : Below w0.heap.size w0 w1 := by rw [hw1]; exact alloc_below w0 _
  have hq : QAt ⟨some ⟨w.heap.size + 1, 0, none⟩, [], 0⟩ (outTo (nums rs) l 0) w1 := by
    refine ⟨?_, ⟨Rd.nil _ _ _, Nat.le_refl _, Nat.zero_le _, fun h => by cases h⟩, fun ad h => by cases h; exact ⟨_, _, rfl⟩⟩
    show [] = mems 0
    rw [mems_zero]
  have B00 := hid B0.out
  replace RA := hid (RA.out.below hb1 (Nat.le_refl _))
  replace RZ := hid (RZ.out.below hb1 (Nat.le_refl _))
  replace B0 := hid (bon B0.out hb1)
  replace c0 := cellB hb1 c0 (Nat.le_refl _)
  clear hb1
  have HQ := hid hq; clear hq hsz
  have RA1 := hid RA.out; have RZ1 := hid RZ.out; have B11 := hid B0.out; have c11 := hid c0
  go_enter Tryd.func61, Tryd.ntmps61
  go_wp2
  rw [← HW.out, ← hw1]
  clear HW hw1
  go_loopw [5, 6] (fun o y wr => ∃ i : Nat, i ≤ l.length ∧ y = .int .i64 i ∧ ∃ q : Row, o = .slice q.a q.z.length q.c ∧ QAt q (outTo (nums rs) l i) wr ∧ Below w1.heap.size w1 wr) (fun _ y _ => l.length - (intOf y).toNat)
  case atStart => exact ⟨0, Nat.zero_le _, rfl, _, rfl, HQ.out, Below.refl _ _⟩
  case round =>
    clear RA RZ B0 c0 HQ
    obtain ⟨i, hi, rfl, q, rfl, hq, hd⟩ := hrel
    have HQ := hid hq; clear hq
    have BL := hid hd
    have RA := hid (RA1.out.below hd (Nat.le_refl _)); have RZ := hid (RZ1.out.below hd (Nat.le_refl _)); have B0 := hid (bon B11.out hd); have c0 := cellB hd c11.out (Nat.le_refl _)
    clear hd
    by_cases hlt : i < l.length
    · obtain ⟨lb, lo, rfl, cl⟩ := RZ.out i hlt
      have hi0 : (i : Int) < (l.length : Int) := by omega
      have hv := HLR.out l[i] (List.getElem_mem hlt)
      obtain ⟨m, hm⟩ := Int.eq_ofNat_of_zero_le hv.1
      have hmr : m < rs.length := by omega
      have hmi : (m : Int) < (rs.length : Int) := by omega
      have HSU := hid (outTo_succ (nums rs) l i hlt)
      have hlt16 := HLT.out i
      rw [hm] at cl HSU
      rw [Int.toNat_natCast, row_rs rs m hmr] at HSU
      clear hv hm
      obtain ⟨gb, go, rfl, cr, hok⟩ := RA.out.at m hmr
      have hz := Nat.le_trans (hn2 _ (List.getElem_mem hmr)) (show 1048576 ≤ 16777216 by decide)
      generalize rs[m] = R at *
      have HR := hid hok.1; clear hok
      have hm16 : m < 16 := by omega
      have hpw : 2 ^ m < 65536 := Nat.pow_lt_pow_right (by decide) hm16
      obtain ⟨M, hM⟩ : ∃ M, outTo (nums rs) l i = M := ⟨_, rfl⟩
      rw [hM] at HQ HSU hlt16
      obtain ⟨M2, hM2⟩ : ∃ M2, M ||| 2 ^ m = M2 := ⟨_, rfl⟩
      have hM216 : M2 < 65536 := by rw [← hM2]; exact Nat.or_lt_two_pow (n := 16) hlt16 hpw
      have HOR := hid (show M2 ||| 2 ^ m = M2 by rw [← hM2]; exact or_or M _)
      have HOR1 := hid hM2
      rw [hM2] at HSU
      clear hM hM2 hpw
      go_wp2
      have RA2 := hid RA.out; have RZ2 := hid RZ.out; have B2 := hid B0.out; have BL2 := hid BL.out; have c2 := hid c0; have cl2 := hid cl; have cr2 := hid cr; have RR2 := hid HR.out
      rename World => wx
      go_loopw [5, 7] (fun o y wr => ∃ k : Nat, k ≤ R.z.length ∧ y = .int .i64 k ∧ ∃ q : Row, o = .slice q.a q.z.length q.c ∧ QAt q (if outB l (R.z.take k) = true then M2 else M) wr ∧ Below wx.heap.size wx wr) (fun _ y _ => R.z.length - (intOf y).toNat)
      case atStart => exact ⟨0, Nat.zero_le _, rfl, q, rfl, by simpa [outB] using HQ.out, Below.refl _ _⟩
      case round =>
        clear RA RZ B0 BL c0 cl cr HQ HR
        obtain ⟨k, hk, rfl, q2, rfl, hq, hd⟩ := hrel
        have RQ := hid hq
        have RA := hid (RA2.out.below hd (Nat.le_refl _)); have RZ := hid (RZ2.out.below hd (Nat.le_refl _)); have B0 := hid (bon B2.out hd); have BL := hid (bon BL2.out hd); have c0 := cellB hd c2.out (Nat.le_refl _)
        have cl := cellB hd cl2.out (Nat.le_refl _); have cr := cellB hd cr2.out (Nat.le_refl _); have RR := hid (RR2.out.below hd (Nat.le_refl _))
        have BK := hid hd
        clear hd hq
        go_wp2
        have qc0 := fun (p : Bel _) => cellB p.h c0 (Nat.le_refl _)
        have qcl := fun (p : Bel _) => cellB p.h cl (Nat.le_refl _)
        have qcr := fun (p : Bel _) => cellB p.h cr (Nat.le_refl _)
        refine wp_quiet_b (by kernel_rfl) (by kernel_rfl) ?_
        repeat (go_big_quiet_step (fail))
        refine wpQuiet_nil ?_
        intro _ hw'
        obtain ⟨⟨w1, hb⟩, rfl⟩ := hw'
        clear qc0 qcl qcr
        replace RA := hid (RA.out.below hb (Nat.le_refl _))
        replace RZ := hid (RZ.out.below hb (Nat.le_refl _))
        replace B0 := hid (bon B0.out hb)
        replace BL := hid (bon BL.out hb)
        replace c0 := cellB hb c0 (Nat.le_refl _)
        replace cl := cellB hb cl (Nat.le_refl _)
        replace cr := cellB hb cr (Nat.le_refl _)
        replace RR := hid (RR.out.below hb (Nat.le_refl _))
        replace BK := hid (bon BK.out hb)
        replace RQ := hid (RQ.out.below hb (Nat.le_refl _))
        clear hb
        rename World => wq
        by_cases hkt : k < R.z.length
        · obtain ⟨eb, eo, hea, ce⟩ := RR.out k hkt
          have hki : (k : Int) < (R.z.length : Int) := by omega
          have HBS := hid (outB_succ l R.z k hkt)
          rw [hea] at cr
          clear hea
          generalize R.z[k] = v at *
          by_cases hmem : v ∈ l
          · have HM := hid (show decide (v ∈ l) = true by simpa using hmem)
            have HN := hid (show outB l (R.z.take (k + 1)) = outB l (R.z.take k) by rw [HBS.out, HM.out]; simp)
            clear hmem
            go_wp2
            have qc0 := fun (p : Bel _) => cellB p.h c0 (Nat.le_refl _)
            have qcl := fun (p : Bel _) => cellB p.h cl (Nat.le_refl _)
            have qcr := fun (p : Bel _) => cellB p.h cr (Nat.le_refl _)
            have qce := fun (p : Bel _) => cellB p.h ce (Nat.le_refl _)
            refine wp_quiet_b (by kernel_rfl) (by kernel_rfl) ?_
            repeat (go_big_quiet_step (first | (go_at_call 70; exact qbs (l1Has_b _ _ _ _ _ _ HM.out (RZ.out.bel _) (by omega)))))
            refine wpQuiet_nil ?_
            intro _ hw'
            obtain ⟨⟨w2, hb⟩, rfl⟩ := hw'
            clear qc0 qcl qcr qce
            replace RA := hid (RA.out.below hb (Nat.le_refl _))
            replace RZ := hid (RZ.out.below hb (Nat.le_refl _))
            replace B0 := hid (bon B0.out hb)
            replace BL := hid (bon BL.out hb)
            replace c0 := cellB hb c0 (Nat.le_refl _)
            replace cl := cellB hb cl (Nat.le_refl _)
            replace cr := cellB hb cr (Nat.le_refl _)
            replace RR := hid (RR.out.below hb (Nat.le_refl _))
            replace BK := hid (bon BK.out hb)
            replace RQ := hid (RQ.out.below hb (Nat.le_refl _))
            replace ce := cellB hb ce (Nat.le_refl _)
            clear hb
            rename World => wz
            go_wp2
            go_roundw
            case rel => exact ⟨k + 1, by omega, by go_num, q2, rfl, by rw [HN.out]; exact RQ.out, BK.out⟩
            case measure => simp [intOf]; omega
          · have HM := hid (show decide (v ∈ l) = false by simpa using hmem)
            have HN := hid (show outB l (R.z.take (k + 1)) = true by rw [HBS.out, HM.out]; simp)
            clear hmem
            obtain ⟨MM, hMM⟩ : ∃ MM, (if outB l (R.z.take k) = true then M2 else M) = MM := ⟨_, rfl⟩
            have hMM16 : MM < 65536 := by rw [← hMM]; split <;> omega
            have HMO := hid (show MM ||| 2 ^ m = M2 by rw [← hMM]; split; exact HOR.out; exact HOR1.out)
            rw [hMM] at RQ
            have hl16 : q2.z.length ≤ 16 := by rw [RQ.out.z]; exact mems_l16 hMM16
            clear hMM
            go_wp2
            have qc0 := fun (p : Bel _) => cellB p.h c0 (Nat.le_refl _)
            have qcl := fun (p : Bel _) => cellB p.h cl (Nat.le_refl _)
            have qcr := fun (p : Bel _) => cellB p.h cr (Nat.le_refl _)
            have qce := fun (p : Bel _) => cellB p.h ce (Nat.le_refl _)
            refine wp_quiet_b (by kernel_rfl) (by kernel_rfl) ?_
            repeat (go_big_quiet_step (first | (go_at_call 70; exact qbs (l1Has_b _ _ _ _ _ _ HM.out (RZ.out.bel _) (by omega)))))
            refine wpQuiet_nil ?_
            intro _ hw'
            obtain ⟨⟨w3, hb⟩, rfl⟩ := hw'
            clear qc0 qcl qcr qce
            replace RA := hid (RA.out.below hb (Nat.le_refl _))
            replace RZ := hid (RZ.out.below hb (Nat.le_refl _))
            replace B0 := hid (bon B0.out hb)
            replace BL := hid (bon BL.out hb)
            replace c0 := cellB hb c0 (Nat.le_refl _)
            replace cl := cellB hb cl (Nat.le_refl _)
            replace cr := cellB hb cr (Nat.le_refl _)
            replace RR := hid (RR.out.below hb (Nat.le_refl _))
            replace BK := hid (bon BK.out hb)
            replace RQ := hid (RQ.out.below hb (Nat.le_refl _))
            replace ce := cellB hb ce (Nat.le_refl _)
            clear hb
            rename World => wz
            have HI := hid (l1Into_row q2 MM m wz RQ.out.z hMM16 hm16 RQ.out.ok RQ.out.af hl16)
            rw [HMO.out] at HI
            go_wp2_with (first
              | (go_at_call 33; refine HI.out.mono ?_; rintro e w4 ⟨q3, rfl, hz3, ho3, hb4⟩; have HZ3 := hid hz3; clear hz3))
            have RQ3 := hid (show QAt q3 M2 w4 from ho3.elim (fun e => by subst e; exact ⟨HZ3.out, RQ.out.ok.below hb4 (Nat.le_refl _), RQ.out.af⟩) (fun h => QAt.own HZ3.out h))
            have BK2 := hid (bon BK.out hb4)
            clear HZ3 ho3 hb4
            go_roundw
            case rel => exact ⟨k + 1, by omega, by go_num, q3, rfl, by rw [HN.out]; exact RQ3.out, BK2.out⟩
            case measure => simp [intOf]; omega
        · obtain rfl : k = R.z.length := by omega
          have HF := hid (show QAt q2 (outTo (nums rs) l (i + 1)) wq by rw [HSU.out]; have := RQ.out; rwa [List.take_length] at this)
          go_wp2
          go_roundw
          case rel => exact ⟨i + 1, by omega, by go_num, q2, rfl, HF.out, BL.out⟩
          case measure => simp [intOf]; omega
    · obtain rfl : i = l.length := by omega
      go_wp2
      go_ret
      exact ⟨q, rfl, HQ.out.z.trans (by rw [HALL.out]), B0.out⟩
end Go.Proofs.YtdncmloajajiaaaDoor
