/- FnPaths: the law. -/
import Derived.Test.YtdncmloajajiaaaDoorFnPM
import Derived.Test.YtdncmloajajiaaaDoorFnW
import Derived.Test.YtdncmloajajiaaaDoorFnP
import Derived.Test.YtdncmloajajiaaaDoorEdgeIn
import Derived.Test.YtdncmloajajiaaaDoorEdges
import Derived.Test.YtdncmloajajiaaaDoorDistI
namespace Go.Proofs.YtdncmloajajiaaaDoor
open Go.RowKit
section
theorem ownM_someP {eo ei : TypeId} {w : World} {B : Nat} {v : Value} {rs : List Row} (h : OwnM eo ei w B v rs) (h0 : 0 < rs.length) : ∃ g c, v = .slice (some ⟨g, 0, none⟩) rs.length c := by
  rcases h.outer.form with ⟨_, h2⟩ | ⟨g, cap, spare, h2, _⟩
  · have := congrArg List.length h2
    rw [List.length_map, List.length_nil] at this; omega
  · exact ⟨_, _, by rw [h2, List.length_map]⟩
theorem edgesP_len (g : List (List Int)) : (edgesOr g).length ≤ 256 := by
  unfold edgesOr
  split
  · rename_i h
    have h1 := edgesTo_len g g.length (fun v hv => gok_row_len h v hv)
    have := h.le
    show (edgesTo g g.length).length ≤ 256
    omega
  · simp
theorem likeInts_m (a a' : Option Addr) (zs ys : List Int) (n m c c' : Nat) (w : World) (b : Bool) (hl : zs.length = n) (hm : ys.length = m) (hb : decide (zs = ys) = b) (hr : Rd (Value.int .i64) w a zs) (hr' : Rd (Value.int .i64) w a' ys) (hn : n ≤ 16777216) (hn' : m ≤ 16777216) :
    Calls Tryd.prog 19 #[.slice a n c, .slice a' m c'] w fun e w' => e = .returned (.bool b) ∧ Drawn w w' := by
  subst hl; subst hm; exact likeInts_b a a' zs ys c c' w b hb hr hr' hn hn'
theorem OwnG.outMP {P : Nat → Prop} {w : World} {B gb n cap : Nat} {A : List Nat} (h : OwnG P w B gb n cap A) (hA : GA n A) : ∃ ps : List Row, OwnM 33 2 w B (.slice (some ⟨gb, 0, none⟩) n cap) ps ∧ Small ps ∧ ps.length = n ∧ nums ps = A.map mems := by
  obtain ⟨ps, hom, hnp, _⟩ := h
  have hl : ps.length = n := by
    have h1 := congrArg List.length hnp
    rw [nums_length, List.length_map, hA.len] at h1; exact h1
  have h16 := hA.le
  refine ⟨ps, hom, ⟨by omega, fun r hr => ?_⟩, hl, hnp⟩
  have h1 : r.z ∈ nums ps := List.mem_map_of_mem hr
  rw [hnp] at h1
  obtain ⟨m, hm, he⟩ := List.mem_map.1 h1
  have := mems16 (hA.in16 m hm)
  rw [← he]; omega
theorem edge_shapeP {n : Nat} {A : List Nat} (h : GA n A) {e : List Int} (he : e ∈ edgesL (A.map mems)) : ∃ u v : Nat, e = [(u : Int), (v : Int)] ∧ u < n ∧ v < n ∧ bt A u v = true := by
  unfold edgesL at he
  rw [List.mem_flatMap] at he
  obtain ⟨u, hu, he⟩ := he
  rw [List.mem_range, List.length_map, h.len] at hu
  unfold rowEdges at he
  rw [List.mem_map] at he
  obtain ⟨v, hv, rfl⟩ := he
  rw [List.mem_filter, h.row hu, mems_mem (by have := h.in2 u; have := h.le; have : 2 ^ n ≤ 65536 := Nat.pow_le_pow_right (n := 2) (i := n) (j := 16) (by decide) h.le; omega)] at hv
  obtain ⟨i, hi, hb⟩ := hv.1
  obtain rfl : v = (i : Int) := by omega
  exact ⟨u, i, rfl, hu, (h.lt hb).2, hb⟩
theorem edgeP_gaP {n : Nat} {A : List Nat} (h : GA n A) {u v : Nat} (hu : u < n) (hb : bt A u v = true) : EdgeP (A.map mems) (u : Int) (v : Int) := by
  refine ⟨⟨h.gok, by omega, by rw [List.length_map, h.len]; omega⟩, ?_⟩
  rw [h.row hu, mems_mem (by have := h.in2 u; have := h.le; have : 2 ^ n ≤ 65536 := Nat.pow_le_pow_right (n := 2) (i := n) (j := 16) (by decide) h.le; omega)]
  exact ⟨v, rfl, hb⟩
theorem getD_inI {l : List Int} {i : Nat} (h : i < l.length) : l.getD i 0 = l[i] := by rw [List.getD_eq_getElem?_getD, List.getElem?_eq_getElem h]; rfl
/-- The distances at an edge of the list, and how great they are. -/
theorem edge_dists {n : Nat} {A : List Nat} {v : Int} (h : GA n A) (hv : VertP (A.map mems) v) {x y : Nat} (hx : x < n) (hy : y < n) (hb : bt A x y = true) :
    let D := distL (A.map mems) v
    D.getD x 0 - D.getD y 0 ≤ 1 ∧ D.getD y 0 - D.getD x 0 ≤ 1 ∧ (D.getD x 0 < 0 ↔ D.getD y 0 < 0) ∧ -1 ≤ D.getD x 0 ∧ D.getD x 0 ≤ 1048576 ∧ -1 ≤ D.getD y 0 ∧ D.getD y 0 ≤ 1048576 := by
  have hgl : (A.map mems).length = n := by rw [List.length_map, h.len]
  have vx : VertP (A.map mems) (x : Int) := ⟨h.gok, by omega, by rw [hgl]; omega⟩
  have vy : VertP (A.map mems) (y : Int) := ⟨h.gok, by omega, by rw [hgl]; omega⟩
  have e1 := (edgeP_gaP h hx hb).2
  have e2 := (edgeP_gaP h hy (by rw [h.sym]; exact hb)).2
  obtain ⟨h1, h2, h3⟩ := dist_edge hv vx vy e1 e2
  have p1 := (path_facts vx hv).1
  have p2 := (path_facts vy hv).1
  have l1 := pathL_len (A.map mems) (x : Int) v
  have l2 := pathL_len (A.map mems) (y : Int) v
  simp only [Int.toNat_natCast] at h1 h2 h3 p1 p2
  refine ⟨h1, h2, h3, ?_, ?_, ?_, ?_⟩ <;> omega
set_option maxRecDepth 100000 in
set_option maxHeartbeats 4000000 in
theorem lawPaths_any (a0 : Option Addr) (zs0 : List Int) (c0 : Nat) (w : World) (hr0 : Rd (Value.int .u8) w a0 zs0) (hl0 : zs0.length ≤ c0 ∧ c0 ≤ maxLen ∧ (a0 = none → c0 = 0) ∧ ∀ z ∈ zs0, 0 ≤ z ∧ z < 256) (hT : TabOk w) :
    Calls Tryd.prog 4 #[.slice a0 zs0.length c0] w fun e w' => e = .returned (.bool true) ∧ Below w.heap.size w w' := by
  have RZ := hid hr0; have HZ := hid hl0.2.2.2; have RT := hid hT
  clear hr0 hl0 hT
  obtain ⟨len, hlen⟩ : ∃ len, zs0.length = len := ⟨_, rfl⟩
  rw [hlen]
  have HL := hid hlen; clear hlen
  go_enter Tryd.func4, Tryd.ntmps4
  by_cases hbg : 4096 < len
  · have HB := hid (show decide (4096 < len) = true from decide_eq_true hbg)
    clear hbg
    go_wp2_with (first | (go_at_call 6; refine (big_any a0 len c0 _ true HB.out).mono ?_; rintro e w' ⟨rfl, rfl⟩))
    go_ret
    exact ⟨rfl, Below.refl _ _⟩
  · have HB := hid (show decide (4096 < len) = false from decide_eq_false hbg)
    have hn : len ≤ 4096 := by omega
    clear hbg
    go_wp2_with (first | (go_at_call 6; refine (big_any a0 len c0 _ false HB.out).mono ?_; rintro e w' ⟨rfl, rfl⟩) | fail)
    refine (roll_any len c0 a0 zs0 804 _ RZ.out HL.out HZ.out hn).mono ?_
    rintro e w1 ⟨g, h, rfl, hg, hd, hb⟩
    have DR1 := hid (DiceR.start hd (RZ.out.below hb (Nat.le_refl _)))
    have B1 := hid hb
    have hs1 := hb.size
    clear hd hb
    go_wp2_with fail
    refine (w5Graph_any g len c0 a0 zs0 9 9 w1 rfl DR1.out HL.out HZ.out hn (by decide) (by decide)).mono ?_
    rintro e w2 ⟨n, gb, cap, A, rfl, hnm, hga, hog, hdr⟩
    obtain ⟨ps, h1, h2, h3, h4⟩ := hog.outMP hga
    subst h3
    have B2 := hid (B1.out.trans (hdr.kept.below w.heap.size hs1 (fun k hk e => by omega)))
    have hgk : GOk (nums ps) := by rw [h4]; exact hga.gok
    have HGK := hid hgk; have HGA := hid hga; have HNP := hid h4
    have hsm := h2
    have hg1 : g < w1.heap.size := hdr.old
    have hs12 := hdr.kept.size
    have hn0 := hga.pos
    have hbA := alloc_below w2 (.cells #[.slice (some ⟨gb, 0, none⟩) ps.length cap] 29)
    have c4 : (w2.alloc (.cells #[.slice (some ⟨gb, 0, none⟩) ps.length cap] 29)).cell? ⟨w2.heap.size, 0, none⟩ = some (.slice (some ⟨gb, 0, none⟩) ps.length cap) := by simp [go_sem]
    have OG3 := hid (h1.past hbA (Nat.le_refl _))
    have B3 := hid (B2.out.trans (hbA.mono B2.out.size))
    have DR3 := hid (hdr.past hbA)
    clear hbA B2 h1 h2 h4 hog hdr DR1 B1 hgk
    go_wp2_with fail
    generalize w2.alloc (.cells #[.slice (some ⟨gb, 0, none⟩) ps.length cap] 29) = w3 at *
    generalize w2.heap.size = lb at *
    refine (DR3.out.below HL.out HZ.out hn (ps.length : Int) ps.length rfl (by omega) (by omega)).mono ?_
    rintro e w4 ⟨u, rfl, hu, hdr, hk4⟩
    have OG4 := hid (OG3.out.keptS hk4 (OG3.out.blocks.mono (fun k hk e => by omega)))
    have B4 := hid (B3.out.trans (hk4.below w.heap.size B3.out.size (fun k hk e => by omega)))
    have c5 := cellK hk4 c4 (by show ¬ lb = g; omega)
    have DR4 := hid hdr
    clear hdr hk4 c4 OG3 DR3 B3
    go_wp2_with fail
    refine (DR4.out.below HL.out HZ.out hn (ps.length : Int) ps.length rfl (by omega) (by omega)).mono ?_
    rintro e w5 ⟨v, rfl, hv, hdr, hk5⟩
    have OG5 := hid (OG4.out.keptS hk5 (OG4.out.blocks.mono (fun k hk e => by omega)))
    have B5 := hid (B4.out.trans (hk5.below w.heap.size B4.out.size (fun k hk e => by omega)))
    have c6 := cellK hk5 c5 (by show ¬ lb = g; omega)
    have RT5 := hid (RT.out.below B5.out (Nat.le_refl _))
    clear hdr hk5 c5 OG4 DR4 B4
    have hvu : VertP (nums ps) (u : Int) := ⟨HGK.out, by omega, by rw [nums_length]; omega⟩
    have hvv : VertP (nums ps) (v : Int) := ⟨HGK.out, by omega, by rw [nums_length]; omega⟩
    obtain ⟨D, hD⟩ : ∃ D, distL (nums ps) (v : Int) = D := ⟨_, rfl⟩
    obtain ⟨p, hp⟩ : ∃ p, pathL (nums ps) (u : Int) (v : Int) = p := ⟨_, rfl⟩
    have HPF := hid (by have h := path_facts hvu hvv; rw [hD, hp] at h; exact h)
    have hDl : D.length = ps.length := by rw [← hD]; unfold distL; rw [if_pos hvv, farL_len, nums_length]
    have hpl := pathL_len (nums ps) (u : Int) (v : Int)
    rw [hp] at hpl
    have HD := hid hD; have HP := hid hp; have HDL := hid hDl; have HVU := hid hvu; have HVV := hid hvv
    clear hD hp hDl hvu hvv
    go_wp2_with fail
    refine (implDistancesFrom_any (some ⟨gb, 0, none⟩) ps cap (v : Int) _ D HD.out OG5.out.rdm hsm (by unfold I64; omega) RT5.out).mono ?_
    rintro e w6 ⟨vd, rfl, hod, hb6⟩
    have OD6 := hid (hod.base (B' := w.heap.size) B5.out.size)
    have OG6 := hid (OG5.out.past hb6 (Nat.le_refl _))
    have RT6 := hid (RT5.out.below hb6 (Nat.le_refl _))
    have B6 := hid (bon B5.out hb6)
    have c7 := cellB hb6 c6 (Nat.le_refl _)
    clear hod hb6 OG5 RT5 B5 c6
    go_wp2_with fail
    refine (implPathOf_any (some ⟨gb, 0, none⟩) ps cap (u : Int) (v : Int) _ p HP.out OG6.out.rdm hsm (by unfold I64; omega) (by unfold I64; omega) RT6.out).mono ?_
    rintro e w7 ⟨vp, rfl, hop, hb7⟩
    have OP7 := hid (hop.base (B' := w.heap.size) B6.out.size)
    have OD7 := hid (OD6.out.past hb7 (Nat.le_refl _))
    have OG7 := hid (OG6.out.past hb7 (Nat.le_refl _))
    have B7 := hid (bon B6.out hb7)
    have c8 := cellB hb7 c7 (Nat.le_refl _)
    clear hop hb7 OG6 RT6 B6 OD6 c7
    obtain ⟨da, dc, rfl, hrd, _, _, _⟩ := OD7.out.rd
    obtain ⟨pa, pc, rfl, hrp, _, _, _⟩ := OP7.out.rd
    have RD7 := hid hrd; have RP7 := hid hrp
    clear hrd hrp
    obtain ⟨db, do', hda, cd⟩ := RD7.out u (by rw [HDL.out]; exact hu)
    subst hda
    have hdl : ((D.length : Int) != (ps.length : Int)) = false := by rw [HDL.out]; simp
    have hui : (u : Int) < (D.length : Int) := by rw [HDL.out]; omega
    have hdu : D[u]'(by rw [HDL.out]; exact hu) = D.getD u 0 := by rw [List.getD_eq_getElem?_getD, List.getElem?_eq_getElem (by rw [HDL.out]; exact hu)]; rfl
    have hpd : ((p.length : Nat) : Int) = D.getD u 0 + 1 := by have := HPF.out.1; simpa using this
    rw [hdu] at cd
    obtain ⟨du, hdu2⟩ : ∃ du, D.getD u 0 = du := ⟨_, rfl⟩
    rw [hdu2] at cd hpd
    have hnd : ((p.length : Int) != du + 1) = false := by rw [hpd]; simp
    have hd1 : -1 ≤ du := by omega
    have hd2 : du ≤ 1048576 := by omega
    go_wp2_with (first | (go_at_call 20; refine (specPathOf_any (some ⟨gb, 0, none⟩) ps cap (u : Int) (v : Int) _ p HP.out OG7.out.rdm hsm (by unfold I64; omega) (by unfold I64; omega)).mono ?_; rintro e w8 ⟨vq, rfl, hoq, hb8⟩; obtain ⟨qa, qc, rfl, hrq, _, _, _⟩ := hoq.rd; have RQ8 := hid hrq; have RP8 := hid (RP7.out.below hb8 (Nat.le_refl _)); have B8 := hid (bon B7.out hb8); have OP8 := hid (OP7.out.past hb8 (Nat.le_refl _)); have OD8 := hid (OD7.out.past hb8 (Nat.le_refl _)); have OG8 := hid (OG7.out.past hb8 (Nat.le_refl _)); have c9 := cellB hb8 c8 (Nat.le_refl _); clear hoq hrq hb8))
    refine (likeInts_b pa qa p p pc qc _ true (decide_eq_true rfl) RP8.out RQ8.out (by omega) (by omega)).mono ?_
    rintro e w9 ⟨rfl, hd9⟩
    have RP9 := hid (RP8.out.drawn hd9)
    have OD9 := hid (OD8.out.past (hd9.below w8.heap.size) (Nat.le_refl _))
    have OG9 := hid (OG8.out.past (hd9.below w8.heap.size) (Nat.le_refl _))
    have B9 := hid (bon B8.out (hd9.below w8.heap.size))
    have d9 := dcell hd9 c9
    have HC9 := hid d9
    have RDD := hid (ownL_rd OD9.out)
    clear hd9 c8 c9 cd RP7 RP8 RQ8 OD7 OD8 OG7 OG8 B7 B8 OP7 OP8 RD7 d9
    go_wp2
    go_loopw [10] (fun x wr => ∃ i : Nat, i ≤ p.length ∧ x = .int .i64 i ∧ Below w9.heap.size w9 wr) (fun x _ => p.length - (intOf x).toNat)
    case atStart => exact ⟨0, Nat.zero_le _, rfl, Below.refl _ _⟩
    case round =>
      obtain ⟨i, hi, rfl, hb⟩ := hrel
      have BI := hid hb
      have cg := cellB hb HC9.out (Nat.le_refl _)
      have RPi := hid (RP9.out.below hb (Nat.le_refl _))
      have RDi := hid (RDD.out.below hb (Nat.le_refl _))
      have OGi := hid (OG9.out.past hb (Nat.le_refl _))
      clear hb
      by_cases hil : i + 1 < p.length
      · have hii : (i : Int) + 1 < (p.length : Int) := by omega
        have hii2 : (i : Int) < (p.length : Int) := by omega
        obtain ⟨hx, hy, hep, hdd, hb1, hb2⟩ := HPF.out.2.1 i hil
        obtain ⟨pb, po, hpa, cx⟩ := RPi.out i (by omega)
        obtain ⟨pb', po', hpa', cy⟩ := RPi.out (i + 1) hil
        subst hpa
        obtain ⟨rfl, rfl⟩ : pb = pb' ∧ po = po' := by simpa using hpa'
        rw [← getD_inI (by omega)] at cx
        rw [← getD_inI hil] at cy
        generalize p.getD i 0 = x at *
        generalize p.getD (i + 1) 0 = y at *
        rw [nums_length] at hx hy
        obtain ⟨xm, rfl⟩ := Int.eq_ofNat_of_zero_le hx.1
        obtain ⟨ym, rfl⟩ := Int.eq_ofNat_of_zero_le hy.1
        simp only [Int.toNat_natCast] at hdd hb1 hb2
        have hxm : xm < D.length := by rw [HDL.out]; omega
        have hym : ym < D.length := by rw [HDL.out]; omega
        obtain ⟨eb, eo, hea, ex⟩ := RDi.out xm hxm
        obtain ⟨eb', eo', hea', ey⟩ := RDi.out ym hym
        obtain ⟨rfl, rfl⟩ : db = eb ∧ do' = eo := by simpa using hea
        obtain ⟨rfl, rfl⟩ : db = eb' ∧ do' = eo' := by simpa using hea'
        rw [← getD_inI hxm] at ex
        rw [← getD_inI hym] at ey
        generalize D.getD xm 0 = dx at *
        generalize D.getD ym 0 = dy at *
        have hxi : (xm : Int) < (D.length : Int) := by omega
        have hyi : (ym : Int) < (D.length : Int) := by omega
        have hdn : (dx != dy + 1) = false := by rw [hdd]; simp
        have HEP := hid (show decide (EdgeP (nums ps) (xm : Int) (ym : Int)) = true from decide_eq_true hep)
        have RG := hid OGi.out.rdm
        have BZ := hid (Below.refl wr.heap.size wr)
        clear hep hdd hpa' hea hea' hxm hym OGi RDi RPi hil
        go_wp2
        have cex := ex; have cey := ey
        clear ex ey
        have qcg := fun (p : Bel _) => cellB p.h cg (Nat.le_refl _)
        have qcx := fun (p : Bel _) => cellB p.h cx (Nat.le_refl _)
        have qcy := fun (p : Bel _) => cellB p.h cy (Nat.le_refl _)
        have qcex := fun (p : Bel _) => cellB p.h cex (Nat.le_refl _)
        have qcey := fun (p : Bel _) => cellB p.h cey (Nat.le_refl _)
        refine wp_quiet_b (by kernel_rfl) (by kernel_rfl) ?_
        repeat (go_big_quiet_step (first | (go_at_call 13; exact qb (specEdgeIn_b _ ps _ _ _ _ _ HEP.out (RG.out.bel _) hsm (by unfold I64; omega) (by unfold I64; omega)))))
        refine wpQuiet_nil ?_
        intro _ hw'
        obtain ⟨⟨w1, hb⟩, rfl⟩ := hw'
        clear qcg qcx qcy qcex qcey
        replace BZ := hid (bon BZ.out hb)
        replace cg := cellB hb cg (Nat.le_refl _)
        replace cx := cellB hb cx (Nat.le_refl _)
        replace cy := cellB hb cy (Nat.le_refl _)
        replace cex := cellB hb cex (Nat.le_refl _)
        replace cey := cellB hb cey (Nat.le_refl _)
        replace RG := hid (RG.out.below hb (Nat.le_refl _))
        clear hb
        go_wp2
        go_roundw
        case rel => exact ⟨i + 1, by omega, by go_num, bon BI.out BZ.out⟩
        case measure => simp [intOf]; omega
      · have hii : ¬ ((i : Int) + 1 < (p.length : Int)) := by omega
        clear hil
        go_wp2_with fail
        refine (specEdgesOf_any (some ⟨gb, 0, none⟩) ps cap _ OGi.out.rdm hsm).mono ?_
        rintro e wE ⟨ve, qs, rfl, hq, hown, hbE⟩
        have HQ := hid (show nums qs = edgesL (A.map mems) by rw [hq, ← HNP.out]; unfold edgesOr; rw [if_pos HGK.out])
        have hqlen : qs.length ≤ 256 := by
          have h2 := edgesP_len (nums ps)
          rw [← hq, nums_length] at h2; exact h2
        have OE := hid hown
        have RPe := hid (RPi.out.below hbE (Nat.le_refl _))
        have RDe := hid (RDi.out.below hbE (Nat.le_refl _))
        have BE := hid (bon BI.out hbE)
        clear hq hown hbE cg RPi RDi OGi OD9 OG9
        obtain ⟨ea, ec, rfl, _⟩ := OE.out.rd
        have REm := hid OE.out.rdm
        clear OE
        go_wp2
        go_loopw [12] (fun x wl => ∃ j : Nat, j ≤ qs.length ∧ x = .int .i64 j ∧ Below wE.heap.size wE wl) (fun x _ => qs.length - (intOf x).toNat)
        case atStart => exact ⟨0, Nat.zero_le _, rfl, Below.refl _ _⟩
        case round =>
          obtain ⟨j, hj, rfl, hbl⟩ := hrel
          have BL := hid hbl
          have RPl := hid (RPe.out.below hbl (Nat.le_refl _))
          have RDl := hid (RDe.out.below hbl (Nat.le_refl _))
          have REl := hid (REm.out.below hbl (Nat.le_refl _))
          clear hbl
          by_cases hjl : j < qs.length
          · have hji : (j : Int) < (qs.length : Int) := by omega
            obtain ⟨eb, eo, hea, ce, hok⟩ := REl.out.at j hjl
            subst hea
            have hmem : qs[j].z ∈ edgesL (A.map mems) := by
              rw [← HQ.out]
              exact List.mem_map_of_mem (List.getElem_mem hjl)
            obtain ⟨x, y, hz, hxn, hyn, hbt⟩ := edge_shapeP HGA.out hmem
            have hrd := hok.1
            rw [hz] at ce hrd
            generalize qs[j].a = ra at *
            generalize qs[j].c = rc at *
            obtain ⟨rb, ro, hra, e0⟩ := hrd 0 (by simp)
            obtain ⟨rb', ro', hra', e1⟩ := hrd 1 (by simp)
            subst hra
            obtain ⟨rfl, rfl⟩ : rb = rb' ∧ ro = ro' := by simpa using hra'
            simp only [List.getElem_cons_zero, List.getElem_cons_succ, Nat.add_zero] at e0 e1
            have hlen2 : ([(x : Int), (y : Int)] : List Int).length = 2 := rfl
            rw [hlen2] at ce
            have hDD : D = distL (A.map mems) (v : Int) := by rw [← HD.out, HNP.out]
            obtain ⟨q1, q2, q3, q4, q5, q6, q7⟩ := edge_dists HGA.out (by have := HVV.out; rw [HNP.out] at this; exact this) hxn hyn hbt
            rw [← hDD] at q1 q2 q3 q4 q5 q6 q7
            have hxm : x < D.length := by rw [HDL.out]; exact hxn
            have hym : y < D.length := by rw [HDL.out]; exact hyn
            obtain ⟨kb, ko, hka, ex⟩ := RDl.out x hxm
            obtain ⟨kb', ko', hka', ey⟩ := RDl.out y hym
            obtain ⟨rfl, rfl⟩ : db = kb ∧ do' = ko := by simpa using hka
            obtain ⟨rfl, rfl⟩ : db = kb' ∧ do' = ko' := by simpa using hka'
            rw [← getD_inI hxm] at ex
            rw [← getD_inI hym] at ey
            generalize D.getD x 0 = dx at *
            generalize D.getD y 0 = dy at *
            have hxi : (x : Int) < (D.length : Int) := by omega
            have hyi : (y : Int) < (D.length : Int) := by omega
            have hg1' : ¬ (1 < dx - dy) := by omega
            have hg2' : ¬ (1 < dy - dx) := by omega
            clear hDD hxm hym hka hka' hrd hra' hlen2 hz hok hmem hjl hbt REl RDl RPl q1 q2
            by_cases hneg : dx < 0
            · have hneg2 := q3.1 hneg
              clear q3
              go_wp2
              go_roundw
              case rel => exact ⟨j + 1, by omega, by go_num, BL.out⟩
              case measure => simp [intOf]; omega
            · have hneg2 : ¬ dy < 0 := fun h => hneg (q3.2 h)
              clear q3
              go_wp2
              go_roundw
              case rel => exact ⟨j + 1, by omega, by go_num, BL.out⟩
              case measure => simp [intOf]; omega
          · have hji : ¬ ((j : Int) < (qs.length : Int)) := by omega
            have BB := hid (bon (bon B9.out BE.out) BL.out)
            rcases HPF.out.2.2 with h0 | ⟨h1, h2⟩
            · have h0i : ((p.length : Int) == 0) = true := by rw [h0]; rfl
              clear h0 hpd
              go_wp2
              go_ret
              exact ⟨rfl, BB.out⟩
            · by_cases h0 : p.length = 0
              · have h0i : ((p.length : Int) == 0) = true := by rw [h0]; rfl
                clear h0 hpd
                go_wp2
                go_ret
                exact ⟨rfl, BB.out⟩
              · have h0i : ((p.length : Int) == 0) = false := by simpa using h0
                have hpl0 : 0 < p.length := by omega
                obtain ⟨pb, po, hpa, cx⟩ := RPl.out 0 hpl0
                obtain ⟨pb', po', hpa', cy⟩ := RPl.out (p.length - 1) (by omega)
                subst hpa
                obtain ⟨rfl, rfl⟩ : pb = pb' ∧ po = po' := by simpa using hpa'
                rw [← getD_inI hpl0, h1, Nat.add_zero] at cx
                rw [← getD_inI (by omega), h2] at cy
                obtain ⟨pm, hpm⟩ : ∃ pm, p.length = pm + 1 := ⟨p.length - 1, by omega⟩
                rw [hpm] at cy ⊢
                have hpm1 : pm + 1 - 1 = pm := by omega
                rw [hpm1] at cy
                rw [hpm] at h0i
                have hpmb : pm ≤ 1048576 := by omega
                clear h0 hpl0 hpa' hpl hpd hpm HPF h1 h2 hnd RPl RDl REl
                go_wp2
                go_ret
                exact ⟨rfl, BB.out⟩
end
end Go.Proofs.YtdncmloajajiaaaDoor
