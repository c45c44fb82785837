/- GraphText: both. -/
import Derived.Test.YthdfkpinaidkkaaDoorSetTxt
import Derived.Test.YthdfkpinaidkkaaDoorQTail
import Derived.Test.YthdfkpinaidkkaaDoorGOk
namespace Go.Proofs.YthdfkpinaidkkaaDoor
open Go.RowKit
theorem Own.others {e e8 : TypeId} {b : Nat} {w w' : World} {B : Nat} {v : Value} {xs : List Value} (h : Own e w B v xs) (hk : Go.Lib.OthersKept e8 (some b) w w') (he : e ≠ e8) (hb : ∀ g, v.ownBlock = some g → g ≠ b) : Own e w' B v xs := by
  rcases h.form with ⟨rfl, rfl⟩ | ⟨g, cap, spare, rfl, hg, hh, hc, hm⟩
  · exact Own.nil _ _ _
  · exact Own.of_block hg (hk g _ hh (fun e => hb g rfl (by injection e)) (fun c fz e => by injection e with _ e2 _; exact he e2)) hc hm
theorem OwnM.others {eo ei e8 : TypeId} {b : Nat} {w w' : World} {B : Nat} {v : Value} {rs : List Row} (h : OwnM eo ei w B v rs) (hk : Go.Lib.OthersKept e8 (some b) w w') (h1 : eo ≠ e8) (h2 : ei ≠ e8) (hb : b < B) : OwnM eo ei w' B v rs :=
  ⟨h.outer.others hk h1 (fun g hg => by have := h.outer.ge g hg; omega), ⟨fun r hr => (h.inner.own r hr).others hk h2 (fun g hg => by have := (h.inner.own r hr).ge g hg; omega), h.inner.apart⟩⟩
theorem bldF_below {T e : TypeId} {B b : Nat} {bs : List Value} {w w' : World} (h : Go.Lib.IsBuilderF T e B b bs w) (hb : Below w.heap.size w w') : Go.Lib.IsBuilderF T e B b bs w' := by
  have key : ∀ p, Go.Lib.BuilderAtF T e B b p bs w → Go.Lib.BuilderAtF T e B b p bs w' := by
    intro p h
    have hlt := h.lt
    obtain ⟨hB, v, hv, hown, hne⟩ := h
    exact ⟨hB, v, (hb.block b hlt).trans hv, hown.kept (row := none) ⟨hb.os, hb.tape, hb.output, hb.size, fun k hk _ => hb.block k hk⟩ (Classical.em _), hne⟩
  exact h.elim (fun x => .inl (key _ x)) (fun x => .inr (key _ x))
def Bld (B b : Nat) (l : List UInt8) (w : World) : Prop := Go.Lib.IsBuilderF 84 5 B b (Go.Lib.byteCells l) w
theorem Bld.below {B b B' : Nat} {l : List UInt8} {w w' : World} (h : Bld B b l w) (hb : Below B' w w') (hB : w.heap.size ≤ B') : Bld B b l w' := bldF_below h (hb.mono hB)
theorem bytes_cat (a b : List UInt8) : Go.Lib.byteCells a ++ Go.Lib.strCells (str b) = Go.Lib.byteCells (a ++ b) := by
  unfold str Go.Lib.strCells Go.Lib.byteCells
  rw [List.map_append]
theorem write_any (B b : Nat) (l s : List UInt8) (w : World) (h : Bld B b l w) (hl : l.length + s.length ≤ 1000000) (hB : B ≤ w.heap.size) :
    Calls Tryd.prog 72 #[.pointer (some ⟨b, 0, none⟩), .string (str s)] w fun e w' => e = .returned (.tuple #[.int .i64 (str s).size, .nilIface]) ∧ Bld B b (l ++ s) w' ∧ Below B w w' ∧ Go.Lib.OthersKept 5 (some b) w w' := by
  refine (Tryd.Builder_WriteString_k B b _ (str s) w h (by rw [str_size]; unfold Go.Lib.byteCells; rw [List.length_map]; omega) hB).mono ?_
  rintro e w' ⟨rfl, h1, h2, h3⟩
  rw [bytes_cat] at h1
  exact ⟨rfl, .inr h1, h2, h3⟩
theorem string_any (B b : Nat) (l : List UInt8) (w : World) (h : Bld B b l w) (hB : B ≤ w.heap.size) :
    Calls Tryd.prog 75 #[.pointer (some ⟨b, 0, none⟩)] w fun e w' => e = .returned (.string (str l)) ∧ Below B w w' := by
  refine (Tryd.Builder_String_any_k B b l w h hB).mono ?_
  rintro e w' ⟨rfl, h1, h2, h3⟩
  exact ⟨rfl, h2⟩
theorem l1Int_p (n : Nat) (S : ByteArray) (w : World) (hn : n ≤ 1099511627776) (h : str (dec n) = S) : Calls Tryd.prog 37 #[.int .i64 n] w fun e w' => e = .returned (.string S) ∧ Below w.heap.size w w' := by
  rw [← h]; exact l1Int_any n w hn
theorem fmt_p (n : Nat) (S : ByteArray) (w : World) (hn : n < 100) (h : str (dec n) = S) : Calls Tryd.prog 63 #[.int .i64 n, .int .i64 10] w fun e w' => e = .returned (.string S) ∧ w = w' := by
  rw [← h]; exact fmt_any n w hn
theorem itoa_p (n : Nat) (S : ByteArray) (w : World) (hn : n < 100) (h : str (dec n) = S) : Calls Tryd.prog 73 #[.int .i64 n] w fun e w' => e = .returned (.string S) ∧ w = w' := by
  refine (Tryd.strconv_Itoa_small n hn w).mono ?_
  rintro e w' ⟨rfl, rfl⟩
  exact ⟨by rw [← h, decDigits_eq]; rfl, rfl⟩
def edgeTxt (e : List Int) : List UInt8 := [32] ++ digs (e.getD 0 0) ++ [45] ++ digs (e.getD 1 0)
def edgesTxt (E : List (List Int)) : List UInt8 := E.flatMap edgeTxt
theorem edgesTxt_take (E : List (List Int)) (k : Nat) (h : k < E.length) : edgesTxt (E.take (k + 1)) = edgesTxt (E.take k) ++ edgeTxt E[k] := by
  unfold edgesTxt
  rw [List.take_succ_eq_append_getElem h, List.flatMap_append]
  simp
def EdgesP (E : List (List Int)) : Prop := E.length ≤ 256 ∧ ∀ e ∈ E, ∃ u v : Nat, e = [(u : Int), (v : Int)] ∧ u < v ∧ v < 16
theorem edgesTxt_len {E : List (List Int)} (h : EdgesP E) : ∀ k, k ≤ E.length → (edgesTxt (E.take k)).length ≤ 40 * k := by
  intro k
  induction k with
  | zero => intro _; simp [edgesTxt]
  | succ k ih =>
    intro hk
    rw [edgesTxt_take E k (by omega), List.length_append]
    obtain ⟨u, v, e, h1, h2⟩ := h.2 _ (List.getElem_mem (show k < E.length by omega))
    have h3 := ih (by omega)
    have h4 := dec_len u
    have h5 := dec_len v
    have h6 : (edgeTxt E[k]).length ≤ 40 := by
      rw [e]; unfold edgeTxt digs; simp; omega
    omega
theorem edgesP_of {g : List (List Int)} (hg : GOk g) : EdgesP (edgesL g) := by
  have h16 := hg.le
  have hl := edgesTo_len g g.length (fun v hv => gok_row_len hg v hv)
  refine ⟨by show (edgesTo g g.length).length ≤ _; omega, fun e he => ?_⟩
  unfold edgesL at he
  rw [List.mem_flatMap] at he
  obtain ⟨u, hu, he⟩ := he
  rw [List.mem_range] at hu
  unfold rowEdges at he
  rw [List.mem_map] at he
  obtain ⟨v, hv, rfl⟩ := he
  rw [List.mem_filter] at hv
  have h1 := (hg.inc u hu).1 v hv.1
  have h2 : (u : Int) < v := by simpa using hv.2
  obtain ⟨m, rfl⟩ := Int.eq_ofNat_of_zero_le h1.1
  exact ⟨u, m, rfl, by omega, by omega⟩
def headTxt (n : Nat) : List UInt8 := dec n ++ [58]
def graphBytes (g : List (List Int)) : List UInt8 := headTxt g.length ++ edgesTxt (edgesL g)
noncomputable def graphStr (g : List (List Int)) : ByteArray := if GOk g then str (graphBytes g) else ⟨#[]⟩
/-- The three sums of an edge's text. -/
theorem sums (P : Program) (J A B : List UInt8) (h : J.length + A.length + B.length ≤ 1000000) :
    (∀ W, (Op.stringOp .add (str J) ⟨#[32]⟩).run P W = .ok (.string (str (J ++ [32]))) W) ∧
    (∀ W, (Op.stringOp .add (str (J ++ [32])) (str A)).run P W = .ok (.string (str (J ++ [32] ++ A))) W) ∧
    (∀ W, (Op.stringOp .add (str (J ++ [32] ++ A)) ⟨#[45]⟩).run P W = .ok (.string (str (J ++ [32] ++ A ++ [45]))) W) ∧
    (∀ W, (Op.stringOp .add (str (J ++ [32] ++ A ++ [45])) (str B)).run P W = .ok (.string (str (J ++ [32] ++ A ++ [45] ++ B))) W) :=
  ⟨fun W => str_add P J [32] W (by simp; omega), fun W => str_add P _ A W (by simp; omega), fun W => str_add P _ [45] W (by simp; omega), fun W => str_add P _ B W (by simp; omega)⟩
set_option maxRecDepth 100000 in
set_option maxHeartbeats 4000000 in
theorem specGraphText_any (a : Option Addr) (rs : List Row) (c : Nat) (w : World) (r : ByteArray) (hx : graphStr (nums rs) = r) (hr : RdM w a rs) (hn : Small rs) :
    Calls Tryd.prog 19 #[.agg #[.slice a rs.length c]] w fun e w' => e = .returned (.string r) ∧ Below w.heap.size w w' := by
  subst hx
  have RA := hid hr; clear hr
  have hn1 := hn.1
  obtain ⟨w0, hw0⟩ : ∃ w0, w0 = (w.alloc (.cells #[.slice a rs.length c] 38)) := ⟨_, rfl⟩
  have B0 := hid (show Below w.heap.size w w0 by rw [hw0]; exact ((Below.refl _ _).alloc (Nat.le_refl _) _))
  have c0 : w0.cell? ⟨w.heap.size, 0, none⟩ = some (.slice a rs.length c) := by rw [hw0]; simp [go_sem]
  replace RA := hid (RA.out.below B0.out (Nat.le_refl _))
  have HW := hid hw0; clear hw0
  by_cases hg : GOk (nums rs)
  · have h1 := hid (show decide (GOk (nums rs)) = true by simpa using hg)
    have h16 : rs.length ≤ 16 := by have := hg.le; rwa [nums_length] at this
    have HE := hid (edgesP_of hg)
    have HR := hid (show graphStr (nums rs) = str (headTxt rs.length ++ edgesTxt (edgesL (nums rs))) by unfold graphStr graphBytes; rw [if_pos hg, nums_length])
    have HLN := hid (edgesTxt_len HE.out)
    have hdn := dec_len rs.length
    have hh : ∀ W, (Op.stringOp .add (str (dec rs.length)) ⟨#[58]⟩).run Tryd.prog W = .ok (.string (str (headTxt rs.length))) W := fun W => str_add Tryd.prog _ [58] W (by simp; omega)
    have HHL := hid (show (headTxt rs.length).length ≤ 20 by unfold headTxt; simp; omega)
    generalize hh0 : headTxt rs.length = H0 at *
    clear hh0 hdn
    go_enter Tryd.func19, Tryd.ntmps19
    go_wp2_with fail
    rw [← HW.out]
    go_wp2_with fail
    refine (specGraphOk_b a rs c _ _ h1.out RA.out hn).mono ?_
    rintro e w1 ⟨rfl, hb⟩
    replace RA := hid (RA.out.below hb (Nat.le_refl _))
    replace B0 := hid (bon B0.out hb)
    replace c0 := cellB hb c0 (Nat.le_refl _)
    clear hb
    go_wp2_with fail
    refine (l1Size_any a rs c _ hn1).mono ?_
    rintro e w2 ⟨rfl, hb⟩
    replace RA := hid (RA.out.below hb (Nat.le_refl _))
    replace B0 := hid (bon B0.out hb)
    replace c0 := cellB hb c0 (Nat.le_refl _)
    clear hb
    obtain ⟨S0, hS0⟩ : ∃ S0, str (dec rs.length) = S0 := ⟨_, rfl⟩
    rw [hS0] at hh
    go_wp2_with fail
    refine (l1Int_p rs.length S0 _ (by omega) hS0).mono ?_
    rintro e w3 ⟨rfl, hb⟩
    replace RA := hid (RA.out.below hb (Nat.le_refl _))
    replace B0 := hid (bon B0.out hb)
    replace c0 := cellB hb c0 (Nat.le_refl _)
    clear hb
    go_wp2_with fail
    refine (l1Edges_any a rs c _ hg RA.out).mono ?_
    rintro e w4 ⟨ev, ps, rfl, hnp, hom, hb⟩
    obtain ⟨ea, ec, hev, _⟩ := hom.rd
    subst hev
    have RE := hid hom.rdm
    clear hom
    replace RA := hid (RA.out.below hb (Nat.le_refl _))
    replace B0 := hid (bon B0.out hb)
    replace c0 := cellB hb c0 (Nat.le_refl _)
    clear hb
    rw [← hnp] at HE HLN HR
    have hps : ps.length ≤ 256 := by have := HE.out.1; rwa [nums_length] at this
    have HNP := hid hnp
    clear hnp hS0 hh RA c0
    go_wp2
    go_loopw [3, 5] (fun s x wr => ∃ k : Nat, k ≤ ps.length ∧ x = .int .i64 k ∧ s = .string (str (H0 ++ edgesTxt ((nums ps).take k))) ∧ Below w4.heap.size w4 wr) (fun _ x _ => ps.length - (intOf x).toNat)
    case atStart => exact ⟨0, Nat.zero_le _, rfl, by simp [edgesTxt], Below.refl _ _⟩
    case round =>
      obtain ⟨k, hk, rfl, rfl, hb⟩ := hrel
      have BL := hid hb
      replace RE := hid (RE.out.below hb (Nat.le_refl _))
      replace B0 := hid (bon B0.out hb)
      clear hb
      by_cases hlt : k < ps.length
      · have hki : (k : Int) < (ps.length : Int) := by omega
        have hltn : k < (nums ps).length := by rw [nums_length]; exact hlt
        obtain ⟨eb, eo, rfl, ck, hok⟩ := RE.out.at k hlt
        have hz : (nums ps)[k] = ps[k].z := by simp [nums]
        have HT := hid (edgesTxt_take (nums ps) k hltn)
        obtain ⟨u, v, huv, hlt1, hlt2⟩ := HE.out.2 _ (List.getElem_mem hltn)
        have hJ := HLN.out k (by rw [nums_length]; exact hk)
        have hRd := hok.1
        rw [huv] at HT
        rw [hz] at huv
        rw [huv] at ck hRd
        obtain ⟨pb, po, hpa, cu⟩ := hRd 0 (by simp)
        obtain ⟨pb', po', hpa', cv⟩ := hRd 1 (by simp)
        obtain ⟨rfl, rfl⟩ : pb = pb' ∧ po = po' := by rw [hpa] at hpa'; simp at hpa'; exact hpa'
        rw [hpa] at ck
        have ee : edgeTxt [(u : Int), (v : Int)] = [32] ++ dec u ++ [45] ++ dec v := by simp [edgeTxt, digs]
        rw [ee] at HT
        simp only [List.length_cons, List.length_nil, Nat.add_zero, List.getElem_cons_zero, List.getElem_cons_succ] at ck cu cv
        have hdu := dec_len u
        have hdv := dec_len v
        have hHH := HHL.out
        have hsum := sums Tryd.prog (H0 ++ edgesTxt ((nums ps).take k)) (dec u) (dec v) (by rw [List.length_append]; omega)
        have HF := hid (show Value.string (str (H0 ++ edgesTxt ((nums ps).take k) ++ [32] ++ dec u ++ [45] ++ dec v)) = .string (str (H0 ++ edgesTxt ((nums ps).take (k + 1)))) by
          rw [HT.out]; simp)
        generalize H0 ++ edgesTxt ((nums ps).take k) = J at *
        obtain ⟨hs1, hs2, hs3, hs4⟩ := hsum
        generalize str (J ++ [32] ++ dec u ++ [45] ++ dec v) = V4 at *
        generalize str (J ++ [32] ++ dec u ++ [45]) = V3 at *
        generalize str (J ++ [32] ++ dec u) = V2 at *
        generalize str (J ++ [32]) = V1 at *
        generalize str J = V0 at *
        obtain ⟨SA, hSA⟩ : ∃ SA, str (dec u) = SA := ⟨_, rfl⟩
        obtain ⟨SB, hSB⟩ : ∃ SB, str (dec v) = SB := ⟨_, rfl⟩
        rw [hSA] at hs2
        rw [hSB] at hs4
        clear hpa hpa' huv hok hRd hz hltn ee hdu hdv hJ
        go_wp2
        have qck := fun (p : Bel _) => cellB p.h ck (Nat.le_refl _)
        have qcu := fun (p : Bel _) => cellB p.h cu (Nat.le_refl _)
        have qcv := fun (p : Bel _) => cellB p.h cv (Nat.le_refl _)
        refine wp_quiet_b (by kernel_rfl) (by kernel_rfl) ?_
        repeat (go_big_quiet_step (first | (go_at_call_of 37 u; exact qb (l1Int_p u SA _ (by omega) hSA)) | (go_at_call_of 37 v; exact qb (l1Int_p v SB _ (by omega) hSB))))
        refine wpQuiet_nil ?_
        intro _ hw'
        obtain ⟨⟨w4, hb⟩, rfl⟩ := hw'
        clear qck qcu qcv
        replace RE := hid (RE.out.below hb (Nat.le_refl _))
        replace B0 := hid (bon B0.out hb)
        replace BL := hid (bon BL.out hb)
        replace ck := cellB hb ck (Nat.le_refl _)
        replace cu := cellB hb cu (Nat.le_refl _)
        replace cv := cellB hb cv (Nat.le_refl _)
        clear hb
        rename_i wi
        go_wp2
        go_roundw
        case rel => exact ⟨k + 1, by omega, by go_num, HF.out, BL.out⟩
        case measure => simp [intOf]; omega
      · obtain rfl : k = ps.length := by omega
        have HF := hid (show str (H0 ++ edgesTxt ((nums ps).take ps.length)) = graphStr (nums rs) by
          rw [HR.out, List.take_of_length_le (by rw [nums_length]; exact Nat.le_refl _)])
        go_wp2
        go_ret
        exact ⟨ret_str HF.out, B0.out⟩
  · have h1 := hid (show decide (GOk (nums rs)) = false by simpa using hg)
    have HR := hid (show graphStr (nums rs) = ⟨#[]⟩ by unfold graphStr; rw [if_neg hg])
    go_enter Tryd.func19, Tryd.ntmps19
    go_wp2_with fail
    rw [← HW.out]
    go_wp2_with fail
    refine (specGraphOk_b a rs c _ _ h1.out RA.out hn).mono ?_
    rintro e w5 ⟨rfl, hb⟩
    replace RA := hid (RA.out.below hb (Nat.le_refl _))
    replace B0 := hid (bon B0.out hb)
    replace c0 := cellB hb c0 (Nat.le_refl _)
    clear hb
    go_wp2
    go_ret
    exact ⟨ret_str HR.out.symm, B0.out⟩
set_option maxRecDepth 100000 in
set_option maxHeartbeats 4000000 in
theorem graphText_any (a : Option Addr) (rs : List Row) (c : Nat) (w : World) (hg : GOk (nums rs)) (hr : RdM w a rs) (hn : Small rs) :
    Calls Tryd.prog 50 #[.agg #[.slice a rs.length c]] w fun e w' => e = .returned (.string (graphStr (nums rs))) ∧ Below w.heap.size w w' := by
  have RA := hid hr; clear hr
  have hn1 := hn.1
  obtain ⟨w0, hw0⟩ : ∃ w0, w0 = (w.alloc (.cells #[.slice a rs.length c] 38)) := ⟨_, rfl⟩
  have B0 := hid (show Below w.heap.size w w0 by rw [hw0]; exact ((Below.refl _ _).alloc (Nat.le_refl _) _))
  have c0 : w0.cell? ⟨w.heap.size, 0, none⟩ = some (.slice a rs.length c) := by rw [hw0]; simp [go_sem]
  replace RA := hid (RA.out.below B0.out (Nat.le_refl _))
  have HW := hid hw0; clear hw0
  have h16 : rs.length ≤ 16 := by have := hg.le; rwa [nums_length] at this
  have HE := hid (edgesP_of hg)
  have HR := hid (show graphStr (nums rs) = str (headTxt rs.length ++ edgesTxt (edgesL (nums rs))) by unfold graphStr graphBytes; rw [if_pos hg, nums_length])
  have HLN := hid (edgesTxt_len HE.out)
  have hdn := dec_len rs.length
  have hh : ∀ W, (Op.stringOp .add (str (dec rs.length)) ⟨#[58]⟩).run Tryd.prog W = .ok (.string (str (headTxt rs.length))) W := fun W => str_add Tryd.prog _ [58] W (by simp; omega)
  have HHL := hid (show (headTxt rs.length).length ≤ 20 by unfold headTxt; simp; omega)
  generalize headTxt rs.length = H0 at *
  obtain ⟨S0, hS0⟩ : ∃ S0, str (dec rs.length) = S0 := ⟨_, rfl⟩
  rw [hS0] at hh
  have hsx : w.heap.size + 1 = w0.heap.size := by rw [HW.out]; simp
  have RB := hid (show Bld w0.heap.size w0.heap.size [] (w0.alloc (.cells #[.pointer none, .slice none 0 0] 84)) from Go.Lib.IsBuilderF.of (Go.Lib.fresh_isBuilder 84 5 w0))
  have BL := hid (alloc_below w0 (.cells #[.pointer none, .slice none 0 0] 84))
  have RA0 := hid RA.out; have c00 := hid c0; have B00 := hid B0.out
  have c1 := cellB BL.out c0 (Nat.le_refl _)
  clear hdn RA B0 c0
  go_enter Tryd.func50, Tryd.ntmps50
  go_wp2_with fail
  rw [← HW.out]
  have hszb := BL.out.size
  have hsz1 : w.heap.size + 1 ≤ w0.heap.size := by omega
  clear hsx HW
  generalize w0.alloc (.cells #[.pointer none, .slice none 0 0] 84) = wu at *
  refine (itoa_p rs.length S0 _ (by omega) hS0).mono ?_
  rintro e w' ⟨rfl, rfl⟩
  have hHL := HHL.out
  go_wp2_with fail
  refine (write_any w0.heap.size w0.heap.size [] H0 _ RB.out (by simp; omega) hszb).mono ?_
  rintro e w5 ⟨rfl, hbd, hb, _⟩
  rw [List.nil_append] at hbd
  have RB5 := hid hbd
  have BL5 := hid (BL.out.trans hb)
  have c5 := cellB BL5.out c00.out (Nat.le_refl _)
  have RA5 := hid (RA0.out.below BL5.out (Nat.le_refl _))
  have hsz5 := hb.size
  have hlt5 := hbd.elim (fun h => h.lt) (fun h => h.lt)
  clear hb hbd RB BL c1
  go_wp2_with fail
  refine (implEdges_any a rs c _ hg RA5.out).mono ?_
  rintro e w6 ⟨ev, ps, rfl, hnp, hom, hb⟩
  obtain ⟨ea, ec, hev, _⟩ := hom.rd
  subst hev
  have OE := hid hom
  have RB6 := hid (RB5.out.below hb (Nat.le_refl _))
  have BL6 := hid (BL5.out.trans (hb.mono (by omega)))
  rw [← hnp] at HE HLN HR
  have hps : ps.length ≤ 256 := by have := HE.out.1; rwa [nums_length] at this
  clear hom hb RB5 BL5 RA5 c5 hS0 hh hnp
  go_wp2
  go_loopw [5, 15] (fun _ x wr => ∃ k : Nat, k ≤ ps.length ∧ x = .int .i64 k ∧ OwnM 24 2 wr w5.heap.size (.slice ea ps.length ec) ps ∧ Bld w0.heap.size w0.heap.size (H0 ++ edgesTxt ((nums ps).take k)) wr ∧ Below w0.heap.size w0 wr) (fun _ x _ => ps.length - (intOf x).toNat)
  case atStart => exact ⟨0, Nat.zero_le _, rfl, OE.out, by simpa [edgesTxt] using RB6.out, BL6.out⟩
  case round =>
    clear OE RB6 BL6
    obtain ⟨k, hk, rfl, hom, hbd, hb⟩ := hrel
    have OE := hid hom; have RB := hid hbd; have BL := hid hb
    clear hom hbd hb
    have hszr := BL.out.size
    by_cases hlt : k < ps.length
    · have hki : (k : Int) < (ps.length : Int) := by omega
      have hltn : k < (nums ps).length := by rw [nums_length]; exact hlt
      have RE := OE.out.rdm
      obtain ⟨eb, eo, rfl, ck, hok⟩ := RE.at k hlt
      have hz : (nums ps)[k] = ps[k].z := by simp [nums]
      have HT := hid (edgesTxt_take (nums ps) k hltn)
      obtain ⟨u, v, huv, hlt1, hlt2⟩ := HE.out.2 _ (List.getElem_mem hltn)
      have hJ := HLN.out k (by rw [nums_length]; exact hk)
      have hRd := hok.1
      rw [huv] at HT
      rw [hz] at huv
      rw [huv] at ck hRd
      obtain ⟨pb, po, hpa, cu⟩ := hRd 0 (by simp)
      obtain ⟨pb', po', hpa', cv⟩ := hRd 1 (by simp)
      obtain ⟨rfl, rfl⟩ : pb = pb' ∧ po = po' := by rw [hpa] at hpa'; simp at hpa'; exact hpa'
      rw [hpa] at ck
      have ee : edgeTxt [(u : Int), (v : Int)] = [32] ++ dec u ++ [45] ++ dec v := by simp [edgeTxt, digs]
      rw [ee] at HT
      simp only [List.length_cons, List.length_nil, Nat.add_zero, List.getElem_cons_zero, List.getElem_cons_succ] at ck cu cv
      have hdu := dec_len u
      have hdv := dec_len v
      have hs1 : ∀ W, (Op.stringOp .add ⟨#[32]⟩ (str (dec u))).run Tryd.prog W = .ok (.string (str ([32] ++ dec u))) W := fun W => str_add Tryd.prog [32] (dec u) W (by simp; omega)
      have hs2 : ∀ W, (Op.stringOp .add (str ([32] ++ dec u)) ⟨#[45]⟩).run Tryd.prog W = .ok (.string (str ([32] ++ dec u ++ [45]))) W := fun W => str_add Tryd.prog _ [45] W (by simp; omega)
      have hs3 : ∀ W, (Op.stringOp .add (str ([32] ++ dec u ++ [45])) (str (dec v))).run Tryd.prog W = .ok (.string (str ([32] ++ dec u ++ [45] ++ dec v))) W := fun W => str_add Tryd.prog _ (dec v) W (by simp; omega)
      have HF := hid (show H0 ++ edgesTxt ((nums ps).take k) ++ ([32] ++ dec u ++ [45] ++ dec v) = H0 ++ edgesTxt ((nums ps).take (k + 1)) by
        rw [HT.out]; simp)
      have hJ2 : (H0 ++ edgesTxt ((nums ps).take k)).length + ([32] ++ dec u ++ [45] ++ dec v).length ≤ 1000000 := by
        simp only [List.length_append, List.length_cons, List.length_nil]; omega
      generalize H0 ++ edgesTxt ((nums ps).take k) = J at *
      generalize [32] ++ dec u ++ [45] ++ dec v = T at *
      generalize str ([32] ++ dec u ++ [45]) = V2 at *
      generalize str ([32] ++ dec u) = V1 at *
      obtain ⟨SA, hSA⟩ : ∃ SA, str (dec u) = SA := ⟨_, rfl⟩
      obtain ⟨SB, hSB⟩ : ∃ SB, str (dec v) = SB := ⟨_, rfl⟩
      rw [hSA] at hs1
      rw [hSB] at hs3
      obtain ⟨ST, hST⟩ : ∃ ST, str T = ST := ⟨_, rfl⟩
      rw [hST] at hs3
      clear hpa hpa' huv hok hRd hz hltn ee hdu hdv hJ RE
      go_wp2
      have qck := fun (p : Bel _) => cellB p.h ck (Nat.le_refl _)
      have qcu := fun (p : Bel _) => cellB p.h cu (Nat.le_refl _)
      have qcv := fun (p : Bel _) => cellB p.h cv (Nat.le_refl _)
      refine wp_quiet_tail_b 11 (by kernel_rfl) (by kernel_rfl) ?_
      simp only [List.take_succ_cons, List.take_zero, List.drop_succ_cons, List.drop_zero]
      repeat (go_big_quiet_step (first | (go_at_call_of 63 u; exact qbs (fmt_p u SA _ (by omega) hSA)) | (go_at_call_of 63 v; exact qbs (fmt_p v SB _ (by omega) hSB))))
      refine wpQuiet_nil ?_
      intro _ hw'
      obtain ⟨⟨w1, hb⟩, rfl⟩ := hw'
      clear qck qcu qcv
      replace RB := hid (RB.out.below hb (Nat.le_refl _))
      replace OE := hid (OE.out.past hb (Nat.le_refl _))
      replace BL := hid (bon BL.out hb)
      replace ck := cellB hb ck (Nat.le_refl _)
      replace cu := cellB hb cu (Nat.le_refl _)
      replace cv := cellB hb cv (Nat.le_refl _)
      clear hb
      rename_i wi
      have hszi := BL.out.size
      go_wp2_with fail
      rw [← hST]
      refine (write_any w0.heap.size w0.heap.size J T _ RB.out hJ2 hszi).mono ?_
      rintro e w7 ⟨rfl, hbd, hb, ho⟩
      have RB7 := hid hbd
      have BL7 := hid (BL.out.trans hb)
      have OE7 := hid (OE.out.others ho (by decide) (by decide) hlt5)
      rw [HF.out] at RB7
      clear hbd hb ho RB BL OE ck cu cv hs1 hs2 hs3
      go_wp2
      go_roundw
      case rel => exact ⟨k + 1, by omega, by go_num, OE7.out, RB7.out, BL7.out⟩
      case measure => simp [intOf]; omega
    · obtain rfl : k = ps.length := by omega
      have HF := hid (show str (H0 ++ edgesTxt ((nums ps).take ps.length)) = graphStr (nums rs) by
        rw [HR.out, List.take_of_length_le (by rw [nums_length]; exact Nat.le_refl _)])
      go_wp2_with fail
      refine (string_any w0.heap.size w0.heap.size _ _ RB.out hszr).mono ?_
      rintro e w7 ⟨rfl, hb⟩
      have BF := hid (B00.out.trans ((BL.out.trans hb).mono (by omega)))
      clear hb
      go_wp2
      go_ret
      exact ⟨ret_str HF.out, BF.out⟩
theorem implGraphText_any (a : Option Addr) (rs : List Row) (c : Nat) (w : World) (r : ByteArray) (hx : graphStr (nums rs) = r) (hr : RdM w a rs) (hn : Small rs) :
    Calls Tryd.prog 21 #[.agg #[.slice a rs.length c]] w fun e w' => e = .returned (.string r) ∧ Below w.heap.size w w' := by
  subst hx
  have RA := hid hr; clear hr
  obtain ⟨w0, hw0⟩ : ∃ w0, w0 = (w.alloc (.cells #[.slice a rs.length c] 38)) := ⟨_, rfl⟩
  have B0 := hid (show Below w.heap.size w w0 by rw [hw0]; exact ((Below.refl _ _).alloc (Nat.le_refl _) _))
  have c0 : w0.cell? ⟨w.heap.size, 0, none⟩ = some (.slice a rs.length c) := by rw [hw0]; simp [go_sem]
  replace RA := hid (RA.out.below B0.out (Nat.le_refl _))
  have HW := hid hw0; clear hw0
  by_cases hg : GOk (nums rs)
  · have h1 := hid (show decide (GOk (nums rs)) = true by simpa using hg)
    go_enter Tryd.func21, Tryd.ntmps21
    go_wp2_with fail
    rw [← HW.out]
    go_wp2_with fail
    refine (implGraphOk_b a rs c _ _ h1.out RA.out hn).mono ?_
    rintro e w1 ⟨rfl, hb⟩
    replace RA := hid (RA.out.below hb (Nat.le_refl _))
    replace B0 := hid (bon B0.out hb)
    replace c0 := cellB hb c0 (Nat.le_refl _)
    clear hb
    go_wp2_with fail
    refine (graphText_any a rs c _ hg RA.out hn).mono ?_
    rintro e wz ⟨rfl, hb⟩
    have BB := hid (bon B0.out hb)
    clear hb
    go_wp2
    go_ret
    exact ⟨rfl, BB.out⟩
  · have h1 := hid (show decide (GOk (nums rs)) = false by simpa using hg)
    have HR := hid (show graphStr (nums rs) = ⟨#[]⟩ by unfold graphStr; rw [if_neg hg])
    go_enter Tryd.func21, Tryd.ntmps21
    go_wp2_with fail
    rw [← HW.out]
    go_wp2_with fail
    refine (implGraphOk_b a rs c _ _ h1.out RA.out hn).mono ?_
    rintro e w2 ⟨rfl, hb⟩
    replace RA := hid (RA.out.below hb (Nat.le_refl _))
    replace B0 := hid (bon B0.out hb)
    replace c0 := cellB hb c0 (Nat.le_refl _)
    clear hb
    go_wp2
    go_ret
    exact ⟨ret_str HR.out.symm, B0.out⟩
end Go.Proofs.YthdfkpinaidkkaaDoor
