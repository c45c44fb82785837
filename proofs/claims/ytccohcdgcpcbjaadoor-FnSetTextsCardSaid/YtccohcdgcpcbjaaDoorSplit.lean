/- A text cut at a byte: plain, the program's, the reference's. -/
import Derived.Test.YtccohcdgcpcbjaaDoorSetTxt
import Derived.Shelf.Strings.Split
import Derived.Lib.IndexBytes
namespace Go.Proofs.YtccohcdgcpcbjaaDoor
open Go.RowKit
section
/-- A text cut at each byte c. -/
def spl (c : UInt8) : List UInt8 → List (List UInt8)
  | [] => [[]]
  | b :: l => if b = c then [] :: spl c l else (b :: (spl c l).headD []) :: (spl c l).tail
theorem spl_ne (c : UInt8) (l : List UInt8) : spl c l ≠ [] := by
  cases l with
  | nil => simp [spl]
  | cons b l => unfold spl; split <;> simp
theorem spl_cons (c : UInt8) (l : List UInt8) : ∃ h t, spl c l = h :: t := by
  cases e : spl c l with
  | nil => exact absurd e (spl_ne c l)
  | cons h t => exact ⟨h, t, rfl⟩
theorem spl_none {c : UInt8} : ∀ {l : List UInt8}, c ∉ l → spl c l = [l]
  | [], _ => rfl
  | b :: l, h => by
    have h1 : b ≠ c := fun e => h (by rw [e]; exact List.mem_cons_self)
    have h2 := spl_none (l := l) (fun e => h (List.mem_cons_of_mem _ e))
    unfold spl
    rw [if_neg h1, h2]; rfl
theorem spl_hit {c : UInt8} {b : List UInt8} : ∀ {a : List UInt8}, c ∉ a → spl c (a ++ c :: b) = a :: spl c b
  | [], _ => by rw [List.nil_append]; conv => lhs; unfold spl
                rw [if_pos rfl]
  | x :: a, h => by
    have h1 : x ≠ c := fun e => h (by rw [e]; exact List.mem_cons_self)
    have h2 := spl_hit (b := b) (a := a) (fun e => h (List.mem_cons_of_mem _ e))
    rw [List.cons_append]
    conv => lhs; unfold spl
    rw [if_neg h1, h2]; rfl
theorem spl_mem {c : UInt8} : ∀ {l p : List UInt8}, p ∈ spl c l → c ∉ p ∧ p.length ≤ l.length
  | [], p, h => by
    obtain rfl : p = [] := by simpa [spl] using h
    simp
  | b :: l, p, h => by
    have ih := fun q (hq : q ∈ spl c l) => spl_mem (l := l) hq
    obtain ⟨hd, t, e⟩ := spl_cons c l
    unfold spl at h
    split at h
    · rcases List.mem_cons.1 h with rfl | h
      · simp
      · have := ih p h
        exact ⟨this.1, by rw [List.length_cons]; omega⟩
    · rename_i hb
      rw [e] at h ih
      rcases List.mem_cons.1 h with rfl | h
      · have := ih hd List.mem_cons_self
        refine ⟨fun hm => ?_, by simp only [List.headD_cons, List.length_cons]; omega⟩
        rcases List.mem_cons.1 hm with e2 | hm
        · exact hb e2.symm
        · exact this.1 hm
      · have := ih p (List.mem_cons_of_mem _ h)
        exact ⟨this.1, by rw [List.length_cons]; omega⟩
theorem spl_len (c : UInt8) : ∀ l : List UInt8, (spl c l).length = l.count c + 1
  | [] => rfl
  | b :: l => by
    have ih := spl_len c l
    obtain ⟨hd, t, e⟩ := spl_cons c l
    unfold spl
    split
    · rename_i h
      rw [h, List.length_cons, ih, List.count_cons_self]
    · rename_i h
      rw [List.count_cons_of_ne h, ← ih, e]; rfl
theorem spl_len_le (c : UInt8) (l : List UInt8) : (spl c l).length ≤ l.length + 1 := by
  rw [spl_len]
  have := List.count_le_length (a := c) (l := l)
  omega
theorem join_cons2 (p q : List UInt8) (r : List (List UInt8)) (c : UInt8) : Go.Lib.join (p :: q :: r) [c] = p ++ c :: Go.Lib.join (q :: r) [c] := by
  rw [Go.Lib.join_cons, Go.Lib.join_cons]
  unfold Go.Lib.joinTail
  simp
theorem spl_join (c : UInt8) : ∀ l : List UInt8, Go.Lib.join (spl c l) [c] = l
  | [] => Go.Lib.join_one _ _
  | b :: l => by
    have ih := spl_join c l
    obtain ⟨hd, t, e⟩ := spl_cons c l
    unfold spl
    split
    · rename_i h
      rw [e] at ih ⊢
      rw [join_cons2, ih, h]; rfl
    · rw [e] at ih ⊢
      show Go.Lib.join ((b :: hd) :: t) [c] = b :: l
      rw [Go.Lib.join_cons] at ih ⊢
      rw [List.cons_append, ih]
theorem join_spl {c : UInt8} : ∀ {ws : List (List UInt8)}, ws ≠ [] → (∀ p ∈ ws, c ∉ p) → spl c (Go.Lib.join ws [c]) = ws
  | [], h, _ => absurd rfl h
  | [p], _, hp => by rw [Go.Lib.join_one]; exact spl_none (hp p List.mem_cons_self)
  | p :: q :: r, _, hp => by
    rw [join_cons2, spl_hit (hp p List.mem_cons_self), join_spl (ws := q :: r) (by simp) (fun x hx => hp x (List.mem_cons_of_mem _ hx))]
theorem splitK_spl (c : UInt8) : ∀ (n : Nat) (l : List UInt8), l.length ≤ n → Go.Lib.splitK [c] 0 (Go.Lib.count l [c]) l = spl c l := by
  intro n
  induction n with
  | zero =>
    intro l hl
    obtain rfl : l = [] := List.eq_nil_of_length_eq_zero (by omega)
    rfl
  | succ n ih =>
    intro l hl
    rcases Go.Lib.index_spec l [c] with ⟨hm, ho⟩ | ⟨i, hi, hil, ho, hf⟩
    · rw [Go.Lib.count_miss hm]
      have hc : c ∉ l := by
        intro hc
        obtain ⟨j, hj, e⟩ := List.mem_iff_getElem.1 hc
        have h1 := ho j (by omega)
        rw [Go.Lib.occAt_iff_take l [c] j (by simp; omega)] at h1
        rw [List.drop_eq_getElem_cons hj, e] at h1
        simp at h1
      rw [spl_none hc]; rfl
    · have hr := Go.Lib.occAt_room ho
      have hil2 : i < l.length := by
        rcases hr with h | h
        · simp at h; omega
        · cases h
      have hci : l[i] = c := by
        have := Go.Lib.occAt_head rfl ho
        rw [List.getElem?_eq_getElem hil2] at this
        injection this
      have hno : c ∉ l.take i := by
        intro hc
        obtain ⟨j, hj, e⟩ := List.mem_iff_getElem.1 hc
        rw [List.length_take] at hj
        have h1 := hf j (by omega)
        rw [Go.Lib.occAt_iff_take l [c] j (by simp; omega)] at h1
        rw [List.getElem_take] at e
        rw [List.drop_eq_getElem_cons (show j < l.length by omega), e] at h1
        simp at h1
      have hsplit : l = l.take i ++ c :: l.drop (i + 1) := by
        rw [← hci, ← List.drop_eq_getElem_cons hil2, List.take_append_drop]
      rw [Go.Lib.count_hit (by simp) hi, show 1 + Go.Lib.count (l.drop (i + [c].length)) [c] = Go.Lib.count (l.drop (i + 1)) [c] + 1 from Nat.add_comm _ _]
      have hne : ¬ (Go.Lib.index l [c] == -1) = true := by rw [hi, beq_iff_eq]; omega
      show (if (Go.Lib.index l [c] == -1) = true then [l] else l.take ((Go.Lib.index l [c]).toNat + 0) :: Go.Lib.splitK [c] 0 (Go.Lib.count (l.drop (i + 1)) [c]) (l.drop ((Go.Lib.index l [c]).toNat + [c].length))) = _
      rw [if_neg hne, hi]
      simp only [Int.toNat_natCast, Nat.add_zero, List.length_singleton]
      rw [ih (l.drop (i + 1)) (by rw [List.length_drop]; omega)]
      conv => rhs; rw [hsplit]
      rw [spl_hit hno]
theorem str_data (x : ByteArray) : str x.data.toList = x := by unfold str; simp
theorem splitB_spl (c : UInt8) (l : List UInt8) : Go.Lib.splitB ⟨#[c]⟩ 0 (Go.Lib.countB (str l) ⟨#[c]⟩) (str l) = (spl c l).map str := by
  have h1 := Go.Lib.splitB_data ⟨#[c]⟩ 0 (Go.Lib.countB (str l) ⟨#[c]⟩) (str l)
  have h2 : Go.Lib.splitK (⟨#[c]⟩ : ByteArray).data.toList 0 (Go.Lib.countB (str l) ⟨#[c]⟩) (str l).data.toList = spl c l := by
    have e : (str l).data.toList = l := by unfold str; simp
    show Go.Lib.splitK [c] 0 (Go.Lib.count (str l).data.toList [c]) (str l).data.toList = _
    rw [e]
    exact splitK_spl c _ l (Nat.le_refl _)
  rw [h2] at h1
  rw [← h1, List.map_map]
  have : ∀ x ∈ Go.Lib.splitB ⟨#[c]⟩ 0 (Go.Lib.countB (str l) ⟨#[c]⟩) (str l), (str ∘ fun x : ByteArray => x.data.toList) x = x := fun x _ => str_data x
  rw [List.map_congr_left this]; simp
theorem countB_spl (c : UInt8) (l : List UInt8) : Go.Lib.countB (str l) ⟨#[c]⟩ + 1 = (spl c l).length := by
  have h := Go.Lib.splitB_all ⟨#[c]⟩ (show 1 ≤ 1 from Nat.le_refl _) 0 _ (str l) rfl
  rw [splitB_spl, List.length_map] at h
  exact h.symm
end
section
set_option maxHeartbeats 1000000 in
theorem strSplit_any (l : List UInt8) (c : UInt8) (w : World) (hl : l.length ≤ 4194304) :
    Calls Tryd.prog 25 #[.string (str l), .string ⟨#[c]⟩] w fun e w' => e = .returned (.slice (some ⟨w.heap.size, 0, none⟩) (spl c l).length (spl c l).length) ∧ Own 9 w' w.heap.size (.slice (some ⟨w.heap.size, 0, none⟩) (spl c l).length (spl c l).length) ((spl c l).map strF) ∧ Below w.heap.size w w' := by
  have hsz : (str l).size = l.length := str_size l
  have hcnt := countB_spl c l
  have hle := spl_len_le c l
  have hg := Any.strings_genSplit_core Tryd.lays221 (by kernel_rfl) (str l) ⟨#[c]⟩ 0 (-1) (spl c l).length w (by rw [hsz]; omega) (show 1 ≤ 1 from Nat.le_refl _) (Nat.zero_le _)
    (fun x cs _ => by
      refine (Tryd.strings_Index_one x c _).mono ?_
      rintro e w' ⟨rfl, rfl⟩
      exact ⟨by rw [← Go.Lib.index_one], rfl⟩)
    (by
      refine (Tryd.strings_Count_one (str l) c w).mono ?_
      rintro e w' ⟨rfl, rfl⟩
      refine ⟨?_, rfl⟩
      show _ = Ending.returned (Value.int .i64 ((Go.Lib.count (str l).data.toList [c] : Nat) : Int))
      rw [Go.Lib.count_one]; rfl)
    (by decide) (by decide) (by rw [if_pos (by decide), hsz]; omega)
  have e1 : (spl c l).length - 1 = Go.Lib.countB (str l) ⟨#[c]⟩ := by omega
  rw [e1, splitB_spl, List.length_map] at hg
  have e2 : Go.Lib.cellsOf ((spl c l).map str) (spl c l).length = ((spl c l).map strF).toArray := by
    have h := Go.Lib.cellsOf_full ((spl c l).map str)
    rw [List.length_map, List.map_map] at h
    rw [h]; rfl
  rw [e2] at hg
  have HG := hid hg
  have HON := hid (own_new 9 w ((spl c l).map strF) (by rw [List.length_map]; unfold maxLen; omega))
  rw [List.length_map] at HON
  clear hg e1 e2 hcnt hle hsz
  go_enter Tryd.func25, Tryd.ntmps25
  go_wp2_with fail
  refine HG.out.mono ?_
  rintro e w' ⟨rfl, rfl⟩
  go_wp2
  go_ret
  exact ⟨rfl, HON.out, alloc_below _ _⟩
end
section
theorem dropc {l : List UInt8} {from_ i : Nat} (hi : i < l.length) (hf : from_ ≤ i) : l.drop from_ = (l.drop from_).take (i - from_) ++ l[i] :: l.drop (i + 1) := by
  have h1 : l.drop i = l[i] :: l.drop (i + 1) := List.drop_eq_getElem_cons hi
  rw [← h1, show l.drop i = (l.drop from_).drop (i - from_) by rw [List.drop_drop]; congr 1; omega, List.take_append_drop]
theorem str_get (l : List UInt8) (i : Nat) (h : i < (str l).size) (h' : i < l.length) : (str l)[i]'h = l[i] := by
  show l.toArray[i] = l[i]
  simp
theorem str_extract (l : List UInt8) (a b : Nat) : (str l).extract a b = str ((l.drop a).take (b - a)) := by
  apply ByteArray.ext
  simp [str, ByteArray.data_extract]
/-- What the reference's loop holds. -/
def SplH (c : UInt8) (l : List UInt8) (D : List (List UInt8)) (f i : Nat) : Prop :=
  (i ≤ l.length ∧ f ≤ i ∧ spl c l = D ++ spl c (l.drop f) ∧ c ∉ (l.drop f).take (i - f)) ∨ (i = l.length + 1 ∧ f = l.length + 1 ∧ D = spl c l)
set_option maxRecDepth 100000 in
set_option maxHeartbeats 4000000 in
theorem l1Split_any (l : List UInt8) (c : UInt8) (w : World) (hl : l.length ≤ 4194304) :
    Calls Tryd.prog 22 #[.string (str l), .int .u8 c.toNat] w (RetOwn 9 ((spl c l).map strF) w) := by
  have HO := hid (show Own 9 (w.alloc (.cells #[] 9)) w.heap.size (.slice (some ⟨w.heap.size, 0, none⟩) 0 0) [] from own_new 9 w [] (by decide))
  have B0 := hid (alloc_below w (.cells #[] 9))
  go_enter Tryd.func22, Tryd.ntmps22
  go_wp2
  go_loopw [5, 6, 7] (fun o f x wr => ∃ (D : List (List UInt8)) (fr i : Nat), f = .int .i64 fr ∧ x = .int .i64 i ∧ SplH c l D fr i ∧ Own 9 wr w.heap.size o (D.map strF) ∧ Below w.heap.size w wr) (fun _ _ x _ => l.length + 1 - (intOf x).toNat)
  case atStart => exact ⟨[], 0, 0, rfl, rfl, .inl ⟨Nat.zero_le _, Nat.le_refl _, by simp, by simp⟩, HO.out, B0.out⟩
  case round =>
    obtain ⟨D, fr, i, rfl, rfl, hs, ho, hb⟩ := hrel
    have OD := hid ho; have BL := hid hb
    clear ho hb
    rcases hs with ⟨hi, hfi, hsp, hno⟩ | ⟨rfl, rfl, rfl⟩
    · have HSP := hid hsp; have HNO := hid hno
      clear hsp hno
      by_cases hil : i < l.length
      · have hii : (i : Int) ≤ (l.length : Int) := by omega
        have hie : ((i : Int) == (l.length : Int)) = false := by rw [beq_eq_false_iff_ne]; omega
        have hsz : (str l).size = l.length := str_size l
        have hd0 := dropc (l := l) hil hfi
        have hg0 := fun h : i < (str l).size => str_get l i h hil
        obtain ⟨b, hb⟩ : ∃ b, l[i] = b := ⟨_, rfl⟩
        rw [hb] at hd0
        have hget : ∀ h : i < (str l).size, (str l)[i]'h = b := fun h => (hg0 h).trans hb
        have HD := hid hd0
        clear hd0 hg0 hb
        by_cases hc : b = c
        · have hbc : (((b).toNat : Int) == (c.toNat : Int)) = true := by rw [hc]; simp
          have hext : (str l).extract fr i = str ((l.drop fr).take (i - fr)) := str_extract l fr i
          have hsp2 : spl c (l.drop fr) = (l.drop fr).take (i - fr) :: spl c (l.drop (i + 1)) := by
            have h2 := HD.out
            rw [hc] at h2
            conv => lhs; rw [h2]
            exact spl_hit HNO.out
          have HN := hid (show SplH c l (D ++ [(l.drop fr).take (i - fr)]) (i + 1) (i + 1) from .inl ⟨by omega, Nat.le_refl _, (by rw [HSP.out, List.append_assoc, hsp2]; rfl), by simp⟩)
          clear hsp2
          have hfr : (0 : Int) ≤ (fr : Int) := by omega
          have hfi2 : (fr : Int) ≤ (i : Int) := by omega
          have hDl : (D.map strF).length ≤ 4194305 := by
            have h1 := spl_len_le c l
            rw [HSP.out, List.length_append] at h1
            rw [List.length_map]; omega
          have hs1 := BL.out.size
          clear HD hc HSP HNO
          generalize (l.drop fr).take (i - fr) = cur at *
          go_wp2_with (at_builtin; refine law_push tStrs _ rfl _ _ rfl w.heap.size _ (D.map strF) rfl OD.out _ _ rfl ?c0 rfl ?c1 ?c2 ?_)
          case c0 => simp
          case c1 => omega
          case c2 => exact hs1
          intro v' w' h1 h2
          have ON := hid (show Own 9 w' w.heap.size v' ((D ++ [cur]).map strF) by rw [List.map_append]; exact h1)
          have BN := hid (BL.out.trans (grown_below h2 hs1 (fun g hg => OD.out.ge g hg)))
          clear h1 h2
          go_wp2
          go_roundw
          case rel => exact ⟨_, i + 1, i + 1, by go_num, by go_num, HN.out, ON.out, BN.out⟩
          case measure => simp [intOf]; omega
        · have hbc : (((b).toNat : Int) == (c.toNat : Int)) = false := by
            rw [beq_eq_false_iff_ne]
            intro e
            exact hc (UInt8.toNat_inj.1 (by omega))
          have HN := hid (show SplH c l D fr (i + 1) from .inl ⟨by omega, by omega, HSP.out, by
            have e : (l.drop fr).take (i + 1 - fr) = (l.drop fr).take (i - fr) ++ [b] := by
              conv => lhs; rw [HD.out]
              rw [show i + 1 - fr = ((l.drop fr).take (i - fr)).length + 1 by rw [List.length_take, List.length_drop]; omega, List.take_length_add_append]
              rfl
            rw [e]
            intro h
            rcases List.mem_append.1 h with h | h
            · exact HNO.out h
            · exact hc (List.mem_singleton.1 h).symm⟩)
          clear HD hc HSP HNO
          go_wp2
          go_roundw
          case rel => exact ⟨D, fr, i + 1, rfl, by go_num, HN.out, OD.out, BL.out⟩
          case measure => simp [intOf]; omega
      · obtain rfl : i = l.length := by omega
        have hii : ((l.length : Nat) : Int) ≤ (l.length : Int) := Int.le_refl _
        have hie : (((l.length : Nat) : Int) == (l.length : Int)) = true := by simp
        have hsz : (str l).size = l.length := str_size l
        have hext : (str l).extract fr l.length = str (l.drop fr) := by
          rw [str_extract, List.take_of_length_le (by rw [List.length_drop]; omega)]
        have hfr : (0 : Int) ≤ (fr : Int) := by omega
        have hfi2 : (fr : Int) ≤ (l.length : Int) := by omega
        have HN := hid (show SplH c l (D ++ [l.drop fr]) (l.length + 1) (l.length + 1) from .inr ⟨rfl, rfl, by
          have h1 := HNO.out
          rw [List.take_of_length_le (by rw [List.length_drop]; omega)] at h1
          rw [HSP.out, spl_none h1]⟩)
        have hDl : (D.map strF).length ≤ 4194305 := by
          have h1 := spl_len_le c l
          rw [HSP.out, List.length_append] at h1
          rw [List.length_map]; omega
        have hs1 := BL.out.size
        clear HSP HNO
        generalize l.drop fr = cur at *
        go_wp2_with (at_builtin; refine law_push tStrs _ rfl _ _ rfl w.heap.size _ (D.map strF) rfl OD.out _ _ rfl ?c0 rfl ?c1 ?c2 ?_)
        case c0 => simp
        case c1 => omega
        case c2 => exact hs1
        intro v' w' h1 h2
        have ON := hid (show Own 9 w' w.heap.size v' ((D ++ [cur]).map strF) by rw [List.map_append]; exact h1)
        have BN := hid (BL.out.trans (grown_below h2 hs1 (fun g hg => OD.out.ge g hg)))
        clear h1 h2
        go_wp2
        go_roundw
        case rel => exact ⟨_, l.length + 1, l.length + 1, by go_num, by first | go_num | rfl, HN.out, ON.out, BN.out⟩
        case measure => simp [intOf]
    · have hii : ¬ (((l.length + 1 : Nat) : Int) ≤ (l.length : Int)) := by omega
      have hsz : (str l).size = l.length := str_size l
      go_wp2
      go_ret
      exact ⟨_, rfl, OD.out, BL.out⟩
end
end Go.Proofs.YtccohcdgcpcbjaaDoor
