/- DegreesOf: both. -/
import Derived.Test.YthdfkpinaidkkaaDegsM
import Derived.Test.YthdfkpinaidkkaaGOk
import Derived.Test.YthdfkpinaidkkaaEdges
import Derived.Test.YthdfkpinaidkkaaQuiet
import Derived.Test.YthdfkpinaidkkaaSortL
namespace Go.Proofs.Ythdfkpinaidkkaa
open Go.RowKit
theorem degs_get {rs : List Row} {v : Nat} (hv : v < rs.length) : (degs (nums rs))[v]'(by simpa [degs, nums] using hv) = ((rs[v].z.length : Nat) : Int) := by simp [degs, nums]
theorem degs_len (rs : List Row) : (degs (nums rs)).length = rs.length := by simp [degs, nums]
theorem filt_succ (D : List Int) (v : Nat) (d : Int) (hv : v < D.length) : (D.take (v + 1)).filter (fun x => decide (x = d)) = (D.take v).filter (fun x => decide (x = d)) ++ if D[v] = d then [D[v]] else [] := by
  rw [List.take_succ_eq_append_getElem hv, List.filter_append]
  by_cases h : D[v] = d
  · rw [if_pos h]; simp [h]
  · rw [if_neg h]; simp [h]
set_option maxRecDepth 100000 in
set_option maxHeartbeats 4000000 in
theorem specDegreesOf_any (a : Option Addr) (rs : List Row) (c : Nat) (w : World) (r : List Int) (hx : degSort (nums rs) = r) (hr : RdM w a rs) (hn : Small rs) :
    Calls Try.prog 39 #[.agg #[.slice a rs.length c]] w (RetOwn 2 (r.map (.int .i64)) w) := by
  subst hx
  have RA := hid hr; clear hr
  have hn1 := hn.1
  obtain ⟨w0, hw0⟩ : ∃ w0, w0 = (w.alloc (.cells #[.slice a rs.length c] 27)) := ⟨_, rfl⟩
  have B0 := hid (show Below w.heap.size w w0 by rw [hw0]; exact ((Below.refl _ _).alloc (Nat.le_refl _) _))
  have c0 : w0.cell? ⟨w.heap.size, 0, none⟩ = some (.slice a rs.length c) := by rw [hw0]; simp [go_sem]
  replace RA := hid (RA.out.below B0.out (Nat.le_refl _))
  have HW := hid hw0; clear hw0
  have hsz : w0.heap.size = w.heap.size + 1 := by rw [HW.out]; simp
  have OU := hid (show Own 2 (w0.alloc (.cells #[] 2)) w0.heap.size (.slice (some ⟨w0.heap.size, 0, none⟩) 0 0) [] from own_new 2 w0 [] (by decide))
  have hb := alloc_below w0 (.cells #[] 2)
  have BL := hid hb
  have OUS := hid (show Own 2 (w0.alloc (.cells #[] 2)) w0.heap.size (.slice (some ⟨w.heap.size + 1, 0, none⟩) 0 0) [] by
    have h := OU.out
    rw [hsz] at h ⊢
    exact h)
  by_cases hg : GOk (nums rs)
  · have h1 := hid (show decide (GOk (nums rs)) = true by simpa using hg)
    have h16 : rs.length ≤ 16 := by have := hg.le; rwa [nums_length] at this
    have HR := hid (show degSort (nums rs) = segTo (degs (nums rs)) rs.length by unfold degSort; rw [if_pos hg, nums_length])
    have HSL := hid (fun k => segTo_len (degs (nums rs)) (fun x hx => (degs_in hg x hx).1) k)
    have HDL := hid (degs_len rs)
    have HDG := hid (fun v (hv : v < rs.length) => degs_get hv)
    have RA00 := hid RA.out; have B00 := hid B0.out; have c00 := hid c0
    have hsz1 : w.heap.size + 1 ≤ w0.heap.size := by omega
    clear hb RA B0 c0
    go_enter Try.func39, Try.ntmps39
    go_wp2
    rw [← HW.out]
    clear hsz HW
    go_loopw [3, 4, 5] (fun o x _ wr => ∃ d : Nat, d ≤ rs.length ∧ x = .int .i64 d ∧ Own 2 wr w0.heap.size o ((segTo (degs (nums rs)) d).map (.int .i64)) ∧ Below w0.heap.size w0 wr) (fun _ x _ _ => rs.length - (intOf x).toNat)
    case atStart => exact ⟨0, Nat.zero_le _, rfl, OUS.out, BL.out⟩
    case round =>
      clear OU OUS BL
      obtain ⟨d, hd, rfl, ho, hb⟩ := hrel
      have OI := hid ho; clear ho
      have BL := hid hb
      have RA := hid (RA00.out.below hb (Nat.le_refl _))
      have B0 := hid (B00.out.trans (hb.mono (by omega)))
      have c0 := cellB hb c00.out (Nat.le_refl _)
      clear hb
      by_cases hlt : d < rs.length
      · have hki : (d : Int) < (rs.length : Int) := by omega
        go_wp2_with fail
        refine (specGraphOk_b a rs c _ _ h1.out RA.out hn).mono ?_
        rintro e w1 ⟨rfl, hb⟩
        replace RA := hid (RA.out.below hb (Nat.le_refl _))
        replace B0 := hid (bon B0.out hb)
        replace BL := hid (bon BL.out hb)
        replace OI := hid (OI.out.past hb (Nat.le_refl _))
        replace c0 := cellB hb c0 (Nat.le_refl _)
        clear hb
        go_wp2
        go_loopw [3, 5] (fun o y wq => ∃ v : Nat, v ≤ rs.length ∧ y = .int .i64 v ∧ Own 2 wq w0.heap.size o ((segTo (degs (nums rs)) d ++ ((degs (nums rs)).take v).filter fun x => decide (x = (d : Int))).map (.int .i64)) ∧ Below w0.heap.size w0 wq) (fun _ y _ => rs.length - (intOf y).toNat)
        case atStart => exact ⟨0, Nat.zero_le _, rfl, by simpa using OI.out, BL.out⟩
        case round =>
          clear OI BL RA B0 c0
          obtain ⟨v, hv, rfl, ho, hb⟩ := hrel
          have OI := hid ho; clear ho
          have BL := hid hb
          have RA := hid (RA00.out.below hb (Nat.le_refl _))
          have c0 := cellB hb c00.out (Nat.le_refl _)
          clear hb
          by_cases hlv : v < rs.length
          · have hvi : (v : Int) < (rs.length : Int) := by omega
            have hvD : v < (degs (nums rs)).length := by rw [HDL.out]; exact hlv
            have HF := hid (filt_succ (degs (nums rs)) v (d : Int) hvD)
            obtain ⟨ab, ao, rfl, ck, _⟩ := RA.out.at v hlv
            have hsl := HSL.out d
            have hfl := List.length_filter_le (fun x => decide (x = (d : Int))) ((degs (nums rs)).take v)
            rw [List.length_take] at hfl
            have hdl := HDL.out
            have hlen : ((segTo (degs (nums rs)) d ++ ((degs (nums rs)).take v).filter fun x => decide (x = (d : Int))).map (Value.int .i64)).length < 1099511627776 := by
              rw [List.length_map, List.length_append]; omega
            have hget := HDG.out v hlv
            rw [hget] at HF
            have hszq := BL.out.size
            clear hsl hfl hdl hget
            by_cases he : ((rs[v].z.length : Nat) : Int) = (d : Int)
            · rw [if_pos he] at HF
              have HN := hid (show (segTo (degs (nums rs)) d ++ ((degs (nums rs)).take (v + 1)).filter fun x => decide (x = (d : Int))).map (Value.int .i64) = ((segTo (degs (nums rs)) d ++ ((degs (nums rs)).take v).filter fun x => decide (x = (d : Int))).map (Value.int .i64)) ++ [.int .i64 (d : Int)] by
                rw [HF.out, he, ← List.append_assoc, List.map_append]; rfl)
              generalize (segTo (degs (nums rs)) d ++ ((degs (nums rs)).take v).filter fun x => decide (x = (d : Int))).map (Value.int .i64) = M at *
              have heb : (((rs[v].z.length : Nat) : Int) == (d : Int)) = true := by simpa using he
              go_wp2_with (at_builtin; refine law_push tI64 _ rfl _ _ rfl w0.heap.size _ M rfl OI.out _ _ rfl ?c0 rfl ?c1 ?c2 ?_)
              case c0 => simp
              case c1 => exact hlen
              case c2 => exact hszq
              intro v' w' h1' h2'
              have OI2 := hid h1'
              have BL2 := hid (BL.out.trans (grown_below h2' hszq (fun g hg => OI.out.ge g hg)))
              clear h1' h2'
              go_wp2
              go_roundw
              case rel => exact ⟨v + 1, by omega, by go_num, by rw [HN.out]; exact OI2.out, BL2.out⟩
              case measure => simp [intOf]; omega
            · rw [if_neg he, List.append_nil] at HF
              have heb : (((rs[v].z.length : Nat) : Int) == (d : Int)) = false := by simpa using he
              go_wp2
              go_roundw
              case rel => exact ⟨v + 1, by omega, by go_num, by rw [HF.out]; exact OI.out, BL.out⟩
              case measure => simp [intOf]; omega
          · obtain rfl : v = rs.length := by omega
            have HS := hid (segTo_succ (degs (nums rs)) d)
            have HTK := hid (show (degs (nums rs)).take rs.length = degs (nums rs) from List.take_of_length_le (by rw [HDL.out]; exact Nat.le_refl _))
            rw [HTK.out, ← HS.out] at OI
            go_wp2
            go_roundw
            case rel => exact ⟨d + 1, by omega, by go_num, OI.out, BL.out⟩
            case measure => simp [intOf]; omega
      · obtain rfl : d = rs.length := by omega
        go_wp2
        go_ret
        exact ⟨_, rfl, by rw [HR.out]; exact OI.out.base (by omega), B0.out⟩
  · have h1 := hid (show decide (GOk (nums rs)) = false by simpa using hg)
    have HR := hid (show degSort (nums rs) = [] by unfold degSort; rw [if_neg hg])
    have RA00 := hid RA.out; have B00 := hid B0.out; have c00 := hid c0
    have hsz1 : w.heap.size + 1 ≤ w0.heap.size := by omega
    clear hb RA B0 c0
    go_enter Try.func39, Try.ntmps39
    go_wp2
    rw [← HW.out]
    clear hsz HW
    go_loopw [3, 4, 5] (fun o x _ wr => x = .int .i64 0 ∧ Own 2 wr w0.heap.size o [] ∧ Below w0.heap.size w0 wr) (fun _ _ _ _ => 0)
    case atStart => exact ⟨rfl, OUS.out, BL.out⟩
    case round =>
      clear OU OUS BL
      obtain ⟨rfl, ho, hb⟩ := hrel
      have OI := hid ho; clear ho
      have BL := hid hb
      have RA := hid (RA00.out.below hb (Nat.le_refl _))
      have B0 := hid (B00.out.trans (hb.mono (by omega)))
      have c0 := cellB hb c00.out (Nat.le_refl _)
      clear hb
      by_cases hlt : 0 < rs.length
      · have hki : (0 : Int) < (rs.length : Int) := by omega
        go_wp2_with fail
        refine (specGraphOk_b a rs c _ _ h1.out RA.out hn).mono ?_
        rintro e w2 ⟨rfl, hb⟩
        replace RA := hid (RA.out.below hb (Nat.le_refl _))
        replace B0 := hid (bon B0.out hb)
        replace BL := hid (bon BL.out hb)
        replace OI := hid (OI.out.past hb (Nat.le_refl _))
        replace c0 := cellB hb c0 (Nat.le_refl _)
        clear hb
        go_wp2
        go_ret
        exact ⟨_, rfl, by rw [HR.out]; exact OI.out.base (by omega), B0.out⟩
      · have hki : ¬ (0 : Int) < (rs.length : Int) := by omega
        go_wp2
        go_ret
        exact ⟨_, rfl, by rw [HR.out]; exact OI.out.base (by omega), B0.out⟩
set_option maxRecDepth 100000 in
set_option maxHeartbeats 4000000 in
theorem implDegreesOf_any (a : Option Addr) (rs : List Row) (c : Nat) (w : World) (r : List Int) (hx : degSort (nums rs) = r) (hr : RdM w a rs) (hn : Small rs) :
    Calls Try.prog 40 #[.agg #[.slice a rs.length c]] w (RetOwn 2 (r.map (.int .i64)) w) := by
  subst hx
  have RA := hid hr; clear hr
  have hn1 := hn.1
  obtain ⟨w0, hw0⟩ : ∃ w0, w0 = (w.alloc (.cells #[.slice a rs.length c] 27)) := ⟨_, rfl⟩
  have B0 := hid (show Below w.heap.size w w0 by rw [hw0]; exact ((Below.refl _ _).alloc (Nat.le_refl _) _))
  have c0 : w0.cell? ⟨w.heap.size, 0, none⟩ = some (.slice a rs.length c) := by rw [hw0]; simp [go_sem]
  replace RA := hid (RA.out.below B0.out (Nat.le_refl _))
  have HW := hid hw0; clear hw0
  by_cases hg : GOk (nums rs)
  · have h1 := hid (show decide (GOk (nums rs)) = true by simpa using hg)
    have HR := hid (degSort_ok hg)
    have HDL := hid (degs_len rs)
    have HDG := hid (fun v (hv : v < rs.length) => degs_get hv)
    go_enter Try.func40, Try.ntmps40
    go_wp2_with fail
    rw [← HW.out]
    go_wp2_with fail
    refine (implGraphOk_b a rs c _ _ h1.out RA.out hn).mono ?_
    rintro e w1 ⟨rfl, hb⟩
    replace RA := hid (RA.out.below hb (Nat.le_refl _))
    replace B0 := hid (bon B0.out hb)
    replace c0 := cellB hb c0 (Nat.le_refl _)
    clear hb
    have OU := hid (show Own 2 (w1.alloc (.cells #[] 2)) w1.heap.size (.slice (some ⟨w1.heap.size, 0, none⟩) 0 0) [] from own_new 2 w1 [] (by decide))
    have BL := hid (alloc_below w1 (.cells #[] 2))
    have RA00 := hid RA.out; have B00 := hid B0.out; have c00 := hid c0
    clear RA B0
    replace c0 := cellB BL.out c0 (Nat.le_refl _)
    go_wp2
    clear c0
    go_loopw [3, 5, 13] (fun o _ x wr => ∃ k : Nat, k ≤ rs.length ∧ x = .int .i64 k ∧ Own 2 wr w1.heap.size o (((degs (nums rs)).take k).map (.int .i64)) ∧ Below w1.heap.size w1 wr) (fun _ _ x _ => rs.length - (intOf x).toNat)
    case atStart => exact ⟨0, Nat.zero_le _, rfl, OU.out, BL.out⟩
    case round =>
      clear OU BL
      obtain ⟨k, hk, rfl, ho, hb⟩ := hrel
      have OI := hid ho; clear ho
      have BL := hid hb
      have RA := hid (RA00.out.below hb (Nat.le_refl _))
      clear hb
      have hszq := BL.out.size
      by_cases hlt : k < rs.length
      · have hki : (k : Int) < (rs.length : Int) := by omega
        have hvD : k < (degs (nums rs)).length := by rw [HDL.out]; exact hlt
        obtain ⟨ab, ao, rfl, ck, _⟩ := RA.out.at k hlt
        have HN := hid (show ((degs (nums rs)).take (k + 1)).map (Value.int .i64) = ((degs (nums rs)).take k).map (Value.int .i64) ++ [.int .i64 ((rs[k].z.length : Nat) : Int)] by
          rw [List.take_succ_eq_append_getElem hvD, HDG.out k hlt, List.map_append]; rfl)
        have hlen : (((degs (nums rs)).take k).map (Value.int .i64)).length < 1099511627776 := by
          rw [List.length_map, List.length_take, HDL.out]; omega
        generalize ((degs (nums rs)).take k).map (Value.int .i64) = M at *
        go_wp2_with (at_builtin; refine law_push tI64 _ rfl _ _ rfl w1.heap.size _ M rfl OI.out _ _ rfl ?c0 rfl ?c1 ?c2 ?_)
        case c0 => simp
        case c1 => exact hlen
        case c2 => exact hszq
        intro v' w' h1' h2'
        have OI2 := hid h1'
        have BL2 := hid (BL.out.trans (grown_below h2' hszq (fun g hg => OI.out.ge g hg)))
        clear h1' h2'
        go_wp2
        go_roundw
        case rel => exact ⟨k + 1, by omega, by go_num, by rw [HN.out]; exact OI2.out, BL2.out⟩
        case measure => simp [intOf]; omega
      · obtain rfl : k = rs.length := by omega
        have HTK := hid (show (degs (nums rs)).take rs.length = degs (nums rs) from List.take_of_length_le (by rw [HDL.out]; exact Nat.le_refl _))
        rw [HTK.out] at OI
        have hpos : 1 ≤ rs.length := by have := hg.pos; rwa [nums_length] at this
        obtain ⟨g, cap, hov⟩ : ∃ g cap, u3 = .slice (some ⟨g, 0, none⟩) (degs (nums rs)).length cap := by
          rcases OI.out.form with ⟨_, h2⟩ | ⟨g, cap, spare, h2, _⟩
          · have := congrArg List.length h2
            rw [List.length_map, HDL.out, List.length_nil] at this; omega
          · exact ⟨g, cap, by rw [h2, List.length_map]⟩
        subst hov
        go_wp2_with fail
        refine (sort_any w1.heap.size (degs (nums rs)) g cap _ OI.out (by rw [HDL.out]; exact hn1)).mono ?_
        rintro e wz ⟨rfl, hos, hgr⟩
        have OZ := hid (hos.base (B' := w.heap.size) B00.out.size)
        have BZ := hid (B00.out.trans ((BL.out.trans (grown_below hgr hszq (fun k hk => by injection hk with hk; subst hk; exact OI.out.ge _ rfl))).mono B00.out.size))
        clear hos hgr
        rw [← HR.out] at OZ
        go_wp2
        go_ret
        exact ⟨_, rfl, OZ.out, BZ.out⟩
  · have h1 := hid (show decide (GOk (nums rs)) = false by simpa using hg)
    have HR := hid (show degSort (nums rs) = [] by unfold degSort; rw [if_neg hg])
    go_enter Try.func40, Try.ntmps40
    go_wp2_with fail
    rw [← HW.out]
    go_wp2_with fail
    refine (implGraphOk_b a rs c _ _ h1.out RA.out hn).mono ?_
    rintro e w2 ⟨rfl, hb⟩
    replace RA := hid (RA.out.below hb (Nat.le_refl _))
    replace B0 := hid (bon B0.out hb)
    replace c0 := cellB hb c0 (Nat.le_refl _)
    clear hb
    go_wp2
    go_ret
    exact ⟨_, rfl, by rw [HR.out]; exact Own.nil _ _ _, B0.out⟩
end Go.Proofs.Ythdfkpinaidkkaa
