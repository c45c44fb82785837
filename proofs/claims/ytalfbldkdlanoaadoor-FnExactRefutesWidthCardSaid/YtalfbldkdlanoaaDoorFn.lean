/- slices.IndexFunc, slices.ContainsFunc over rows of numbers, at whatever test. -/
import Derived.Test.YtalfbldkdlanoaaDoorBase
namespace Go.Proofs.YtalfbldkdlanoaaDoor
open Go.RowKit

/-- A function of the program that is called by its value is entered. -/
def Enters (P : Program) (F : FuncId) : Prop := ∀ (args : Array Value) (w : World), (callFunc F args).run P w = .ok (.enter F args) w
theorem enters_of {P : Program} {F : FuncId} {fn : Func} (h : P.funcs[F]? = some fn) (hn : (fn.name == "runtime.NumGoroutine") = false) (hb : fn.body.isNone = false) : Enters P F := by
  intro args w
  have hn' : ¬ fn.name = "runtime.NumGoroutine" := by simpa using hn
  have hb' : ¬ fn.body = none := by intro h; rw [h] at hb; cases hb
  simp [callFunc, program, Sem.run, Sem.run_bind, h, hn', hb']
/-- What is asked of the test: it answers p of each row, in whatever world has only grown. -/
def Tests (P : Program) (F : FuncId) (caps : Array Value) (p : Row → Bool) (rs : List Row) (w : World) : Prop :=
  ∀ r ∈ rs, ∀ w1, Below w.heap.size w w1 → Calls P F (#[.slice r.a r.z.length r.c] ++ caps) w1 fun e w2 => e = .returned (.bool (p r)) ∧ Below w1.heap.size w1 w2
def IdxPost (p : Row → Bool) (rs : List Row) (w : World) (e : Ending) (w' : World) : Prop := ∃ x : Int, e = .returned (.int .i64 x) ∧ decide (0 ≤ x) = rs.any p ∧ Below w.heap.size w w'
set_option maxHeartbeats 1000000 in
theorem indexRows_any (a : Option Addr) (rs : List Row) (c : Nat) (w : World) (F : FuncId) (caps : Array Value) (p : Row → Bool) (hr : RdM w a rs) (hn : rs.length ≤ 1048576) (hE : Enters Tryd.prog F) (hF : Tests Tryd.prog F caps p rs w) :
    Calls Tryd.prog 132 #[.slice a rs.length c, .func (.func F) #[] caps] w (IdxPost p rs w) := by
  have HR := hid hr; have HF := hid hF; clear hr hF
  go_enter Tryd.func132, Tryd.ntmps132
  go_wp2
  go_loopw [5, 8] (fun _ i wr => ∃ k : Nat, k ≤ rs.length ∧ i = .int .i64 k ∧ (rs.take k).any p = false ∧ Below w.heap.size w wr) (fun _ i _ => rs.length - (intOf i).toNat)
  case atStart => exact ⟨0, Nat.zero_le _, rfl, rfl, Below.refl _ _⟩
  case round =>
    obtain ⟨k, hk, rfl, hp, hb⟩ := hrel
    have HP := hid hp; have HB := hid hb; clear hp hb
    by_cases hlt : k < rs.length
    · obtain ⟨b, o, rfl, hc, _⟩ := (HR.out.below HB.out (Nat.le_refl _)).at k hlt
      have HS := hid (List.take_succ_eq_append_getElem hlt)
      have HT := hid (HF.out rs[k] (List.getElem_mem hlt) wr HB.out)
      have HM := hid (List.getElem_mem hlt)
      generalize rs[k] = r at *
      have hE' := hE
      unfold Enters at hE'
      cases hpr : p r
      · go_wp2_with fail
        refine HT.out.mono ?_
        rintro e w2 ⟨rfl, hb2⟩
        have HB2 := hid (HB.out.trans (hb2.mono HB.out.size)); clear hb2
        rw [hpr]
        go_wp2
        go_roundw
        case rel => exact ⟨k + 1, by omega, by go_num, by rw [HS.out, List.any_append, HP.out]; simpa using hpr, HB2.out⟩
        case measure => simp [intOf]; omega
      · go_wp2_with fail
        refine HT.out.mono ?_
        rintro e w2 ⟨rfl, hb2⟩
        have HB2 := hid (HB.out.trans (hb2.mono HB.out.size)); clear hb2
        rw [hpr]
        go_wp2
        go_ret
        refine ⟨k, rfl, ?_, HB2.out⟩
        rw [List.any_eq_true.2 ⟨r, HM.out, hpr⟩]
        simp
    · go_wp2
      go_ret
      refine ⟨-1, rfl, ?_, HB.out⟩
      have := HP.out
      rw [List.take_of_length_le (by omega)] at this
      rw [this]; rfl
set_option maxHeartbeats 1000000 in
theorem containsRows_any (a : Option Addr) (rs : List Row) (c : Nat) (w : World) (F : FuncId) (caps : Array Value) (p : Row → Bool) (hr : RdM w a rs) (hn : rs.length ≤ 1048576) (hE : Enters Tryd.prog F) (hF : Tests Tryd.prog F caps p rs w) :
    Calls Tryd.prog 81 #[.slice a rs.length c, .func (.func F) #[] caps] w fun e w' => e = .returned (.bool (rs.any p)) ∧ Below w.heap.size w w' := by
  have HR := hid hr; have HF := hid hF; have HE := hid hE; clear hr hF hE
  go_enter Tryd.func81, Tryd.ntmps81
  go_wp2_with fail
  refine (indexRows_any a rs c _ F caps p HR.out hn HE.out HF.out).mono ?_
  rintro e w2 ⟨x, rfl, hx, hb2⟩
  have HX := hid hx; have HB := hid hb2; clear hx hb2
  go_wp2
  go_ret
  exact ⟨ret_bool (by rw [← HX.out]), HB.out⟩
end Go.Proofs.YtalfbldkdlanoaaDoor
