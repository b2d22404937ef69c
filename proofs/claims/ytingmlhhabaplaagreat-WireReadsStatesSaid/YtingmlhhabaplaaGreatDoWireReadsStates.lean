/- Wire: the law WireReadsStates. No conditions. -/
import Derived.Test.YtingmlhhabaplaaGreatEvWire11b
import Derived.Test.YtingmlhhabaplaaGreatEvSamef
import Derived.Test.YtingmlhhabaplaaGreatEvAwake06
namespace Go.Proofs.YtingmlhhabaplaaGreat.Ev
open Go
set_option linter.unusedVariables false
set_option linter.unusedSimpArgs false
set_option maxRecDepth 100000
set_option maxHeartbeats 4000000
theorem zok28 : ok28 z28 := ⟨(by decide), (by decide), ⟨Nat.le_of_ble_eq_true rfl, Nat.le_of_ble_eq_true rfl, fun _ h => (List.not_mem_nil h).elim⟩, ⟨Nat.le_of_ble_eq_true rfl, Nat.le_of_ble_eq_true rfl, fun _ h => (List.not_mem_nil h).elim⟩⟩
theorem zok37 : ok37 z37 := ⟨(by decide), ⟨Nat.le_of_ble_eq_true rfl, Nat.le_of_ble_eq_true rfl, fun _ h => (List.not_mem_nil h).elim⟩, ⟨Nat.le_of_ble_eq_true rfl, Nat.le_of_ble_eq_true rfl, fun _ h => (List.not_mem_nil h).elim⟩, ⟨Nat.le_of_ble_eq_true rfl, Nat.le_of_ble_eq_true rfl, fun _ h => (List.not_mem_nil h).elim⟩, ⟨Nat.le_of_ble_eq_true rfl, Nat.le_of_ble_eq_true rfl, fun _ h => (List.not_mem_nil h).elim⟩⟩
theorem gGet_okS {X : Type} {get : In → X × In} {enc : X → List UInt8} {ok : X → Prop} (a : RL get enc ok) (kd : UInt8) (most : Nat) (hm : most ≤ 1000000) (z : X) (hz : ok z) (l : List UInt8) : ok (gGet get kd most z l).1 := by
  rcases gGet_form a kd most hm z l with hg | ⟨x, hx, _, _, hg⟩ <;> rw [hg]
  · exact hz
  · exact hx
def gZs : List (FuncId × Ctr) := gAwake ++ (gLow ++ (gSames ++ (gGets ++ gDGets)))
theorem gZs_ok : GamOk Tryz.prog gZs := GamOk.app gAwake_ok (GamOk.app gLow_ok (GamOk.app gSames_ok (GamOk.app gGets_ok gDGets_ok)))
theorem WireReadsStates_does : Does gZs tab Tryz.f3 lawWireReadsStates := by
  rintro (l : List UInt8) ⟨h1, h2, -⟩
  have hbl := bl_length l
  conv => whnf
  rw [hbl]
  by_cases h7 : l.length > 70000
  · rw [decide_eq_true (show ((l.length : Int) > 70000) by omega)]
    (set_option smartUnfolding false in conv => whnf)
    refine ⟨(), ?_⟩
    conv => whnf
    refine And.intro (by simp only [allP, List.nil_append, List.cons_append, true_and]; skip) ?_
    (set_option smartUnfolding false in conv => whnf)
    first | done | (and_intros <;> rfl)
  rw [decide_eq_false (show ¬ ((l.length : Int) > 70000) by omega)]
  (set_option smartUnfolding false in conv => whnf)
  have hc : cutEls 0 l.length (bl (l ++ [77, 78, 79])) = bl l := by simp [cutEls, bl_take]
  have hv : pvle (.sl 1 (bl l)) (.sl 1 (cutEls 0 l.length (bl (l ++ [77, 78, 79])))) := by rw [hc]; exact rfl
  have okParts : ok28 (gGet gt28 3 60000 z28 l).1 := gGet_okS rt28 3 60000 (by decide) z28 zok28 l
  have okMetas : ok37 (gGet gt37 4 60000 z37 l).1 := gGet_okS rt37 4 60000 (by decide) z37 zok37 l
  refine ⟨l, ?_⟩
  conv => whnf
  refine And.intro (by simp only [allP, List.nil_append, List.cons_append, true_and]; repeat' (first | (show l.length ≤ 140737488355000; omega) | rfl | exact trivial | refine And.intro ?_ ?_)) ?_
  (set_option smartUnfolding false in conv => whnf)
  refine ⟨l, ?_⟩
  conv => whnf
  refine And.intro (by simp only [allP, List.nil_append, List.cons_append, true_and]; repeat' (first | exact hv | exact trivial | rfl | refine And.intro ?_ ?_)) ?_
  (set_option smartUnfolding false in conv => whnf)
  refine dI (k := ?_)
  (set_option smartUnfolding false in conv => whnf)
  refine ⟨l, ?_⟩
  conv => whnf
  refine And.intro (by simp only [allP, List.nil_append, List.cons_append, true_and]; repeat' (first | exact hv | exact trivial | rfl | refine And.intro ?_ ?_)) ?_
  (set_option smartUnfolding false in conv => whnf)
  generalize gGet gt28 3 60000 z28 l = gParts at okParts ⊢
  refine dI (k := ?_)
  (set_option smartUnfolding false in conv => whnf)
  refine ⟨l, ?_⟩
  conv => whnf
  refine And.intro (by simp only [allP, List.nil_append, List.cons_append, true_and]; repeat' (first | exact hv | exact trivial | rfl | refine And.intro ?_ ?_)) ?_
  (set_option smartUnfolding false in conv => whnf)
  refine dI (k := ?_)
  (set_option smartUnfolding false in conv => whnf)
  refine ⟨l, ?_⟩
  conv => whnf
  refine And.intro (by simp only [allP, List.nil_append, List.cons_append, true_and]; repeat' (first | exact hv | exact trivial | rfl | refine And.intro ?_ ?_)) ?_
  (set_option smartUnfolding false in conv => whnf)
  generalize gGet gt37 4 60000 z37 l = gMetas at okMetas ⊢
  refine dI (k := ?_)
  (set_option smartUnfolding false in conv => whnf)
  rw [show (gParts.2 == gParts.2) = true from beq_self_eq_true _]
  (set_option smartUnfolding false in conv => whnf)
  refine dI (k := ?_)
  (set_option smartUnfolding false in conv => whnf)
  refine dI (k := ?_)
  (set_option smartUnfolding false in conv => whnf)
  refine ⟨(true, gParts.1, gParts.1), ?_⟩
  conv => whnf
  refine And.intro (by simp only [allP, List.nil_append, List.cons_append, true_and]; repeat' (first | exact iff_of_true rfl rfl | exact iff_of_true trivial rfl | exact okParts | exact trivial | rfl | refine And.intro ?_ ?_)) ?_
  (set_option smartUnfolding false in conv => whnf)
  rw [show (gMetas.2 == gMetas.2) = true from beq_self_eq_true _]
  (set_option smartUnfolding false in conv => whnf)
  refine dI (k := ?_)
  (set_option smartUnfolding false in conv => whnf)
  refine dI (k := ?_)
  (set_option smartUnfolding false in conv => whnf)
  refine ⟨(true, gMetas.1, gMetas.1), ?_⟩
  conv => whnf
  refine And.intro (by simp only [allP, List.nil_append, List.cons_append, true_and]; repeat' (first | exact iff_of_true rfl rfl | exact iff_of_true trivial rfl | exact okMetas | exact trivial | rfl | refine And.intro ?_ ?_)) ?_
  (set_option smartUnfolding false in conv => whnf)
  refine ⟨l, ?_⟩
  conv => whnf
  refine And.intro (by simp only [allP, List.nil_append, List.cons_append, true_and]; repeat' (first | (show l.length ≤ 140737488355000; omega) | rfl | exact trivial | refine And.intro ?_ ?_)) ?_
  (set_option smartUnfolding false in conv => whnf)
  refine ⟨(), ?_⟩
  conv => whnf
  refine And.intro (by simp only [allP, List.nil_append, List.cons_append, true_and]; skip) ?_
  (set_option smartUnfolding false in conv => whnf)
  first | done | (and_intros <;> rfl)
theorem WireReadsStates_sound : Sound Tryz.prog 3 lawWireReadsStates := does_sound mixed tabOk_prog gZs_ok Tryz.func3 WireReadsStates_does
end Go.Proofs.YtingmlhhabaplaaGreat.Ev
