/- Wire: things as bytes. No conditions. -/
import Derived.Test.YtingmlhhabaplaaGreatEvWire2a
import Derived.Test.YtingmlhhabaplaaGreatEvWire1h
namespace Go.Proofs.YtingmlhhabaplaaGreat.Ev
open Go
set_option linter.unusedVariables false
set_option linter.unusedSimpArgs false
set_option maxRecDepth 100000
set_option maxHeartbeats 4000000
def gTold : List (FuncId × Ctr) := (84, cTold) :: gPuts
theorem gTold_ok : GamOk Tryz.prog gTold := GamOk.cons gPuts_ok Tryz.func84 (by kernel_rfl) (by kernel_rfl) told_sound
abbrev cPutParts : Ctr := cThing 3 60000 en28 (fun x : S28 => .agg ((pv28 x).map avOf)) ok28
theorem PutParts_does : Does gTold tab Tryz.f79 cPutParts := by
  rintro ⟨g, x⟩ ⟨h1, h2, h3⟩
  (set_option smartUnfolding false in conv => whnf)
  refine dI (k := ?_)
  (set_option smartUnfolding false in conv => whnf)
  refine ⟨([3], x), ?_⟩
  conv => whnf
  refine And.intro (by simp only [allP, List.nil_append, List.cons_append, true_and]; repeat' (first | assumption | rfl | refine And.intro ?_ ?_ | (simp only [List.length_cons, List.length_nil]; omega))) ?_
  (set_option smartUnfolding false in conv => whnf)
  have hlen : (3 :: en28 x).length = 1 + (en28 x).length := by rw [List.length_cons]; omega
  cases g
  · have h4 := of_decide_eq_false h3.symm
    refine ⟨(false, [3] ++ en28 x, 60000), ?_⟩
    conv => whnf
    refine And.intro (by simp only [allP, List.nil_append, List.cons_append, true_and]; repeat' (first | rfl | refine And.intro ?_ ?_ | exact (decide_eq_false (by rw [hlen]; omega)).symm | omega)) ?_
    (set_option smartUnfolding false in conv => whnf)
    and_intros <;> rfl
  · have h4 := of_decide_eq_true h3.symm
    refine ⟨(true, [3] ++ en28 x, 60000), ?_⟩
    conv => whnf
    refine And.intro (by simp only [allP, List.nil_append, List.cons_append, true_and]; repeat' (first | rfl | refine And.intro ?_ ?_ | exact (decide_eq_true (by rw [hlen]; omega)).symm | omega)) ?_
    (set_option smartUnfolding false in conv => whnf)
    and_intros <;> rfl
theorem PutParts_sound : Sound Tryz.prog 79 cPutParts := does_sound mixed tabOk_prog gTold_ok Tryz.func79 PutParts_does
abbrev cPutMetas : Ctr := cThing 4 60000 en37 (fun x : S37 => .agg ((pv37 x).map avOf)) ok37
theorem PutMetas_does : Does gTold tab Tryz.f80 cPutMetas := by
  rintro ⟨g, x⟩ ⟨h1, h2, h3⟩
  (set_option smartUnfolding false in conv => whnf)
  refine dI (k := ?_)
  (set_option smartUnfolding false in conv => whnf)
  refine ⟨([4], x), ?_⟩
  conv => whnf
  refine And.intro (by simp only [allP, List.nil_append, List.cons_append, true_and]; repeat' (first | assumption | rfl | refine And.intro ?_ ?_ | (simp only [List.length_cons, List.length_nil]; omega))) ?_
  (set_option smartUnfolding false in conv => whnf)
  have hlen : (4 :: en37 x).length = 1 + (en37 x).length := by rw [List.length_cons]; omega
  cases g
  · have h4 := of_decide_eq_false h3.symm
    refine ⟨(false, [4] ++ en37 x, 60000), ?_⟩
    conv => whnf
    refine And.intro (by simp only [allP, List.nil_append, List.cons_append, true_and]; repeat' (first | rfl | refine And.intro ?_ ?_ | exact (decide_eq_false (by rw [hlen]; omega)).symm | omega)) ?_
    (set_option smartUnfolding false in conv => whnf)
    and_intros <;> rfl
  · have h4 := of_decide_eq_true h3.symm
    refine ⟨(true, [4] ++ en37 x, 60000), ?_⟩
    conv => whnf
    refine And.intro (by simp only [allP, List.nil_append, List.cons_append, true_and]; repeat' (first | rfl | refine And.intro ?_ ?_ | exact (decide_eq_true (by rw [hlen]; omega)).symm | omega)) ?_
    (set_option smartUnfolding false in conv => whnf)
    and_intros <;> rfl
theorem PutMetas_sound : Sound Tryz.prog 80 cPutMetas := does_sound mixed tabOk_prog gTold_ok Tryz.func80 PutMetas_does
def gT5 : List (FuncId × Ctr) := (79, cPutParts) :: gT4
theorem gT5_ok : GamOk Tryz.prog gT5 := GamOk.cons gT4_ok Tryz.func79 (by kernel_rfl) (by kernel_rfl) PutParts_sound
def gT6 : List (FuncId × Ctr) := (80, cPutMetas) :: gT5
theorem gT6_ok : GamOk Tryz.prog gT6 := GamOk.cons gT5_ok Tryz.func80 (by kernel_rfl) (by kernel_rfl) PutMetas_sound
def gThings : List (FuncId × Ctr) := gT6
theorem gThings_ok : GamOk Tryz.prog gThings := gT6_ok
end Go.Proofs.YtingmlhhabaplaaGreat.Ev
