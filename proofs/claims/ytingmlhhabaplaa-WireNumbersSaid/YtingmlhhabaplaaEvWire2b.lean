/- Wire: things as bytes. No conditions. -/
import Derived.Test.YtingmlhhabaplaaEvWire2
import Derived.Test.YtingmlhhabaplaaEvWire1h
namespace Go.Proofs.Ytingmlhhabaplaa.Ev
open Go
set_option linter.unusedVariables false
set_option linter.unusedSimpArgs false
set_option maxRecDepth 100000
set_option maxHeartbeats 4000000
def gTold : List (FuncId × Ctr) := (32, cTold) :: gPuts
theorem gTold_ok : GamOk Try.prog gTold := GamOk.cons gPuts_ok Try.func32 (by kernel_rfl) (by kernel_rfl) told_sound
abbrev cPutParts : Ctr := cThing 3 60000 en76 (fun x : S76 => .agg ((pv76 x).map avOf)) ok76
theorem PutParts_does : Does gTold tab Try.f24 cPutParts := by
  rintro ⟨g, x⟩ ⟨h1, h2, h3⟩
  (set_option smartUnfolding false in conv => whnf)
  refine And.intro (by first | exact Nat.le_of_ble_eq_true rfl | exact ⟨Nat.le_of_ble_eq_true rfl, rfl⟩ | exact rfl | decide | (simp [allP]; done)) ?_
  (set_option smartUnfolding false in conv => whnf)
  refine ⟨([3], x), ?_⟩
  conv => whnf
  refine And.intro (by simp only [allP, List.nil_append, List.cons_append, true_and]; repeat' (first | assumption | rfl | refine And.intro ?_ ?_ | (simp only [List.length_cons, List.length_nil]; omega))) ?_
  (set_option smartUnfolding false in conv => whnf)
  have hlen : (3 :: en76 x).length = 1 + (en76 x).length := by rw [List.length_cons]; omega
  cases g
  · have h4 := of_decide_eq_false h3.symm
    refine ⟨(false, [3] ++ en76 x, 60000), ?_⟩
    conv => whnf
    refine And.intro (by simp only [allP, List.nil_append, List.cons_append, true_and]; repeat' (first | rfl | refine And.intro ?_ ?_ | exact (decide_eq_false (by rw [hlen]; omega)).symm | omega)) ?_
    (set_option smartUnfolding false in conv => whnf)
    and_intros <;> rfl
  · have h4 := of_decide_eq_true h3.symm
    refine ⟨(true, [3] ++ en76 x, 60000), ?_⟩
    conv => whnf
    refine And.intro (by simp only [allP, List.nil_append, List.cons_append, true_and]; repeat' (first | rfl | refine And.intro ?_ ?_ | exact (decide_eq_true (by rw [hlen]; omega)).symm | omega)) ?_
    (set_option smartUnfolding false in conv => whnf)
    and_intros <;> rfl
theorem PutParts_sound : Sound Try.prog 24 cPutParts := does_sound mixed tabOk_prog gTold_ok Try.func24 PutParts_does
abbrev cPutMetas : Ctr := cThing 4 60000 en87 (fun x : S87 => .agg ((pv87 x).map avOf)) ok87
theorem PutMetas_does : Does gTold tab Try.f29 cPutMetas := by
  rintro ⟨g, x⟩ ⟨h1, h2, h3⟩
  (set_option smartUnfolding false in conv => whnf)
  refine And.intro (by first | exact Nat.le_of_ble_eq_true rfl | exact ⟨Nat.le_of_ble_eq_true rfl, rfl⟩ | exact rfl | decide | (simp [allP]; done)) ?_
  (set_option smartUnfolding false in conv => whnf)
  refine ⟨([4], x), ?_⟩
  conv => whnf
  refine And.intro (by simp only [allP, List.nil_append, List.cons_append, true_and]; repeat' (first | assumption | rfl | refine And.intro ?_ ?_ | (simp only [List.length_cons, List.length_nil]; omega))) ?_
  (set_option smartUnfolding false in conv => whnf)
  have hlen : (4 :: en87 x).length = 1 + (en87 x).length := by rw [List.length_cons]; omega
  cases g
  · have h4 := of_decide_eq_false h3.symm
    refine ⟨(false, [4] ++ en87 x, 60000), ?_⟩
    conv => whnf
    refine And.intro (by simp only [allP, List.nil_append, List.cons_append, true_and]; repeat' (first | rfl | refine And.intro ?_ ?_ | exact (decide_eq_false (by rw [hlen]; omega)).symm | omega)) ?_
    (set_option smartUnfolding false in conv => whnf)
    and_intros <;> rfl
  · have h4 := of_decide_eq_true h3.symm
    refine ⟨(true, [4] ++ en87 x, 60000), ?_⟩
    conv => whnf
    refine And.intro (by simp only [allP, List.nil_append, List.cons_append, true_and]; repeat' (first | rfl | refine And.intro ?_ ?_ | exact (decide_eq_true (by rw [hlen]; omega)).symm | omega)) ?_
    (set_option smartUnfolding false in conv => whnf)
    and_intros <;> rfl
theorem PutMetas_sound : Sound Try.prog 29 cPutMetas := does_sound mixed tabOk_prog gTold_ok Try.func29 PutMetas_does
def gT5 : List (FuncId × Ctr) := (24, cPutParts) :: gT4
theorem gT5_ok : GamOk Try.prog gT5 := GamOk.cons gT4_ok Try.func24 (by kernel_rfl) (by kernel_rfl) PutParts_sound
def gT6 : List (FuncId × Ctr) := (29, cPutMetas) :: gT5
theorem gT6_ok : GamOk Try.prog gT6 := GamOk.cons gT5_ok Try.func29 (by kernel_rfl) (by kernel_rfl) PutMetas_sound
def gThings : List (FuncId × Ctr) := gT6
theorem gThings_ok : GamOk Try.prog gThings := gT6_ok
end Go.Proofs.Ytingmlhhabaplaa.Ev
