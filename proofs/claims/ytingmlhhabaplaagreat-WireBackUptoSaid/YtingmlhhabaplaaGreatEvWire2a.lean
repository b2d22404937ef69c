/- Wire: things as bytes. No conditions. -/
import Derived.Test.YtingmlhhabaplaaGreatEvWire2
import Derived.Test.YtingmlhhabaplaaGreatEvWire1d
namespace Go.Proofs.YtingmlhhabaplaaGreat.Ev
open Go
set_option linter.unusedVariables false
set_option linter.unusedSimpArgs false
set_option maxRecDepth 100000
set_option maxHeartbeats 4000000
def gTold5 : List (FuncId × Ctr) := (84, cTold) :: gPuts5
theorem gTold5_ok : GamOk Tryz.prog gTold5 := GamOk.cons gPuts5_ok Tryz.func84 (by kernel_rfl) (by kernel_rfl) told_sound
abbrev cPutMeta : Ctr := cThing 2 60000 en57 (fun x : S57 => .agg ((pv57 x).map avOf)) ok57
theorem PutMeta_does : Does gTold5 tab Tryz.f78 cPutMeta := by
  rintro ⟨g, x⟩ ⟨h1, h2, h3⟩
  (set_option smartUnfolding false in conv => whnf)
  refine dI (k := ?_)
  (set_option smartUnfolding false in conv => whnf)
  refine ⟨([2], x), ?_⟩
  conv => whnf
  refine And.intro (by simp only [allP, List.nil_append, List.cons_append, true_and]; repeat' (first | assumption | rfl | refine And.intro ?_ ?_ | (simp only [List.length_cons, List.length_nil]; omega))) ?_
  (set_option smartUnfolding false in conv => whnf)
  have hlen : (2 :: en57 x).length = 1 + (en57 x).length := by rw [List.length_cons]; omega
  cases g
  · have h4 := of_decide_eq_false h3.symm
    refine ⟨(false, [2] ++ en57 x, 60000), ?_⟩
    conv => whnf
    refine And.intro (by simp only [allP, List.nil_append, List.cons_append, true_and]; repeat' (first | rfl | refine And.intro ?_ ?_ | exact (decide_eq_false (by rw [hlen]; omega)).symm | omega)) ?_
    (set_option smartUnfolding false in conv => whnf)
    and_intros <;> rfl
  · have h4 := of_decide_eq_true h3.symm
    refine ⟨(true, [2] ++ en57 x, 60000), ?_⟩
    conv => whnf
    refine And.intro (by simp only [allP, List.nil_append, List.cons_append, true_and]; repeat' (first | rfl | refine And.intro ?_ ?_ | exact (decide_eq_true (by rw [hlen]; omega)).symm | omega)) ?_
    (set_option smartUnfolding false in conv => whnf)
    and_intros <;> rfl
theorem PutMeta_sound : Sound Tryz.prog 78 cPutMeta := does_sound mixed tabOk_prog gTold5_ok Tryz.func78 PutMeta_does
abbrev cPutRequest : Ctr := cThing 5 60000 en63 (fun x : S63 => .agg ((pv63 x).map avOf)) ok63
theorem PutRequest_does : Does gTold5 tab Tryz.f81 cPutRequest := by
  rintro ⟨g, x⟩ ⟨h1, h2, h3⟩
  (set_option smartUnfolding false in conv => whnf)
  refine dI (k := ?_)
  (set_option smartUnfolding false in conv => whnf)
  refine ⟨([5], x), ?_⟩
  conv => whnf
  refine And.intro (by simp only [allP, List.nil_append, List.cons_append, true_and]; repeat' (first | assumption | rfl | refine And.intro ?_ ?_ | (simp only [List.length_cons, List.length_nil]; omega))) ?_
  (set_option smartUnfolding false in conv => whnf)
  have hlen : (5 :: en63 x).length = 1 + (en63 x).length := by rw [List.length_cons]; omega
  cases g
  · have h4 := of_decide_eq_false h3.symm
    refine ⟨(false, [5] ++ en63 x, 60000), ?_⟩
    conv => whnf
    refine And.intro (by simp only [allP, List.nil_append, List.cons_append, true_and]; repeat' (first | rfl | refine And.intro ?_ ?_ | exact (decide_eq_false (by rw [hlen]; omega)).symm | omega)) ?_
    (set_option smartUnfolding false in conv => whnf)
    and_intros <;> rfl
  · have h4 := of_decide_eq_true h3.symm
    refine ⟨(true, [5] ++ en63 x, 60000), ?_⟩
    conv => whnf
    refine And.intro (by simp only [allP, List.nil_append, List.cons_append, true_and]; repeat' (first | rfl | refine And.intro ?_ ?_ | exact (decide_eq_true (by rw [hlen]; omega)).symm | omega)) ?_
    (set_option smartUnfolding false in conv => whnf)
    and_intros <;> rfl
theorem PutRequest_sound : Sound Tryz.prog 81 cPutRequest := does_sound mixed tabOk_prog gTold5_ok Tryz.func81 PutRequest_does
abbrev cPutResponse : Ctr := cThing 6 60000 en72 (fun x : S72 => .agg ((pv72 x).map avOf)) ok72
theorem PutResponse_does : Does gTold5 tab Tryz.f82 cPutResponse := by
  rintro ⟨g, x⟩ ⟨h1, h2, h3⟩
  (set_option smartUnfolding false in conv => whnf)
  refine dI (k := ?_)
  (set_option smartUnfolding false in conv => whnf)
  refine ⟨([6], x), ?_⟩
  conv => whnf
  refine And.intro (by simp only [allP, List.nil_append, List.cons_append, true_and]; repeat' (first | assumption | rfl | refine And.intro ?_ ?_ | (simp only [List.length_cons, List.length_nil]; omega))) ?_
  (set_option smartUnfolding false in conv => whnf)
  have hlen : (6 :: en72 x).length = 1 + (en72 x).length := by rw [List.length_cons]; omega
  cases g
  · have h4 := of_decide_eq_false h3.symm
    refine ⟨(false, [6] ++ en72 x, 60000), ?_⟩
    conv => whnf
    refine And.intro (by simp only [allP, List.nil_append, List.cons_append, true_and]; repeat' (first | rfl | refine And.intro ?_ ?_ | exact (decide_eq_false (by rw [hlen]; omega)).symm | omega)) ?_
    (set_option smartUnfolding false in conv => whnf)
    and_intros <;> rfl
  · have h4 := of_decide_eq_true h3.symm
    refine ⟨(true, [6] ++ en72 x, 60000), ?_⟩
    conv => whnf
    refine And.intro (by simp only [allP, List.nil_append, List.cons_append, true_and]; repeat' (first | rfl | refine And.intro ?_ ?_ | exact (decide_eq_true (by rw [hlen]; omega)).symm | omega)) ?_
    (set_option smartUnfolding false in conv => whnf)
    and_intros <;> rfl
theorem PutResponse_sound : Sound Tryz.prog 82 cPutResponse := does_sound mixed tabOk_prog gTold5_ok Tryz.func82 PutResponse_does
def gT2 : List (FuncId × Ctr) := (78, cPutMeta) :: gT1
theorem gT2_ok : GamOk Tryz.prog gT2 := GamOk.cons gT1_ok Tryz.func78 (by kernel_rfl) (by kernel_rfl) PutMeta_sound
def gT3 : List (FuncId × Ctr) := (81, cPutRequest) :: gT2
theorem gT3_ok : GamOk Tryz.prog gT3 := GamOk.cons gT2_ok Tryz.func81 (by kernel_rfl) (by kernel_rfl) PutRequest_sound
def gT4 : List (FuncId × Ctr) := (82, cPutResponse) :: gT3
theorem gT4_ok : GamOk Tryz.prog gT4 := GamOk.cons gT3_ok Tryz.func82 (by kernel_rfl) (by kernel_rfl) PutResponse_sound
def gThings5 : List (FuncId × Ctr) := gT4
theorem gThings5_ok : GamOk Tryz.prog gThings5 := gT4_ok
end Go.Proofs.YtingmlhhabaplaaGreat.Ev
