/- Wire: what the program reads: a command got. No conditions. -/
import Derived.Test.YtingmlhhabaplaaGreatEvWire8
namespace Go.Proofs.YtingmlhhabaplaaGreat.Ev
open Go
set_option linter.unusedVariables false
set_option linter.unusedSimpArgs false
set_option maxRecDepth 100000
set_option maxHeartbeats 4000000
def z48 : S48 := (0, (0, 0, 0, []), 0)
abbrev cGetPart : Ctr := cGet2 gt48 1 60000 z48 (fun x : S48 => .agg ((pv48 x).map (AV.p true)))
theorem GetPart_does : Does gBW tab Tryz.f16 cGetPart := by
  rintro l -
  have hl := gBg_len 1 60000 l
  (set_option smartUnfolding false in conv => whnf)
  refine ⟨(l, 1, 60000), ?_⟩
  conv => whnf
  refine And.intro (by simp only [allP, List.nil_append, List.cons_append, true_and]; and_intros <;> first | exact trivial | rfl) ?_
  (set_option smartUnfolding false in conv => whnf)
  refine ⟨(gBg 1 60000 l), ?_⟩
  conv => whnf
  refine And.intro (by simp only [allP, List.nil_append, List.cons_append, true_and]; and_intros <;> first | (show (gBg 1 60000 l).1.length ≤ 1000000; omega) | rfl) ?_
  (set_option smartUnfolding false in conv => whnf)
  have hg : gGet gt48 1 60000 z48 l = gEnd z48 (gt48 (gBg 1 60000 l)) := rfl
  generalize gt48 (gBg 1 60000 l) = q at hg ⊢
  obtain ⟨x, r, bad⟩ := q
  refine dI (k := ?_)
  (set_option smartUnfolding false in conv => whnf)
  refine ⟨(r, bad), ?_⟩
  conv => whnf
  refine And.intro (by simp only [allP, List.nil_append, List.cons_append, true_and]; and_intros <;> first | exact trivial | rfl) ?_
  (set_option smartUnfolding false in conv => whnf)
  rcases bad with _ | _ <;> rcases r with _ | ⟨y, r⟩
  · (set_option smartUnfolding false in conv => whnf)
    refine dI (k := ?_)
    (set_option smartUnfolding false in conv => whnf)
    refine dI (k := ?_)
    (set_option smartUnfolding false in conv => whnf)
    refine dI (k := ?_)
    (set_option smartUnfolding false in conv => whnf)
    rw [hg]
    and_intros <;> first | rfl | exact trivial | (simp [pvle]; done)
  all_goals
    (set_option smartUnfolding false in conv => whnf)
    refine dI (k := ?_)
    (set_option smartUnfolding false in conv => whnf)
    refine dI (k := ?_)
    (set_option smartUnfolding false in conv => whnf)
    rw [hg]
    and_intros <;> first | rfl | exact trivial | (simp [pvle, z48]; done)
theorem GetPart_sound : Sound Tryz.prog 16 cGetPart := does_sound mixed tabOk_prog gBW_ok Tryz.func16 GetPart_does
def gY1 : List (FuncId × Ctr) := (16, cGetPart) :: gBW
theorem gY1_ok : GamOk Tryz.prog gY1 := GamOk.cons gBW_ok Tryz.func16 (by kernel_rfl) (by kernel_rfl) GetPart_sound
def gGets1 : List (FuncId × Ctr) := gY1
theorem gGets1_ok : GamOk Tryz.prog gGets1 := gY1_ok
end Go.Proofs.YtingmlhhabaplaaGreat.Ev
