/- Wire: what the program reads: states got. No conditions. -/
import Derived.Test.YtingmlhhabaplaaGreatEvWire8a
import Derived.Test.YtingmlhhabaplaaGreatEvWire7h
namespace Go.Proofs.YtingmlhhabaplaaGreat.Ev
open Go
set_option linter.unusedVariables false
set_option linter.unusedSimpArgs false
set_option maxRecDepth 100000
set_option maxHeartbeats 4000000
def gVz0 : List (FuncId × Ctr) := (39, cBegun) :: (41, cWhole) :: gXb22
theorem gVz0_ok : GamOk Tryz.prog gVz0 := GamOk.cons (GamOk.cons gXb22_ok Tryz.func41 (by kernel_rfl) (by kernel_rfl) whole_sound) Tryz.func39 (by kernel_rfl) (by kernel_rfl) begun_sound
def z28 : S28 := (0, 0, [], [])
abbrev cGetParts : Ctr := cGet2 gt28 3 60000 z28 (fun x : S28 => .agg ((pv28 x).map (AV.p true)))
theorem GetParts_does : Does gVz0 tab Tryz.f9 cGetParts := by
  rintro l -
  have hl := gBg_len 3 60000 l
  (set_option smartUnfolding false in conv => whnf)
  refine ⟨(l, 3, 60000), ?_⟩
  conv => whnf
  refine And.intro (by simp only [allP, List.nil_append, List.cons_append, true_and]; and_intros <;> first | exact trivial | rfl) ?_
  (set_option smartUnfolding false in conv => whnf)
  refine ⟨(gBg 3 60000 l), ?_⟩
  conv => whnf
  refine And.intro (by simp only [allP, List.nil_append, List.cons_append, true_and]; and_intros <;> first | (show (gBg 3 60000 l).1.length ≤ 1000000; omega) | rfl) ?_
  (set_option smartUnfolding false in conv => whnf)
  have hg : gGet gt28 3 60000 z28 l = gEnd z28 (gt28 (gBg 3 60000 l)) := rfl
  generalize gt28 (gBg 3 60000 l) = q at hg ⊢
  obtain ⟨x, r, bad⟩ := q
  refine dI (k := ?_)
  (set_option smartUnfolding false in conv => whnf)
  refine ⟨(r, bad), ?_⟩
  conv => whnf
  refine And.intro (by simp only [allP, List.nil_append, List.cons_append, true_and]; and_intros <;> first | exact trivial | rfl) ?_
  (set_option smartUnfolding false in conv => whnf)
  rcases bad with _ | _ <;> rcases r with _ | ⟨y, r⟩
  · (set_option smartUnfolding false in conv => whnf)
    refine dI (k := ?_)
    (set_option smartUnfolding false in conv => whnf)
    refine dI (k := ?_)
    (set_option smartUnfolding false in conv => whnf)
    refine dI (k := ?_)
    (set_option smartUnfolding false in conv => whnf)
    rw [hg]
    and_intros <;> first | rfl | exact trivial | (simp [pvle]; done)
  all_goals
    (set_option smartUnfolding false in conv => whnf)
    refine dI (k := ?_)
    (set_option smartUnfolding false in conv => whnf)
    refine dI (k := ?_)
    (set_option smartUnfolding false in conv => whnf)
    rw [hg]
    and_intros <;> first | rfl | exact trivial | (simp [pvle, z28]; done)
theorem GetParts_sound : Sound Tryz.prog 9 cGetParts := does_sound mixed tabOk_prog gVz0_ok Tryz.func9 GetParts_does
def gVz1 : List (FuncId × Ctr) := (9, cGetParts) :: gVz0
theorem gVz1_ok : GamOk Tryz.prog gVz1 := GamOk.cons gVz0_ok Tryz.func9 (by kernel_rfl) (by kernel_rfl) GetParts_sound
def z37 : S37 := (0, [], [], [], [])
abbrev cGetMetas : Ctr := cGet2 gt37 4 60000 z37 (fun x : S37 => .agg ((pv37 x).map (AV.p true)))
theorem GetMetas_does : Does gVz1 tab Tryz.f11 cGetMetas := by
  rintro l -
  have hl := gBg_len 4 60000 l
  (set_option smartUnfolding false in conv => whnf)
  refine ⟨(l, 4, 60000), ?_⟩
  conv => whnf
  refine And.intro (by simp only [allP, List.nil_append, List.cons_append, true_and]; and_intros <;> first | exact trivial | rfl) ?_
  (set_option smartUnfolding false in conv => whnf)
  refine ⟨(gBg 4 60000 l), ?_⟩
  conv => whnf
  refine And.intro (by simp only [allP, List.nil_append, List.cons_append, true_and]; and_intros <;> first | (show (gBg 4 60000 l).1.length ≤ 1000000; omega) | rfl) ?_
  (set_option smartUnfolding false in conv => whnf)
  have hg : gGet gt37 4 60000 z37 l = gEnd z37 (gt37 (gBg 4 60000 l)) := rfl
  generalize gt37 (gBg 4 60000 l) = q at hg ⊢
  obtain ⟨x, r, bad⟩ := q
  refine dI (k := ?_)
  (set_option smartUnfolding false in conv => whnf)
  refine ⟨(r, bad), ?_⟩
  conv => whnf
  refine And.intro (by simp only [allP, List.nil_append, List.cons_append, true_and]; and_intros <;> first | exact trivial | rfl) ?_
  (set_option smartUnfolding false in conv => whnf)
  rcases bad with _ | _ <;> rcases r with _ | ⟨y, r⟩
  · (set_option smartUnfolding false in conv => whnf)
    refine dI (k := ?_)
    (set_option smartUnfolding false in conv => whnf)
    refine dI (k := ?_)
    (set_option smartUnfolding false in conv => whnf)
    refine dI (k := ?_)
    (set_option smartUnfolding false in conv => whnf)
    rw [hg]
    and_intros <;> first | rfl | exact trivial | (simp [pvle]; done)
  all_goals
    (set_option smartUnfolding false in conv => whnf)
    refine dI (k := ?_)
    (set_option smartUnfolding false in conv => whnf)
    refine dI (k := ?_)
    (set_option smartUnfolding false in conv => whnf)
    rw [hg]
    and_intros <;> first | rfl | exact trivial | (simp [pvle, z37]; done)
theorem GetMetas_sound : Sound Tryz.prog 11 cGetMetas := does_sound mixed tabOk_prog gVz1_ok Tryz.func11 GetMetas_does
def gVz2 : List (FuncId × Ctr) := (11, cGetMetas) :: gVz1
theorem gVz2_ok : GamOk Tryz.prog gVz2 := GamOk.cons gVz1_ok Tryz.func11 (by kernel_rfl) (by kernel_rfl) GetMetas_sound
def gGets : List (FuncId × Ctr) := gGets1 ++ gVz2
theorem gGets_ok : GamOk Tryz.prog gGets := GamOk.app gGets1_ok gVz2_ok
end Go.Proofs.YtingmlhhabaplaaGreat.Ev
