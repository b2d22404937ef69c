/- The chapter's examples of frames. No conditions. -/
import Derived.Test.YtjgmlkogppibfaaEvFrame2
namespace Go.Proofs.Ytjgmlkogppibfaa.Ev
open Go
set_option linter.unusedVariables false
set_option linter.unusedSimpArgs false
set_option maxRecDepth 100000
set_option maxHeartbeats 4000000
abbrev cAwake04 : Ctr := ⟨Unit, 0, fun _ => [], fun _ => [], fun _ => True, fun _ => isB true, fun _ => []⟩
theorem awake04_does : Does gF2 tab Try.f16 cAwake04 := by
  rintro x -
  conv => whnf
  refine And.intro (by simp only [allP, List.nil_append, List.cons_append, true_and]; decide) ?_
  conv => whnf
  refine ⟨(true, [97]), ?_⟩
  conv => whnf
  refine And.intro (by simp only [allP, List.nil_append, List.cons_append, true_and]; exact ⟨rfl, rfl⟩) ?_
  conv => whnf
  refine ⟨(), ?_⟩
  conv => whnf
  refine And.intro (by simp only [allP, List.nil_append, List.cons_append, true_and]; skip) ?_
  conv => whnf
  refine ⟨(2, false, [], [0, 0], [], [0, 0]), ?_⟩
  conv => whnf
  refine And.intro (by simp only [allP, List.nil_append, List.cons_append, true_and]; exact ⟨rfl, rfl, rfl, rfl, by decide, by decide⟩) ?_
  conv => whnf
  refine ⟨(3, false, [0, 0], [0, 1, 97, 0], [[97]], [0]), ?_⟩
  conv => whnf
  refine And.intro (by simp only [allP, List.nil_append, List.cons_append, true_and]; exact ⟨rfl, rfl, rfl, rfl, by decide, by decide, by decide⟩) ?_
  conv => whnf
  refine ⟨(frB [97], [0, 0, 0, 1, 97]), ?_⟩
  conv => whnf
  refine And.intro (by simp only [allP, List.nil_append, List.cons_append, true_and]; exact ⟨rfl, rfl, trivial⟩) ?_
  conv => whnf
  rw [show decide (frB [97] = [0, 0, 0, 1, 97]) = true from by decide]
  conv => whnf
  refine And.intro (by simp only [allP, List.nil_append, List.cons_append, true_and]; exact ⟨by decide, by decide⟩) ?_
  conv => whnf
  refine And.intro (by simp only [allP, List.nil_append, List.cons_append, true_and]; exact rfl) ?_
  conv => whnf
  rw [show (ll [[97]]).getD (Int.toNat 0) PV.nilsl = .sl 1 (bl [97]) from rfl]
  conv => whnf
  refine And.intro (bl_isByte [97]) ?_
  conv => whnf
  refine ⟨(false, [0]), ?_⟩
  conv => whnf
  refine And.intro (by simp only [allP, List.nil_append, List.cons_append, true_and]; exact ⟨rfl, rfl, rfl, trivial⟩) ?_
  conv => whnf
  rfl
theorem awake04_sound : Sound Try.prog 16 cAwake04 := does_sound mixed tabOk_prog gF2_ok Try.func16 awake04_does
def gF3 : List (FuncId × Ctr) := (16, cAwake04) :: gF2
theorem gF3_ok : GamOk Try.prog gF3 := GamOk.cons gF2_ok Try.func16 (by kernel_rfl) (by kernel_rfl) awake04_sound
end Go.Proofs.Ytjgmlkogppibfaa.Ev
