/- AppendNumbers answers true: its walk. No conditions. -/
import Derived.Test.YtdkclofgaiaclaaEvRise
import Derived.Test.YtdkclofgaiaclaaCtr
namespace Go.Proofs.Ytdkclofgaiaclaa.Ev
open Go
set_option linter.unusedVariables false
set_option linter.unusedSimpArgs false
set_option maxRecDepth 100000
theorem AppendNumbers_does : Does gA6 tab Try.f6 lawAppendNumbers := by
  rintro x -
  have m1 : termV 0 0 (ofV [1, 1, 2]) 0 = (0, true) := by decide
  have m2 : termV 0 0 (ofV [1, 1, 2]) 4 = (0, false) := by decide
  have m3 : mergeV 0 0 (ofV [1, 1, 2]) 1 1 [] = (ofV [1, 1, 2], 1, true) := by decide
  have m4 : mergeV 0 0 (ofV [1, 1, 2]) 3 1 (ofV [9]) = (ofV [1, 1, 2], 0, false) := by decide
  have m5 : mergeV 2 1 (ofV [2]) 1 1 (ofV [1, 2, 3]) = (ofV [2, 3], 4, true) := by decide
  have m6 : mergeV 2 1 (ofV [2]) 0 0 (ofV [1]) = (ofV [2], 2, true) := by decide
  conv => whnf
  refine ⟨[1, 1, 2], ?_⟩
  conv => whnf
  refine And.intro (by simp only [allP, List.nil_append, List.cons_append, true_and]; exact ⟨rfl, by decide⟩) ?_
  conv => whnf
  refine ⟨(0, 0, ofV [1, 1, 2], 0), ?_⟩
  conv => whnf
  refine And.intro (by simp only [allP, List.nil_append, List.cons_append, true_and]; exact ⟨rfl, rfl, rfl, rfl, by decide, by decide, by decide⟩) ?_
  conv => whnf
  rw [m1]
  refine ⟨(0, 0, ofV [1, 1, 2], 4), ?_⟩
  conv => whnf
  refine And.intro (by simp only [allP, List.nil_append, List.cons_append, true_and]; exact ⟨rfl, rfl, rfl, rfl, by decide, by decide, by decide⟩) ?_
  conv => whnf
  rw [m2]
  refine ⟨(0, 0, ofV [1, 1, 2], 1, 1, []), ?_⟩
  conv => whnf
  refine And.intro (by simp only [allP, List.nil_append, List.cons_append, true_and]; exact ⟨rfl, rfl, rfl, rfl, rfl, rfl, by decide, by decide, entsOk_of _ (by decide), entsOk_of [] (by decide), by decide⟩) ?_
  conv => whnf
  rw [m3]
  refine ⟨[9], ?_⟩
  conv => whnf
  refine And.intro (by simp only [allP, List.nil_append, List.cons_append, true_and]; exact ⟨rfl, by decide⟩) ?_
  conv => whnf
  refine ⟨(0, 0, ofV [1, 1, 2], 3, 1, ofV [9]), ?_⟩
  conv => whnf
  refine And.intro (by simp only [allP, List.nil_append, List.cons_append, true_and]; exact ⟨rfl, rfl, rfl, rfl, rfl, rfl, by decide, by decide, entsOk_of _ (by decide), entsOk_of _ (by decide), by decide⟩) ?_
  conv => whnf
  rw [m4]
  refine ⟨[2], ?_⟩
  conv => whnf
  refine And.intro (by simp only [allP, List.nil_append, List.cons_append, true_and]; exact ⟨rfl, by decide⟩) ?_
  conv => whnf
  refine ⟨[1, 2, 3], ?_⟩
  conv => whnf
  refine And.intro (by simp only [allP, List.nil_append, List.cons_append, true_and]; exact ⟨rfl, by decide⟩) ?_
  conv => whnf
  refine ⟨(2, 1, ofV [2], 1, 1, ofV [1, 2, 3]), ?_⟩
  conv => whnf
  refine And.intro (by simp only [allP, List.nil_append, List.cons_append, true_and]; exact ⟨rfl, rfl, rfl, rfl, rfl, rfl, by decide, by decide, entsOk_of _ (by decide), entsOk_of _ (by decide), by decide⟩) ?_
  conv => whnf
  rw [m5]
  refine ⟨[2], ?_⟩
  conv => whnf
  refine And.intro (by simp only [allP, List.nil_append, List.cons_append, true_and]; exact ⟨rfl, by decide⟩) ?_
  conv => whnf
  refine ⟨[1], ?_⟩
  conv => whnf
  refine And.intro (by simp only [allP, List.nil_append, List.cons_append, true_and]; exact ⟨rfl, by decide⟩) ?_
  conv => whnf
  refine ⟨(2, 1, ofV [2], 0, 0, ofV [1]), ?_⟩
  conv => whnf
  refine And.intro (by simp only [allP, List.nil_append, List.cons_append, true_and]; exact ⟨rfl, rfl, rfl, rfl, rfl, rfl, by decide, by decide, entsOk_of _ (by decide), entsOk_of _ (by decide), by decide⟩) ?_
  conv => whnf
  rw [m6]
  refine ⟨(ofV [1, 1, 2], ofV [1, 1, 2]), ?_⟩
  conv => whnf
  refine And.intro (by simp only [allP, List.nil_append, List.cons_append, true_and]; exact ⟨rfl, rfl, by decide⟩) ?_
  conv => whnf
  refine ⟨[2, 3], ?_⟩
  conv => whnf
  refine And.intro (by simp only [allP, List.nil_append, List.cons_append, true_and]; exact ⟨rfl, by decide⟩) ?_
  conv => whnf
  refine ⟨(ofV [2, 3], ofV [2, 3]), ?_⟩
  conv => whnf
  refine And.intro (by simp only [allP, List.nil_append, List.cons_append, true_and]; exact ⟨rfl, rfl, by decide⟩) ?_
  conv => whnf
  refine ⟨[2], ?_⟩
  conv => whnf
  refine And.intro (by simp only [allP, List.nil_append, List.cons_append, true_and]; exact ⟨rfl, by decide⟩) ?_
  conv => whnf
  refine ⟨(ofV [2], ofV [2]), ?_⟩
  conv => whnf
  refine And.intro (by simp only [allP, List.nil_append, List.cons_append, true_and]; exact ⟨rfl, rfl, by decide⟩) ?_
  conv => whnf
  refine ⟨[2], ?_⟩
  conv => whnf
  refine And.intro (by simp only [allP, List.nil_append, List.cons_append, true_and]; exact ⟨rfl, by decide⟩) ?_
  conv => whnf
  refine ⟨(2, ofV [2]), ?_⟩
  conv => whnf
  refine And.intro (by simp only [allP, List.nil_append, List.cons_append, true_and]; exact ⟨rfl, rfl, by decide, by decide⟩) ?_
  conv => whnf
  refine ⟨(0, 0, ofV [1, 1, 2], 3), ?_⟩
  conv => whnf
  refine And.intro (by simp only [allP, List.nil_append, List.cons_append, true_and]; exact ⟨rfl, rfl, rfl, rfl, by decide, by decide, by decide⟩) ?_
  conv => whnf
  refine ⟨(0, 0, ofV [1, 1, 2], 9), ?_⟩
  conv => whnf
  refine And.intro (by simp only [allP, List.nil_append, List.cons_append, true_and]; exact ⟨rfl, rfl, rfl, rfl, by decide, by decide, by decide⟩) ?_
  conv => whnf
  refine ⟨[2, 2], ?_⟩
  conv => whnf
  refine And.intro (by simp only [allP, List.nil_append, List.cons_append, true_and]; exact ⟨rfl, by decide⟩) ?_
  conv => whnf
  refine ⟨(5, 1, ofV [2, 2], 7), ?_⟩
  conv => whnf
  refine And.intro (by simp only [allP, List.nil_append, List.cons_append, true_and]; exact ⟨rfl, rfl, rfl, rfl, by decide, by decide, by decide⟩) ?_
  conv => whnf
  refine ⟨[2, 2], ?_⟩
  conv => whnf
  refine And.intro (by simp only [allP, List.nil_append, List.cons_append, true_and]; exact ⟨rfl, by decide⟩) ?_
  conv => whnf
  refine ⟨(5, 1, ofV [2, 2], 3), ?_⟩
  conv => whnf
  refine And.intro (by simp only [allP, List.nil_append, List.cons_append, true_and]; exact ⟨rfl, rfl, rfl, rfl, by decide, by decide, by decide⟩) ?_
  conv => whnf
  refine ⟨(), ?_⟩
  conv => whnf
  refine And.intro (by simp only [allP, List.nil_append, List.cons_append, true_and]; skip) ?_
  conv => whnf
  rfl
theorem AppendNumbers_sound : Sound Try.prog 6 lawAppendNumbers := does_sound mixed tabOk_prog gA6_ok Try.func6 AppendNumbers_does
end Go.Proofs.Ytdkclofgaiaclaa.Ev
