/- Rows of bytes: cloned, put one behind the other. No conditions. -/
import Derived.Test.YtingmlhhabaplaaGreatEvLow
namespace Go.Proofs.YtingmlhhabaplaaGreat.Ev
open Go
set_option linter.unusedVariables false
set_option linter.unusedSimpArgs false
set_option maxRecDepth 100000
abbrev cClone : Ctr := ⟨List UInt8, 0, fun l => [.p false (.sl 1 (bl l))], fun _ => [], fun l => l.length ≤ 140737488355328, fun _ => .rowf 0, fun l => [(0, .row 5 1 true false (bl l))]⟩
theorem clone_does : Does [] tab Tryz.f167 cClone := by
  rintro l (h1 : l.length ≤ 140737488355328)
  conv => whnf
  intro b hb
  cases b
  · conv => whnf
    refine And.intro (by simp only [allP, List.nil_append, List.cons_append, true_and]; rw [bl_length]; simp only [List.length_nil, Nat.zero_add]; omega) ?_
    conv => whnf
    exact ⟨rfl, bl_isFlat l⟩
  · conv => whnf
    exact hb rfl
theorem clone_sound : Sound Tryz.prog 167 cClone := does_sound mixed tabOk_prog GamOk.nil Tryz.func167 clone_does
end Go.Proofs.YtingmlhhabaplaaGreat.Ev
