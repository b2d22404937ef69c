/- VarintNumbers answers true: its walk. No conditions. -/
import Derived.Test.YtonbbaimkpjcfaaEvLaw03
import Derived.Test.YtonbbaimkpjcfaaCtr
namespace Go.Proofs.Ytonbbaimkpjcfaa.Ev
open Go
set_option linter.unusedVariables false
set_option linter.unusedSimpArgs false
set_option maxRecDepth 100000
theorem vE0 : vE 0 = [0] := by rw [vE_small (by decide)]; rfl
theorem vE127 : vE 127 = [127] := by rw [vE_small (by decide)]; rfl
theorem vE128 : vE 128 = [128, 1] := by rw [vE_big (by decide), vE_small (by decide)]; rfl
theorem vE2 : vE (zig 1) = [2] := by rw [show zig 1 = 2 from by decide, vE_small (by decide)]; rfl
theorem vEmax : vE 18446744073709551615 = List.replicate 9 255 ++ [1] := by
  rw [vE_big (by decide), vE_big (by decide), vE_big (by decide), vE_big (by decide), vE_big (by decide), vE_big (by decide), vE_big (by decide), vE_big (by decide), vE_big (by decide), vE_small (by decide)]
  rfl
theorem vEmin : vE (zig (-9223372036854775808)) = List.replicate 9 255 ++ [1] := by rw [show zig (-9223372036854775808) = 18446744073709551615 from by decide, vEmax]
theorem vCnt0 : vCnt 0 = 1 := vCnt_small (by decide)
theorem vCntmax : vCnt 18446744073709551615 = 10 := by rw [← vE_length, vEmax]; rfl
theorem varintNumbers_does : Does gFull tab Try.f8 lawVarintNumbers := by
  rintro x -
  conv => whnf
  refine ⟨([], 0), ?_⟩
  conv => whnf
  refine And.intro (by simp only [allP, List.nil_append, List.cons_append, true_and]; exact ⟨rfl, rfl, by decide⟩) ?_
  conv => whnf
  rw [vE0]
  refine ⟨([0], [0]), ?_⟩
  conv => whnf
  refine And.intro (by simp only [allP, List.nil_append, List.cons_append, true_and]; exact ⟨rfl, rfl, trivial⟩) ?_
  conv => whnf
  refine ⟨([], 127), ?_⟩
  conv => whnf
  refine And.intro (by simp only [allP, List.nil_append, List.cons_append, true_and]; exact ⟨rfl, rfl, by decide⟩) ?_
  conv => whnf
  rw [vE127]
  refine ⟨([127], [127]), ?_⟩
  conv => whnf
  refine And.intro (by simp only [allP, List.nil_append, List.cons_append, true_and]; exact ⟨rfl, rfl, trivial⟩) ?_
  conv => whnf
  refine ⟨([], 128), ?_⟩
  conv => whnf
  refine And.intro (by simp only [allP, List.nil_append, List.cons_append, true_and]; exact ⟨rfl, rfl, by decide⟩) ?_
  conv => whnf
  rw [vE128]
  refine ⟨([128, 1], [128, 1]), ?_⟩
  conv => whnf
  refine And.intro (by simp only [allP, List.nil_append, List.cons_append, true_and]; exact ⟨rfl, rfl, trivial⟩) ?_
  conv => whnf
  refine ⟨([], 18446744073709551615), ?_⟩
  conv => whnf
  refine And.intro (by simp only [allP, List.nil_append, List.cons_append, true_and]; exact ⟨rfl, rfl, by decide⟩) ?_
  conv => whnf
  rw [vEmax]
  refine ⟨1, ?_⟩
  conv => whnf
  refine And.intro (by simp only [allP, List.nil_append, List.cons_append, true_and]; exact ⟨rfl, trivial⟩) ?_
  conv => whnf
  refine ⟨(List.replicate 9 255 ++ [1], List.replicate 9 255 ++ [1]), ?_⟩
  conv => whnf
  refine And.intro (by simp only [allP, List.nil_append, List.cons_append, true_and]; exact ⟨rfl, rfl, trivial⟩) ?_
  conv => whnf
  refine ⟨([], 1), ?_⟩
  conv => whnf
  refine And.intro (by simp only [allP, List.nil_append, List.cons_append, true_and]; exact ⟨rfl, rfl, by decide⟩) ?_
  conv => whnf
  rw [vE2]
  refine ⟨([2], [2]), ?_⟩
  conv => whnf
  refine And.intro (by simp only [allP, List.nil_append, List.cons_append, true_and]; exact ⟨rfl, rfl, trivial⟩) ?_
  conv => whnf
  refine ⟨([], -9223372036854775808), ?_⟩
  conv => whnf
  refine And.intro (by simp only [allP, List.nil_append, List.cons_append, true_and]; exact ⟨rfl, rfl, by decide⟩) ?_
  conv => whnf
  rw [vEmin]
  refine ⟨1, ?_⟩
  conv => whnf
  refine And.intro (by simp only [allP, List.nil_append, List.cons_append, true_and]; exact ⟨rfl, trivial⟩) ?_
  conv => whnf
  refine ⟨(List.replicate 9 255 ++ [1], List.replicate 9 255 ++ [1]), ?_⟩
  conv => whnf
  refine And.intro (by simp only [allP, List.nil_append, List.cons_append, true_and]; exact ⟨rfl, rfl, trivial⟩) ?_
  conv => whnf
  refine ⟨255, ?_⟩
  conv => whnf
  refine And.intro (by simp only [allP, List.nil_append, List.cons_append, true_and]; exact ⟨rfl, trivial⟩) ?_
  conv => whnf
  refine And.intro (by simp only [allP, List.nil_append, List.cons_append, true_and]; simp only [bl_length, List.length_append, List.length_replicate, List.length_cons, List.length_nil]; omega) ?_
  conv => whnf
  refine ⟨2, ?_⟩
  conv => whnf
  refine And.intro (by simp only [allP, List.nil_append, List.cons_append, true_and]; exact ⟨rfl, trivial⟩) ?_
  conv => whnf
  refine ⟨128, ?_⟩
  conv => whnf
  refine And.intro (by simp only [allP, List.nil_append, List.cons_append, true_and]; exact ⟨rfl, trivial⟩) ?_
  conv => whnf
  refine ⟨{i : Nat // i ≤ 6}, fun i => ⟨[(1, isB true), (57, .rowf 0), (58, isI .i64 6), (59, isI .i64 i.1)], [(0, .row 23 1 true false [.sl 1 (bl ([128, 0])), .sl 1 (bl ([128])), .nilsl, .sl 1 (bl ((List.replicate 9 255 ++ [255]) ++ [1])), .sl 1 (bl (List.replicate 9 255 ++ [2])), .sl 1 (bl (List.replicate 9 255 ++ [128]))])], 99⟩, fun i => 6 - i.1, ⟨⟨0, by omega⟩, ?_⟩, ?_⟩
  · conv => whnf
    exact ⟨rfl, rfl, rfl, rfl⟩
  · rintro ⟨i, hi⟩
    obtain rfl | rfl | rfl | rfl | rfl | rfl | rfl : i = 0 ∨ i = 1 ∨ i = 2 ∨ i = 3 ∨ i = 4 ∨ i = 5 ∨ i = 6 := by omega
    · conv => whnf
      refine And.intro (by simp only [allP, List.nil_append, List.cons_append, true_and]; decide) ?_
      conv => whnf
      refine And.intro (by simp only [allP, List.nil_append, List.cons_append, true_and]; rfl) ?_
      conv => whnf
      refine ⟨([128, 0], 0), ?_⟩
      conv => whnf
      refine And.intro (by simp only [allP, List.nil_append, List.cons_append, true_and]; exact ⟨rfl, rfl, by decide⟩) ?_
      conv => whnf
      refine ⟨⟨1, by omega⟩, by simp only; omega, ?_⟩
      conv => whnf
      simp only [allP, pvle, and_self, true_and, and_true]
      trivial
    · conv => whnf
      refine And.intro (by simp only [allP, List.nil_append, List.cons_append, true_and]; decide) ?_
      conv => whnf
      refine And.intro (by simp only [allP, List.nil_append, List.cons_append, true_and]; rfl) ?_
      conv => whnf
      refine ⟨([128], 0), ?_⟩
      conv => whnf
      refine And.intro (by simp only [allP, List.nil_append, List.cons_append, true_and]; exact ⟨rfl, rfl, by decide⟩) ?_
      conv => whnf
      refine ⟨⟨2, by omega⟩, by simp only; omega, ?_⟩
      conv => whnf
      simp only [allP, pvle, and_self, true_and, and_true]
      trivial
    · conv => whnf
      refine And.intro (by simp only [allP, List.nil_append, List.cons_append, true_and]; decide) ?_
      conv => whnf
      refine And.intro (by simp only [allP, List.nil_append, List.cons_append, true_and]; rfl) ?_
      conv => whnf
      refine ⟨([], 0), ?_⟩
      conv => whnf
      refine And.intro (by simp only [allP, List.nil_append, List.cons_append, true_and]; exact ⟨rfl, rfl, by decide⟩) ?_
      conv => whnf
      refine ⟨⟨3, by omega⟩, by simp only; omega, ?_⟩
      conv => whnf
      simp only [allP, pvle, and_self, true_and, and_true]
      trivial
    · conv => whnf
      refine And.intro (by simp only [allP, List.nil_append, List.cons_append, true_and]; decide) ?_
      conv => whnf
      refine And.intro (by simp only [allP, List.nil_append, List.cons_append, true_and]; rfl) ?_
      conv => whnf
      refine ⟨((List.replicate 9 255 ++ [255]) ++ [1], 0), ?_⟩
      conv => whnf
      refine And.intro (by simp only [allP, List.nil_append, List.cons_append, true_and]; exact ⟨rfl, rfl, by decide⟩) ?_
      conv => whnf
      refine ⟨⟨4, by omega⟩, by simp only; omega, ?_⟩
      conv => whnf
      simp only [allP, pvle, and_self, true_and, and_true]
      trivial
    · conv => whnf
      refine And.intro (by simp only [allP, List.nil_append, List.cons_append, true_and]; decide) ?_
      conv => whnf
      refine And.intro (by simp only [allP, List.nil_append, List.cons_append, true_and]; rfl) ?_
      conv => whnf
      refine ⟨(List.replicate 9 255 ++ [2], 0), ?_⟩
      conv => whnf
      refine And.intro (by simp only [allP, List.nil_append, List.cons_append, true_and]; exact ⟨rfl, rfl, by decide⟩) ?_
      conv => whnf
      refine ⟨⟨5, by omega⟩, by simp only; omega, ?_⟩
      conv => whnf
      simp only [allP, pvle, and_self, true_and, and_true]
      trivial
    · conv => whnf
      refine And.intro (by simp only [allP, List.nil_append, List.cons_append, true_and]; decide) ?_
      conv => whnf
      refine And.intro (by simp only [allP, List.nil_append, List.cons_append, true_and]; rfl) ?_
      conv => whnf
      refine ⟨(List.replicate 9 255 ++ [128], 0), ?_⟩
      conv => whnf
      refine And.intro (by simp only [allP, List.nil_append, List.cons_append, true_and]; exact ⟨rfl, rfl, by decide⟩) ?_
      conv => whnf
      refine ⟨⟨6, by omega⟩, by simp only; omega, ?_⟩
      conv => whnf
      simp only [allP, pvle, and_self, true_and, and_true]
      trivial
    · conv => whnf
      refine ⟨([0], 1), ?_⟩
      conv => whnf
      refine And.intro (by simp only [allP, List.nil_append, List.cons_append, true_and]; exact ⟨rfl, rfl, by decide⟩) ?_
      conv => whnf
      refine ⟨([0], -1), ?_⟩
      conv => whnf
      refine And.intro (by simp only [allP, List.nil_append, List.cons_append, true_and]; exact ⟨rfl, rfl, by decide⟩) ?_
      conv => whnf
      refine ⟨([0], 2), ?_⟩
      conv => whnf
      refine And.intro (by simp only [allP, List.nil_append, List.cons_append, true_and]; exact ⟨rfl, rfl, by decide⟩) ?_
      conv => whnf
      refine ⟨1, ?_⟩
      conv => whnf
      refine And.intro (by simp only [allP, List.nil_append, List.cons_append, true_and]; exact ⟨rfl, trivial⟩) ?_
      conv => whnf
      refine ⟨(List.replicate 9 255 ++ [1], 0), ?_⟩
      conv => whnf
      refine And.intro (by simp only [allP, List.nil_append, List.cons_append, true_and]; exact ⟨rfl, rfl, by decide⟩) ?_
      conv => whnf
      refine ⟨1, ?_⟩
      conv => whnf
      refine And.intro (by simp only [allP, List.nil_append, List.cons_append, true_and]; exact ⟨rfl, trivial⟩) ?_
      conv => whnf
      refine ⟨(List.replicate 9 255 ++ [1], 0), ?_⟩
      conv => whnf
      refine And.intro (by simp only [allP, List.nil_append, List.cons_append, true_and]; exact ⟨rfl, rfl, by decide⟩) ?_
      conv => whnf
      refine ⟨0, ?_⟩
      conv => whnf
      refine And.intro (by simp only [allP, List.nil_append, List.cons_append, true_and]; exact ⟨rfl, by decide⟩) ?_
      conv => whnf
      rw [vCnt0]
      conv => whnf
      refine ⟨18446744073709551615, ?_⟩
      conv => whnf
      refine And.intro (by simp only [allP, List.nil_append, List.cons_append, true_and]; exact ⟨rfl, by decide⟩) ?_
      conv => whnf
      rw [vCntmax]
      conv => whnf
      refine ⟨(), ?_⟩
      conv => whnf
      refine And.intro (by simp only [allP, List.nil_append, List.cons_append, true_and]; done) ?_
      conv => whnf
      rfl
theorem VarintNumbers_sound : Sound Try.prog 8 lawVarintNumbers := does_sound mixed tabOk_prog gFull_ok Try.func8 varintNumbers_does
end Go.Proofs.Ytonbbaimkpjcfaa.Ev
