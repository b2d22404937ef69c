/- Wire: two of a kind, the same?. No conditions. -/
import Derived.Test.YtingmlhhabaplaaGreatEvSamec
import Derived.Test.YtingmlhhabaplaaGreatEvSamef
namespace Go.Proofs.YtingmlhhabaplaaGreat.Ev
open Go
set_option linter.unusedVariables false
set_option linter.unusedSimpArgs false
set_option maxRecDepth 100000
set_option maxHeartbeats 4000000
/-- The parts of a kind, the same? -/
def partEq (k : Nat) (x y : S84) : Prop := match k with
  | 0 => x.1 = y.1
  | 1 => x.2.1 = y.2.1
  | 2 => x.2.2.1 = y.2.2.1
  | 3 => x.2.2.2.1 = y.2.2.2.1
  | 4 => x.2.2.2.2.1 = y.2.2.2.2.1
  | 5 => x.2.2.2.2.2.1 = y.2.2.2.2.2.1
  | _ => x.2.2.2.2.2.2 = y.2.2.2.2.2.2
abbrev cLike : Ctr := ⟨Bool × {k : Nat // k < 7} × S84 × S84, 0, fun (g, k, x, y) => [isI .i64 k.1, .agg ((pv84 x).map avOf), .agg ((pv84 y).map avOf)], fun _ => [], fun (g, k, x, y) => (g = true ↔ partEq k.1 x y) ∧ ok84 x,
  fun (g, k, x, y) => isB g, fun _ => []⟩
def gLk : List (FuncId × Ctr) := gSame5 ++ gSames
theorem gLk_ok : GamOk Tryz.prog gLk := GamOk.app gSame5_ok gSames_ok
theorem like_does : Does gLk tab Tryz.f33 cLike := by
  rintro ⟨g, ⟨k, hk⟩, ⟨x0, x1, x2, x3, x4, x5, x6⟩, y0, y1, y2, y3, y4, y5, y6⟩ ⟨hg, k0, k1, k2, k3, k4, k5, k6⟩
  obtain rfl | rfl | rfl | rfl | rfl | rfl | rfl : k = 0 ∨ k = 1 ∨ k = 2 ∨ k = 3 ∨ k = 4 ∨ k = 5 ∨ k = 6 := by omega
  · have hg0 : g = true ↔ x0 = y0 := hg
    (set_option smartUnfolding false in conv => whnf)
    refine dI (k := ?_)
    (set_option smartUnfolding false in conv => whnf)
    refine dI (k := ?_)
    (set_option smartUnfolding false in conv => whnf)
    refine ⟨(g, x0, y0), ?_⟩
    conv => whnf
    refine And.intro (by simp only [allP, List.nil_append, List.cons_append, true_and]; repeat' (first | exact hg0 | exact k0 | rfl | exact trivial | refine And.intro ?_ ?_)) ?_
    (set_option smartUnfolding false in conv => whnf)
    first | done | (and_intros <;> first | rfl | exact trivial)
  · have hg1 : g = true ↔ x1 = y1 := hg
    (set_option smartUnfolding false in conv => whnf)
    refine dI (k := ?_)
    (set_option smartUnfolding false in conv => whnf)
    refine dI (k := ?_)
    (set_option smartUnfolding false in conv => whnf)
    refine ⟨(g, x1, y1), ?_⟩
    conv => whnf
    refine And.intro (by simp only [allP, List.nil_append, List.cons_append, true_and]; repeat' (first | exact hg1 | exact k1 | rfl | exact trivial | refine And.intro ?_ ?_)) ?_
    (set_option smartUnfolding false in conv => whnf)
    first | done | (and_intros <;> first | rfl | exact trivial)
  · have hg2 : g = true ↔ x2 = y2 := hg
    (set_option smartUnfolding false in conv => whnf)
    refine dI (k := ?_)
    (set_option smartUnfolding false in conv => whnf)
    refine dI (k := ?_)
    (set_option smartUnfolding false in conv => whnf)
    refine ⟨(g, x2, y2), ?_⟩
    conv => whnf
    refine And.intro (by simp only [allP, List.nil_append, List.cons_append, true_and]; repeat' (first | exact hg2 | exact k2 | rfl | exact trivial | refine And.intro ?_ ?_)) ?_
    (set_option smartUnfolding false in conv => whnf)
    first | done | (and_intros <;> first | rfl | exact trivial)
  · have hg3 : g = true ↔ x3 = y3 := hg
    (set_option smartUnfolding false in conv => whnf)
    refine dI (k := ?_)
    (set_option smartUnfolding false in conv => whnf)
    refine dI (k := ?_)
    (set_option smartUnfolding false in conv => whnf)
    refine ⟨(g, x3, y3), ?_⟩
    conv => whnf
    refine And.intro (by simp only [allP, List.nil_append, List.cons_append, true_and]; repeat' (first | exact hg3 | exact k3 | rfl | exact trivial | refine And.intro ?_ ?_)) ?_
    (set_option smartUnfolding false in conv => whnf)
    first | done | (and_intros <;> first | rfl | exact trivial)
  · have hg4 : g = true ↔ x4 = y4 := hg
    (set_option smartUnfolding false in conv => whnf)
    refine dI (k := ?_)
    (set_option smartUnfolding false in conv => whnf)
    refine dI (k := ?_)
    (set_option smartUnfolding false in conv => whnf)
    refine ⟨(g, x4, y4), ?_⟩
    conv => whnf
    refine And.intro (by simp only [allP, List.nil_append, List.cons_append, true_and]; repeat' (first | exact hg4 | exact k4 | rfl | exact trivial | refine And.intro ?_ ?_)) ?_
    (set_option smartUnfolding false in conv => whnf)
    first | done | (and_intros <;> first | rfl | exact trivial)
  · have hg5 : g = true ↔ x5 = y5 := hg
    (set_option smartUnfolding false in conv => whnf)
    refine dI (k := ?_)
    (set_option smartUnfolding false in conv => whnf)
    refine dI (k := ?_)
    (set_option smartUnfolding false in conv => whnf)
    refine ⟨(g, x5, y5), ?_⟩
    conv => whnf
    refine And.intro (by simp only [allP, List.nil_append, List.cons_append, true_and]; repeat' (first | exact hg5 | exact k5 | rfl | exact trivial | refine And.intro ?_ ?_)) ?_
    (set_option smartUnfolding false in conv => whnf)
    first | done | (and_intros <;> first | rfl | exact trivial)
  · have hg6 : g = true ↔ x6 = y6 := hg
    (set_option smartUnfolding false in conv => whnf)
    refine dI (k := ?_)
    (set_option smartUnfolding false in conv => whnf)
    refine dI (k := ?_)
    (set_option smartUnfolding false in conv => whnf)
    refine ⟨(g, x6, y6), ?_⟩
    conv => whnf
    refine And.intro (by simp only [allP, List.nil_append, List.cons_append, true_and]; repeat' (first | exact hg6 | exact k6 | rfl | exact trivial | refine And.intro ?_ ?_)) ?_
    (set_option smartUnfolding false in conv => whnf)
    first | done | (and_intros <;> first | rfl | exact trivial)
theorem like_sound : Sound Tryz.prog 33 cLike := does_sound mixed tabOk_prog gLk_ok Tryz.func33 like_does

end Go.Proofs.YtingmlhhabaplaaGreat.Ev
