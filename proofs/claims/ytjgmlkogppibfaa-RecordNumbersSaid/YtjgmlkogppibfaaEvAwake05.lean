/- The chapter's examples of batches. No conditions. -/
import Derived.Test.YtjgmlkogppibfaaEvDecR
namespace Go.Proofs.Ytjgmlkogppibfaa.Ev
open Go
set_option linter.unusedVariables false
set_option linter.unusedSimpArgs false
set_option maxRecDepth 100000
set_option maxHeartbeats 4000000
def gRec : List (FuncId × Ctr) := (26, cEnc) :: (28, cDec) :: (35, cDec) :: (36, cRight) :: (gKit ++ gRDec)
theorem gRec_ok : GamOk Try.prog gRec := GamOk.cons (GamOk.cons (GamOk.cons (GamOk.cons (GamOk.app gKit_ok gRDec_ok) Try.func36 (by kernel_rfl) (by kernel_rfl) right_sound) Try.func35 (by kernel_rfl) (by kernel_rfl) rdec_sound) Try.func28 (by kernel_rfl) (by kernel_rfl) dec_sound) Try.func26 (by kernel_rfl) (by kernel_rfl) enc_sound
def one1 : BT := (1, 0, 2, [[97]])
abbrev cOne : Ctr := ⟨Unit, 0, fun _ => [], fun _ => [], fun _ => True, fun _ => .agg [isI .i64 1, isI .i64 0, isI .i64 2, .rowf 0], fun _ => [(0, .row 22 1 true false (ll [[97]]))]⟩
theorem one_does : Does [] tab Try.f29 cOne := by
  rintro x -
  conv => whnf
  refine And.intro (by first | exact Nat.le_of_ble_eq_true rfl | exact ⟨Nat.le_of_ble_eq_true rfl, rfl⟩ | exact rfl | decide | (simp [allP]; done)) ?_
  conv => whnf
  refine And.intro (by first | exact Nat.le_of_ble_eq_true rfl | exact ⟨Nat.le_of_ble_eq_true rfl, rfl⟩ | exact rfl | decide | (simp [allP]; done)) ?_
  conv => whnf
  refine And.intro (by first | exact Nat.le_of_ble_eq_true rfl | exact ⟨Nat.le_of_ble_eq_true rfl, rfl⟩ | exact rfl | decide | (simp [allP]; done)) ?_
  conv => whnf
  and_intros <;> rfl
theorem one_sound : Sound Try.prog 29 cOne := does_sound mixed tabOk_prog GamOk.nil Try.func29 one_does
def gOne : List (FuncId × Ctr) := (29, cOne) :: gRec
theorem gOne_ok : GamOk Try.prog gOne := GamOk.cons gRec_ok Try.func29 (by kernel_rfl) (by kernel_rfl) one_sound
theorem one_in : inB one1 = [2, 0, 4, 1, 1, 97] := by
  have h1 : zig 1 = 2 := by decide
  have h0 : zig 0 = 0 := by decide
  have h2 : zig 2 = 4 := by decide
  simp [inB, one1, hdB, recsB, recB, h1, h0, h2, vE_small]
theorem one_ok : okE 7 one1 := by
  refine ⟨by unfold i64R; omega, by unfold i64R one1; simp, by unfold i64R one1; simp, by unfold i64R one1; simp, by decide, by rw [one_in]; decide⟩
theorem one_enB : ∃ a b c d : UInt8, enB 7 one1 = [0, 0, 0, 0, 0, 0, 0, 7, a, b, c, d, 2, 0, 4, 1, 1, 97] := by
  have h : ∀ v, ∃ a b c d : UInt8, beB 4 v = [a, b, c, d] := fun v => ⟨_, _, _, _, rfl⟩
  obtain ⟨a, b, c, d, h4⟩ := h (crV 0 (inB one1))
  refine ⟨a, b, c, d, ?_⟩
  unfold enB
  rw [h4, one_in, show beB 8 (u64N 7) = [0, 0, 0, 0, 0, 0, 0, 7] from by decide]
  rfl
abbrev cAwake05 : Ctr := ⟨Unit, 0, fun _ => [], fun _ => [], fun _ => True, fun _ => isB true, fun _ => []⟩
theorem awake05_does : Does gOne tab Try.f32 cAwake05 := by
  rintro x -
  have hok := one_ok
  have hr : rgt one1 = true := hok.2.2.2.2.1
  obtain ⟨a, b, c, d, hE⟩ := one_enB
  conv => whnf
  refine ⟨(), ?_⟩
  conv => whnf
  refine And.intro (by simp only [allP, List.nil_append, List.cons_append, true_and]; skip) ?_
  conv => whnf
  refine ⟨(0, 7, one1), ?_⟩
  conv => whnf
  refine And.intro (by simp only [allP, List.nil_append, List.cons_append, true_and]; exact ⟨rfl, rfl, rfl, rfl, rfl, ⟨hok.1, hok.2.1, hok.2.2.1, hok.2.2.2.1, Nat.le_of_ble_eq_true rfl⟩, hok.2.2.2.2.1, hok.2.2.2.2.2⟩) ?_
  conv => whnf
  rw [hE]
  refine ⟨([0, 0, 0, 0, 0, 0, 0, 7, a, b, c, d, 2, 0, 4, 1, 1, 97], some (7, one1)), ?_⟩
  conv => whnf
  refine And.intro (by simp only [allP, List.nil_append, List.cons_append, true_and]; exact ⟨rfl, Nat.le_of_ble_eq_true rfl, hok, hE⟩) ?_
  conv => whnf
  refine And.intro (by first | exact Nat.le_of_ble_eq_true rfl | exact ⟨Nat.le_of_ble_eq_true rfl, rfl⟩ | exact rfl | decide | (simp [allP]; done)) ?_
  conv => whnf
  refine And.intro ⟨Int.le_refl 0, by decide, by rw [bl_length]; show (8 : Int) ≤ 18; decide⟩ ?_
  conv => whnf
  refine ⟨([0, 0, 0, 0, 0, 0, 0, 7], [0, 0, 0, 0, 0, 0, 0, 7]), ?_⟩
  conv => whnf
  refine And.intro (by simp only [allP, List.nil_append, List.cons_append, true_and]; exact ⟨rfl, rfl, trivial⟩) ?_
  conv => whnf
  rw [decide_eq_true rfl]
  conv => whnf
  refine And.intro ⟨by decide, by rw [bl_length]; show (12 : Int) ≤ 18; decide, Int.le_refl _⟩ ?_
  conv => whnf
  refine ⟨([2, 0, 4, 1, 1, 97], [2, 0, 4, 1, 1, 97]), ?_⟩
  conv => whnf
  refine And.intro (by simp only [allP, List.nil_append, List.cons_append, true_and]; exact ⟨rfl, rfl, trivial⟩) ?_
  conv => whnf
  rw [decide_eq_true rfl]
  conv => whnf
  refine And.intro (by first | exact Nat.le_of_ble_eq_true rfl | exact ⟨Nat.le_of_ble_eq_true rfl, rfl⟩ | exact rfl | decide | (simp [allP]; done)) ?_
  conv => whnf
  refine ⟨(), ?_⟩
  conv => whnf
  refine And.intro (by simp only [allP, List.nil_append, List.cons_append, true_and]; skip) ?_
  conv => whnf
  refine ⟨(one1, (1, 0, 2, [[97]])), ?_⟩
  conv => whnf
  refine And.intro (by simp only [allP, List.nil_append, List.cons_append, true_and]; exact ⟨rfl, rfl, rfl, rfl, rfl, rfl, rfl, rfl, by decide, by decide⟩) ?_
  conv => whnf
  refine ⟨by rfl, ?_⟩
  show aw _ _ _ _ _ _ _
  conv => whnf
  rw [decide_eq_true (show one1 = (1, 0, 2, [[97]]) from rfl)]
  rfl
theorem awake05_sound : Sound Try.prog 32 cAwake05 := does_sound mixed tabOk_prog gOne_ok Try.func32 awake05_does
def gRA : List (FuncId × Ctr) := (32, cAwake05) :: gOne
theorem gRA_ok : GamOk Try.prog gRA := GamOk.cons gOne_ok Try.func32 (by kernel_rfl) (by kernel_rfl) awake05_sound
end Go.Proofs.Ytjgmlkogppibfaa.Ev
