/- FrameNumbers answers true: its walk. No conditions. -/
import Derived.Test.YtjgmlkogppibfaaEvFrame3
import Derived.Test.YtjgmlkogppibfaaCtr
namespace Go.Proofs.Ytjgmlkogppibfaa.Ev
open Go
set_option linter.unusedVariables false
set_option linter.unusedSimpArgs false
set_option maxRecDepth 100000
set_option maxHeartbeats 4000000
theorem cut_zeros (n : Nat) (e : PV) (he : e = .int .u8 0) : cutEls 0 n (List.replicate n e) = bl (List.replicate n 0) := by
  subst he
  simp [cutEls, bl, bv]
theorem zeros_bl (n : Nat) : List.replicate n (PV.int IntKind.u8 0) = bl (List.replicate n 0) := by simp [bl, bv]
theorem FrameNumbers_does : Does gF4 tab Try.f3 lawFrameNumbers := by
  rintro x -
  obtain ⟨Z1, hZ1⟩ : ∃ Z : List UInt8, Z = List.replicate 65537 0 := ⟨_, rfl⟩
  obtain ⟨Z2, hZ2⟩ : ∃ Z : List UInt8, Z = List.replicate 65536 0 := ⟨_, rfl⟩
  have hl1 : Z1.length = 65537 := by rw [hZ1, List.length_replicate]
  have hl2 : Z2.length = 65536 := by rw [hZ2, List.length_replicate]
  have hb2 : (frB Z2).length = 65540 := by unfold frB; rw [List.length_append, beB_length, hl2]
  have hb0 : (frB []).length = 4 := by decide
  have hfeed : feedV [] (frB Z2 ++ frB []) = some ([Z2, []], []) := by
    rw [feedV, List.nil_append, unf_put (by omega) (Nat.le_refl _), unf_fuel _ 4 (frB []) (by rw [List.length_append]; omega) (by omega), show unf 4 (frB []) = some ([[]], []) from by decide]
  conv => whnf
  refine And.intro (by simp only [allP, List.nil_append, List.cons_append, true_and]; decide) ?_
  conv => whnf
  refine ⟨(false, Z1), ?_⟩
  conv => whnf
  refine And.intro (by simp only [allP, List.nil_append, List.cons_append, true_and]; exact ⟨by rw [hZ1]; exact congrArg (PV.sl 1) (cut_zeros (Int.toNat 65537) _ rfl).symm, (decide_eq_false (by omega)).symm⟩) ?_
  conv => whnf
  refine And.intro (by simp only [allP, List.nil_append, List.cons_append, true_and]; decide) ?_
  conv => whnf
  refine ⟨(true, Z2), ?_⟩
  conv => whnf
  refine And.intro (by simp only [allP, List.nil_append, List.cons_append, true_and]; exact ⟨by rw [hZ2]; exact congrArg (PV.sl 1) (cut_zeros (Int.toNat 65536) _ rfl).symm, (decide_eq_true (by omega)).symm⟩) ?_
  conv => whnf
  refine ⟨(true, []), ?_⟩
  conv => whnf
  refine And.intro (by simp only [allP, List.nil_append, List.cons_append, true_and]; exact ⟨rfl, rfl⟩) ?_
  conv => whnf
  refine ⟨(), ?_⟩
  conv => whnf
  refine And.intro (by simp only [allP, List.nil_append, List.cons_append, true_and]; skip) ?_
  conv => whnf
  refine And.intro (by simp only [allP, List.nil_append, List.cons_append, true_and]; rw [bl_length, bl_length, hb2, hb0]; decide) ?_
  conv => whnf
  rw [← bl_append]
  refine ⟨(.inl (3, false, [], frB Z2 ++ frB [], [Z2, []], [])), ?_⟩
  conv => whnf
  refine And.intro (by simp only [allP, List.nil_append, List.cons_append, true_and]; exact ⟨rfl, rfl, rfl, rfl, by rw [List.length_append, hb2, hb0]; decide, hfeed, by simp⟩) ?_
  conv => whnf
  refine ⟨(.inl (1, false, [], [0, 0, 0, 1, 7, 0, 1, 0, 1], [], [])), ?_⟩
  conv => whnf
  refine And.intro (by simp only [allP, List.nil_append, List.cons_append, true_and]; exact ⟨rfl, rfl, rfl, rfl, by decide, by decide⟩) ?_
  conv => whnf
  refine ⟨(.inl (0, true, [], [], [], [])), ?_⟩
  conv => whnf
  refine And.intro (by simp only [allP, List.nil_append, List.cons_append, true_and]; exact ⟨rfl, rfl, rfl, rfl, trivial⟩) ?_
  conv => whnf
  refine ⟨(.inr (.inl [])), ?_⟩
  conv => whnf
  refine And.intro (by simp only [allP, List.nil_append, List.cons_append, true_and]; exact ⟨rfl, rfl, trivial⟩) ?_
  conv => whnf
  refine ⟨(.inr (.inr [])), ?_⟩
  conv => whnf
  refine And.intro (by simp only [allP, List.nil_append, List.cons_append, true_and]; exact ⟨rfl, rfl, rfl, rfl, trivial⟩) ?_
  conv => whnf
  refine ⟨(frB [], [0, 0, 0, 0]), ?_⟩
  conv => whnf
  refine And.intro (by simp only [allP, List.nil_append, List.cons_append, true_and]; exact ⟨rfl, rfl, trivial⟩) ?_
  conv => whnf
  rw [show decide (frB [] = [0, 0, 0, 0]) = true from by decide]
  conv => whnf
  refine And.intro (by simp only [allP, List.nil_append, List.cons_append, true_and]; exact ⟨by decide, by show (0 : Int) < 2; decide⟩) ?_
  conv => whnf
  refine And.intro (by simp only [allP, List.nil_append, List.cons_append, true_and]; exact rfl) ?_
  conv => whnf
  rw [show (ll [Z2, []]).getD (Int.toNat 0) PV.nilsl = .sl 1 (bl Z2) from rfl]
  conv => whnf
  rw [show (((bl Z2).length : Int) == 65536) = true from by rw [bl_length, hl2]; rfl]
  conv => whnf
  refine And.intro (by simp only [allP, List.nil_append, List.cons_append, true_and]; exact ⟨by decide, by show (1 : Int) < 2; decide⟩) ?_
  conv => whnf
  refine And.intro (by simp only [allP, List.nil_append, List.cons_append, true_and]; exact rfl) ?_
  conv => whnf
  rw [show (ll [Z2, []]).getD (Int.toNat 1) PV.nilsl = .sl 1 (bl []) from rfl]
  conv => whnf
  refine ⟨(.inl (true, [])), ?_⟩
  conv => whnf
  refine And.intro (by simp only [allP, List.nil_append, List.cons_append, true_and]; exact ⟨rfl, rfl, rfl, trivial⟩) ?_
  conv => whnf
  refine ⟨(.inr ()), ?_⟩
  conv => whnf
  refine And.intro (by simp only [allP, List.nil_append, List.cons_append, true_and]; exact ⟨rfl, trivial⟩) ?_
  conv => whnf
  refine ⟨(), ?_⟩
  conv => whnf
  refine And.intro (by simp only [allP, List.nil_append, List.cons_append, true_and]; skip) ?_
  conv => whnf
  rfl
theorem FrameNumbers_sound : Sound Try.prog 3 lawFrameNumbers := does_sound mixed tabOk_prog gF4_ok Try.func3 FrameNumbers_does
end Go.Proofs.Ytjgmlkogppibfaa.Ev
