/- Wire: the law WireStates. No conditions. -/
import Derived.Test.YtingmlhhabaplaaEvBulk6
namespace Go.Proofs.Ytingmlhhabaplaa.Ev
open Go
set_option linter.unusedVariables false
set_option linter.unusedSimpArgs false
set_option maxRecDepth 100000
set_option maxHeartbeats 4000000
theorem WireStates_does : Does gLaw6 tab Try.f7 lawWireStatesU := by
  rintro ⟨x, y⟩ ⟨ok0, ok1, hb⟩
  simp only at hb
  have b0 := bn76 x ok0
  have hl0 : (3 :: en76 x).length = 1 + (en76 x).length := by rw [List.length_cons]; omega
  have b1 := bn87 y ok1
  have hl1 : (4 :: en87 y).length = 1 + (en87 y).length := by rw [List.length_cons]; omega
  cases hg0 : decide (1 + (en76 x).length ≤ 60000)
  · cases hg1 : decide (1 + (en87 y).length ≤ 60000)
    · have skip0 := trivial
      have hd0 : false = decide ((3 :: en76 x).length ≤ 60000) := by rw [hl0]; exact hg0.symm
      have hd1 : false = decide ((4 :: en87 y).length ≤ 60000) := by rw [hl1]; exact hg1.symm
      (set_option smartUnfolding false in conv => whnf)
      refine And.intro (by first | exact Nat.le_of_ble_eq_true rfl | exact ⟨Nat.le_of_ble_eq_true rfl, rfl⟩ | exact rfl | decide | (simp [allP]; done)) ?_
      (set_option smartUnfolding false in conv => whnf)
      refine ⟨(false, x), ?_⟩
      conv => whnf
      refine And.intro (by simp only [allP, List.nil_append, List.cons_append, true_and]; repeat' (first | exact ok0 | exact hg0.symm | rfl | omega | refine And.intro ?_ ?_)) ?_
      (set_option smartUnfolding false in conv => whnf)
      refine And.intro (by first | exact Nat.le_of_ble_eq_true rfl | exact ⟨Nat.le_of_ble_eq_true rfl, rfl⟩ | exact rfl | decide | (simp [allP]; done)) ?_
      (set_option smartUnfolding false in conv => whnf)
      refine ⟨x, ?_⟩
      conv => whnf
      refine And.intro (by simp only [allP, List.nil_append, List.cons_append, true_and]; repeat' (first | exact ok0 | rfl | omega | refine And.intro ?_ ?_)) ?_
      (set_option smartUnfolding false in conv => whnf)
      refine ⟨(false, 3 :: en76 x, 60000), ?_⟩
      conv => whnf
      refine And.intro (by simp only [allP, List.nil_append, List.cons_append, true_and]; repeat' (first | exact hd0 | rfl | refine And.intro ?_ ?_)) ?_
      (set_option smartUnfolding false in conv => whnf)
      refine And.intro (by first | exact Nat.le_of_ble_eq_true rfl | exact ⟨Nat.le_of_ble_eq_true rfl, rfl⟩ | exact rfl | decide | (simp [allP]; done)) ?_
      (set_option smartUnfolding false in conv => whnf)
      refine ⟨(false, y), ?_⟩
      conv => whnf
      refine And.intro (by simp only [allP, List.nil_append, List.cons_append, true_and]; repeat' (first | exact ok1 | exact hg1.symm | rfl | omega | refine And.intro ?_ ?_)) ?_
      (set_option smartUnfolding false in conv => whnf)
      refine And.intro (by first | exact Nat.le_of_ble_eq_true rfl | exact ⟨Nat.le_of_ble_eq_true rfl, rfl⟩ | exact rfl | decide | (simp [allP]; done)) ?_
      (set_option smartUnfolding false in conv => whnf)
      refine ⟨y, ?_⟩
      conv => whnf
      refine And.intro (by simp only [allP, List.nil_append, List.cons_append, true_and]; repeat' (first | exact ok1 | rfl | omega | refine And.intro ?_ ?_)) ?_
      (set_option smartUnfolding false in conv => whnf)
      refine ⟨(false, 4 :: en87 y, 60000), ?_⟩
      conv => whnf
      refine And.intro (by simp only [allP, List.nil_append, List.cons_append, true_and]; repeat' (first | exact hd1 | rfl | refine And.intro ?_ ?_)) ?_
      (set_option smartUnfolding false in conv => whnf)
      refine ⟨([], []), ?_⟩
      conv => whnf
      refine And.intro (by simp only [allP, List.nil_append, List.cons_append, true_and]; and_intros <;> first | exact trivial | rfl) ?_
      (set_option smartUnfolding false in conv => whnf)
      rw [decide_eq_true rfl]
      (set_option smartUnfolding false in conv => whnf)
      refine ⟨([], []), ?_⟩
      conv => whnf
      refine And.intro (by simp only [allP, List.nil_append, List.cons_append, true_and]; and_intros <;> first | exact trivial | rfl) ?_
      (set_option smartUnfolding false in conv => whnf)
      rw [decide_eq_true rfl]
      (set_option smartUnfolding false in conv => whnf)
      refine ⟨(), ?_⟩
      conv => whnf
      refine And.intro (by simp only [allP, List.nil_append, List.cons_append, true_and]; skip) ?_
      (set_option smartUnfolding false in conv => whnf)
      and_intros <;> rfl
    · have skip0 := trivial
      have hd0 : false = decide ((3 :: en76 x).length ≤ 60000) := by rw [hl0]; exact hg0.symm
      have hd1 : true = decide ((4 :: en87 y).length ≤ 60000) := by rw [hl1]; exact hg1.symm
      (set_option smartUnfolding false in conv => whnf)
      refine And.intro (by first | exact Nat.le_of_ble_eq_true rfl | exact ⟨Nat.le_of_ble_eq_true rfl, rfl⟩ | exact rfl | decide | (simp [allP]; done)) ?_
      (set_option smartUnfolding false in conv => whnf)
      refine ⟨(false, x), ?_⟩
      conv => whnf
      refine And.intro (by simp only [allP, List.nil_append, List.cons_append, true_and]; repeat' (first | exact ok0 | exact hg0.symm | rfl | omega | refine And.intro ?_ ?_)) ?_
      (set_option smartUnfolding false in conv => whnf)
      refine And.intro (by first | exact Nat.le_of_ble_eq_true rfl | exact ⟨Nat.le_of_ble_eq_true rfl, rfl⟩ | exact rfl | decide | (simp [allP]; done)) ?_
      (set_option smartUnfolding false in conv => whnf)
      refine ⟨x, ?_⟩
      conv => whnf
      refine And.intro (by simp only [allP, List.nil_append, List.cons_append, true_and]; repeat' (first | exact ok0 | rfl | omega | refine And.intro ?_ ?_)) ?_
      (set_option smartUnfolding false in conv => whnf)
      refine ⟨(false, 3 :: en76 x, 60000), ?_⟩
      conv => whnf
      refine And.intro (by simp only [allP, List.nil_append, List.cons_append, true_and]; repeat' (first | exact hd0 | rfl | refine And.intro ?_ ?_)) ?_
      (set_option smartUnfolding false in conv => whnf)
      refine And.intro (by first | exact Nat.le_of_ble_eq_true rfl | exact ⟨Nat.le_of_ble_eq_true rfl, rfl⟩ | exact rfl | decide | (simp [allP]; done)) ?_
      (set_option smartUnfolding false in conv => whnf)
      refine ⟨(true, y), ?_⟩
      conv => whnf
      refine And.intro (by simp only [allP, List.nil_append, List.cons_append, true_and]; repeat' (first | exact ok1 | exact hg1.symm | rfl | omega | refine And.intro ?_ ?_)) ?_
      (set_option smartUnfolding false in conv => whnf)
      refine And.intro (by first | exact Nat.le_of_ble_eq_true rfl | exact ⟨Nat.le_of_ble_eq_true rfl, rfl⟩ | exact rfl | decide | (simp [allP]; done)) ?_
      (set_option smartUnfolding false in conv => whnf)
      refine ⟨y, ?_⟩
      conv => whnf
      refine And.intro (by simp only [allP, List.nil_append, List.cons_append, true_and]; repeat' (first | exact ok1 | rfl | omega | refine And.intro ?_ ?_)) ?_
      (set_option smartUnfolding false in conv => whnf)
      refine ⟨(true, 4 :: en87 y, 60000), ?_⟩
      conv => whnf
      refine And.intro (by simp only [allP, List.nil_append, List.cons_append, true_and]; repeat' (first | exact hd1 | rfl | refine And.intro ?_ ?_)) ?_
      (set_option smartUnfolding false in conv => whnf)
      refine ⟨([], []), ?_⟩
      conv => whnf
      refine And.intro (by simp only [allP, List.nil_append, List.cons_append, true_and]; and_intros <;> first | exact trivial | rfl) ?_
      (set_option smartUnfolding false in conv => whnf)
      rw [decide_eq_true rfl]
      (set_option smartUnfolding false in conv => whnf)
      refine ⟨(4 :: en87 y, 4 :: en87 y), ?_⟩
      conv => whnf
      refine And.intro (by simp only [allP, List.nil_append, List.cons_append, true_and]; and_intros <;> first | exact trivial | rfl) ?_
      (set_option smartUnfolding false in conv => whnf)
      rw [decide_eq_true rfl]
      (set_option smartUnfolding false in conv => whnf)
      refine ⟨(), ?_⟩
      conv => whnf
      refine And.intro (by simp only [allP, List.nil_append, List.cons_append, true_and]; skip) ?_
      (set_option smartUnfolding false in conv => whnf)
      and_intros <;> rfl
  · cases hg1 : decide (1 + (en87 y).length ≤ 60000)
    · have skip0 := trivial
      have hd0 : true = decide ((3 :: en76 x).length ≤ 60000) := by rw [hl0]; exact hg0.symm
      have hd1 : false = decide ((4 :: en87 y).length ≤ 60000) := by rw [hl1]; exact hg1.symm
      (set_option smartUnfolding false in conv => whnf)
      refine And.intro (by first | exact Nat.le_of_ble_eq_true rfl | exact ⟨Nat.le_of_ble_eq_true rfl, rfl⟩ | exact rfl | decide | (simp [allP]; done)) ?_
      (set_option smartUnfolding false in conv => whnf)
      refine ⟨(true, x), ?_⟩
      conv => whnf
      refine And.intro (by simp only [allP, List.nil_append, List.cons_append, true_and]; repeat' (first | exact ok0 | exact hg0.symm | rfl | omega | refine And.intro ?_ ?_)) ?_
      (set_option smartUnfolding false in conv => whnf)
      refine And.intro (by first | exact Nat.le_of_ble_eq_true rfl | exact ⟨Nat.le_of_ble_eq_true rfl, rfl⟩ | exact rfl | decide | (simp [allP]; done)) ?_
      (set_option smartUnfolding false in conv => whnf)
      refine ⟨x, ?_⟩
      conv => whnf
      refine And.intro (by simp only [allP, List.nil_append, List.cons_append, true_and]; repeat' (first | exact ok0 | rfl | omega | refine And.intro ?_ ?_)) ?_
      (set_option smartUnfolding false in conv => whnf)
      refine ⟨(true, 3 :: en76 x, 60000), ?_⟩
      conv => whnf
      refine And.intro (by simp only [allP, List.nil_append, List.cons_append, true_and]; repeat' (first | exact hd0 | rfl | refine And.intro ?_ ?_)) ?_
      (set_option smartUnfolding false in conv => whnf)
      refine And.intro (by first | exact Nat.le_of_ble_eq_true rfl | exact ⟨Nat.le_of_ble_eq_true rfl, rfl⟩ | exact rfl | decide | (simp [allP]; done)) ?_
      (set_option smartUnfolding false in conv => whnf)
      refine ⟨(false, y), ?_⟩
      conv => whnf
      refine And.intro (by simp only [allP, List.nil_append, List.cons_append, true_and]; repeat' (first | exact ok1 | exact hg1.symm | rfl | omega | refine And.intro ?_ ?_)) ?_
      (set_option smartUnfolding false in conv => whnf)
      refine And.intro (by first | exact Nat.le_of_ble_eq_true rfl | exact ⟨Nat.le_of_ble_eq_true rfl, rfl⟩ | exact rfl | decide | (simp [allP]; done)) ?_
      (set_option smartUnfolding false in conv => whnf)
      refine ⟨y, ?_⟩
      conv => whnf
      refine And.intro (by simp only [allP, List.nil_append, List.cons_append, true_and]; repeat' (first | exact ok1 | rfl | omega | refine And.intro ?_ ?_)) ?_
      (set_option smartUnfolding false in conv => whnf)
      refine ⟨(false, 4 :: en87 y, 60000), ?_⟩
      conv => whnf
      refine And.intro (by simp only [allP, List.nil_append, List.cons_append, true_and]; repeat' (first | exact hd1 | rfl | refine And.intro ?_ ?_)) ?_
      (set_option smartUnfolding false in conv => whnf)
      refine ⟨(3 :: en76 x, 3 :: en76 x), ?_⟩
      conv => whnf
      refine And.intro (by simp only [allP, List.nil_append, List.cons_append, true_and]; and_intros <;> first | exact trivial | rfl) ?_
      (set_option smartUnfolding false in conv => whnf)
      rw [decide_eq_true rfl]
      (set_option smartUnfolding false in conv => whnf)
      refine ⟨([], []), ?_⟩
      conv => whnf
      refine And.intro (by simp only [allP, List.nil_append, List.cons_append, true_and]; and_intros <;> first | exact trivial | rfl) ?_
      (set_option smartUnfolding false in conv => whnf)
      rw [decide_eq_true rfl]
      (set_option smartUnfolding false in conv => whnf)
      refine ⟨(), ?_⟩
      conv => whnf
      refine And.intro (by simp only [allP, List.nil_append, List.cons_append, true_and]; skip) ?_
      (set_option smartUnfolding false in conv => whnf)
      and_intros <;> rfl
    · have skip0 := trivial
      have hd0 : true = decide ((3 :: en76 x).length ≤ 60000) := by rw [hl0]; exact hg0.symm
      have hd1 : true = decide ((4 :: en87 y).length ≤ 60000) := by rw [hl1]; exact hg1.symm
      (set_option smartUnfolding false in conv => whnf)
      refine And.intro (by first | exact Nat.le_of_ble_eq_true rfl | exact ⟨Nat.le_of_ble_eq_true rfl, rfl⟩ | exact rfl | decide | (simp [allP]; done)) ?_
      (set_option smartUnfolding false in conv => whnf)
      refine ⟨(true, x), ?_⟩
      conv => whnf
      refine And.intro (by simp only [allP, List.nil_append, List.cons_append, true_and]; repeat' (first | exact ok0 | exact hg0.symm | rfl | omega | refine And.intro ?_ ?_)) ?_
      (set_option smartUnfolding false in conv => whnf)
      refine And.intro (by first | exact Nat.le_of_ble_eq_true rfl | exact ⟨Nat.le_of_ble_eq_true rfl, rfl⟩ | exact rfl | decide | (simp [allP]; done)) ?_
      (set_option smartUnfolding false in conv => whnf)
      refine ⟨x, ?_⟩
      conv => whnf
      refine And.intro (by simp only [allP, List.nil_append, List.cons_append, true_and]; repeat' (first | exact ok0 | rfl | omega | refine And.intro ?_ ?_)) ?_
      (set_option smartUnfolding false in conv => whnf)
      refine ⟨(true, 3 :: en76 x, 60000), ?_⟩
      conv => whnf
      refine And.intro (by simp only [allP, List.nil_append, List.cons_append, true_and]; repeat' (first | exact hd0 | rfl | refine And.intro ?_ ?_)) ?_
      (set_option smartUnfolding false in conv => whnf)
      refine And.intro (by first | exact Nat.le_of_ble_eq_true rfl | exact ⟨Nat.le_of_ble_eq_true rfl, rfl⟩ | exact rfl | decide | (simp [allP]; done)) ?_
      (set_option smartUnfolding false in conv => whnf)
      refine ⟨(true, y), ?_⟩
      conv => whnf
      refine And.intro (by simp only [allP, List.nil_append, List.cons_append, true_and]; repeat' (first | exact ok1 | exact hg1.symm | rfl | omega | refine And.intro ?_ ?_)) ?_
      (set_option smartUnfolding false in conv => whnf)
      refine And.intro (by first | exact Nat.le_of_ble_eq_true rfl | exact ⟨Nat.le_of_ble_eq_true rfl, rfl⟩ | exact rfl | decide | (simp [allP]; done)) ?_
      (set_option smartUnfolding false in conv => whnf)
      refine ⟨y, ?_⟩
      conv => whnf
      refine And.intro (by simp only [allP, List.nil_append, List.cons_append, true_and]; repeat' (first | exact ok1 | rfl | omega | refine And.intro ?_ ?_)) ?_
      (set_option smartUnfolding false in conv => whnf)
      refine ⟨(true, 4 :: en87 y, 60000), ?_⟩
      conv => whnf
      refine And.intro (by simp only [allP, List.nil_append, List.cons_append, true_and]; repeat' (first | exact hd1 | rfl | refine And.intro ?_ ?_)) ?_
      (set_option smartUnfolding false in conv => whnf)
      refine ⟨(3 :: en76 x, 3 :: en76 x), ?_⟩
      conv => whnf
      refine And.intro (by simp only [allP, List.nil_append, List.cons_append, true_and]; and_intros <;> first | exact trivial | rfl) ?_
      (set_option smartUnfolding false in conv => whnf)
      rw [decide_eq_true rfl]
      (set_option smartUnfolding false in conv => whnf)
      refine ⟨(4 :: en87 y, 4 :: en87 y), ?_⟩
      conv => whnf
      refine And.intro (by simp only [allP, List.nil_append, List.cons_append, true_and]; and_intros <;> first | exact trivial | rfl) ?_
      (set_option smartUnfolding false in conv => whnf)
      rw [decide_eq_true rfl]
      (set_option smartUnfolding false in conv => whnf)
      refine ⟨(), ?_⟩
      conv => whnf
      refine And.intro (by simp only [allP, List.nil_append, List.cons_append, true_and]; skip) ?_
      (set_option smartUnfolding false in conv => whnf)
      and_intros <;> rfl
theorem WireStates_sound : Sound Try.prog 7 lawWireStatesU := does_sound mixed tabOk_prog gLaw6_ok Try.func7 WireStates_does
end Go.Proofs.Ytingmlhhabaplaa.Ev
