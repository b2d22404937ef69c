/- Wire: the law WireCalls. No conditions. -/
import Derived.Test.YtingmlhhabaplaaEvBulk6
namespace Go.Proofs.Ytingmlhhabaplaa.Ev
open Go
set_option linter.unusedVariables false
set_option linter.unusedSimpArgs false
set_option maxRecDepth 100000
set_option maxHeartbeats 4000000
theorem WireCalls_does : Does gLaw6 tab Try.f4 lawWireCallsU := by
  rintro ⟨x, y, z⟩ ⟨ok0, ok1, ok2, hb⟩
  simp only at hb
  have b0 := bn47 x ok0
  have hl0 : (5 :: en47 x).length = 1 + (en47 x).length := by rw [List.length_cons]; omega
  have b1 := bn53 y ok1
  have hl1 : (6 :: en53 y).length = 1 + (en53 y).length := by rw [List.length_cons]; omega
  have b2 := bn57 z ok2
  have hl2 : (7 :: en57 z).length = 1 + (en57 z).length := by rw [List.length_cons]; omega
  cases hg0 : decide (1 + (en47 x).length ≤ 60000)
  · cases hg1 : decide (1 + (en53 y).length ≤ 60000)
    · cases hg2 : decide (1 + (en57 z).length ≤ 65545)
      · have skip0 := trivial
        have hd0 : false = decide ((5 :: en47 x).length ≤ 60000) := by rw [hl0]; exact hg0.symm
        have hd1 : false = decide ((6 :: en53 y).length ≤ 60000) := by rw [hl1]; exact hg1.symm
        have hd2 : false = decide ((7 :: en57 z).length ≤ 65545) := by rw [hl2]; exact hg2.symm
        (set_option smartUnfolding false in conv => whnf)
        refine And.intro (by first | exact Nat.le_of_ble_eq_true rfl | exact ⟨Nat.le_of_ble_eq_true rfl, rfl⟩ | exact rfl | decide | (simp [allP]; done)) ?_
        (set_option smartUnfolding false in conv => whnf)
        refine ⟨(false, x), ?_⟩
        conv => whnf
        refine And.intro (by simp only [allP, List.nil_append, List.cons_append, true_and]; repeat' (first | exact ok0 | exact hg0.symm | rfl | omega | refine And.intro ?_ ?_)) ?_
        (set_option smartUnfolding false in conv => whnf)
        refine And.intro (by first | exact Nat.le_of_ble_eq_true rfl | exact ⟨Nat.le_of_ble_eq_true rfl, rfl⟩ | exact rfl | decide | (simp [allP]; done)) ?_
        (set_option smartUnfolding false in conv => whnf)
        refine ⟨x, ?_⟩
        conv => whnf
        refine And.intro (by simp only [allP, List.nil_append, List.cons_append, true_and]; repeat' (first | exact ok0 | rfl | omega | refine And.intro ?_ ?_)) ?_
        (set_option smartUnfolding false in conv => whnf)
        refine ⟨(false, 5 :: en47 x, 60000), ?_⟩
        conv => whnf
        refine And.intro (by simp only [allP, List.nil_append, List.cons_append, true_and]; repeat' (first | exact hd0 | rfl | refine And.intro ?_ ?_)) ?_
        (set_option smartUnfolding false in conv => whnf)
        refine And.intro (by first | exact Nat.le_of_ble_eq_true rfl | exact ⟨Nat.le_of_ble_eq_true rfl, rfl⟩ | exact rfl | decide | (simp [allP]; done)) ?_
        (set_option smartUnfolding false in conv => whnf)
        refine ⟨(false, y), ?_⟩
        conv => whnf
        refine And.intro (by simp only [allP, List.nil_append, List.cons_append, true_and]; repeat' (first | exact ok1 | exact hg1.symm | rfl | omega | refine And.intro ?_ ?_)) ?_
        (set_option smartUnfolding false in conv => whnf)
        refine And.intro (by first | exact Nat.le_of_ble_eq_true rfl | exact ⟨Nat.le_of_ble_eq_true rfl, rfl⟩ | exact rfl | decide | (simp [allP]; done)) ?_
        (set_option smartUnfolding false in conv => whnf)
        refine ⟨y, ?_⟩
        conv => whnf
        refine And.intro (by simp only [allP, List.nil_append, List.cons_append, true_and]; repeat' (first | exact ok1 | rfl | omega | refine And.intro ?_ ?_)) ?_
        (set_option smartUnfolding false in conv => whnf)
        refine ⟨(false, 6 :: en53 y, 60000), ?_⟩
        conv => whnf
        refine And.intro (by simp only [allP, List.nil_append, List.cons_append, true_and]; repeat' (first | exact hd1 | rfl | refine And.intro ?_ ?_)) ?_
        (set_option smartUnfolding false in conv => whnf)
        refine And.intro (by first | exact Nat.le_of_ble_eq_true rfl | exact ⟨Nat.le_of_ble_eq_true rfl, rfl⟩ | exact rfl | decide | (simp [allP]; done)) ?_
        (set_option smartUnfolding false in conv => whnf)
        refine ⟨(false, z), ?_⟩
        conv => whnf
        refine And.intro (by simp only [allP, List.nil_append, List.cons_append, true_and]; repeat' (first | exact ok2 | exact hg2.symm | rfl | omega | refine And.intro ?_ ?_)) ?_
        (set_option smartUnfolding false in conv => whnf)
        refine And.intro (by first | exact Nat.le_of_ble_eq_true rfl | exact ⟨Nat.le_of_ble_eq_true rfl, rfl⟩ | exact rfl | decide | (simp [allP]; done)) ?_
        (set_option smartUnfolding false in conv => whnf)
        refine ⟨z, ?_⟩
        conv => whnf
        refine And.intro (by simp only [allP, List.nil_append, List.cons_append, true_and]; repeat' (first | exact ok2 | rfl | omega | refine And.intro ?_ ?_)) ?_
        (set_option smartUnfolding false in conv => whnf)
        refine ⟨(false, 7 :: en57 z, 65545), ?_⟩
        conv => whnf
        refine And.intro (by simp only [allP, List.nil_append, List.cons_append, true_and]; repeat' (first | exact hd2 | rfl | refine And.intro ?_ ?_)) ?_
        (set_option smartUnfolding false in conv => whnf)
        refine ⟨([], []), ?_⟩
        conv => whnf
        refine And.intro (by simp only [allP, List.nil_append, List.cons_append, true_and]; and_intros <;> first | exact trivial | rfl) ?_
        (set_option smartUnfolding false in conv => whnf)
        rw [decide_eq_true rfl]
        (set_option smartUnfolding false in conv => whnf)
        refine ⟨([], []), ?_⟩
        conv => whnf
        refine And.intro (by simp only [allP, List.nil_append, List.cons_append, true_and]; and_intros <;> first | exact trivial | rfl) ?_
        (set_option smartUnfolding false in conv => whnf)
        rw [decide_eq_true rfl]
        (set_option smartUnfolding false in conv => whnf)
        refine ⟨([], []), ?_⟩
        conv => whnf
        refine And.intro (by simp only [allP, List.nil_append, List.cons_append, true_and]; and_intros <;> first | exact trivial | rfl) ?_
        (set_option smartUnfolding false in conv => whnf)
        rw [decide_eq_true rfl]
        (set_option smartUnfolding false in conv => whnf)
        refine ⟨(), ?_⟩
        conv => whnf
        refine And.intro (by simp only [allP, List.nil_append, List.cons_append, true_and]; skip) ?_
        (set_option smartUnfolding false in conv => whnf)
        and_intros <;> rfl
      · have skip0 := trivial
        have hd0 : false = decide ((5 :: en47 x).length ≤ 60000) := by rw [hl0]; exact hg0.symm
        have hd1 : false = decide ((6 :: en53 y).length ≤ 60000) := by rw [hl1]; exact hg1.symm
        have hd2 : true = decide ((7 :: en57 z).length ≤ 65545) := by rw [hl2]; exact hg2.symm
        (set_option smartUnfolding false in conv => whnf)
        refine And.intro (by first | exact Nat.le_of_ble_eq_true rfl | exact ⟨Nat.le_of_ble_eq_true rfl, rfl⟩ | exact rfl | decide | (simp [allP]; done)) ?_
        (set_option smartUnfolding false in conv => whnf)
        refine ⟨(false, x), ?_⟩
        conv => whnf
        refine And.intro (by simp only [allP, List.nil_append, List.cons_append, true_and]; repeat' (first | exact ok0 | exact hg0.symm | rfl | omega | refine And.intro ?_ ?_)) ?_
        (set_option smartUnfolding false in conv => whnf)
        refine And.intro (by first | exact Nat.le_of_ble_eq_true rfl | exact ⟨Nat.le_of_ble_eq_true rfl, rfl⟩ | exact rfl | decide | (simp [allP]; done)) ?_
        (set_option smartUnfolding false in conv => whnf)
        refine ⟨x, ?_⟩
        conv => whnf
        refine And.intro (by simp only [allP, List.nil_append, List.cons_append, true_and]; repeat' (first | exact ok0 | rfl | omega | refine And.intro ?_ ?_)) ?_
        (set_option smartUnfolding false in conv => whnf)
        refine ⟨(false, 5 :: en47 x, 60000), ?_⟩
        conv => whnf
        refine And.intro (by simp only [allP, List.nil_append, List.cons_append, true_and]; repeat' (first | exact hd0 | rfl | refine And.intro ?_ ?_)) ?_
        (set_option smartUnfolding false in conv => whnf)
        refine And.intro (by first | exact Nat.le_of_ble_eq_true rfl | exact ⟨Nat.le_of_ble_eq_true rfl, rfl⟩ | exact rfl | decide | (simp [allP]; done)) ?_
        (set_option smartUnfolding false in conv => whnf)
        refine ⟨(false, y), ?_⟩
        conv => whnf
        refine And.intro (by simp only [allP, List.nil_append, List.cons_append, true_and]; repeat' (first | exact ok1 | exact hg1.symm | rfl | omega | refine And.intro ?_ ?_)) ?_
        (set_option smartUnfolding false in conv => whnf)
        refine And.intro (by first | exact Nat.le_of_ble_eq_true rfl | exact ⟨Nat.le_of_ble_eq_true rfl, rfl⟩ | exact rfl | decide | (simp [allP]; done)) ?_
        (set_option smartUnfolding false in conv => whnf)
        refine ⟨y, ?_⟩
        conv => whnf
        refine And.intro (by simp only [allP, List.nil_append, List.cons_append, true_and]; repeat' (first | exact ok1 | rfl | omega | refine And.intro ?_ ?_)) ?_
        (set_option smartUnfolding false in conv => whnf)
        refine ⟨(false, 6 :: en53 y, 60000), ?_⟩
        conv => whnf
        refine And.intro (by simp only [allP, List.nil_append, List.cons_append, true_and]; repeat' (first | exact hd1 | rfl | refine And.intro ?_ ?_)) ?_
        (set_option smartUnfolding false in conv => whnf)
        refine And.intro (by first | exact Nat.le_of_ble_eq_true rfl | exact ⟨Nat.le_of_ble_eq_true rfl, rfl⟩ | exact rfl | decide | (simp [allP]; done)) ?_
        (set_option smartUnfolding false in conv => whnf)
        refine ⟨(true, z), ?_⟩
        conv => whnf
        refine And.intro (by simp only [allP, List.nil_append, List.cons_append, true_and]; repeat' (first | exact ok2 | exact hg2.symm | rfl | omega | refine And.intro ?_ ?_)) ?_
        (set_option smartUnfolding false in conv => whnf)
        refine And.intro (by first | exact Nat.le_of_ble_eq_true rfl | exact ⟨Nat.le_of_ble_eq_true rfl, rfl⟩ | exact rfl | decide | (simp [allP]; done)) ?_
        (set_option smartUnfolding false in conv => whnf)
        refine ⟨z, ?_⟩
        conv => whnf
        refine And.intro (by simp only [allP, List.nil_append, List.cons_append, true_and]; repeat' (first | exact ok2 | rfl | omega | refine And.intro ?_ ?_)) ?_
        (set_option smartUnfolding false in conv => whnf)
        refine ⟨(true, 7 :: en57 z, 65545), ?_⟩
        conv => whnf
        refine And.intro (by simp only [allP, List.nil_append, List.cons_append, true_and]; repeat' (first | exact hd2 | rfl | refine And.intro ?_ ?_)) ?_
        (set_option smartUnfolding false in conv => whnf)
        refine ⟨([], []), ?_⟩
        conv => whnf
        refine And.intro (by simp only [allP, List.nil_append, List.cons_append, true_and]; and_intros <;> first | exact trivial | rfl) ?_
        (set_option smartUnfolding false in conv => whnf)
        rw [decide_eq_true rfl]
        (set_option smartUnfolding false in conv => whnf)
        refine ⟨([], []), ?_⟩
        conv => whnf
        refine And.intro (by simp only [allP, List.nil_append, List.cons_append, true_and]; and_intros <;> first | exact trivial | rfl) ?_
        (set_option smartUnfolding false in conv => whnf)
        rw [decide_eq_true rfl]
        (set_option smartUnfolding false in conv => whnf)
        refine ⟨(7 :: en57 z, 7 :: en57 z), ?_⟩
        conv => whnf
        refine And.intro (by simp only [allP, List.nil_append, List.cons_append, true_and]; and_intros <;> first | exact trivial | rfl) ?_
        (set_option smartUnfolding false in conv => whnf)
        rw [decide_eq_true rfl]
        (set_option smartUnfolding false in conv => whnf)
        refine ⟨(), ?_⟩
        conv => whnf
        refine And.intro (by simp only [allP, List.nil_append, List.cons_append, true_and]; skip) ?_
        (set_option smartUnfolding false in conv => whnf)
        and_intros <;> rfl
    · cases hg2 : decide (1 + (en57 z).length ≤ 65545)
      · have skip0 := trivial
        have hd0 : false = decide ((5 :: en47 x).length ≤ 60000) := by rw [hl0]; exact hg0.symm
        have hd1 : true = decide ((6 :: en53 y).length ≤ 60000) := by rw [hl1]; exact hg1.symm
        have hd2 : false = decide ((7 :: en57 z).length ≤ 65545) := by rw [hl2]; exact hg2.symm
        (set_option smartUnfolding false in conv => whnf)
        refine And.intro (by first | exact Nat.le_of_ble_eq_true rfl | exact ⟨Nat.le_of_ble_eq_true rfl, rfl⟩ | exact rfl | decide | (simp [allP]; done)) ?_
        (set_option smartUnfolding false in conv => whnf)
        refine ⟨(false, x), ?_⟩
        conv => whnf
        refine And.intro (by simp only [allP, List.nil_append, List.cons_append, true_and]; repeat' (first | exact ok0 | exact hg0.symm | rfl | omega | refine And.intro ?_ ?_)) ?_
        (set_option smartUnfolding false in conv => whnf)
        refine And.intro (by first | exact Nat.le_of_ble_eq_true rfl | exact ⟨Nat.le_of_ble_eq_true rfl, rfl⟩ | exact rfl | decide | (simp [allP]; done)) ?_
        (set_option smartUnfolding false in conv => whnf)
        refine ⟨x, ?_⟩
        conv => whnf
        refine And.intro (by simp only [allP, List.nil_append, List.cons_append, true_and]; repeat' (first | exact ok0 | rfl | omega | refine And.intro ?_ ?_)) ?_
        (set_option smartUnfolding false in conv => whnf)
        refine ⟨(false, 5 :: en47 x, 60000), ?_⟩
        conv => whnf
        refine And.intro (by simp only [allP, List.nil_append, List.cons_append, true_and]; repeat' (first | exact hd0 | rfl | refine And.intro ?_ ?_)) ?_
        (set_option smartUnfolding false in conv => whnf)
        refine And.intro (by first | exact Nat.le_of_ble_eq_true rfl | exact ⟨Nat.le_of_ble_eq_true rfl, rfl⟩ | exact rfl | decide | (simp [allP]; done)) ?_
        (set_option smartUnfolding false in conv => whnf)
        refine ⟨(true, y), ?_⟩
        conv => whnf
        refine And.intro (by simp only [allP, List.nil_append, List.cons_append, true_and]; repeat' (first | exact ok1 | exact hg1.symm | rfl | omega | refine And.intro ?_ ?_)) ?_
        (set_option smartUnfolding false in conv => whnf)
        refine And.intro (by first | exact Nat.le_of_ble_eq_true rfl | exact ⟨Nat.le_of_ble_eq_true rfl, rfl⟩ | exact rfl | decide | (simp [allP]; done)) ?_
        (set_option smartUnfolding false in conv => whnf)
        refine ⟨y, ?_⟩
        conv => whnf
        refine And.intro (by simp only [allP, List.nil_append, List.cons_append, true_and]; repeat' (first | exact ok1 | rfl | omega | refine And.intro ?_ ?_)) ?_
        (set_option smartUnfolding false in conv => whnf)
        refine ⟨(true, 6 :: en53 y, 60000), ?_⟩
        conv => whnf
        refine And.intro (by simp only [allP, List.nil_append, List.cons_append, true_and]; repeat' (first | exact hd1 | rfl | refine And.intro ?_ ?_)) ?_
        (set_option smartUnfolding false in conv => whnf)
        refine And.intro (by first | exact Nat.le_of_ble_eq_true rfl | exact ⟨Nat.le_of_ble_eq_true rfl, rfl⟩ | exact rfl | decide | (simp [allP]; done)) ?_
        (set_option smartUnfolding false in conv => whnf)
        refine ⟨(false, z), ?_⟩
        conv => whnf
        refine And.intro (by simp only [allP, List.nil_append, List.cons_append, true_and]; repeat' (first | exact ok2 | exact hg2.symm | rfl | omega | refine And.intro ?_ ?_)) ?_
        (set_option smartUnfolding false in conv => whnf)
        refine And.intro (by first | exact Nat.le_of_ble_eq_true rfl | exact ⟨Nat.le_of_ble_eq_true rfl, rfl⟩ | exact rfl | decide | (simp [allP]; done)) ?_
        (set_option smartUnfolding false in conv => whnf)
        refine ⟨z, ?_⟩
        conv => whnf
        refine And.intro (by simp only [allP, List.nil_append, List.cons_append, true_and]; repeat' (first | exact ok2 | rfl | omega | refine And.intro ?_ ?_)) ?_
        (set_option smartUnfolding false in conv => whnf)
        refine ⟨(false, 7 :: en57 z, 65545), ?_⟩
        conv => whnf
        refine And.intro (by simp only [allP, List.nil_append, List.cons_append, true_and]; repeat' (first | exact hd2 | rfl | refine And.intro ?_ ?_)) ?_
        (set_option smartUnfolding false in conv => whnf)
        refine ⟨([], []), ?_⟩
        conv => whnf
        refine And.intro (by simp only [allP, List.nil_append, List.cons_append, true_and]; and_intros <;> first | exact trivial | rfl) ?_
        (set_option smartUnfolding false in conv => whnf)
        rw [decide_eq_true rfl]
        (set_option smartUnfolding false in conv => whnf)
        refine ⟨(6 :: en53 y, 6 :: en53 y), ?_⟩
        conv => whnf
        refine And.intro (by simp only [allP, List.nil_append, List.cons_append, true_and]; and_intros <;> first | exact trivial | rfl) ?_
        (set_option smartUnfolding false in conv => whnf)
        rw [decide_eq_true rfl]
        (set_option smartUnfolding false in conv => whnf)
        refine ⟨([], []), ?_⟩
        conv => whnf
        refine And.intro (by simp only [allP, List.nil_append, List.cons_append, true_and]; and_intros <;> first | exact trivial | rfl) ?_
        (set_option smartUnfolding false in conv => whnf)
        rw [decide_eq_true rfl]
        (set_option smartUnfolding false in conv => whnf)
        refine ⟨(), ?_⟩
        conv => whnf
        refine And.intro (by simp only [allP, List.nil_append, List.cons_append, true_and]; skip) ?_
        (set_option smartUnfolding false in conv => whnf)
        and_intros <;> rfl
      · have skip0 := trivial
        have hd0 : false = decide ((5 :: en47 x).length ≤ 60000) := by rw [hl0]; exact hg0.symm
        have hd1 : true = decide ((6 :: en53 y).length ≤ 60000) := by rw [hl1]; exact hg1.symm
        have hd2 : true = decide ((7 :: en57 z).length ≤ 65545) := by rw [hl2]; exact hg2.symm
        (set_option smartUnfolding false in conv => whnf)
        refine And.intro (by first | exact Nat.le_of_ble_eq_true rfl | exact ⟨Nat.le_of_ble_eq_true rfl, rfl⟩ | exact rfl | decide | (simp [allP]; done)) ?_
        (set_option smartUnfolding false in conv => whnf)
        refine ⟨(false, x), ?_⟩
        conv => whnf
        refine And.intro (by simp only [allP, List.nil_append, List.cons_append, true_and]; repeat' (first | exact ok0 | exact hg0.symm | rfl | omega | refine And.intro ?_ ?_)) ?_
        (set_option smartUnfolding false in conv => whnf)
        refine And.intro (by first | exact Nat.le_of_ble_eq_true rfl | exact ⟨Nat.le_of_ble_eq_true rfl, rfl⟩ | exact rfl | decide | (simp [allP]; done)) ?_
        (set_option smartUnfolding false in conv => whnf)
        refine ⟨x, ?_⟩
        conv => whnf
        refine And.intro (by simp only [allP, List.nil_append, List.cons_append, true_and]; repeat' (first | exact ok0 | rfl | omega | refine And.intro ?_ ?_)) ?_
        (set_option smartUnfolding false in conv => whnf)
        refine ⟨(false, 5 :: en47 x, 60000), ?_⟩
        conv => whnf
        refine And.intro (by simp only [allP, List.nil_append, List.cons_append, true_and]; repeat' (first | exact hd0 | rfl | refine And.intro ?_ ?_)) ?_
        (set_option smartUnfolding false in conv => whnf)
        refine And.intro (by first | exact Nat.le_of_ble_eq_true rfl | exact ⟨Nat.le_of_ble_eq_true rfl, rfl⟩ | exact rfl | decide | (simp [allP]; done)) ?_
        (set_option smartUnfolding false in conv => whnf)
        refine ⟨(true, y), ?_⟩
        conv => whnf
        refine And.intro (by simp only [allP, List.nil_append, List.cons_append, true_and]; repeat' (first | exact ok1 | exact hg1.symm | rfl | omega | refine And.intro ?_ ?_)) ?_
        (set_option smartUnfolding false in conv => whnf)
        refine And.intro (by first | exact Nat.le_of_ble_eq_true rfl | exact ⟨Nat.le_of_ble_eq_true rfl, rfl⟩ | exact rfl | decide | (simp [allP]; done)) ?_
        (set_option smartUnfolding false in conv => whnf)
        refine ⟨y, ?_⟩
        conv => whnf
        refine And.intro (by simp only [allP, List.nil_append, List.cons_append, true_and]; repeat' (first | exact ok1 | rfl | omega | refine And.intro ?_ ?_)) ?_
        (set_option smartUnfolding false in conv => whnf)
        refine ⟨(true, 6 :: en53 y, 60000), ?_⟩
        conv => whnf
        refine And.intro (by simp only [allP, List.nil_append, List.cons_append, true_and]; repeat' (first | exact hd1 | rfl | refine And.intro ?_ ?_)) ?_
        (set_option smartUnfolding false in conv => whnf)
        refine And.intro (by first | exact Nat.le_of_ble_eq_true rfl | exact ⟨Nat.le_of_ble_eq_true rfl, rfl⟩ | exact rfl | decide | (simp [allP]; done)) ?_
        (set_option smartUnfolding false in conv => whnf)
        refine ⟨(true, z), ?_⟩
        conv => whnf
        refine And.intro (by simp only [allP, List.nil_append, List.cons_append, true_and]; repeat' (first | exact ok2 | exact hg2.symm | rfl | omega | refine And.intro ?_ ?_)) ?_
        (set_option smartUnfolding false in conv => whnf)
        refine And.intro (by first | exact Nat.le_of_ble_eq_true rfl | exact ⟨Nat.le_of_ble_eq_true rfl, rfl⟩ | exact rfl | decide | (simp [allP]; done)) ?_
        (set_option smartUnfolding false in conv => whnf)
        refine ⟨z, ?_⟩
        conv => whnf
        refine And.intro (by simp only [allP, List.nil_append, List.cons_append, true_and]; repeat' (first | exact ok2 | rfl | omega | refine And.intro ?_ ?_)) ?_
        (set_option smartUnfolding false in conv => whnf)
        refine ⟨(true, 7 :: en57 z, 65545), ?_⟩
        conv => whnf
        refine And.intro (by simp only [allP, List.nil_append, List.cons_append, true_and]; repeat' (first | exact hd2 | rfl | refine And.intro ?_ ?_)) ?_
        (set_option smartUnfolding false in conv => whnf)
        refine ⟨([], []), ?_⟩
        conv => whnf
        refine And.intro (by simp only [allP, List.nil_append, List.cons_append, true_and]; and_intros <;> first | exact trivial | rfl) ?_
        (set_option smartUnfolding false in conv => whnf)
        rw [decide_eq_true rfl]
        (set_option smartUnfolding false in conv => whnf)
        refine ⟨(6 :: en53 y, 6 :: en53 y), ?_⟩
        conv => whnf
        refine And.intro (by simp only [allP, List.nil_append, List.cons_append, true_and]; and_intros <;> first | exact trivial | rfl) ?_
        (set_option smartUnfolding false in conv => whnf)
        rw [decide_eq_true rfl]
        (set_option smartUnfolding false in conv => whnf)
        refine ⟨(7 :: en57 z, 7 :: en57 z), ?_⟩
        conv => whnf
        refine And.intro (by simp only [allP, List.nil_append, List.cons_append, true_and]; and_intros <;> first | exact trivial | rfl) ?_
        (set_option smartUnfolding false in conv => whnf)
        rw [decide_eq_true rfl]
        (set_option smartUnfolding false in conv => whnf)
        refine ⟨(), ?_⟩
        conv => whnf
        refine And.intro (by simp only [allP, List.nil_append, List.cons_append, true_and]; skip) ?_
        (set_option smartUnfolding false in conv => whnf)
        and_intros <;> rfl
  · cases hg1 : decide (1 + (en53 y).length ≤ 60000)
    · cases hg2 : decide (1 + (en57 z).length ≤ 65545)
      · have skip0 := trivial
        have hd0 : true = decide ((5 :: en47 x).length ≤ 60000) := by rw [hl0]; exact hg0.symm
        have hd1 : false = decide ((6 :: en53 y).length ≤ 60000) := by rw [hl1]; exact hg1.symm
        have hd2 : false = decide ((7 :: en57 z).length ≤ 65545) := by rw [hl2]; exact hg2.symm
        (set_option smartUnfolding false in conv => whnf)
        refine And.intro (by first | exact Nat.le_of_ble_eq_true rfl | exact ⟨Nat.le_of_ble_eq_true rfl, rfl⟩ | exact rfl | decide | (simp [allP]; done)) ?_
        (set_option smartUnfolding false in conv => whnf)
        refine ⟨(true, x), ?_⟩
        conv => whnf
        refine And.intro (by simp only [allP, List.nil_append, List.cons_append, true_and]; repeat' (first | exact ok0 | exact hg0.symm | rfl | omega | refine And.intro ?_ ?_)) ?_
        (set_option smartUnfolding false in conv => whnf)
        refine And.intro (by first | exact Nat.le_of_ble_eq_true rfl | exact ⟨Nat.le_of_ble_eq_true rfl, rfl⟩ | exact rfl | decide | (simp [allP]; done)) ?_
        (set_option smartUnfolding false in conv => whnf)
        refine ⟨x, ?_⟩
        conv => whnf
        refine And.intro (by simp only [allP, List.nil_append, List.cons_append, true_and]; repeat' (first | exact ok0 | rfl | omega | refine And.intro ?_ ?_)) ?_
        (set_option smartUnfolding false in conv => whnf)
        refine ⟨(true, 5 :: en47 x, 60000), ?_⟩
        conv => whnf
        refine And.intro (by simp only [allP, List.nil_append, List.cons_append, true_and]; repeat' (first | exact hd0 | rfl | refine And.intro ?_ ?_)) ?_
        (set_option smartUnfolding false in conv => whnf)
        refine And.intro (by first | exact Nat.le_of_ble_eq_true rfl | exact ⟨Nat.le_of_ble_eq_true rfl, rfl⟩ | exact rfl | decide | (simp [allP]; done)) ?_
        (set_option smartUnfolding false in conv => whnf)
        refine ⟨(false, y), ?_⟩
        conv => whnf
        refine And.intro (by simp only [allP, List.nil_append, List.cons_append, true_and]; repeat' (first | exact ok1 | exact hg1.symm | rfl | omega | refine And.intro ?_ ?_)) ?_
        (set_option smartUnfolding false in conv => whnf)
        refine And.intro (by first | exact Nat.le_of_ble_eq_true rfl | exact ⟨Nat.le_of_ble_eq_true rfl, rfl⟩ | exact rfl | decide | (simp [allP]; done)) ?_
        (set_option smartUnfolding false in conv => whnf)
        refine ⟨y, ?_⟩
        conv => whnf
        refine And.intro (by simp only [allP, List.nil_append, List.cons_append, true_and]; repeat' (first | exact ok1 | rfl | omega | refine And.intro ?_ ?_)) ?_
        (set_option smartUnfolding false in conv => whnf)
        refine ⟨(false, 6 :: en53 y, 60000), ?_⟩
        conv => whnf
        refine And.intro (by simp only [allP, List.nil_append, List.cons_append, true_and]; repeat' (first | exact hd1 | rfl | refine And.intro ?_ ?_)) ?_
        (set_option smartUnfolding false in conv => whnf)
        refine And.intro (by first | exact Nat.le_of_ble_eq_true rfl | exact ⟨Nat.le_of_ble_eq_true rfl, rfl⟩ | exact rfl | decide | (simp [allP]; done)) ?_
        (set_option smartUnfolding false in conv => whnf)
        refine ⟨(false, z), ?_⟩
        conv => whnf
        refine And.intro (by simp only [allP, List.nil_append, List.cons_append, true_and]; repeat' (first | exact ok2 | exact hg2.symm | rfl | omega | refine And.intro ?_ ?_)) ?_
        (set_option smartUnfolding false in conv => whnf)
        refine And.intro (by first | exact Nat.le_of_ble_eq_true rfl | exact ⟨Nat.le_of_ble_eq_true rfl, rfl⟩ | exact rfl | decide | (simp [allP]; done)) ?_
        (set_option smartUnfolding false in conv => whnf)
        refine ⟨z, ?_⟩
        conv => whnf
        refine And.intro (by simp only [allP, List.nil_append, List.cons_append, true_and]; repeat' (first | exact ok2 | rfl | omega | refine And.intro ?_ ?_)) ?_
        (set_option smartUnfolding false in conv => whnf)
        refine ⟨(false, 7 :: en57 z, 65545), ?_⟩
        conv => whnf
        refine And.intro (by simp only [allP, List.nil_append, List.cons_append, true_and]; repeat' (first | exact hd2 | rfl | refine And.intro ?_ ?_)) ?_
        (set_option smartUnfolding false in conv => whnf)
        refine ⟨(5 :: en47 x, 5 :: en47 x), ?_⟩
        conv => whnf
        refine And.intro (by simp only [allP, List.nil_append, List.cons_append, true_and]; and_intros <;> first | exact trivial | rfl) ?_
        (set_option smartUnfolding false in conv => whnf)
        rw [decide_eq_true rfl]
        (set_option smartUnfolding false in conv => whnf)
        refine ⟨([], []), ?_⟩
        conv => whnf
        refine And.intro (by simp only [allP, List.nil_append, List.cons_append, true_and]; and_intros <;> first | exact trivial | rfl) ?_
        (set_option smartUnfolding false in conv => whnf)
        rw [decide_eq_true rfl]
        (set_option smartUnfolding false in conv => whnf)
        refine ⟨([], []), ?_⟩
        conv => whnf
        refine And.intro (by simp only [allP, List.nil_append, List.cons_append, true_and]; and_intros <;> first | exact trivial | rfl) ?_
        (set_option smartUnfolding false in conv => whnf)
        rw [decide_eq_true rfl]
        (set_option smartUnfolding false in conv => whnf)
        refine ⟨(), ?_⟩
        conv => whnf
        refine And.intro (by simp only [allP, List.nil_append, List.cons_append, true_and]; skip) ?_
        (set_option smartUnfolding false in conv => whnf)
        and_intros <;> rfl
      · have skip0 := trivial
        have hd0 : true = decide ((5 :: en47 x).length ≤ 60000) := by rw [hl0]; exact hg0.symm
        have hd1 : false = decide ((6 :: en53 y).length ≤ 60000) := by rw [hl1]; exact hg1.symm
        have hd2 : true = decide ((7 :: en57 z).length ≤ 65545) := by rw [hl2]; exact hg2.symm
        (set_option smartUnfolding false in conv => whnf)
        refine And.intro (by first | exact Nat.le_of_ble_eq_true rfl | exact ⟨Nat.le_of_ble_eq_true rfl, rfl⟩ | exact rfl | decide | (simp [allP]; done)) ?_
        (set_option smartUnfolding false in conv => whnf)
        refine ⟨(true, x), ?_⟩
        conv => whnf
        refine And.intro (by simp only [allP, List.nil_append, List.cons_append, true_and]; repeat' (first | exact ok0 | exact hg0.symm | rfl | omega | refine And.intro ?_ ?_)) ?_
        (set_option smartUnfolding false in conv => whnf)
        refine And.intro (by first | exact Nat.le_of_ble_eq_true rfl | exact ⟨Nat.le_of_ble_eq_true rfl, rfl⟩ | exact rfl | decide | (simp [allP]; done)) ?_
        (set_option smartUnfolding false in conv => whnf)
        refine ⟨x, ?_⟩
        conv => whnf
        refine And.intro (by simp only [allP, List.nil_append, List.cons_append, true_and]; repeat' (first | exact ok0 | rfl | omega | refine And.intro ?_ ?_)) ?_
        (set_option smartUnfolding false in conv => whnf)
        refine ⟨(true, 5 :: en47 x, 60000), ?_⟩
        conv => whnf
        refine And.intro (by simp only [allP, List.nil_append, List.cons_append, true_and]; repeat' (first | exact hd0 | rfl | refine And.intro ?_ ?_)) ?_
        (set_option smartUnfolding false in conv => whnf)
        refine And.intro (by first | exact Nat.le_of_ble_eq_true rfl | exact ⟨Nat.le_of_ble_eq_true rfl, rfl⟩ | exact rfl | decide | (simp [allP]; done)) ?_
        (set_option smartUnfolding false in conv => whnf)
        refine ⟨(false, y), ?_⟩
        conv => whnf
        refine And.intro (by simp only [allP, List.nil_append, List.cons_append, true_and]; repeat' (first | exact ok1 | exact hg1.symm | rfl | omega | refine And.intro ?_ ?_)) ?_
        (set_option smartUnfolding false in conv => whnf)
        refine And.intro (by first | exact Nat.le_of_ble_eq_true rfl | exact ⟨Nat.le_of_ble_eq_true rfl, rfl⟩ | exact rfl | decide | (simp [allP]; done)) ?_
        (set_option smartUnfolding false in conv => whnf)
        refine ⟨y, ?_⟩
        conv => whnf
        refine And.intro (by simp only [allP, List.nil_append, List.cons_append, true_and]; repeat' (first | exact ok1 | rfl | omega | refine And.intro ?_ ?_)) ?_
        (set_option smartUnfolding false in conv => whnf)
        refine ⟨(false, 6 :: en53 y, 60000), ?_⟩
        conv => whnf
        refine And.intro (by simp only [allP, List.nil_append, List.cons_append, true_and]; repeat' (first | exact hd1 | rfl | refine And.intro ?_ ?_)) ?_
        (set_option smartUnfolding false in conv => whnf)
        refine And.intro (by first | exact Nat.le_of_ble_eq_true rfl | exact ⟨Nat.le_of_ble_eq_true rfl, rfl⟩ | exact rfl | decide | (simp [allP]; done)) ?_
        (set_option smartUnfolding false in conv => whnf)
        refine ⟨(true, z), ?_⟩
        conv => whnf
        refine And.intro (by simp only [allP, List.nil_append, List.cons_append, true_and]; repeat' (first | exact ok2 | exact hg2.symm | rfl | omega | refine And.intro ?_ ?_)) ?_
        (set_option smartUnfolding false in conv => whnf)
        refine And.intro (by first | exact Nat.le_of_ble_eq_true rfl | exact ⟨Nat.le_of_ble_eq_true rfl, rfl⟩ | exact rfl | decide | (simp [allP]; done)) ?_
        (set_option smartUnfolding false in conv => whnf)
        refine ⟨z, ?_⟩
        conv => whnf
        refine And.intro (by simp only [allP, List.nil_append, List.cons_append, true_and]; repeat' (first | exact ok2 | rfl | omega | refine And.intro ?_ ?_)) ?_
        (set_option smartUnfolding false in conv => whnf)
        refine ⟨(true, 7 :: en57 z, 65545), ?_⟩
        conv => whnf
        refine And.intro (by simp only [allP, List.nil_append, List.cons_append, true_and]; repeat' (first | exact hd2 | rfl | refine And.intro ?_ ?_)) ?_
        (set_option smartUnfolding false in conv => whnf)
        refine ⟨(5 :: en47 x, 5 :: en47 x), ?_⟩
        conv => whnf
        refine And.intro (by simp only [allP, List.nil_append, List.cons_append, true_and]; and_intros <;> first | exact trivial | rfl) ?_
        (set_option smartUnfolding false in conv => whnf)
        rw [decide_eq_true rfl]
        (set_option smartUnfolding false in conv => whnf)
        refine ⟨([], []), ?_⟩
        conv => whnf
        refine And.intro (by simp only [allP, List.nil_append, List.cons_append, true_and]; and_intros <;> first | exact trivial | rfl) ?_
        (set_option smartUnfolding false in conv => whnf)
        rw [decide_eq_true rfl]
        (set_option smartUnfolding false in conv => whnf)
        refine ⟨(7 :: en57 z, 7 :: en57 z), ?_⟩
        conv => whnf
        refine And.intro (by simp only [allP, List.nil_append, List.cons_append, true_and]; and_intros <;> first | exact trivial | rfl) ?_
        (set_option smartUnfolding false in conv => whnf)
        rw [decide_eq_true rfl]
        (set_option smartUnfolding false in conv => whnf)
        refine ⟨(), ?_⟩
        conv => whnf
        refine And.intro (by simp only [allP, List.nil_append, List.cons_append, true_and]; skip) ?_
        (set_option smartUnfolding false in conv => whnf)
        and_intros <;> rfl
    · cases hg2 : decide (1 + (en57 z).length ≤ 65545)
      · have skip0 := trivial
        have hd0 : true = decide ((5 :: en47 x).length ≤ 60000) := by rw [hl0]; exact hg0.symm
        have hd1 : true = decide ((6 :: en53 y).length ≤ 60000) := by rw [hl1]; exact hg1.symm
        have hd2 : false = decide ((7 :: en57 z).length ≤ 65545) := by rw [hl2]; exact hg2.symm
        (set_option smartUnfolding false in conv => whnf)
        refine And.intro (by first | exact Nat.le_of_ble_eq_true rfl | exact ⟨Nat.le_of_ble_eq_true rfl, rfl⟩ | exact rfl | decide | (simp [allP]; done)) ?_
        (set_option smartUnfolding false in conv => whnf)
        refine ⟨(true, x), ?_⟩
        conv => whnf
        refine And.intro (by simp only [allP, List.nil_append, List.cons_append, true_and]; repeat' (first | exact ok0 | exact hg0.symm | rfl | omega | refine And.intro ?_ ?_)) ?_
        (set_option smartUnfolding false in conv => whnf)
        refine And.intro (by first | exact Nat.le_of_ble_eq_true rfl | exact ⟨Nat.le_of_ble_eq_true rfl, rfl⟩ | exact rfl | decide | (simp [allP]; done)) ?_
        (set_option smartUnfolding false in conv => whnf)
        refine ⟨x, ?_⟩
        conv => whnf
        refine And.intro (by simp only [allP, List.nil_append, List.cons_append, true_and]; repeat' (first | exact ok0 | rfl | omega | refine And.intro ?_ ?_)) ?_
        (set_option smartUnfolding false in conv => whnf)
        refine ⟨(true, 5 :: en47 x, 60000), ?_⟩
        conv => whnf
        refine And.intro (by simp only [allP, List.nil_append, List.cons_append, true_and]; repeat' (first | exact hd0 | rfl | refine And.intro ?_ ?_)) ?_
        (set_option smartUnfolding false in conv => whnf)
        refine And.intro (by first | exact Nat.le_of_ble_eq_true rfl | exact ⟨Nat.le_of_ble_eq_true rfl, rfl⟩ | exact rfl | decide | (simp [allP]; done)) ?_
        (set_option smartUnfolding false in conv => whnf)
        refine ⟨(true, y), ?_⟩
        conv => whnf
        refine And.intro (by simp only [allP, List.nil_append, List.cons_append, true_and]; repeat' (first | exact ok1 | exact hg1.symm | rfl | omega | refine And.intro ?_ ?_)) ?_
        (set_option smartUnfolding false in conv => whnf)
        refine And.intro (by first | exact Nat.le_of_ble_eq_true rfl | exact ⟨Nat.le_of_ble_eq_true rfl, rfl⟩ | exact rfl | decide | (simp [allP]; done)) ?_
        (set_option smartUnfolding false in conv => whnf)
        refine ⟨y, ?_⟩
        conv => whnf
        refine And.intro (by simp only [allP, List.nil_append, List.cons_append, true_and]; repeat' (first | exact ok1 | rfl | omega | refine And.intro ?_ ?_)) ?_
        (set_option smartUnfolding false in conv => whnf)
        refine ⟨(true, 6 :: en53 y, 60000), ?_⟩
        conv => whnf
        refine And.intro (by simp only [allP, List.nil_append, List.cons_append, true_and]; repeat' (first | exact hd1 | rfl | refine And.intro ?_ ?_)) ?_
        (set_option smartUnfolding false in conv => whnf)
        refine And.intro (by first | exact Nat.le_of_ble_eq_true rfl | exact ⟨Nat.le_of_ble_eq_true rfl, rfl⟩ | exact rfl | decide | (simp [allP]; done)) ?_
        (set_option smartUnfolding false in conv => whnf)
        refine ⟨(false, z), ?_⟩
        conv => whnf
        refine And.intro (by simp only [allP, List.nil_append, List.cons_append, true_and]; repeat' (first | exact ok2 | exact hg2.symm | rfl | omega | refine And.intro ?_ ?_)) ?_
        (set_option smartUnfolding false in conv => whnf)
        refine And.intro (by first | exact Nat.le_of_ble_eq_true rfl | exact ⟨Nat.le_of_ble_eq_true rfl, rfl⟩ | exact rfl | decide | (simp [allP]; done)) ?_
        (set_option smartUnfolding false in conv => whnf)
        refine ⟨z, ?_⟩
        conv => whnf
        refine And.intro (by simp only [allP, List.nil_append, List.cons_append, true_and]; repeat' (first | exact ok2 | rfl | omega | refine And.intro ?_ ?_)) ?_
        (set_option smartUnfolding false in conv => whnf)
        refine ⟨(false, 7 :: en57 z, 65545), ?_⟩
        conv => whnf
        refine And.intro (by simp only [allP, List.nil_append, List.cons_append, true_and]; repeat' (first | exact hd2 | rfl | refine And.intro ?_ ?_)) ?_
        (set_option smartUnfolding false in conv => whnf)
        refine ⟨(5 :: en47 x, 5 :: en47 x), ?_⟩
        conv => whnf
        refine And.intro (by simp only [allP, List.nil_append, List.cons_append, true_and]; and_intros <;> first | exact trivial | rfl) ?_
        (set_option smartUnfolding false in conv => whnf)
        rw [decide_eq_true rfl]
        (set_option smartUnfolding false in conv => whnf)
        refine ⟨(6 :: en53 y, 6 :: en53 y), ?_⟩
        conv => whnf
        refine And.intro (by simp only [allP, List.nil_append, List.cons_append, true_and]; and_intros <;> first | exact trivial | rfl) ?_
        (set_option smartUnfolding false in conv => whnf)
        rw [decide_eq_true rfl]
        (set_option smartUnfolding false in conv => whnf)
        refine ⟨([], []), ?_⟩
        conv => whnf
        refine And.intro (by simp only [allP, List.nil_append, List.cons_append, true_and]; and_intros <;> first | exact trivial | rfl) ?_
        (set_option smartUnfolding false in conv => whnf)
        rw [decide_eq_true rfl]
        (set_option smartUnfolding false in conv => whnf)
        refine ⟨(), ?_⟩
        conv => whnf
        refine And.intro (by simp only [allP, List.nil_append, List.cons_append, true_and]; skip) ?_
        (set_option smartUnfolding false in conv => whnf)
        and_intros <;> rfl
      · have skip0 := trivial
        have hd0 : true = decide ((5 :: en47 x).length ≤ 60000) := by rw [hl0]; exact hg0.symm
        have hd1 : true = decide ((6 :: en53 y).length ≤ 60000) := by rw [hl1]; exact hg1.symm
        have hd2 : true = decide ((7 :: en57 z).length ≤ 65545) := by rw [hl2]; exact hg2.symm
        (set_option smartUnfolding false in conv => whnf)
        refine And.intro (by first | exact Nat.le_of_ble_eq_true rfl | exact ⟨Nat.le_of_ble_eq_true rfl, rfl⟩ | exact rfl | decide | (simp [allP]; done)) ?_
        (set_option smartUnfolding false in conv => whnf)
        refine ⟨(true, x), ?_⟩
        conv => whnf
        refine And.intro (by simp only [allP, List.nil_append, List.cons_append, true_and]; repeat' (first | exact ok0 | exact hg0.symm | rfl | omega | refine And.intro ?_ ?_)) ?_
        (set_option smartUnfolding false in conv => whnf)
        refine And.intro (by first | exact Nat.le_of_ble_eq_true rfl | exact ⟨Nat.le_of_ble_eq_true rfl, rfl⟩ | exact rfl | decide | (simp [allP]; done)) ?_
        (set_option smartUnfolding false in conv => whnf)
        refine ⟨x, ?_⟩
        conv => whnf
        refine And.intro (by simp only [allP, List.nil_append, List.cons_append, true_and]; repeat' (first | exact ok0 | rfl | omega | refine And.intro ?_ ?_)) ?_
        (set_option smartUnfolding false in conv => whnf)
        refine ⟨(true, 5 :: en47 x, 60000), ?_⟩
        conv => whnf
        refine And.intro (by simp only [allP, List.nil_append, List.cons_append, true_and]; repeat' (first | exact hd0 | rfl | refine And.intro ?_ ?_)) ?_
        (set_option smartUnfolding false in conv => whnf)
        refine And.intro (by first | exact Nat.le_of_ble_eq_true rfl | exact ⟨Nat.le_of_ble_eq_true rfl, rfl⟩ | exact rfl | decide | (simp [allP]; done)) ?_
        (set_option smartUnfolding false in conv => whnf)
        refine ⟨(true, y), ?_⟩
        conv => whnf
        refine And.intro (by simp only [allP, List.nil_append, List.cons_append, true_and]; repeat' (first | exact ok1 | exact hg1.symm | rfl | omega | refine And.intro ?_ ?_)) ?_
        (set_option smartUnfolding false in conv => whnf)
        refine And.intro (by first | exact Nat.le_of_ble_eq_true rfl | exact ⟨Nat.le_of_ble_eq_true rfl, rfl⟩ | exact rfl | decide | (simp [allP]; done)) ?_
        (set_option smartUnfolding false in conv => whnf)
        refine ⟨y, ?_⟩
        conv => whnf
        refine And.intro (by simp only [allP, List.nil_append, List.cons_append, true_and]; repeat' (first | exact ok1 | rfl | omega | refine And.intro ?_ ?_)) ?_
        (set_option smartUnfolding false in conv => whnf)
        refine ⟨(true, 6 :: en53 y, 60000), ?_⟩
        conv => whnf
        refine And.intro (by simp only [allP, List.nil_append, List.cons_append, true_and]; repeat' (first | exact hd1 | rfl | refine And.intro ?_ ?_)) ?_
        (set_option smartUnfolding false in conv => whnf)
        refine And.intro (by first | exact Nat.le_of_ble_eq_true rfl | exact ⟨Nat.le_of_ble_eq_true rfl, rfl⟩ | exact rfl | decide | (simp [allP]; done)) ?_
        (set_option smartUnfolding false in conv => whnf)
        refine ⟨(true, z), ?_⟩
        conv => whnf
        refine And.intro (by simp only [allP, List.nil_append, List.cons_append, true_and]; repeat' (first | exact ok2 | exact hg2.symm | rfl | omega | refine And.intro ?_ ?_)) ?_
        (set_option smartUnfolding false in conv => whnf)
        refine And.intro (by first | exact Nat.le_of_ble_eq_true rfl | exact ⟨Nat.le_of_ble_eq_true rfl, rfl⟩ | exact rfl | decide | (simp [allP]; done)) ?_
        (set_option smartUnfolding false in conv => whnf)
        refine ⟨z, ?_⟩
        conv => whnf
        refine And.intro (by simp only [allP, List.nil_append, List.cons_append, true_and]; repeat' (first | exact ok2 | rfl | omega | refine And.intro ?_ ?_)) ?_
        (set_option smartUnfolding false in conv => whnf)
        refine ⟨(true, 7 :: en57 z, 65545), ?_⟩
        conv => whnf
        refine And.intro (by simp only [allP, List.nil_append, List.cons_append, true_and]; repeat' (first | exact hd2 | rfl | refine And.intro ?_ ?_)) ?_
        (set_option smartUnfolding false in conv => whnf)
        refine ⟨(5 :: en47 x, 5 :: en47 x), ?_⟩
        conv => whnf
        refine And.intro (by simp only [allP, List.nil_append, List.cons_append, true_and]; and_intros <;> first | exact trivial | rfl) ?_
        (set_option smartUnfolding false in conv => whnf)
        rw [decide_eq_true rfl]
        (set_option smartUnfolding false in conv => whnf)
        refine ⟨(6 :: en53 y, 6 :: en53 y), ?_⟩
        conv => whnf
        refine And.intro (by simp only [allP, List.nil_append, List.cons_append, true_and]; and_intros <;> first | exact trivial | rfl) ?_
        (set_option smartUnfolding false in conv => whnf)
        rw [decide_eq_true rfl]
        (set_option smartUnfolding false in conv => whnf)
        refine ⟨(7 :: en57 z, 7 :: en57 z), ?_⟩
        conv => whnf
        refine And.intro (by simp only [allP, List.nil_append, List.cons_append, true_and]; and_intros <;> first | exact trivial | rfl) ?_
        (set_option smartUnfolding false in conv => whnf)
        rw [decide_eq_true rfl]
        (set_option smartUnfolding false in conv => whnf)
        refine ⟨(), ?_⟩
        conv => whnf
        refine And.intro (by simp only [allP, List.nil_append, List.cons_append, true_and]; skip) ?_
        (set_option smartUnfolding false in conv => whnf)
        and_intros <;> rfl
theorem WireCalls_sound : Sound Try.prog 4 lawWireCallsU := does_sound mixed tabOk_prog gLaw6_ok Try.func4 WireCalls_does
end Go.Proofs.Ytingmlhhabaplaa.Ev
