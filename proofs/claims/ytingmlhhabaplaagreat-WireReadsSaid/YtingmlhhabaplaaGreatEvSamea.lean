/- Two things, the same? commands, answers. No conditions. -/
import Derived.Test.YtingmlhhabaplaaGreatEvSame
namespace Go.Proofs.YtingmlhhabaplaaGreat.Ev
open Go
set_option linter.unusedVariables false
set_option linter.unusedSimpArgs false
set_option maxRecDepth 100000
set_option maxHeartbeats 4000000
abbrev cLSamePartCommand : Ctr := ⟨Bool × S48 × S48, 0, fun (g, a, b) => [.agg ((pv48 a).map avOf), .agg ((pv48 b).map avOf)], fun _ => [], fun (g, a, b) => (g = true ↔ a = b) ∧ (ok48 a), fun (g, a, b) => isB g, fun _ => []⟩
theorem LSamePartCommand_does : Does gSm7 tab Tryz.f18 cLSamePartCommand := by
  rintro ⟨g, a, b⟩ ⟨hg, hk⟩
  obtain ⟨k0, k1, k2⟩ := hk
  conv => whnf
  by_cases e0 : a.1 = b.1
  rotate_left
  · rw [show ((a.1.toNat : Int) == (b.1.toNat : Int)) = false from (by rw [beq_eq_false_iff_ne]; intro e; exact e0 (UInt8.toNat_inj.1 (by omega)))]
    conv => whnf
    rw [ffOf hg fun e => e0 (by rw [e])]
    first | done | rfl | (and_intros <;> rfl)
  rw [show ((a.1.toNat : Int) == (b.1.toNat : Int)) = true from (by rw [e0]; simp)]
  conv => whnf
  by_cases e2 : a.2.2 = b.2.2
  rotate_left
  · rw [show (a.2.2 == b.2.2) = false from (by rw [beq_eq_false_iff_ne]; exact e2)]
    conv => whnf
    rw [ffOf hg fun e => e2 (by rw [e])]
    first | done | rfl | (and_intros <;> rfl)
  rw [show (a.2.2 == b.2.2) = true from (by rw [e2]; simp)]
  conv => whnf
  refine And.intro (by first | exact Nat.le_of_ble_eq_true rfl | exact ⟨Nat.le_of_ble_eq_true rfl, rfl⟩ | exact rfl | decide | (simp [allP]; done)) ?_
  conv => whnf
  refine And.intro (by first | exact Nat.le_of_ble_eq_true rfl | exact ⟨Nat.le_of_ble_eq_true rfl, rfl⟩ | exact rfl | decide | (simp [allP]; done)) ?_
  conv => whnf
  by_cases e1 : a.2.1 = b.2.1
  rotate_left
  · refine ⟨(false, a.2.1, b.2.1), ?_⟩
    conv => whnf
    refine And.intro (by simp only [allP, List.nil_append, List.cons_append, true_and]; repeat' (first | exact iff_of_false Bool.false_ne_true e1 | exact iff_of_false id e1 | exact k1 | rfl | exact trivial | refine And.intro ?_ ?_)) ?_
    conv => whnf
    rw [ffOf hg fun e => e1 (by rw [e])]
    first | done | rfl | (and_intros <;> rfl)
  refine ⟨(true, a.2.1, b.2.1), ?_⟩
  conv => whnf
  refine And.intro (by simp only [allP, List.nil_append, List.cons_append, true_and]; repeat' (first | exact iff_of_true rfl e1 | exact iff_of_true trivial e1 | exact k1 | rfl | exact trivial | refine And.intro ?_ ?_)) ?_
  conv => whnf
  have hab : a = b := by
    obtain ⟨a0, a1, a2⟩ := a
    obtain ⟨b0, b1, b2⟩ := b
    simp only at e0 e1 e2
    subst e0 e1 e2
    rfl
  rw [hg.2 hab]
  first | done | rfl | (and_intros <;> rfl)
theorem LSamePartCommand_sound : Sound Tryz.prog 18 cLSamePartCommand := does_sound mixed tabOk_prog gSm7_ok Tryz.func18 LSamePartCommand_does
def gSm8 : List (FuncId × Ctr) := (18, cLSamePartCommand) :: gSm7
theorem gSm8_ok : GamOk Tryz.prog gSm8 := GamOk.cons gSm7_ok Tryz.func18 (by kernel_rfl) (by kernel_rfl) LSamePartCommand_sound
abbrev cLSameMetaCommand : Ctr := ⟨Bool × S57 × S57, 0, fun (g, a, b) => [.agg ((pv57 a).map avOf), .agg ((pv57 b).map avOf)], fun _ => [], fun (g, a, b) => (g = true ↔ a = b) ∧ (ok57 a), fun (g, a, b) => isB g, fun _ => []⟩
theorem LSameMetaCommand_does : Does gSm8 tab Tryz.f21 cLSameMetaCommand := by
  rintro ⟨g, a, b⟩ ⟨hg, hk⟩
  obtain ⟨k0, k1, k2, k3, k4, k5, k6, k7, k8, k9⟩ := hk
  conv => whnf
  by_cases e0 : a.1 = b.1
  rotate_left
  · rw [show ((a.1.toNat : Int) == (b.1.toNat : Int)) = false from (by rw [beq_eq_false_iff_ne]; intro e; exact e0 (UInt8.toNat_inj.1 (by omega)))]
    conv => whnf
    rw [ffOf hg fun e => e0 (by rw [e])]
    first | done | rfl | (and_intros <;> rfl)
  rw [show ((a.1.toNat : Int) == (b.1.toNat : Int)) = true from (by rw [e0]; simp)]
  conv => whnf
  by_cases e1 : a.2.1 = b.2.1
  rotate_left
  · rw [show (a.2.1.data.toList == b.2.1.data.toList) = false from (by rw [beq_eq_false_iff_ne]; intro e; exact e1 (strNe e))]
    conv => whnf
    rw [ffOf hg fun e => e1 (by rw [e])]
    first | done | rfl | (and_intros <;> rfl)
  rw [show (a.2.1.data.toList == b.2.1.data.toList) = true from (by rw [e1]; simp)]
  conv => whnf
  by_cases e2 : a.2.2.1 = b.2.2.1
  rotate_left
  · rw [show (a.2.2.1.data.toList == b.2.2.1.data.toList) = false from (by rw [beq_eq_false_iff_ne]; intro e; exact e2 (strNe e))]
    conv => whnf
    rw [ffOf hg fun e => e2 (by rw [e])]
    first | done | rfl | (and_intros <;> rfl)
  rw [show (a.2.2.1.data.toList == b.2.2.1.data.toList) = true from (by rw [e2]; simp)]
  conv => whnf
  by_cases e3 : a.2.2.2.1 = b.2.2.2.1
  rotate_left
  · rw [show (a.2.2.2.1 == b.2.2.2.1) = false from (by rw [beq_eq_false_iff_ne]; exact e3)]
    conv => whnf
    rw [ffOf hg fun e => e3 (by rw [e])]
    first | done | rfl | (and_intros <;> rfl)
  rw [show (a.2.2.2.1 == b.2.2.2.1) = true from (by rw [e3]; simp)]
  conv => whnf
  by_cases e4 : a.2.2.2.2.1 = b.2.2.2.2.1
  rotate_left
  · refine ⟨(false, a.2.2.2.2.1, b.2.2.2.2.1), ?_⟩
    conv => whnf
    refine And.intro (by simp only [allP, List.nil_append, List.cons_append, true_and]; repeat' (first | exact iff_of_false Bool.false_ne_true e4 | exact iff_of_false id e4 | exact k4 | rfl | exact trivial | refine And.intro ?_ ?_)) ?_
    conv => whnf
    rw [ffOf hg fun e => e4 (by rw [e])]
    first | done | rfl | (and_intros <;> rfl)
  refine ⟨(true, a.2.2.2.2.1, b.2.2.2.2.1), ?_⟩
  conv => whnf
  refine And.intro (by simp only [allP, List.nil_append, List.cons_append, true_and]; repeat' (first | exact iff_of_true rfl e4 | exact iff_of_true trivial e4 | exact k4 | rfl | exact trivial | refine And.intro ?_ ?_)) ?_
  conv => whnf
  refine And.intro (by first | exact Nat.le_of_ble_eq_true rfl | exact ⟨Nat.le_of_ble_eq_true rfl, rfl⟩ | exact rfl | decide | (simp [allP]; done)) ?_
  conv => whnf
  refine And.intro (by first | exact Nat.le_of_ble_eq_true rfl | exact ⟨Nat.le_of_ble_eq_true rfl, rfl⟩ | exact rfl | decide | (simp [allP]; done)) ?_
  conv => whnf
  by_cases e5 : a.2.2.2.2.2.1 = b.2.2.2.2.2.1
  rotate_left
  · rw [show ((a.2.2.2.2.2.1.1.data.toList == b.2.2.2.2.2.1.1.data.toList) && ((a.2.2.2.2.2.1.2 == b.2.2.2.2.2.1.2) && true)) = false from (Bool.eq_false_iff.2 fun q => e5 (eqS55 _ _ q))]
    conv => whnf
    rw [ffOf hg fun e => e5 (by rw [e])]
    first | done | rfl | (and_intros <;> rfl)
  rw [show ((a.2.2.2.2.2.1.1.data.toList == b.2.2.2.2.2.1.1.data.toList) && ((a.2.2.2.2.2.1.2 == b.2.2.2.2.2.1.2) && true)) = true from (by rw [e5]; simp)]
  conv => whnf
  by_cases e6 : a.2.2.2.2.2.2.1 = b.2.2.2.2.2.2.1
  rotate_left
  · rw [show (a.2.2.2.2.2.2.1 == b.2.2.2.2.2.2.1) = false from (by rw [beq_eq_false_iff_ne]; exact e6)]
    conv => whnf
    rw [ffOf hg fun e => e6 (by rw [e])]
    first | done | rfl | (and_intros <;> rfl)
  rw [show (a.2.2.2.2.2.2.1 == b.2.2.2.2.2.2.1) = true from (by rw [e6]; simp)]
  conv => whnf
  by_cases e7 : a.2.2.2.2.2.2.2.1 = b.2.2.2.2.2.2.2.1
  rotate_left
  · rw [show (a.2.2.2.2.2.2.2.1 == b.2.2.2.2.2.2.2.1) = false from (by rw [beq_eq_false_iff_ne]; exact e7)]
    conv => whnf
    rw [ffOf hg fun e => e7 (by rw [e])]
    first | done | rfl | (and_intros <;> rfl)
  rw [show (a.2.2.2.2.2.2.2.1 == b.2.2.2.2.2.2.2.1) = true from (by rw [e7]; simp)]
  conv => whnf
  by_cases e8 : a.2.2.2.2.2.2.2.2.1 = b.2.2.2.2.2.2.2.2.1
  rotate_left
  · rw [show (a.2.2.2.2.2.2.2.2.1 == b.2.2.2.2.2.2.2.2.1) = false from (by rw [beq_eq_false_iff_ne]; exact e8)]
    conv => whnf
    rw [ffOf hg fun e => e8 (by rw [e])]
    first | done | rfl | (and_intros <;> rfl)
  rw [show (a.2.2.2.2.2.2.2.2.1 == b.2.2.2.2.2.2.2.2.1) = true from (by rw [e8]; simp)]
  conv => whnf
  by_cases e9 : a.2.2.2.2.2.2.2.2.2 = b.2.2.2.2.2.2.2.2.2
  rotate_left
  · rw [show (a.2.2.2.2.2.2.2.2.2 == b.2.2.2.2.2.2.2.2.2) = false from (by rw [beq_eq_false_iff_ne]; exact e9)]
    conv => whnf
    rw [ffOf hg fun e => e9 (by rw [e])]
    first | done | rfl | (and_intros <;> rfl)
  rw [show (a.2.2.2.2.2.2.2.2.2 == b.2.2.2.2.2.2.2.2.2) = true from (by rw [e9]; simp)]
  conv => whnf
  have hab : a = b := by
    obtain ⟨a0, a1, a2, a3, a4, a5, a6, a7, a8, a9⟩ := a
    obtain ⟨b0, b1, b2, b3, b4, b5, b6, b7, b8, b9⟩ := b
    simp only at e0 e1 e2 e3 e4 e5 e6 e7 e8 e9
    subst e0 e1 e2 e3 e4 e5 e6 e7 e8 e9
    rfl
  rw [hg.2 hab]
  first | done | rfl | (and_intros <;> rfl)
theorem LSameMetaCommand_sound : Sound Tryz.prog 21 cLSameMetaCommand := does_sound mixed tabOk_prog gSm8_ok Tryz.func21 LSameMetaCommand_does
def gSm9 : List (FuncId × Ctr) := (21, cLSameMetaCommand) :: gSm8
theorem gSm9_ok : GamOk Tryz.prog gSm9 := GamOk.cons gSm8_ok Tryz.func21 (by kernel_rfl) (by kernel_rfl) LSameMetaCommand_sound
abbrev cKSameMetaAnswer : Ctr := ⟨Bool × S70 × S70, 0, fun (g, a, b) => [.agg ((pv70 a).map avOf), .agg ((pv70 b).map avOf)], fun _ => [], fun (g, a, b) => (g = true ↔ a = b) ∧ (ok70 a), fun (g, a, b) => isB g, fun _ => []⟩
theorem KSameMetaAnswer_does : Does gSm9 tab Tryz.f73 cKSameMetaAnswer := by
  rintro ⟨g, a, b⟩ ⟨hg, hk⟩
  obtain ⟨k0, k1, k2, k3, k4, k5⟩ := hk
  conv => whnf
  by_cases e0 : a.1 = b.1
  rotate_left
  · rw [show (a.1 == b.1) = false from (by rw [beq_eq_false_iff_ne]; exact e0)]
    conv => whnf
    rw [ffOf hg fun e => e0 (by rw [e])]
    first | done | rfl | (and_intros <;> rfl)
  rw [show (a.1 == b.1) = true from (by rw [e0]; simp)]
  conv => whnf
  by_cases e1 : a.2.1 = b.2.1
  rotate_left
  · rw [show (a.2.1 == b.2.1) = false from (by rw [beq_eq_false_iff_ne]; exact e1)]
    conv => whnf
    rw [ffOf hg fun e => e1 (by rw [e])]
    first | done | rfl | (and_intros <;> rfl)
  rw [show (a.2.1 == b.2.1) = true from (by rw [e1]; simp)]
  conv => whnf
  by_cases e2 : a.2.2.1 = b.2.2.1
  rotate_left
  · rw [show (a.2.2.1 == b.2.2.1) = false from (by rw [beq_eq_false_iff_ne]; exact e2)]
    conv => whnf
    rw [ffOf hg fun e => e2 (by rw [e])]
    first | done | rfl | (and_intros <;> rfl)
  rw [show (a.2.2.1 == b.2.2.1) = true from (by rw [e2]; simp)]
  conv => whnf
  by_cases e3 : a.2.2.2.1 = b.2.2.2.1
  rotate_left
  · rw [show (a.2.2.2.1 == b.2.2.2.1) = false from (by rw [beq_eq_false_iff_ne]; exact e3)]
    conv => whnf
    rw [ffOf hg fun e => e3 (by rw [e])]
    first | done | rfl | (and_intros <;> rfl)
  rw [show (a.2.2.2.1 == b.2.2.2.1) = true from (by rw [e3]; simp)]
  conv => whnf
  by_cases e4 : a.2.2.2.2.1 = b.2.2.2.2.1
  rotate_left
  · rw [show ((a.2.2.2.2.1.toNat : Int) == (b.2.2.2.2.1.toNat : Int)) = false from (by rw [beq_eq_false_iff_ne]; intro e; exact e4 (UInt8.toNat_inj.1 (by omega)))]
    conv => whnf
    rw [ffOf hg fun e => e4 (by rw [e])]
    first | done | rfl | (and_intros <;> rfl)
  rw [show ((a.2.2.2.2.1.toNat : Int) == (b.2.2.2.2.1.toNat : Int)) = true from (by rw [e4]; simp)]
  conv => whnf
  by_cases e5 : a.2.2.2.2.2 = b.2.2.2.2.2
  rotate_left
  · refine ⟨(false, a.2.2.2.2.2, b.2.2.2.2.2), ?_⟩
    conv => whnf
    refine And.intro (by simp only [allP, List.nil_append, List.cons_append, true_and]; repeat' (first | exact iff_of_false Bool.false_ne_true e5 | exact iff_of_false id e5 | exact k5 | rfl | exact trivial | refine And.intro ?_ ?_)) ?_
    conv => whnf
    rw [ffOf hg fun e => e5 (by rw [e])]
    first | done | rfl | (and_intros <;> rfl)
  refine ⟨(true, a.2.2.2.2.2, b.2.2.2.2.2), ?_⟩
  conv => whnf
  refine And.intro (by simp only [allP, List.nil_append, List.cons_append, true_and]; repeat' (first | exact iff_of_true rfl e5 | exact iff_of_true trivial e5 | exact k5 | rfl | exact trivial | refine And.intro ?_ ?_)) ?_
  conv => whnf
  have hab : a = b := by
    obtain ⟨a0, a1, a2, a3, a4, a5⟩ := a
    obtain ⟨b0, b1, b2, b3, b4, b5⟩ := b
    simp only at e0 e1 e2 e3 e4 e5
    subst e0 e1 e2 e3 e4 e5
    rfl
  rw [hg.2 hab]
  first | done | rfl | (and_intros <;> rfl)
theorem KSameMetaAnswer_sound : Sound Tryz.prog 73 cKSameMetaAnswer := does_sound mixed tabOk_prog gSm9_ok Tryz.func73 KSameMetaAnswer_does
def gSm10 : List (FuncId × Ctr) := (73, cKSameMetaAnswer) :: gSm9
theorem gSm10_ok : GamOk Tryz.prog gSm10 := GamOk.cons gSm9_ok Tryz.func73 (by kernel_rfl) (by kernel_rfl) KSameMetaAnswer_sound
end Go.Proofs.YtingmlhhabaplaaGreat.Ev
