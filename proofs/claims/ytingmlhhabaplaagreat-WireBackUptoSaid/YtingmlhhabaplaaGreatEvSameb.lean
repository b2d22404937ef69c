/- Two things, the same? requests, responses. No conditions. -/
import Derived.Test.YtingmlhhabaplaaGreatEvSamea
namespace Go.Proofs.YtingmlhhabaplaaGreat.Ev
open Go
set_option linter.unusedVariables false
set_option linter.unusedSimpArgs false
set_option maxRecDepth 100000
set_option maxHeartbeats 4000000
abbrev cLSameRequest : Ctr := ⟨Bool × S63 × S63, 0, fun (g, a, b) => [.agg ((pv63 a).map avOf), .agg ((pv63 b).map avOf)], fun _ => [], fun (g, a, b) => (g = true ↔ a = b) ∧ (ok63 a), fun (g, a, b) => isB g, fun _ => []⟩
theorem LSameRequest_does : Does gSm10 tab Tryz.f24 cLSameRequest := by
  rintro ⟨g, a, b⟩ ⟨hg, hk⟩
  obtain ⟨k0, k1, k2, k3, k4, k5, k6, k7, k8, k9⟩ := hk
  conv => whnf
  by_cases e0 : a.1 = b.1
  rotate_left
  · rw [show ((a.1.toNat : Int) == (b.1.toNat : Int)) = false from (by rw [beq_eq_false_iff_ne]; intro e; exact e0 (UInt8.toNat_inj.1 (by omega)))]
    conv => whnf
    rw [ffOf hg fun e => e0 (by rw [e])]
    first | done | rfl | (and_intros <;> rfl)
  rw [show ((a.1.toNat : Int) == (b.1.toNat : Int)) = true from (by rw [e0]; simp)]
  conv => whnf
  by_cases e1 : a.2.1 = b.2.1
  rotate_left
  · rw [show (a.2.1 == b.2.1) = false from (by rw [beq_eq_false_iff_ne]; exact e1)]
    conv => whnf
    rw [ffOf hg fun e => e1 (by rw [e])]
    first | done | rfl | (and_intros <;> rfl)
  rw [show (a.2.1 == b.2.1) = true from (by rw [e1]; simp)]
  conv => whnf
  by_cases e2 : a.2.2.1 = b.2.2.1
  rotate_left
  · rw [show (a.2.2.1 == b.2.2.1) = false from (by rw [beq_eq_false_iff_ne]; exact e2)]
    conv => whnf
    rw [ffOf hg fun e => e2 (by rw [e])]
    first | done | rfl | (and_intros <;> rfl)
  rw [show (a.2.2.1 == b.2.2.1) = true from (by rw [e2]; simp)]
  conv => whnf
  by_cases e3 : a.2.2.2.1 = b.2.2.2.1
  rotate_left
  · rw [show (a.2.2.2.1.data.toList == b.2.2.2.1.data.toList) = false from (by rw [beq_eq_false_iff_ne]; intro e; exact e3 (strNe e))]
    conv => whnf
    rw [ffOf hg fun e => e3 (by rw [e])]
    first | done | rfl | (and_intros <;> rfl)
  rw [show (a.2.2.2.1.data.toList == b.2.2.2.1.data.toList) = true from (by rw [e3]; simp)]
  conv => whnf
  by_cases e4 : a.2.2.2.2.1 = b.2.2.2.2.1
  rotate_left
  · rw [show (a.2.2.2.2.1 == b.2.2.2.2.1) = false from (by rw [beq_eq_false_iff_ne]; exact e4)]
    conv => whnf
    rw [ffOf hg fun e => e4 (by rw [e])]
    first | done | rfl | (and_intros <;> rfl)
  rw [show (a.2.2.2.2.1 == b.2.2.2.2.1) = true from (by rw [e4]; simp)]
  conv => whnf
  refine dI (k := ?_)
  conv => whnf
  refine dI (k := ?_)
  conv => whnf
  by_cases e5 : a.2.2.2.2.2.1 = b.2.2.2.2.2.1
  rotate_left
  · refine ⟨(false, a.2.2.2.2.2.1, b.2.2.2.2.2.1), ?_⟩
    conv => whnf
    refine And.intro (by simp only [allP, List.nil_append, List.cons_append, true_and]; repeat' (first | exact iff_of_false Bool.false_ne_true e5 | exact iff_of_false id e5 | exact k5 | rfl | exact trivial | refine And.intro ?_ ?_)) ?_
    conv => whnf
    rw [ffOf hg fun e => e5 (by rw [e])]
    first | done | rfl | (and_intros <;> rfl)
  refine ⟨(true, a.2.2.2.2.2.1, b.2.2.2.2.2.1), ?_⟩
  conv => whnf
  refine And.intro (by simp only [allP, List.nil_append, List.cons_append, true_and]; repeat' (first | exact iff_of_true rfl e5 | exact iff_of_true trivial e5 | exact k5 | rfl | exact trivial | refine And.intro ?_ ?_)) ?_
  conv => whnf
  by_cases e6 : a.2.2.2.2.2.2.1 = b.2.2.2.2.2.2.1
  rotate_left
  · rw [show (a.2.2.2.2.2.2.1 == b.2.2.2.2.2.2.1) = false from (by rw [beq_eq_false_iff_ne]; exact e6)]
    conv => whnf
    rw [ffOf hg fun e => e6 (by rw [e])]
    first | done | rfl | (and_intros <;> rfl)
  rw [show (a.2.2.2.2.2.2.1 == b.2.2.2.2.2.2.1) = true from (by rw [e6]; simp)]
  conv => whnf
  by_cases e7 : a.2.2.2.2.2.2.2.1 = b.2.2.2.2.2.2.2.1
  rotate_left
  · rw [show (a.2.2.2.2.2.2.2.1 == b.2.2.2.2.2.2.2.1) = false from (by rw [beq_eq_false_iff_ne]; exact e7)]
    conv => whnf
    rw [ffOf hg fun e => e7 (by rw [e])]
    first | done | rfl | (and_intros <;> rfl)
  rw [show (a.2.2.2.2.2.2.2.1 == b.2.2.2.2.2.2.2.1) = true from (by rw [e7]; simp)]
  conv => whnf
  by_cases e8 : a.2.2.2.2.2.2.2.2.1 = b.2.2.2.2.2.2.2.2.1
  rotate_left
  · rw [show (a.2.2.2.2.2.2.2.2.1 == b.2.2.2.2.2.2.2.2.1) = false from (by rw [beq_eq_false_iff_ne]; exact e8)]
    conv => whnf
    rw [ffOf hg fun e => e8 (by rw [e])]
    first | done | rfl | (and_intros <;> rfl)
  rw [show (a.2.2.2.2.2.2.2.2.1 == b.2.2.2.2.2.2.2.2.1) = true from (by rw [e8]; simp)]
  conv => whnf
  refine dI (k := ?_)
  conv => whnf
  refine dI (k := ?_)
  conv => whnf
  by_cases e9 : a.2.2.2.2.2.2.2.2.2 = b.2.2.2.2.2.2.2.2.2
  rotate_left
  · refine ⟨(false, a.2.2.2.2.2.2.2.2.2, b.2.2.2.2.2.2.2.2.2), ?_⟩
    conv => whnf
    refine And.intro (by simp only [allP, List.nil_append, List.cons_append, true_and]; repeat' (first | exact iff_of_false Bool.false_ne_true e9 | exact iff_of_false id e9 | exact k9 | rfl | exact trivial | refine And.intro ?_ ?_)) ?_
    conv => whnf
    rw [ffOf hg fun e => e9 (by rw [e])]
    first | done | rfl | (and_intros <;> rfl)
  refine ⟨(true, a.2.2.2.2.2.2.2.2.2, b.2.2.2.2.2.2.2.2.2), ?_⟩
  conv => whnf
  refine And.intro (by simp only [allP, List.nil_append, List.cons_append, true_and]; repeat' (first | exact iff_of_true rfl e9 | exact iff_of_true trivial e9 | exact k9 | rfl | exact trivial | refine And.intro ?_ ?_)) ?_
  conv => whnf
  have hab : a = b := by
    obtain ⟨a0, a1, a2, a3, a4, a5, a6, a7, a8, a9⟩ := a
    obtain ⟨b0, b1, b2, b3, b4, b5, b6, b7, b8, b9⟩ := b
    simp only at e0 e1 e2 e3 e4 e5 e6 e7 e8 e9
    subst e0 e1 e2 e3 e4 e5 e6 e7 e8 e9
    rfl
  rw [hg.2 hab]
  first | done | rfl | (and_intros <;> rfl)
theorem LSameRequest_sound : Sound Tryz.prog 24 cLSameRequest := does_sound mixed tabOk_prog gSm10_ok Tryz.func24 LSameRequest_does
def gSm11 : List (FuncId × Ctr) := (24, cLSameRequest) :: gSm10
theorem gSm11_ok : GamOk Tryz.prog gSm11 := GamOk.cons gSm10_ok Tryz.func24 (by kernel_rfl) (by kernel_rfl) LSameRequest_sound
abbrev cLSameResponse : Ctr := ⟨Bool × S72 × S72, 0, fun (g, a, b) => [.agg ((pv72 a).map avOf), .agg ((pv72 b).map avOf)], fun _ => [], fun (g, a, b) => (g = true ↔ a = b) ∧ (ok72 a), fun (g, a, b) => isB g, fun _ => []⟩
theorem LSameResponse_does : Does gSm11 tab Tryz.f27 cLSameResponse := by
  rintro ⟨g, a, b⟩ ⟨hg, hk⟩
  obtain ⟨k0, k1, k2, k3, k4, k5, k6, k7, k8, k9, k10⟩ := hk
  conv => whnf
  by_cases e0 : a.1 = b.1
  rotate_left
  · rw [show ((a.1.toNat : Int) == (b.1.toNat : Int)) = false from (by rw [beq_eq_false_iff_ne]; intro e; exact e0 (UInt8.toNat_inj.1 (by omega)))]
    conv => whnf
    rw [ffOf hg fun e => e0 (by rw [e])]
    first | done | rfl | (and_intros <;> rfl)
  rw [show ((a.1.toNat : Int) == (b.1.toNat : Int)) = true from (by rw [e0]; simp)]
  conv => whnf
  by_cases e1 : a.2.1 = b.2.1
  rotate_left
  · rw [show (a.2.1 == b.2.1) = false from (by rw [beq_eq_false_iff_ne]; exact e1)]
    conv => whnf
    rw [ffOf hg fun e => e1 (by rw [e])]
    first | done | rfl | (and_intros <;> rfl)
  rw [show (a.2.1 == b.2.1) = true from (by rw [e1]; simp)]
  conv => whnf
  by_cases e2 : a.2.2.1 = b.2.2.1
  rotate_left
  · rw [show (a.2.2.1 == b.2.2.1) = false from (by rw [beq_eq_false_iff_ne]; exact e2)]
    conv => whnf
    rw [ffOf hg fun e => e2 (by rw [e])]
    first | done | rfl | (and_intros <;> rfl)
  rw [show (a.2.2.1 == b.2.2.1) = true from (by rw [e2]; simp)]
  conv => whnf
  by_cases e3 : a.2.2.2.1 = b.2.2.2.1
  rotate_left
  · rw [show (a.2.2.2.1 == b.2.2.2.1) = false from (by rw [beq_eq_false_iff_ne]; exact e3)]
    conv => whnf
    rw [ffOf hg fun e => e3 (by rw [e])]
    first | done | rfl | (and_intros <;> rfl)
  rw [show (a.2.2.2.1 == b.2.2.2.1) = true from (by rw [e3]; simp)]
  conv => whnf
  by_cases e4 : a.2.2.2.2.1 = b.2.2.2.2.1
  rotate_left
  · rw [show (a.2.2.2.2.1 == b.2.2.2.2.1) = false from (by rw [beq_eq_false_iff_ne]; exact e4)]
    conv => whnf
    rw [ffOf hg fun e => e4 (by rw [e])]
    first | done | rfl | (and_intros <;> rfl)
  rw [show (a.2.2.2.2.1 == b.2.2.2.2.1) = true from (by rw [e4]; simp)]
  conv => whnf
  by_cases e5 : a.2.2.2.2.2.1 = b.2.2.2.2.2.1
  rotate_left
  · rw [show (a.2.2.2.2.2.1 == b.2.2.2.2.2.1) = false from (by rw [beq_eq_false_iff_ne]; exact e5)]
    conv => whnf
    rw [ffOf hg fun e => e5 (by rw [e])]
    first | done | rfl | (and_intros <;> rfl)
  rw [show (a.2.2.2.2.2.1 == b.2.2.2.2.2.1) = true from (by rw [e5]; simp)]
  conv => whnf
  by_cases e6 : a.2.2.2.2.2.2.1 = b.2.2.2.2.2.2.1
  rotate_left
  · rw [show (a.2.2.2.2.2.2.1 == b.2.2.2.2.2.2.1) = false from (by rw [beq_eq_false_iff_ne]; exact e6)]
    conv => whnf
    rw [ffOf hg fun e => e6 (by rw [e])]
    first | done | rfl | (and_intros <;> rfl)
  rw [show (a.2.2.2.2.2.2.1 == b.2.2.2.2.2.2.1) = true from (by rw [e6]; simp)]
  conv => whnf
  by_cases e7 : a.2.2.2.2.2.2.2.1 = b.2.2.2.2.2.2.2.1
  rotate_left
  · rw [show (a.2.2.2.2.2.2.2.1 == b.2.2.2.2.2.2.2.1) = false from (by rw [beq_eq_false_iff_ne]; exact e7)]
    conv => whnf
    rw [ffOf hg fun e => e7 (by rw [e])]
    first | done | rfl | (and_intros <;> rfl)
  rw [show (a.2.2.2.2.2.2.2.1 == b.2.2.2.2.2.2.2.1) = true from (by rw [e7]; simp)]
  conv => whnf
  by_cases e8 : a.2.2.2.2.2.2.2.2.1 = b.2.2.2.2.2.2.2.2.1
  rotate_left
  · rw [show (a.2.2.2.2.2.2.2.2.1 == b.2.2.2.2.2.2.2.2.1) = false from (by rw [beq_eq_false_iff_ne]; exact e8)]
    conv => whnf
    rw [ffOf hg fun e => e8 (by rw [e])]
    first | done | rfl | (and_intros <;> rfl)
  rw [show (a.2.2.2.2.2.2.2.2.1 == b.2.2.2.2.2.2.2.2.1) = true from (by rw [e8]; simp)]
  conv => whnf
  by_cases e9 : a.2.2.2.2.2.2.2.2.2.1 = b.2.2.2.2.2.2.2.2.2.1
  rotate_left
  · refine ⟨(false, a.2.2.2.2.2.2.2.2.2.1, b.2.2.2.2.2.2.2.2.2.1), ?_⟩
    conv => whnf
    refine And.intro (by simp only [allP, List.nil_append, List.cons_append, true_and]; repeat' (first | exact iff_of_false Bool.false_ne_true e9 | exact iff_of_false id e9 | exact k9 | rfl | exact trivial | refine And.intro ?_ ?_)) ?_
    conv => whnf
    rw [ffOf hg fun e => e9 (by rw [e])]
    first | done | rfl | (and_intros <;> rfl)
  refine ⟨(true, a.2.2.2.2.2.2.2.2.2.1, b.2.2.2.2.2.2.2.2.2.1), ?_⟩
  conv => whnf
  refine And.intro (by simp only [allP, List.nil_append, List.cons_append, true_and]; repeat' (first | exact iff_of_true rfl e9 | exact iff_of_true trivial e9 | exact k9 | rfl | exact trivial | refine And.intro ?_ ?_)) ?_
  conv => whnf
  refine dI (k := ?_)
  conv => whnf
  refine dI (k := ?_)
  conv => whnf
  by_cases e10 : a.2.2.2.2.2.2.2.2.2.2 = b.2.2.2.2.2.2.2.2.2.2
  rotate_left
  · refine ⟨(false, a.2.2.2.2.2.2.2.2.2.2, b.2.2.2.2.2.2.2.2.2.2), ?_⟩
    conv => whnf
    refine And.intro (by simp only [allP, List.nil_append, List.cons_append, true_and]; repeat' (first | exact iff_of_false Bool.false_ne_true e10 | exact iff_of_false id e10 | exact k10 | rfl | exact trivial | refine And.intro ?_ ?_)) ?_
    conv => whnf
    rw [ffOf hg fun e => e10 (by rw [e])]
    first | done | rfl | (and_intros <;> rfl)
  refine ⟨(true, a.2.2.2.2.2.2.2.2.2.2, b.2.2.2.2.2.2.2.2.2.2), ?_⟩
  conv => whnf
  refine And.intro (by simp only [allP, List.nil_append, List.cons_append, true_and]; repeat' (first | exact iff_of_true rfl e10 | exact iff_of_true trivial e10 | exact k10 | rfl | exact trivial | refine And.intro ?_ ?_)) ?_
  conv => whnf
  have hab : a = b := by
    obtain ⟨a0, a1, a2, a3, a4, a5, a6, a7, a8, a9, a10⟩ := a
    obtain ⟨b0, b1, b2, b3, b4, b5, b6, b7, b8, b9, b10⟩ := b
    simp only at e0 e1 e2 e3 e4 e5 e6 e7 e8 e9 e10
    subst e0 e1 e2 e3 e4 e5 e6 e7 e8 e9 e10
    rfl
  rw [hg.2 hab]
  first | done | rfl | (and_intros <;> rfl)
theorem LSameResponse_sound : Sound Tryz.prog 27 cLSameResponse := does_sound mixed tabOk_prog gSm11_ok Tryz.func27 LSameResponse_does
def gSm12 : List (FuncId × Ctr) := (27, cLSameResponse) :: gSm11
theorem gSm12_ok : GamOk Tryz.prog gSm12 := GamOk.cons gSm11_ok Tryz.func27 (by kernel_rfl) (by kernel_rfl) LSameResponse_sound
end Go.Proofs.YtingmlhhabaplaaGreat.Ev
