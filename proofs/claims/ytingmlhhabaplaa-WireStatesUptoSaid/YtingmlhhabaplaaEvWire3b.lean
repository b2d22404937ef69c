/- Wire: what the document puts together: meta. No conditions. -/
import Derived.Test.YtingmlhhabaplaaEvWire3a
namespace Go.Proofs.Ytingmlhhabaplaa.Ev
open Go
set_option linter.unusedVariables false
set_option linter.unusedSimpArgs false
set_option maxRecDepth 100000
set_option maxHeartbeats 4000000
abbrev cRmeta : Ctr := cR en33 (fun x : S33 => .agg ((pv33 x).map avOf)) ok33
theorem Rmeta_does : Does gQ6 tab Try.f36 cRmeta := by
  rintro ⟨b, x⟩ ⟨hx, h3⟩
  obtain ⟨k0, k1, k2, k3, k4, k5, k6, k7, k8, k9⟩ := hx
  (set_option smartUnfolding false in conv => whnf)
  rw [kind_w x.1]
  refine ⟨(b, ((x.1).toNat : Int)), ?_⟩
  conv => whnf
  refine And.intro (by simp only [allP, List.nil_append, List.cons_append, true_and]; repeat' (first | assumption | rfl | trivial | exact kind_r _ | (simp only [en33, nuB_vE, List.length_append, List.length_cons, List.length_nil] at h3 ⊢; omega) | refine And.intro ?_ ?_ | omega)) ?_
  (set_option smartUnfolding false in conv => whnf)
  refine ⟨((b ++ nuB ((x.1).toNat : Int)), x.2.1), ?_⟩
  conv => whnf
  refine And.intro (by simp only [allP, List.nil_append, List.cons_append, true_and]; repeat' (first | assumption | rfl | trivial | (apply int_r; assumption) | exact k1.1 | exact k1.2.2 | (intros; trivial) | (simp only [en33, nuB_vE, List.length_append, List.length_cons, List.length_nil] at h3 ⊢; omega) | refine And.intro ?_ ?_ | omega)) ?_
  (set_option smartUnfolding false in conv => whnf)
  refine ⟨(((b ++ nuB ((x.1).toNat : Int)) ++ txB x.2.1), x.2.2.1), ?_⟩
  conv => whnf
  refine And.intro (by simp only [allP, List.nil_append, List.cons_append, true_and]; repeat' (first | assumption | rfl | trivial | (apply int_r; assumption) | exact k2.1 | exact k2.2.2 | (intros; trivial) | (simp only [en33, nuB_vE, List.length_append, List.length_cons, List.length_nil] at h3 ⊢; omega) | refine And.intro ?_ ?_ | omega)) ?_
  (set_option smartUnfolding false in conv => whnf)
  refine ⟨((((b ++ nuB ((x.1).toNat : Int)) ++ txB x.2.1) ++ txB x.2.2.1), x.2.2.2.1), ?_⟩
  conv => whnf
  refine And.intro (by simp only [allP, List.nil_append, List.cons_append, true_and]; repeat' (first | assumption | rfl | trivial | (apply int_r; assumption) | exact k3.1 | exact k3.2.2 | (intros; trivial) | (simp only [en33, nuB_vE, List.length_append, List.length_cons, List.length_nil] at h3 ⊢; omega) | refine And.intro ?_ ?_ | omega)) ?_
  (set_option smartUnfolding false in conv => whnf)
  refine ⟨(((((b ++ nuB ((x.1).toNat : Int)) ++ txB x.2.1) ++ txB x.2.2.1) ++ nuB x.2.2.2.1), x.2.2.2.2.1), ?_⟩
  conv => whnf
  refine And.intro (by simp only [allP, List.nil_append, List.cons_append, true_and]; repeat' (first | assumption | rfl | trivial | (apply int_r; assumption) | exact k4.1 | exact k4.2.2 | (intros; trivial) | (simp only [en33, nuB_vE, List.length_append, List.length_cons, List.length_nil] at h3 ⊢; omega) | refine And.intro ?_ ?_ | omega)) ?_
  (set_option smartUnfolding false in conv => whnf)
  refine ⟨by rfl, ?_⟩
  (set_option smartUnfolding false in conv => whnf)
  refine And.intro (by first | exact Nat.le_of_ble_eq_true rfl | exact ⟨Nat.le_of_ble_eq_true rfl, rfl⟩ | exact rfl | decide | (simp [allP]; done)) ?_
  (set_option smartUnfolding false in conv => whnf)
  refine ⟨((((((b ++ nuB ((x.1).toNat : Int)) ++ txB x.2.1) ++ txB x.2.2.1) ++ nuB x.2.2.2.1) ++ lsB txB x.2.2.2.2.1), x.2.2.2.2.2.1), ?_⟩
  conv => whnf
  refine And.intro (by simp only [allP, List.nil_append, List.cons_append, true_and]; repeat' (first | assumption | rfl | trivial | (apply int_r; assumption) | exact k5.1 | exact k5.2.2 | (intros; trivial) | (simp only [en33, nuB_vE, List.length_append, List.length_cons, List.length_nil] at h3 ⊢; omega) | refine And.intro ?_ ?_ | omega)) ?_
  (set_option smartUnfolding false in conv => whnf)
  refine ⟨(((((((b ++ nuB ((x.1).toNat : Int)) ++ txB x.2.1) ++ txB x.2.2.1) ++ nuB x.2.2.2.1) ++ lsB txB x.2.2.2.2.1) ++ en31 x.2.2.2.2.2.1), x.2.2.2.2.2.2.1), ?_⟩
  conv => whnf
  refine And.intro (by simp only [allP, List.nil_append, List.cons_append, true_and]; repeat' (first | assumption | rfl | trivial | (apply int_r; assumption) | exact k6.1 | exact k6.2.2 | (intros; trivial) | (simp only [en33, nuB_vE, List.length_append, List.length_cons, List.length_nil] at h3 ⊢; omega) | refine And.intro ?_ ?_ | omega)) ?_
  (set_option smartUnfolding false in conv => whnf)
  refine ⟨((((((((b ++ nuB ((x.1).toNat : Int)) ++ txB x.2.1) ++ txB x.2.2.1) ++ nuB x.2.2.2.1) ++ lsB txB x.2.2.2.2.1) ++ en31 x.2.2.2.2.2.1) ++ nuB x.2.2.2.2.2.2.1), x.2.2.2.2.2.2.2.1), ?_⟩
  conv => whnf
  refine And.intro (by simp only [allP, List.nil_append, List.cons_append, true_and]; repeat' (first | assumption | rfl | trivial | (apply int_r; assumption) | exact k7.1 | exact k7.2.2 | (intros; trivial) | (simp only [en33, nuB_vE, List.length_append, List.length_cons, List.length_nil] at h3 ⊢; omega) | refine And.intro ?_ ?_ | omega)) ?_
  (set_option smartUnfolding false in conv => whnf)
  refine ⟨(((((((((b ++ nuB ((x.1).toNat : Int)) ++ txB x.2.1) ++ txB x.2.2.1) ++ nuB x.2.2.2.1) ++ lsB txB x.2.2.2.2.1) ++ en31 x.2.2.2.2.2.1) ++ nuB x.2.2.2.2.2.2.1) ++ nuB x.2.2.2.2.2.2.2.1), x.2.2.2.2.2.2.2.2.1), ?_⟩
  conv => whnf
  refine And.intro (by simp only [allP, List.nil_append, List.cons_append, true_and]; repeat' (first | assumption | rfl | trivial | (apply int_r; assumption) | exact k8.1 | exact k8.2.2 | (intros; trivial) | (simp only [en33, nuB_vE, List.length_append, List.length_cons, List.length_nil] at h3 ⊢; omega) | refine And.intro ?_ ?_ | omega)) ?_
  (set_option smartUnfolding false in conv => whnf)
  refine ⟨((((((((((b ++ nuB ((x.1).toNat : Int)) ++ txB x.2.1) ++ txB x.2.2.1) ++ nuB x.2.2.2.1) ++ lsB txB x.2.2.2.2.1) ++ en31 x.2.2.2.2.2.1) ++ nuB x.2.2.2.2.2.2.1) ++ nuB x.2.2.2.2.2.2.2.1) ++ nuB x.2.2.2.2.2.2.2.2.1), x.2.2.2.2.2.2.2.2.2), ?_⟩
  conv => whnf
  refine And.intro (by simp only [allP, List.nil_append, List.cons_append, true_and]; repeat' (first | assumption | rfl | trivial | (apply int_r; assumption) | exact k9.1 | exact k9.2.2 | (intros; trivial) | (simp only [en33, nuB_vE, List.length_append, List.length_cons, List.length_nil] at h3 ⊢; omega) | refine And.intro ?_ ?_ | omega)) ?_
  (set_option smartUnfolding false in conv => whnf)
  refine ⟨by rfl, ?_⟩
  (set_option smartUnfolding false in conv => whnf)
  rw [show b ++ en33 x = ((((((((((b ++ nuB ((x.1).toNat : Int)) ++ txB x.2.1) ++ txB x.2.2.1) ++ nuB x.2.2.2.1) ++ lsB txB x.2.2.2.2.1) ++ en31 x.2.2.2.2.2.1) ++ nuB x.2.2.2.2.2.2.1) ++ nuB x.2.2.2.2.2.2.2.1) ++ nuB x.2.2.2.2.2.2.2.2.1) ++ nuB x.2.2.2.2.2.2.2.2.2) from by simp only [en33, List.append_assoc]]
  first | done | (and_intros <;> rfl)
theorem Rmeta_sound : Sound Try.prog 36 cRmeta := does_sound mixed tabOk_prog gQ6_ok Try.func36 Rmeta_does
def gQ7 : List (FuncId × Ctr) := (36, cRmeta) :: gQ6
theorem gQ7_ok : GamOk Try.prog gQ7 := GamOk.cons gQ6_ok Try.func36 (by kernel_rfl) (by kernel_rfl) Rmeta_sound
abbrev cDPart : Ctr := cDoc 1 en27 (fun x : S27 => .agg ((pv27 x).map avOf)) ok27
theorem DPart_does : Does gQ7 tab Try.f10 cDPart := by
  rintro x ⟨hx, h3⟩
  obtain ⟨k0, k1, k2⟩ := hx
  (set_option smartUnfolding false in conv => whnf)
  rw [kind_w x.1]
  refine ⟨([1], ((x.1).toNat : Int)), ?_⟩
  conv => whnf
  refine And.intro (by simp only [allP, List.nil_append, List.cons_append, true_and]; repeat' (first | assumption | rfl | trivial | exact kind_r _ | (simp only [en27, nuB_vE, List.length_append, List.length_cons, List.length_nil] at h3 ⊢; omega) | refine And.intro ?_ ?_ | omega)) ?_
  (set_option smartUnfolding false in conv => whnf)
  refine And.intro (by first | exact Nat.le_of_ble_eq_true rfl | exact ⟨Nat.le_of_ble_eq_true rfl, rfl⟩ | exact rfl | decide | (simp [allP]; done)) ?_
  (set_option smartUnfolding false in conv => whnf)
  refine ⟨(([1] ++ nuB ((x.1).toNat : Int)), x.2.1), ?_⟩
  conv => whnf
  refine And.intro (by simp only [allP, List.nil_append, List.cons_append, true_and]; repeat' (first | assumption | rfl | trivial | (apply int_r; assumption) | exact k1.1 | exact k1.2.2 | (intros; trivial) | (simp only [en27, nuB_vE, List.length_append, List.length_cons, List.length_nil] at h3 ⊢; omega) | refine And.intro ?_ ?_ | omega)) ?_
  (set_option smartUnfolding false in conv => whnf)
  refine ⟨((([1] ++ nuB ((x.1).toNat : Int)) ++ en25 x.2.1), x.2.2), ?_⟩
  conv => whnf
  refine And.intro (by simp only [allP, List.nil_append, List.cons_append, true_and]; repeat' (first | assumption | rfl | trivial | (apply int_r; assumption) | exact k2.1 | exact k2.2.2 | (intros; trivial) | (simp only [en27, nuB_vE, List.length_append, List.length_cons, List.length_nil] at h3 ⊢; omega) | refine And.intro ?_ ?_ | omega)) ?_
  (set_option smartUnfolding false in conv => whnf)
  refine ⟨by rfl, ?_⟩
  (set_option smartUnfolding false in conv => whnf)
  rw [show (1 :: en27 x) = ((([1] ++ nuB ((x.1).toNat : Int)) ++ en25 x.2.1) ++ nuB x.2.2) from by simp only [en27, List.append_assoc]; rfl]
  first | done | (and_intros <;> rfl)
theorem DPart_sound : Sound Try.prog 10 cDPart := does_sound mixed tabOk_prog gQ7_ok Try.func10 DPart_does
def gQ8 : List (FuncId × Ctr) := (10, cDPart) :: gQ7
theorem gQ8_ok : GamOk Try.prog gQ8 := GamOk.cons gQ7_ok Try.func10 (by kernel_rfl) (by kernel_rfl) DPart_sound
abbrev cDMeta : Ctr := cDoc 2 en33 (fun x : S33 => .agg ((pv33 x).map avOf)) ok33
theorem DMeta_does : Does gQ8 tab Try.f12 cDMeta := by
  rintro x ⟨hx, h3⟩
  (set_option smartUnfolding false in conv => whnf)
  refine And.intro (by first | exact Nat.le_of_ble_eq_true rfl | exact ⟨Nat.le_of_ble_eq_true rfl, rfl⟩ | exact rfl | decide | (simp [allP]; done)) ?_
  (set_option smartUnfolding false in conv => whnf)
  refine ⟨([2], x), ?_⟩
  conv => whnf
  refine And.intro (by simp only [allP, List.nil_append, List.cons_append, true_and]; repeat' (first | assumption | rfl | trivial | (simp only [List.length_cons, List.length_nil]; omega) | refine And.intro ?_ ?_ | omega)) ?_
  (set_option smartUnfolding false in conv => whnf)
  first | done | (and_intros <;> rfl)
theorem DMeta_sound : Sound Try.prog 12 cDMeta := does_sound mixed tabOk_prog gQ8_ok Try.func12 DMeta_does
def gQ9 : List (FuncId × Ctr) := (12, cDMeta) :: gQ8
theorem gQ9_ok : GamOk Try.prog gQ9 := GamOk.cons gQ8_ok Try.func12 (by kernel_rfl) (by kernel_rfl) DMeta_sound
end Go.Proofs.Ytingmlhhabaplaa.Ev
