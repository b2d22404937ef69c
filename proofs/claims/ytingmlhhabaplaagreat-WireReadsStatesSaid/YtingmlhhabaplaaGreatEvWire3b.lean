/- Wire: what the document puts together: meta. No conditions. -/
import Derived.Test.YtingmlhhabaplaaGreatEvWire3a
namespace Go.Proofs.YtingmlhhabaplaaGreat.Ev
open Go
set_option linter.unusedVariables false
set_option linter.unusedSimpArgs false
set_option maxRecDepth 100000
set_option maxHeartbeats 4000000
abbrev cRmeta : Ctr := cR en57 (fun x : S57 => .agg ((pv57 x).map avOf)) ok57
theorem Rmeta_does : Does gQ6 tab Tryz.f120 cRmeta := by
  rintro ⟨b, x⟩ ⟨hx, h3⟩
  obtain ⟨k0, k1, k2, k3, k4, k5, k6, k7, k8, k9⟩ := hx
  (set_option smartUnfolding false in conv => whnf)
  rw [kind_w x.1]
  refine ⟨(b, ((x.1).toNat : Int)), ?_⟩
  conv => whnf
  refine And.intro (by simp only [allP, List.nil_append, List.cons_append, true_and]; repeat' (first | assumption | rfl | trivial | exact kind_r _ | (simp only [en57, nuB_vE, List.length_append, List.length_cons, List.length_nil] at h3 ⊢; omega) | refine And.intro ?_ ?_ | omega)) ?_
  (set_option smartUnfolding false in conv => whnf)
  refine ⟨((b ++ nuB ((x.1).toNat : Int)), x.2.1), ?_⟩
  conv => whnf
  refine And.intro (by simp only [allP, List.nil_append, List.cons_append, true_and]; repeat' (first | assumption | rfl | trivial | (apply int_r; assumption) | exact k1.1 | exact k1.2.2 | (intros; trivial) | (simp only [en57, nuB_vE, List.length_append, List.length_cons, List.length_nil] at h3 ⊢; omega) | refine And.intro ?_ ?_ | omega)) ?_
  (set_option smartUnfolding false in conv => whnf)
  refine ⟨(((b ++ nuB ((x.1).toNat : Int)) ++ txB x.2.1), x.2.2.1), ?_⟩
  conv => whnf
  refine And.intro (by simp only [allP, List.nil_append, List.cons_append, true_and]; repeat' (first | assumption | rfl | trivial | (apply int_r; assumption) | exact k2.1 | exact k2.2.2 | (intros; trivial) | (simp only [en57, nuB_vE, List.length_append, List.length_cons, List.length_nil] at h3 ⊢; omega) | refine And.intro ?_ ?_ | omega)) ?_
  (set_option smartUnfolding false in conv => whnf)
  refine ⟨((((b ++ nuB ((x.1).toNat : Int)) ++ txB x.2.1) ++ txB x.2.2.1), x.2.2.2.1), ?_⟩
  conv => whnf
  refine And.intro (by simp only [allP, List.nil_append, List.cons_append, true_and]; repeat' (first | assumption | rfl | trivial | (apply int_r; assumption) | exact k3.1 | exact k3.2.2 | (intros; trivial) | (simp only [en57, nuB_vE, List.length_append, List.length_cons, List.length_nil] at h3 ⊢; omega) | refine And.intro ?_ ?_ | omega)) ?_
  (set_option smartUnfolding false in conv => whnf)
  refine ⟨(((((b ++ nuB ((x.1).toNat : Int)) ++ txB x.2.1) ++ txB x.2.2.1) ++ nuB x.2.2.2.1), x.2.2.2.2.1), ?_⟩
  conv => whnf
  refine And.intro (by simp only [allP, List.nil_append, List.cons_append, true_and]; repeat' (first | assumption | rfl | trivial | (apply int_r; assumption) | exact k4.1 | exact k4.2.2 | (intros; trivial) | (simp only [en57, nuB_vE, List.length_append, List.length_cons, List.length_nil] at h3 ⊢; omega) | refine And.intro ?_ ?_ | omega)) ?_
  (set_option smartUnfolding false in conv => whnf)
  refine ⟨by rfl, ?_⟩
  (set_option smartUnfolding false in conv => whnf)
  refine dI (k := ?_)
  (set_option smartUnfolding false in conv => whnf)
  refine ⟨((((((b ++ nuB ((x.1).toNat : Int)) ++ txB x.2.1) ++ txB x.2.2.1) ++ nuB x.2.2.2.1) ++ lsB txB x.2.2.2.2.1), x.2.2.2.2.2.1), ?_⟩
  conv => whnf
  refine And.intro (by simp only [allP, List.nil_append, List.cons_append, true_and]; repeat' (first | assumption | rfl | trivial | (apply int_r; assumption) | exact k5.1 | exact k5.2.2 | (intros; trivial) | (simp only [en57, nuB_vE, List.length_append, List.length_cons, List.length_nil] at h3 ⊢; omega) | refine And.intro ?_ ?_ | omega)) ?_
  (set_option smartUnfolding false in conv => whnf)
  refine ⟨(((((((b ++ nuB ((x.1).toNat : Int)) ++ txB x.2.1) ++ txB x.2.2.1) ++ nuB x.2.2.2.1) ++ lsB txB x.2.2.2.2.1) ++ en55 x.2.2.2.2.2.1), x.2.2.2.2.2.2.1), ?_⟩
  conv => whnf
  refine And.intro (by simp only [allP, List.nil_append, List.cons_append, true_and]; repeat' (first | assumption | rfl | trivial | (apply int_r; assumption) | exact k6.1 | exact k6.2.2 | (intros; trivial) | (simp only [en57, nuB_vE, List.length_append, List.length_cons, List.length_nil] at h3 ⊢; omega) | refine And.intro ?_ ?_ | omega)) ?_
  (set_option smartUnfolding false in conv => whnf)
  refine ⟨((((((((b ++ nuB ((x.1).toNat : Int)) ++ txB x.2.1) ++ txB x.2.2.1) ++ nuB x.2.2.2.1) ++ lsB txB x.2.2.2.2.1) ++ en55 x.2.2.2.2.2.1) ++ nuB x.2.2.2.2.2.2.1), x.2.2.2.2.2.2.2.1), ?_⟩
  conv => whnf
  refine And.intro (by simp only [allP, List.nil_append, List.cons_append, true_and]; repeat' (first | assumption | rfl | trivial | (apply int_r; assumption) | exact k7.1 | exact k7.2.2 | (intros; trivial) | (simp only [en57, nuB_vE, List.length_append, List.length_cons, List.length_nil] at h3 ⊢; omega) | refine And.intro ?_ ?_ | omega)) ?_
  (set_option smartUnfolding false in conv => whnf)
  refine ⟨(((((((((b ++ nuB ((x.1).toNat : Int)) ++ txB x.2.1) ++ txB x.2.2.1) ++ nuB x.2.2.2.1) ++ lsB txB x.2.2.2.2.1) ++ en55 x.2.2.2.2.2.1) ++ nuB x.2.2.2.2.2.2.1) ++ nuB x.2.2.2.2.2.2.2.1), x.2.2.2.2.2.2.2.2.1), ?_⟩
  conv => whnf
  refine And.intro (by simp only [allP, List.nil_append, List.cons_append, true_and]; repeat' (first | assumption | rfl | trivial | (apply int_r; assumption) | exact k8.1 | exact k8.2.2 | (intros; trivial) | (simp only [en57, nuB_vE, List.length_append, List.length_cons, List.length_nil] at h3 ⊢; omega) | refine And.intro ?_ ?_ | omega)) ?_
  (set_option smartUnfolding false in conv => whnf)
  refine ⟨((((((((((b ++ nuB ((x.1).toNat : Int)) ++ txB x.2.1) ++ txB x.2.2.1) ++ nuB x.2.2.2.1) ++ lsB txB x.2.2.2.2.1) ++ en55 x.2.2.2.2.2.1) ++ nuB x.2.2.2.2.2.2.1) ++ nuB x.2.2.2.2.2.2.2.1) ++ nuB x.2.2.2.2.2.2.2.2.1), x.2.2.2.2.2.2.2.2.2), ?_⟩
  conv => whnf
  refine And.intro (by simp only [allP, List.nil_append, List.cons_append, true_and]; repeat' (first | assumption | rfl | trivial | (apply int_r; assumption) | exact k9.1 | exact k9.2.2 | (intros; trivial) | (simp only [en57, nuB_vE, List.length_append, List.length_cons, List.length_nil] at h3 ⊢; omega) | refine And.intro ?_ ?_ | omega)) ?_
  (set_option smartUnfolding false in conv => whnf)
  refine ⟨by rfl, ?_⟩
  (set_option smartUnfolding false in conv => whnf)
  rw [show b ++ en57 x = ((((((((((b ++ nuB ((x.1).toNat : Int)) ++ txB x.2.1) ++ txB x.2.2.1) ++ nuB x.2.2.2.1) ++ lsB txB x.2.2.2.2.1) ++ en55 x.2.2.2.2.2.1) ++ nuB x.2.2.2.2.2.2.1) ++ nuB x.2.2.2.2.2.2.2.1) ++ nuB x.2.2.2.2.2.2.2.2.1) ++ nuB x.2.2.2.2.2.2.2.2.2) from by simp only [en57, List.append_assoc]]
  first | done | (and_intros <;> rfl)
theorem Rmeta_sound : Sound Tryz.prog 120 cRmeta := does_sound mixed tabOk_prog gQ6_ok Tryz.func120 Rmeta_does
def gQ7 : List (FuncId × Ctr) := (120, cRmeta) :: gQ6
theorem gQ7_ok : GamOk Tryz.prog gQ7 := GamOk.cons gQ6_ok Tryz.func120 (by kernel_rfl) (by kernel_rfl) Rmeta_sound
abbrev cDPart : Ctr := cDoc 1 en48 (fun x : S48 => .agg ((pv48 x).map avOf)) ok48
theorem DPart_does : Does gQ7 tab Tryz.f61 cDPart := by
  rintro x ⟨hx, h3⟩
  obtain ⟨k0, k1, k2⟩ := hx
  (set_option smartUnfolding false in conv => whnf)
  rw [kind_w x.1]
  refine ⟨([1], ((x.1).toNat : Int)), ?_⟩
  conv => whnf
  refine And.intro (by simp only [allP, List.nil_append, List.cons_append, true_and]; repeat' (first | assumption | rfl | trivial | exact kind_r _ | (simp only [en48, nuB_vE, List.length_append, List.length_cons, List.length_nil] at h3 ⊢; omega) | refine And.intro ?_ ?_ | omega)) ?_
  (set_option smartUnfolding false in conv => whnf)
  refine dI (k := ?_)
  (set_option smartUnfolding false in conv => whnf)
  refine ⟨(([1] ++ nuB ((x.1).toNat : Int)), x.2.1), ?_⟩
  conv => whnf
  refine And.intro (by simp only [allP, List.nil_append, List.cons_append, true_and]; repeat' (first | assumption | rfl | trivial | (apply int_r; assumption) | exact k1.1 | exact k1.2.2 | (intros; trivial) | (simp only [en48, nuB_vE, List.length_append, List.length_cons, List.length_nil] at h3 ⊢; omega) | refine And.intro ?_ ?_ | omega)) ?_
  (set_option smartUnfolding false in conv => whnf)
  refine ⟨((([1] ++ nuB ((x.1).toNat : Int)) ++ en46 x.2.1), x.2.2), ?_⟩
  conv => whnf
  refine And.intro (by simp only [allP, List.nil_append, List.cons_append, true_and]; repeat' (first | assumption | rfl | trivial | (apply int_r; assumption) | exact k2.1 | exact k2.2.2 | (intros; trivial) | (simp only [en48, nuB_vE, List.length_append, List.length_cons, List.length_nil] at h3 ⊢; omega) | refine And.intro ?_ ?_ | omega)) ?_
  (set_option smartUnfolding false in conv => whnf)
  refine ⟨by rfl, ?_⟩
  (set_option smartUnfolding false in conv => whnf)
  rw [show (1 :: en48 x) = ((([1] ++ nuB ((x.1).toNat : Int)) ++ en46 x.2.1) ++ nuB x.2.2) from by simp only [en48, List.append_assoc]; rfl]
  first | done | (and_intros <;> rfl)
theorem DPart_sound : Sound Tryz.prog 61 cDPart := does_sound mixed tabOk_prog gQ7_ok Tryz.func61 DPart_does
def gQ8 : List (FuncId × Ctr) := (61, cDPart) :: gQ7
theorem gQ8_ok : GamOk Tryz.prog gQ8 := GamOk.cons gQ7_ok Tryz.func61 (by kernel_rfl) (by kernel_rfl) DPart_sound
abbrev cDMeta : Ctr := cDoc 2 en57 (fun x : S57 => .agg ((pv57 x).map avOf)) ok57
theorem DMeta_does : Does gQ8 tab Tryz.f65 cDMeta := by
  rintro x ⟨hx, h3⟩
  (set_option smartUnfolding false in conv => whnf)
  refine dI (k := ?_)
  (set_option smartUnfolding false in conv => whnf)
  refine ⟨([2], x), ?_⟩
  conv => whnf
  refine And.intro (by simp only [allP, List.nil_append, List.cons_append, true_and]; repeat' (first | assumption | rfl | trivial | (simp only [List.length_cons, List.length_nil]; omega) | refine And.intro ?_ ?_ | omega)) ?_
  (set_option smartUnfolding false in conv => whnf)
  first | done | (and_intros <;> rfl)
theorem DMeta_sound : Sound Tryz.prog 65 cDMeta := does_sound mixed tabOk_prog gQ8_ok Tryz.func65 DMeta_does
def gQ9 : List (FuncId × Ctr) := (65, cDMeta) :: gQ8
theorem gQ9_ok : GamOk Tryz.prog gQ9 := GamOk.cons gQ8_ok Tryz.func65 (by kernel_rfl) (by kernel_rfl) DMeta_sound
end Go.Proofs.YtingmlhhabaplaaGreat.Ev
