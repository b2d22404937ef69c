/- Wire: what the document puts together: request, response. No conditions. -/
import Derived.Test.YtingmlhhabaplaaGreatEvWire3b
namespace Go.Proofs.YtingmlhhabaplaaGreat.Ev
open Go
set_option linter.unusedVariables false
set_option linter.unusedSimpArgs false
set_option maxRecDepth 100000
set_option maxHeartbeats 4000000
abbrev cDRequest : Ctr := cDoc 5 en63 (fun x : S63 => .agg ((pv63 x).map avOf)) ok63
theorem DRequest_does : Does gQ9 tab Tryz.f68 cDRequest := by
  rintro x ⟨hx, h3⟩
  obtain ⟨k0, k1, k2, k3, k4, k5, k6, k7, k8, k9⟩ := hx
  (set_option smartUnfolding false in conv => whnf)
  rw [kind_w x.1]
  refine ⟨([5], ((x.1).toNat : Int)), ?_⟩
  conv => whnf
  refine And.intro (by simp only [allP, List.nil_append, List.cons_append, true_and]; repeat' (first | assumption | rfl | trivial | exact kind_r _ | (simp only [en63, nuB_vE, List.length_append, List.length_cons, List.length_nil] at h3 ⊢; omega) | refine And.intro ?_ ?_ | omega)) ?_
  (set_option smartUnfolding false in conv => whnf)
  refine ⟨(([5] ++ nuB ((x.1).toNat : Int)), x.2.1), ?_⟩
  conv => whnf
  refine And.intro (by simp only [allP, List.nil_append, List.cons_append, true_and]; repeat' (first | assumption | rfl | trivial | (apply int_r; assumption) | exact k1.1 | exact k1.2.2 | (intros; trivial) | (simp only [en63, nuB_vE, List.length_append, List.length_cons, List.length_nil] at h3 ⊢; omega) | refine And.intro ?_ ?_ | omega)) ?_
  (set_option smartUnfolding false in conv => whnf)
  refine ⟨((([5] ++ nuB ((x.1).toNat : Int)) ++ nuB x.2.1), x.2.2.1), ?_⟩
  conv => whnf
  refine And.intro (by simp only [allP, List.nil_append, List.cons_append, true_and]; repeat' (first | assumption | rfl | trivial | (apply int_r; assumption) | exact k2.1 | exact k2.2.2 | (intros; trivial) | (simp only [en63, nuB_vE, List.length_append, List.length_cons, List.length_nil] at h3 ⊢; omega) | refine And.intro ?_ ?_ | omega)) ?_
  (set_option smartUnfolding false in conv => whnf)
  refine ⟨(((([5] ++ nuB ((x.1).toNat : Int)) ++ nuB x.2.1) ++ nuB x.2.2.1), x.2.2.2.1), ?_⟩
  conv => whnf
  refine And.intro (by simp only [allP, List.nil_append, List.cons_append, true_and]; repeat' (first | assumption | rfl | trivial | (apply int_r; assumption) | exact k3.1 | exact k3.2.2 | (intros; trivial) | (simp only [en63, nuB_vE, List.length_append, List.length_cons, List.length_nil] at h3 ⊢; omega) | refine And.intro ?_ ?_ | omega)) ?_
  (set_option smartUnfolding false in conv => whnf)
  refine ⟨((((([5] ++ nuB ((x.1).toNat : Int)) ++ nuB x.2.1) ++ nuB x.2.2.1) ++ txB x.2.2.2.1), x.2.2.2.2.1), ?_⟩
  conv => whnf
  refine And.intro (by simp only [allP, List.nil_append, List.cons_append, true_and]; repeat' (first | assumption | rfl | trivial | (apply int_r; assumption) | exact k4.1 | exact k4.2.2 | (intros; trivial) | (simp only [en63, nuB_vE, List.length_append, List.length_cons, List.length_nil] at h3 ⊢; omega) | refine And.intro ?_ ?_ | omega)) ?_
  (set_option smartUnfolding false in conv => whnf)
  refine ⟨by rfl, ?_⟩
  (set_option smartUnfolding false in conv => whnf)
  refine And.intro (by first | exact Nat.le_of_ble_eq_true rfl | exact ⟨Nat.le_of_ble_eq_true rfl, rfl⟩ | exact rfl | decide | (simp [allP]; done)) ?_
  (set_option smartUnfolding false in conv => whnf)
  refine ⟨(((((([5] ++ nuB ((x.1).toNat : Int)) ++ nuB x.2.1) ++ nuB x.2.2.1) ++ txB x.2.2.2.1) ++ nuB x.2.2.2.2.1), x.2.2.2.2.2.1), ?_⟩
  conv => whnf
  refine And.intro (by simp only [allP, List.nil_append, List.cons_append, true_and]; repeat' (first | assumption | rfl | trivial | (apply int_r; assumption) | exact k5.1 | exact k5.2.2 | (intros; trivial) | (simp only [en63, nuB_vE, List.length_append, List.length_cons, List.length_nil] at h3 ⊢; omega) | refine And.intro ?_ ?_ | omega)) ?_
  (set_option smartUnfolding false in conv => whnf)
  refine ⟨((((((([5] ++ nuB ((x.1).toNat : Int)) ++ nuB x.2.1) ++ nuB x.2.2.1) ++ txB x.2.2.2.1) ++ nuB x.2.2.2.2.1) ++ en46 x.2.2.2.2.2.1), x.2.2.2.2.2.2.1), ?_⟩
  conv => whnf
  refine And.intro (by simp only [allP, List.nil_append, List.cons_append, true_and]; repeat' (first | assumption | rfl | trivial | (apply int_r; assumption) | exact k6.1 | exact k6.2.2 | (intros; trivial) | (simp only [en63, nuB_vE, List.length_append, List.length_cons, List.length_nil] at h3 ⊢; omega) | refine And.intro ?_ ?_ | omega)) ?_
  (set_option smartUnfolding false in conv => whnf)
  refine ⟨(((((((([5] ++ nuB ((x.1).toNat : Int)) ++ nuB x.2.1) ++ nuB x.2.2.1) ++ txB x.2.2.2.1) ++ nuB x.2.2.2.2.1) ++ en46 x.2.2.2.2.2.1) ++ nuB x.2.2.2.2.2.2.1), x.2.2.2.2.2.2.2.1), ?_⟩
  conv => whnf
  refine And.intro (by simp only [allP, List.nil_append, List.cons_append, true_and]; repeat' (first | assumption | rfl | trivial | (apply int_r; assumption) | exact k7.1 | exact k7.2.2 | (intros; trivial) | (simp only [en63, nuB_vE, List.length_append, List.length_cons, List.length_nil] at h3 ⊢; omega) | refine And.intro ?_ ?_ | omega)) ?_
  (set_option smartUnfolding false in conv => whnf)
  refine ⟨((((((((([5] ++ nuB ((x.1).toNat : Int)) ++ nuB x.2.1) ++ nuB x.2.2.1) ++ txB x.2.2.2.1) ++ nuB x.2.2.2.2.1) ++ en46 x.2.2.2.2.2.1) ++ nuB x.2.2.2.2.2.2.1) ++ nuB x.2.2.2.2.2.2.2.1), x.2.2.2.2.2.2.2.2.1), ?_⟩
  conv => whnf
  refine And.intro (by simp only [allP, List.nil_append, List.cons_append, true_and]; repeat' (first | assumption | rfl | trivial | (apply int_r; assumption) | exact k8.1 | exact k8.2.2 | (intros; trivial) | (simp only [en63, nuB_vE, List.length_append, List.length_cons, List.length_nil] at h3 ⊢; omega) | refine And.intro ?_ ?_ | omega)) ?_
  (set_option smartUnfolding false in conv => whnf)
  refine And.intro (by first | exact Nat.le_of_ble_eq_true rfl | exact ⟨Nat.le_of_ble_eq_true rfl, rfl⟩ | exact rfl | decide | (simp [allP]; done)) ?_
  (set_option smartUnfolding false in conv => whnf)
  refine ⟨(((((((((([5] ++ nuB ((x.1).toNat : Int)) ++ nuB x.2.1) ++ nuB x.2.2.1) ++ txB x.2.2.2.1) ++ nuB x.2.2.2.2.1) ++ en46 x.2.2.2.2.2.1) ++ nuB x.2.2.2.2.2.2.1) ++ nuB x.2.2.2.2.2.2.2.1) ++ nuB x.2.2.2.2.2.2.2.2.1), x.2.2.2.2.2.2.2.2.2), ?_⟩
  conv => whnf
  refine And.intro (by simp only [allP, List.nil_append, List.cons_append, true_and]; repeat' (first | assumption | rfl | trivial | (apply int_r; assumption) | exact k9.1 | exact k9.2.2 | (intros; trivial) | (simp only [en63, nuB_vE, List.length_append, List.length_cons, List.length_nil] at h3 ⊢; omega) | refine And.intro ?_ ?_ | omega)) ?_
  (set_option smartUnfolding false in conv => whnf)
  refine ⟨by rfl, ?_⟩
  (set_option smartUnfolding false in conv => whnf)
  rw [show (5 :: en63 x) = (((((((((([5] ++ nuB ((x.1).toNat : Int)) ++ nuB x.2.1) ++ nuB x.2.2.1) ++ txB x.2.2.2.1) ++ nuB x.2.2.2.2.1) ++ en46 x.2.2.2.2.2.1) ++ nuB x.2.2.2.2.2.2.1) ++ nuB x.2.2.2.2.2.2.2.1) ++ nuB x.2.2.2.2.2.2.2.2.1) ++ en57 x.2.2.2.2.2.2.2.2.2) from by simp only [en63, List.append_assoc]; rfl]
  first | done | (and_intros <;> rfl)
theorem DRequest_sound : Sound Tryz.prog 68 cDRequest := does_sound mixed tabOk_prog gQ9_ok Tryz.func68 DRequest_does
def gQ10 : List (FuncId × Ctr) := (68, cDRequest) :: gQ9
theorem gQ10_ok : GamOk Tryz.prog gQ10 := GamOk.cons gQ9_ok Tryz.func68 (by kernel_rfl) (by kernel_rfl) DRequest_sound
abbrev cDResponse : Ctr := cDoc 6 en72 (fun x : S72 => .agg ((pv72 x).map avOf)) ok72
theorem DResponse_does : Does gQ10 tab Tryz.f71 cDResponse := by
  rintro x ⟨hx, h3⟩
  obtain ⟨k0, k1, k2, k3, k4, k5, k6, k7, k8, k9, k10⟩ := hx
  (set_option smartUnfolding false in conv => whnf)
  rw [kind_w x.1]
  refine ⟨([6], ((x.1).toNat : Int)), ?_⟩
  conv => whnf
  refine And.intro (by simp only [allP, List.nil_append, List.cons_append, true_and]; repeat' (first | assumption | rfl | trivial | exact kind_r _ | (simp only [en72, nuB_vE, List.length_append, List.length_cons, List.length_nil] at h3 ⊢; omega) | refine And.intro ?_ ?_ | omega)) ?_
  (set_option smartUnfolding false in conv => whnf)
  refine ⟨(([6] ++ nuB ((x.1).toNat : Int)), x.2.1), ?_⟩
  conv => whnf
  refine And.intro (by simp only [allP, List.nil_append, List.cons_append, true_and]; repeat' (first | assumption | rfl | trivial | (apply int_r; assumption) | exact k1.1 | exact k1.2.2 | (intros; trivial) | (simp only [en72, nuB_vE, List.length_append, List.length_cons, List.length_nil] at h3 ⊢; omega) | refine And.intro ?_ ?_ | omega)) ?_
  (set_option smartUnfolding false in conv => whnf)
  refine ⟨((([6] ++ nuB ((x.1).toNat : Int)) ++ nuB x.2.1), x.2.2.1), ?_⟩
  conv => whnf
  refine And.intro (by simp only [allP, List.nil_append, List.cons_append, true_and]; repeat' (first | assumption | rfl | trivial | (apply int_r; assumption) | exact k2.1 | exact k2.2.2 | (intros; trivial) | (simp only [en72, nuB_vE, List.length_append, List.length_cons, List.length_nil] at h3 ⊢; omega) | refine And.intro ?_ ?_ | omega)) ?_
  (set_option smartUnfolding false in conv => whnf)
  refine ⟨(((([6] ++ nuB ((x.1).toNat : Int)) ++ nuB x.2.1) ++ nuB x.2.2.1), x.2.2.2.1), ?_⟩
  conv => whnf
  refine And.intro (by simp only [allP, List.nil_append, List.cons_append, true_and]; repeat' (first | assumption | rfl | trivial | (apply int_r; assumption) | exact k3.1 | exact k3.2.2 | (intros; trivial) | (simp only [en72, nuB_vE, List.length_append, List.length_cons, List.length_nil] at h3 ⊢; omega) | refine And.intro ?_ ?_ | omega)) ?_
  (set_option smartUnfolding false in conv => whnf)
  refine ⟨((((([6] ++ nuB ((x.1).toNat : Int)) ++ nuB x.2.1) ++ nuB x.2.2.1) ++ nuB x.2.2.2.1), x.2.2.2.2.1), ?_⟩
  conv => whnf
  refine And.intro (by simp only [allP, List.nil_append, List.cons_append, true_and]; repeat' (first | assumption | rfl | trivial | (apply int_r; assumption) | exact k4.1 | exact k4.2.2 | (intros; trivial) | (simp only [en72, nuB_vE, List.length_append, List.length_cons, List.length_nil] at h3 ⊢; omega) | refine And.intro ?_ ?_ | omega)) ?_
  (set_option smartUnfolding false in conv => whnf)
  refine ⟨by rfl, ?_⟩
  (set_option smartUnfolding false in conv => whnf)
  refine ⟨(((((([6] ++ nuB ((x.1).toNat : Int)) ++ nuB x.2.1) ++ nuB x.2.2.1) ++ nuB x.2.2.2.1) ++ nuB x.2.2.2.2.1), x.2.2.2.2.2.1), ?_⟩
  conv => whnf
  refine And.intro (by simp only [allP, List.nil_append, List.cons_append, true_and]; repeat' (first | assumption | rfl | trivial | (apply int_r; assumption) | exact k5.1 | exact k5.2.2 | (intros; trivial) | (simp only [en72, nuB_vE, List.length_append, List.length_cons, List.length_nil] at h3 ⊢; omega) | refine And.intro ?_ ?_ | omega)) ?_
  (set_option smartUnfolding false in conv => whnf)
  refine ⟨((((((([6] ++ nuB ((x.1).toNat : Int)) ++ nuB x.2.1) ++ nuB x.2.2.1) ++ nuB x.2.2.2.1) ++ nuB x.2.2.2.2.1) ++ nuB x.2.2.2.2.2.1), x.2.2.2.2.2.2.1), ?_⟩
  conv => whnf
  refine And.intro (by simp only [allP, List.nil_append, List.cons_append, true_and]; repeat' (first | assumption | rfl | trivial | (apply int_r; assumption) | exact k6.1 | exact k6.2.2 | (intros; trivial) | (simp only [en72, nuB_vE, List.length_append, List.length_cons, List.length_nil] at h3 ⊢; omega) | refine And.intro ?_ ?_ | omega)) ?_
  (set_option smartUnfolding false in conv => whnf)
  refine ⟨(((((((([6] ++ nuB ((x.1).toNat : Int)) ++ nuB x.2.1) ++ nuB x.2.2.1) ++ nuB x.2.2.2.1) ++ nuB x.2.2.2.2.1) ++ nuB x.2.2.2.2.2.1) ++ nuB x.2.2.2.2.2.2.1), x.2.2.2.2.2.2.2.1), ?_⟩
  conv => whnf
  refine And.intro (by simp only [allP, List.nil_append, List.cons_append, true_and]; repeat' (first | assumption | rfl | trivial | (apply int_r; assumption) | exact k7.1 | exact k7.2.2 | (intros; trivial) | (simp only [en72, nuB_vE, List.length_append, List.length_cons, List.length_nil] at h3 ⊢; omega) | refine And.intro ?_ ?_ | omega)) ?_
  (set_option smartUnfolding false in conv => whnf)
  refine ⟨((((((((([6] ++ nuB ((x.1).toNat : Int)) ++ nuB x.2.1) ++ nuB x.2.2.1) ++ nuB x.2.2.2.1) ++ nuB x.2.2.2.2.1) ++ nuB x.2.2.2.2.2.1) ++ nuB x.2.2.2.2.2.2.1) ++ nuB x.2.2.2.2.2.2.2.1), x.2.2.2.2.2.2.2.2.1), ?_⟩
  conv => whnf
  refine And.intro (by simp only [allP, List.nil_append, List.cons_append, true_and]; repeat' (first | assumption | rfl | trivial | (apply int_r; assumption) | exact k8.1 | exact k8.2.2 | (intros; trivial) | (simp only [en72, nuB_vE, List.length_append, List.length_cons, List.length_nil] at h3 ⊢; omega) | refine And.intro ?_ ?_ | omega)) ?_
  (set_option smartUnfolding false in conv => whnf)
  refine ⟨(((((((((([6] ++ nuB ((x.1).toNat : Int)) ++ nuB x.2.1) ++ nuB x.2.2.1) ++ nuB x.2.2.2.1) ++ nuB x.2.2.2.2.1) ++ nuB x.2.2.2.2.2.1) ++ nuB x.2.2.2.2.2.2.1) ++ nuB x.2.2.2.2.2.2.2.1) ++ boB x.2.2.2.2.2.2.2.2.1), x.2.2.2.2.2.2.2.2.2.1), ?_⟩
  conv => whnf
  refine And.intro (by simp only [allP, List.nil_append, List.cons_append, true_and]; repeat' (first | assumption | rfl | trivial | (apply int_r; assumption) | exact k9.1 | exact k9.2.2 | (intros; trivial) | (simp only [en72, nuB_vE, List.length_append, List.length_cons, List.length_nil] at h3 ⊢; omega) | refine And.intro ?_ ?_ | omega)) ?_
  (set_option smartUnfolding false in conv => whnf)
  refine ⟨by rfl, ?_⟩
  (set_option smartUnfolding false in conv => whnf)
  refine And.intro (by first | exact Nat.le_of_ble_eq_true rfl | exact ⟨Nat.le_of_ble_eq_true rfl, rfl⟩ | exact rfl | decide | (simp [allP]; done)) ?_
  (set_option smartUnfolding false in conv => whnf)
  refine ⟨((((((((((([6] ++ nuB ((x.1).toNat : Int)) ++ nuB x.2.1) ++ nuB x.2.2.1) ++ nuB x.2.2.2.1) ++ nuB x.2.2.2.2.1) ++ nuB x.2.2.2.2.2.1) ++ nuB x.2.2.2.2.2.2.1) ++ nuB x.2.2.2.2.2.2.2.1) ++ boB x.2.2.2.2.2.2.2.2.1) ++ lsB recB x.2.2.2.2.2.2.2.2.2.1), x.2.2.2.2.2.2.2.2.2.2), ?_⟩
  conv => whnf
  refine And.intro (by simp only [allP, List.nil_append, List.cons_append, true_and]; repeat' (first | assumption | rfl | trivial | (apply int_r; assumption) | exact k10.1 | exact k10.2.2 | (intros; trivial) | (simp only [en72, nuB_vE, List.length_append, List.length_cons, List.length_nil] at h3 ⊢; omega) | refine And.intro ?_ ?_ | omega)) ?_
  (set_option smartUnfolding false in conv => whnf)
  rw [show (6 :: en72 x) = ((((((((((([6] ++ nuB ((x.1).toNat : Int)) ++ nuB x.2.1) ++ nuB x.2.2.1) ++ nuB x.2.2.2.1) ++ nuB x.2.2.2.2.1) ++ nuB x.2.2.2.2.2.1) ++ nuB x.2.2.2.2.2.2.1) ++ nuB x.2.2.2.2.2.2.2.1) ++ boB x.2.2.2.2.2.2.2.2.1) ++ lsB recB x.2.2.2.2.2.2.2.2.2.1) ++ en70 x.2.2.2.2.2.2.2.2.2.2) from by simp only [en72, List.append_assoc]; rfl]
  first | done | (and_intros <;> rfl)
theorem DResponse_sound : Sound Tryz.prog 71 cDResponse := does_sound mixed tabOk_prog gQ10_ok Tryz.func71 DResponse_does
def gQ11 : List (FuncId × Ctr) := (71, cDResponse) :: gQ10
theorem gQ11_ok : GamOk Tryz.prog gQ11 := GamOk.cons gQ10_ok Tryz.func71 (by kernel_rfl) (by kernel_rfl) DResponse_sound
end Go.Proofs.YtingmlhhabaplaaGreat.Ev
