/- Wire: what the program puts together: request. No conditions. -/
import Derived.Test.YtingmlhhabaplaaEvWire1b
namespace Go.Proofs.Ytingmlhhabaplaa.Ev
open Go
set_option linter.unusedVariables false
set_option linter.unusedSimpArgs false
set_option maxRecDepth 100000
set_option maxHeartbeats 4000000
abbrev cOrequest : Ctr := cO en47 (fun x : S47 => .agg ((pv47 x).map avOf)) ok47
theorem Orequest_does : Does gP12 tab Try.f37 cOrequest := by
  rintro ⟨b, x⟩ ⟨hx, h3⟩
  obtain ⟨k0, k1, k2, k3, k4, k5, k6, k7, k8, k9⟩ := hx
  (set_option smartUnfolding false in conv => whnf)
  rw [kind_w x.1]
  refine ⟨(b, ([((x.1).toNat : Int), x.2.1, x.2.2.1] : List Int)), ?_⟩
  conv => whnf
  refine And.intro (by simp only [allP, List.nil_append, List.cons_append, true_and]; repeat' (first | assumption | rfl | trivial | exact List.cons_ne_nil _ _ | (intro m hm; simp only [List.mem_cons, List.not_mem_nil, or_false] at hm; rcases hm with rfl | rfl | rfl <;> first | exact kind_r _ | (apply int_r; assumption)) | (simp only [List.length_cons, List.length_nil]; omega) | (simp only [en47, nsB_c, nsB_n, tsB_c, tsB_n, List.length_append, List.length_nil] at h3 ⊢; omega) | refine And.intro ?_ ?_ | omega)) ?_
  (set_option smartUnfolding false in conv => whnf)
  refine ⟨((b ++ nsB [((x.1).toNat : Int), x.2.1, x.2.2.1]), ([x.2.2.2.1] : List ByteArray)), ?_⟩
  conv => whnf
  refine And.intro (by simp only [allP, List.nil_append, List.cons_append, true_and]; repeat' (first | assumption | rfl | trivial | exact List.cons_ne_nil _ _ | (simp only [List.length_cons, List.length_nil]; omega) | (simp only [en47, nsB_c, nsB_n, tsB_c, tsB_n, List.length_append, List.length_nil] at h3 ⊢; omega) | refine And.intro ?_ ?_ | omega)) ?_
  (set_option smartUnfolding false in conv => whnf)
  refine ⟨(((b ++ nsB [((x.1).toNat : Int), x.2.1, x.2.2.1]) ++ tsB [x.2.2.2.1]), ([x.2.2.2.2.1] : List Int)), ?_⟩
  conv => whnf
  refine And.intro (by simp only [allP, List.nil_append, List.cons_append, true_and]; repeat' (first | assumption | rfl | trivial | exact List.cons_ne_nil _ _ | (intro m hm; simp only [List.mem_cons, List.not_mem_nil, or_false] at hm; rcases hm with rfl <;> first | exact kind_r _ | (apply int_r; assumption)) | (simp only [List.length_cons, List.length_nil]; omega) | (simp only [en47, nsB_c, nsB_n, tsB_c, tsB_n, List.length_append, List.length_nil] at h3 ⊢; omega) | refine And.intro ?_ ?_ | omega)) ?_
  (set_option smartUnfolding false in conv => whnf)
  refine And.intro (by first | exact Nat.le_of_ble_eq_true rfl | exact ⟨Nat.le_of_ble_eq_true rfl, rfl⟩ | exact rfl | decide | (simp [allP]; done)) ?_
  (set_option smartUnfolding false in conv => whnf)
  refine ⟨((((b ++ nsB [((x.1).toNat : Int), x.2.1, x.2.2.1]) ++ tsB [x.2.2.2.1]) ++ nsB [x.2.2.2.2.1]), x.2.2.2.2.2.1), ?_⟩
  conv => whnf
  refine And.intro (by simp only [allP, List.nil_append, List.cons_append, true_and]; repeat' (first | assumption | rfl | trivial | exact k5.1 | exact k5.2.2 | (intros; trivial) | (simp only [en47, nsB_c, nsB_n, tsB_c, tsB_n, List.length_append, List.length_nil] at h3 ⊢; omega) | refine And.intro ?_ ?_ | omega)) ?_
  (set_option smartUnfolding false in conv => whnf)
  refine ⟨(((((b ++ nsB [((x.1).toNat : Int), x.2.1, x.2.2.1]) ++ tsB [x.2.2.2.1]) ++ nsB [x.2.2.2.2.1]) ++ en25 x.2.2.2.2.2.1), ([x.2.2.2.2.2.2.1] : List Int)), ?_⟩
  conv => whnf
  refine And.intro (by simp only [allP, List.nil_append, List.cons_append, true_and]; repeat' (first | assumption | rfl | trivial | exact List.cons_ne_nil _ _ | (intro m hm; simp only [List.mem_cons, List.not_mem_nil, or_false] at hm; rcases hm with rfl <;> first | exact kind_r _ | (apply int_r; assumption)) | (simp only [List.length_cons, List.length_nil]; omega) | (simp only [en47, nsB_c, nsB_n, tsB_c, tsB_n, List.length_append, List.length_nil] at h3 ⊢; omega) | refine And.intro ?_ ?_ | omega)) ?_
  (set_option smartUnfolding false in conv => whnf)
  refine ⟨((((((b ++ nsB [((x.1).toNat : Int), x.2.1, x.2.2.1]) ++ tsB [x.2.2.2.1]) ++ nsB [x.2.2.2.2.1]) ++ en25 x.2.2.2.2.2.1) ++ nsB [x.2.2.2.2.2.2.1]), ([x.2.2.2.2.2.2.2.1, x.2.2.2.2.2.2.2.2.1] : List Int)), ?_⟩
  conv => whnf
  refine And.intro (by simp only [allP, List.nil_append, List.cons_append, true_and]; repeat' (first | assumption | rfl | trivial | exact List.cons_ne_nil _ _ | (intro m hm; simp only [List.mem_cons, List.not_mem_nil, or_false] at hm; rcases hm with rfl | rfl <;> first | exact kind_r _ | (apply int_r; assumption)) | (simp only [List.length_cons, List.length_nil]; omega) | (simp only [en47, nsB_c, nsB_n, tsB_c, tsB_n, List.length_append, List.length_nil] at h3 ⊢; omega) | refine And.intro ?_ ?_ | omega)) ?_
  (set_option smartUnfolding false in conv => whnf)
  refine And.intro (by first | exact Nat.le_of_ble_eq_true rfl | exact ⟨Nat.le_of_ble_eq_true rfl, rfl⟩ | exact rfl | decide | (simp [allP]; done)) ?_
  (set_option smartUnfolding false in conv => whnf)
  refine ⟨(((((((b ++ nsB [((x.1).toNat : Int), x.2.1, x.2.2.1]) ++ tsB [x.2.2.2.1]) ++ nsB [x.2.2.2.2.1]) ++ en25 x.2.2.2.2.2.1) ++ nsB [x.2.2.2.2.2.2.1]) ++ nsB [x.2.2.2.2.2.2.2.1, x.2.2.2.2.2.2.2.2.1]), x.2.2.2.2.2.2.2.2.2), ?_⟩
  conv => whnf
  refine And.intro (by simp only [allP, List.nil_append, List.cons_append, true_and]; repeat' (first | assumption | rfl | trivial | exact k9.1 | exact k9.2.2 | (intros; trivial) | (simp only [en47, nsB_c, nsB_n, tsB_c, tsB_n, List.length_append, List.length_nil] at h3 ⊢; omega) | refine And.intro ?_ ?_ | omega)) ?_
  (set_option smartUnfolding false in conv => whnf)
  rw [show b ++ en47 x = (((((((b ++ nsB [((x.1).toNat : Int), x.2.1, x.2.2.1]) ++ tsB [x.2.2.2.1]) ++ nsB [x.2.2.2.2.1]) ++ en25 x.2.2.2.2.2.1) ++ nsB [x.2.2.2.2.2.2.1]) ++ nsB [x.2.2.2.2.2.2.2.1, x.2.2.2.2.2.2.2.2.1]) ++ en33 x.2.2.2.2.2.2.2.2.2) from by simp only [en47, nsB_c, nsB_n, tsB_c, tsB_n, List.append_assoc, List.append_nil]]
  first | done | (and_intros <;> rfl)
theorem Orequest_sound : Sound Try.prog 37 cOrequest := does_sound mixed tabOk_prog gP12_ok Try.func37 Orequest_does
def gP13 : List (FuncId × Ctr) := (37, cOrequest) :: gP12
theorem gP13_ok : GamOk Try.prog gP13 := GamOk.cons gP12_ok Try.func37 (by kernel_rfl) (by kernel_rfl) Orequest_sound
abbrev cOresponse : Ctr := cO en53 (fun x : S53 => .agg ((pv53 x).map avOf)) ok53
theorem Oresponse_does : Does gP13 tab Try.f39 cOresponse := by
  rintro ⟨b, x⟩ ⟨hx, h3⟩
  obtain ⟨k0, k1, k2, k3, k4, k5, k6, k7, k8, k9, k10⟩ := hx
  (set_option smartUnfolding false in conv => whnf)
  rw [kind_w x.1]
  refine ⟨(b, ([((x.1).toNat : Int), x.2.1, x.2.2.1, x.2.2.2.1, x.2.2.2.2.1] : List Int)), ?_⟩
  conv => whnf
  refine And.intro (by simp only [allP, List.nil_append, List.cons_append, true_and]; repeat' (first | assumption | rfl | trivial | exact List.cons_ne_nil _ _ | (intro m hm; simp only [List.mem_cons, List.not_mem_nil, or_false] at hm; rcases hm with rfl | rfl | rfl | rfl | rfl <;> first | exact kind_r _ | (apply int_r; assumption)) | (simp only [List.length_cons, List.length_nil]; omega) | (simp only [en53, nsB_c, nsB_n, tsB_c, tsB_n, List.length_append, List.length_nil] at h3 ⊢; omega) | refine And.intro ?_ ?_ | omega)) ?_
  (set_option smartUnfolding false in conv => whnf)
  refine ⟨((b ++ nsB [((x.1).toNat : Int), x.2.1, x.2.2.1, x.2.2.2.1, x.2.2.2.2.1]), ([x.2.2.2.2.2.1, x.2.2.2.2.2.2.1, x.2.2.2.2.2.2.2.1] : List Int)), ?_⟩
  conv => whnf
  refine And.intro (by simp only [allP, List.nil_append, List.cons_append, true_and]; repeat' (first | assumption | rfl | trivial | exact List.cons_ne_nil _ _ | (intro m hm; simp only [List.mem_cons, List.not_mem_nil, or_false] at hm; rcases hm with rfl | rfl | rfl <;> first | exact kind_r _ | (apply int_r; assumption)) | (simp only [List.length_cons, List.length_nil]; omega) | (simp only [en53, nsB_c, nsB_n, tsB_c, tsB_n, List.length_append, List.length_nil] at h3 ⊢; omega) | refine And.intro ?_ ?_ | omega)) ?_
  (set_option smartUnfolding false in conv => whnf)
  refine ⟨(((b ++ nsB [((x.1).toNat : Int), x.2.1, x.2.2.1, x.2.2.2.1, x.2.2.2.2.1]) ++ nsB [x.2.2.2.2.2.1, x.2.2.2.2.2.2.1, x.2.2.2.2.2.2.2.1]), x.2.2.2.2.2.2.2.2.1), ?_⟩
  conv => whnf
  refine And.intro (by simp only [allP, List.nil_append, List.cons_append, true_and]; repeat' (first | assumption | rfl | trivial | exact k8.1 | exact k8.2.2 | (intros; trivial) | (simp only [en53, nsB_c, nsB_n, tsB_c, tsB_n, List.length_append, List.length_nil] at h3 ⊢; omega) | refine And.intro ?_ ?_ | omega)) ?_
  (set_option smartUnfolding false in conv => whnf)
  refine ⟨((((b ++ nsB [((x.1).toNat : Int), x.2.1, x.2.2.1, x.2.2.2.1, x.2.2.2.2.1]) ++ nsB [x.2.2.2.2.2.1, x.2.2.2.2.2.2.1, x.2.2.2.2.2.2.2.1]) ++ boB x.2.2.2.2.2.2.2.2.1), x.2.2.2.2.2.2.2.2.2.1), ?_⟩
  conv => whnf
  refine And.intro (by simp only [allP, List.nil_append, List.cons_append, true_and]; repeat' (first | assumption | rfl | trivial | exact k9.1 | exact k9.2.2 | (intros; trivial) | (simp only [en53, nsB_c, nsB_n, tsB_c, tsB_n, List.length_append, List.length_nil] at h3 ⊢; omega) | refine And.intro ?_ ?_ | omega)) ?_
  (set_option smartUnfolding false in conv => whnf)
  refine And.intro (by first | exact Nat.le_of_ble_eq_true rfl | exact ⟨Nat.le_of_ble_eq_true rfl, rfl⟩ | exact rfl | decide | (simp [allP]; done)) ?_
  (set_option smartUnfolding false in conv => whnf)
  refine ⟨(((((b ++ nsB [((x.1).toNat : Int), x.2.1, x.2.2.1, x.2.2.2.1, x.2.2.2.2.1]) ++ nsB [x.2.2.2.2.2.1, x.2.2.2.2.2.2.1, x.2.2.2.2.2.2.2.1]) ++ boB x.2.2.2.2.2.2.2.2.1) ++ lsB recB x.2.2.2.2.2.2.2.2.2.1), x.2.2.2.2.2.2.2.2.2.2), ?_⟩
  conv => whnf
  refine And.intro (by simp only [allP, List.nil_append, List.cons_append, true_and]; repeat' (first | assumption | rfl | trivial | exact k10.1 | exact k10.2.2 | (intros; trivial) | (simp only [en53, nsB_c, nsB_n, tsB_c, tsB_n, List.length_append, List.length_nil] at h3 ⊢; omega) | refine And.intro ?_ ?_ | omega)) ?_
  (set_option smartUnfolding false in conv => whnf)
  rw [show b ++ en53 x = (((((b ++ nsB [((x.1).toNat : Int), x.2.1, x.2.2.1, x.2.2.2.1, x.2.2.2.2.1]) ++ nsB [x.2.2.2.2.2.1, x.2.2.2.2.2.2.1, x.2.2.2.2.2.2.2.1]) ++ boB x.2.2.2.2.2.2.2.2.1) ++ lsB recB x.2.2.2.2.2.2.2.2.2.1) ++ en51 x.2.2.2.2.2.2.2.2.2.2) from by simp only [en53, nsB_c, nsB_n, tsB_c, tsB_n, List.append_assoc, List.append_nil]]
  first | done | (and_intros <;> rfl)
theorem Oresponse_sound : Sound Try.prog 39 cOresponse := does_sound mixed tabOk_prog gP13_ok Try.func39 Oresponse_does
def gP14 : List (FuncId × Ctr) := (39, cOresponse) :: gP13
theorem gP14_ok : GamOk Try.prog gP14 := GamOk.cons gP13_ok Try.func39 (by kernel_rfl) (by kernel_rfl) Oresponse_sound
end Go.Proofs.Ytingmlhhabaplaa.Ev
