/- Wire: what the program puts together: request. No conditions. -/
import Derived.Test.YtingmlhhabaplaaGreatEvWire1c
namespace Go.Proofs.YtingmlhhabaplaaGreat.Ev
open Go
set_option linter.unusedVariables false
set_option linter.unusedSimpArgs false
set_option maxRecDepth 100000
set_option maxHeartbeats 4000000
abbrev cOrequest : Ctr := cO en63 (fun x : S63 => .agg ((pv63 x).map avOf)) ok63
theorem Orequest_does : Does gP15 tab Tryz.f132 cOrequest := by
  rintro ⟨b, x⟩ ⟨hx, h3⟩
  obtain ⟨k0, k1, k2, k3, k4, k5, k6, k7, k8, k9⟩ := hx
  (set_option smartUnfolding false in conv => whnf)
  rw [kind_w x.1]
  refine ⟨(b, ([((x.1).toNat : Int), x.2.1, x.2.2.1] : List Int)), ?_⟩
  conv => whnf
  refine And.intro (by simp only [allP, List.nil_append, List.cons_append, true_and]; repeat' (first | assumption | rfl | trivial | exact List.cons_ne_nil _ _ | (intro m hm; simp only [List.mem_cons, List.not_mem_nil, or_false] at hm; rcases hm with rfl | rfl | rfl <;> first | exact kind_r _ | (apply int_r; assumption)) | (simp only [List.length_cons, List.length_nil]; omega) | (simp only [en63, nsB_c, nsB_n, tsB_c, tsB_n, List.length_append, List.length_nil] at h3 ⊢; omega) | refine And.intro ?_ ?_ | omega)) ?_
  (set_option smartUnfolding false in conv => whnf)
  refine ⟨((b ++ nsB [((x.1).toNat : Int), x.2.1, x.2.2.1]), ([x.2.2.2.1] : List ByteArray)), ?_⟩
  conv => whnf
  refine And.intro (by simp only [allP, List.nil_append, List.cons_append, true_and]; repeat' (first | assumption | rfl | trivial | exact List.cons_ne_nil _ _ | (simp only [List.length_cons, List.length_nil]; omega) | (simp only [en63, nsB_c, nsB_n, tsB_c, tsB_n, List.length_append, List.length_nil] at h3 ⊢; omega) | refine And.intro ?_ ?_ | omega)) ?_
  (set_option smartUnfolding false in conv => whnf)
  refine ⟨(((b ++ nsB [((x.1).toNat : Int), x.2.1, x.2.2.1]) ++ tsB [x.2.2.2.1]), ([x.2.2.2.2.1] : List Int)), ?_⟩
  conv => whnf
  refine And.intro (by simp only [allP, List.nil_append, List.cons_append, true_and]; repeat' (first | assumption | rfl | trivial | exact List.cons_ne_nil _ _ | (intro m hm; simp only [List.mem_cons, List.not_mem_nil, or_false] at hm; rcases hm with rfl <;> first | exact kind_r _ | (apply int_r; assumption)) | (simp only [List.length_cons, List.length_nil]; omega) | (simp only [en63, nsB_c, nsB_n, tsB_c, tsB_n, List.length_append, List.length_nil] at h3 ⊢; omega) | refine And.intro ?_ ?_ | omega)) ?_
  (set_option smartUnfolding false in conv => whnf)
  refine dI (k := ?_)
  (set_option smartUnfolding false in conv => whnf)
  refine ⟨((((b ++ nsB [((x.1).toNat : Int), x.2.1, x.2.2.1]) ++ tsB [x.2.2.2.1]) ++ nsB [x.2.2.2.2.1]), x.2.2.2.2.2.1), ?_⟩
  conv => whnf
  refine And.intro (by simp only [allP, List.nil_append, List.cons_append, true_and]; repeat' (first | assumption | rfl | trivial | exact k5.1 | exact k5.2.2 | (intros; trivial) | (simp only [en63, nsB_c, nsB_n, tsB_c, tsB_n, List.length_append, List.length_nil] at h3 ⊢; omega) | refine And.intro ?_ ?_ | omega)) ?_
  (set_option smartUnfolding false in conv => whnf)
  refine ⟨(((((b ++ nsB [((x.1).toNat : Int), x.2.1, x.2.2.1]) ++ tsB [x.2.2.2.1]) ++ nsB [x.2.2.2.2.1]) ++ en46 x.2.2.2.2.2.1), ([x.2.2.2.2.2.2.1] : List Int)), ?_⟩
  conv => whnf
  refine And.intro (by simp only [allP, List.nil_append, List.cons_append, true_and]; repeat' (first | assumption | rfl | trivial | exact List.cons_ne_nil _ _ | (intro m hm; simp only [List.mem_cons, List.not_mem_nil, or_false] at hm; rcases hm with rfl <;> first | exact kind_r _ | (apply int_r; assumption)) | (simp only [List.length_cons, List.length_nil]; omega) | (simp only [en63, nsB_c, nsB_n, tsB_c, tsB_n, List.length_append, List.length_nil] at h3 ⊢; omega) | refine And.intro ?_ ?_ | omega)) ?_
  (set_option smartUnfolding false in conv => whnf)
  refine ⟨((((((b ++ nsB [((x.1).toNat : Int), x.2.1, x.2.2.1]) ++ tsB [x.2.2.2.1]) ++ nsB [x.2.2.2.2.1]) ++ en46 x.2.2.2.2.2.1) ++ nsB [x.2.2.2.2.2.2.1]), ([x.2.2.2.2.2.2.2.1, x.2.2.2.2.2.2.2.2.1] : List Int)), ?_⟩
  conv => whnf
  refine And.intro (by simp only [allP, List.nil_append, List.cons_append, true_and]; repeat' (first | assumption | rfl | trivial | exact List.cons_ne_nil _ _ | (intro m hm; simp only [List.mem_cons, List.not_mem_nil, or_false] at hm; rcases hm with rfl | rfl <;> first | exact kind_r _ | (apply int_r; assumption)) | (simp only [List.length_cons, List.length_nil]; omega) | (simp only [en63, nsB_c, nsB_n, tsB_c, tsB_n, List.length_append, List.length_nil] at h3 ⊢; omega) | refine And.intro ?_ ?_ | omega)) ?_
  (set_option smartUnfolding false in conv => whnf)
  refine dI (k := ?_)
  (set_option smartUnfolding false in conv => whnf)
  refine ⟨(((((((b ++ nsB [((x.1).toNat : Int), x.2.1, x.2.2.1]) ++ tsB [x.2.2.2.1]) ++ nsB [x.2.2.2.2.1]) ++ en46 x.2.2.2.2.2.1) ++ nsB [x.2.2.2.2.2.2.1]) ++ nsB [x.2.2.2.2.2.2.2.1, x.2.2.2.2.2.2.2.2.1]), x.2.2.2.2.2.2.2.2.2), ?_⟩
  conv => whnf
  refine And.intro (by simp only [allP, List.nil_append, List.cons_append, true_and]; repeat' (first | assumption | rfl | trivial | exact k9.1 | exact k9.2.2 | (intros; trivial) | (simp only [en63, nsB_c, nsB_n, tsB_c, tsB_n, List.length_append, List.length_nil] at h3 ⊢; omega) | refine And.intro ?_ ?_ | omega)) ?_
  (set_option smartUnfolding false in conv => whnf)
  rw [show b ++ en63 x = (((((((b ++ nsB [((x.1).toNat : Int), x.2.1, x.2.2.1]) ++ tsB [x.2.2.2.1]) ++ nsB [x.2.2.2.2.1]) ++ en46 x.2.2.2.2.2.1) ++ nsB [x.2.2.2.2.2.2.1]) ++ nsB [x.2.2.2.2.2.2.2.1, x.2.2.2.2.2.2.2.2.1]) ++ en57 x.2.2.2.2.2.2.2.2.2) from by simp only [en63, nsB_c, nsB_n, tsB_c, tsB_n, List.append_assoc, List.append_nil]]
  first | done | (and_intros <;> rfl)
theorem Orequest_sound : Sound Tryz.prog 132 cOrequest := does_sound mixed tabOk_prog gP15_ok Tryz.func132 Orequest_does
def gP16 : List (FuncId × Ctr) := (132, cOrequest) :: gP15
theorem gP16_ok : GamOk Tryz.prog gP16 := GamOk.cons gP15_ok Tryz.func132 (by kernel_rfl) (by kernel_rfl) Orequest_sound
abbrev cOresponse : Ctr := cO en72 (fun x : S72 => .agg ((pv72 x).map avOf)) ok72
theorem Oresponse_does : Does gP16 tab Tryz.f133 cOresponse := by
  rintro ⟨b, x⟩ ⟨hx, h3⟩
  obtain ⟨k0, k1, k2, k3, k4, k5, k6, k7, k8, k9, k10⟩ := hx
  (set_option smartUnfolding false in conv => whnf)
  rw [kind_w x.1]
  refine ⟨(b, ([((x.1).toNat : Int), x.2.1, x.2.2.1, x.2.2.2.1, x.2.2.2.2.1] : List Int)), ?_⟩
  conv => whnf
  refine And.intro (by simp only [allP, List.nil_append, List.cons_append, true_and]; repeat' (first | assumption | rfl | trivial | exact List.cons_ne_nil _ _ | (intro m hm; simp only [List.mem_cons, List.not_mem_nil, or_false] at hm; rcases hm with rfl | rfl | rfl | rfl | rfl <;> first | exact kind_r _ | (apply int_r; assumption)) | (simp only [List.length_cons, List.length_nil]; omega) | (simp only [en72, nsB_c, nsB_n, tsB_c, tsB_n, List.length_append, List.length_nil] at h3 ⊢; omega) | refine And.intro ?_ ?_ | omega)) ?_
  (set_option smartUnfolding false in conv => whnf)
  refine ⟨((b ++ nsB [((x.1).toNat : Int), x.2.1, x.2.2.1, x.2.2.2.1, x.2.2.2.2.1]), ([x.2.2.2.2.2.1, x.2.2.2.2.2.2.1, x.2.2.2.2.2.2.2.1] : List Int)), ?_⟩
  conv => whnf
  refine And.intro (by simp only [allP, List.nil_append, List.cons_append, true_and]; repeat' (first | assumption | rfl | trivial | exact List.cons_ne_nil _ _ | (intro m hm; simp only [List.mem_cons, List.not_mem_nil, or_false] at hm; rcases hm with rfl | rfl | rfl <;> first | exact kind_r _ | (apply int_r; assumption)) | (simp only [List.length_cons, List.length_nil]; omega) | (simp only [en72, nsB_c, nsB_n, tsB_c, tsB_n, List.length_append, List.length_nil] at h3 ⊢; omega) | refine And.intro ?_ ?_ | omega)) ?_
  (set_option smartUnfolding false in conv => whnf)
  refine ⟨(((b ++ nsB [((x.1).toNat : Int), x.2.1, x.2.2.1, x.2.2.2.1, x.2.2.2.2.1]) ++ nsB [x.2.2.2.2.2.1, x.2.2.2.2.2.2.1, x.2.2.2.2.2.2.2.1]), x.2.2.2.2.2.2.2.2.1), ?_⟩
  conv => whnf
  refine And.intro (by simp only [allP, List.nil_append, List.cons_append, true_and]; repeat' (first | assumption | rfl | trivial | exact k8.1 | exact k8.2.2 | (intros; trivial) | (simp only [en72, nsB_c, nsB_n, tsB_c, tsB_n, List.length_append, List.length_nil] at h3 ⊢; omega) | refine And.intro ?_ ?_ | omega)) ?_
  (set_option smartUnfolding false in conv => whnf)
  refine ⟨((((b ++ nsB [((x.1).toNat : Int), x.2.1, x.2.2.1, x.2.2.2.1, x.2.2.2.2.1]) ++ nsB [x.2.2.2.2.2.1, x.2.2.2.2.2.2.1, x.2.2.2.2.2.2.2.1]) ++ boB x.2.2.2.2.2.2.2.2.1), x.2.2.2.2.2.2.2.2.2.1), ?_⟩
  conv => whnf
  refine And.intro (by simp only [allP, List.nil_append, List.cons_append, true_and]; repeat' (first | assumption | rfl | trivial | exact k9.1 | exact k9.2.2 | (intros; trivial) | (simp only [en72, nsB_c, nsB_n, tsB_c, tsB_n, List.length_append, List.length_nil] at h3 ⊢; omega) | refine And.intro ?_ ?_ | omega)) ?_
  (set_option smartUnfolding false in conv => whnf)
  refine dI (k := ?_)
  (set_option smartUnfolding false in conv => whnf)
  refine ⟨(((((b ++ nsB [((x.1).toNat : Int), x.2.1, x.2.2.1, x.2.2.2.1, x.2.2.2.2.1]) ++ nsB [x.2.2.2.2.2.1, x.2.2.2.2.2.2.1, x.2.2.2.2.2.2.2.1]) ++ boB x.2.2.2.2.2.2.2.2.1) ++ lsB recB x.2.2.2.2.2.2.2.2.2.1), x.2.2.2.2.2.2.2.2.2.2), ?_⟩
  conv => whnf
  refine And.intro (by simp only [allP, List.nil_append, List.cons_append, true_and]; repeat' (first | assumption | rfl | trivial | exact k10.1 | exact k10.2.2 | (intros; trivial) | (simp only [en72, nsB_c, nsB_n, tsB_c, tsB_n, List.length_append, List.length_nil] at h3 ⊢; omega) | refine And.intro ?_ ?_ | omega)) ?_
  (set_option smartUnfolding false in conv => whnf)
  rw [show b ++ en72 x = (((((b ++ nsB [((x.1).toNat : Int), x.2.1, x.2.2.1, x.2.2.2.1, x.2.2.2.2.1]) ++ nsB [x.2.2.2.2.2.1, x.2.2.2.2.2.2.1, x.2.2.2.2.2.2.2.1]) ++ boB x.2.2.2.2.2.2.2.2.1) ++ lsB recB x.2.2.2.2.2.2.2.2.2.1) ++ en70 x.2.2.2.2.2.2.2.2.2.2) from by simp only [en72, nsB_c, nsB_n, tsB_c, tsB_n, List.append_assoc, List.append_nil]]
  first | done | (and_intros <;> rfl)
theorem Oresponse_sound : Sound Tryz.prog 133 cOresponse := does_sound mixed tabOk_prog gP16_ok Tryz.func133 Oresponse_does
def gP17 : List (FuncId × Ctr) := (133, cOresponse) :: gP16
theorem gP17_ok : GamOk Tryz.prog gP17 := GamOk.cons gP16_ok Tryz.func133 (by kernel_rfl) (by kernel_rfl) Oresponse_sound
def gPuts5 : List (FuncId × Ctr) := gP17
theorem gPuts5_ok : GamOk Tryz.prog gPuts5 := gP17_ok
end Go.Proofs.YtingmlhhabaplaaGreat.Ev
