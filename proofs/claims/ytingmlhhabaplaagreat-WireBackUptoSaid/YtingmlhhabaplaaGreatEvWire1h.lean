/- Wire: what the program puts together: metas. No conditions. -/
import Derived.Test.YtingmlhhabaplaaGreatEvWire1g
namespace Go.Proofs.YtingmlhhabaplaaGreat.Ev
open Go
set_option linter.unusedVariables false
set_option linter.unusedSimpArgs false
set_option maxRecDepth 100000
set_option maxHeartbeats 4000000
abbrev cOmetas : Ctr := cO en37 (fun x : S37 => .agg ((pv37 x).map avOf)) ok37
theorem Ometas_does : Does gP39 tab Tryz.f131 cOmetas := by
  rintro ⟨b, x⟩ ⟨hx, h3⟩
  obtain ⟨k0, k1, k2, k3, k4⟩ := hx
  (set_option smartUnfolding false in conv => whnf)
  refine ⟨(b, ([x.1] : List Int)), ?_⟩
  conv => whnf
  refine And.intro (by simp only [allP, List.nil_append, List.cons_append, true_and]; repeat' (first | assumption | rfl | trivial | exact List.cons_ne_nil _ _ | (intro m hm; simp only [List.mem_cons, List.not_mem_nil, or_false] at hm; rcases hm with rfl <;> first | exact kind_r _ | (apply int_r; assumption)) | (simp only [List.length_cons, List.length_nil]; omega) | (simp only [en37, nsB_c, nsB_n, tsB_c, tsB_n, List.length_append, List.length_nil] at h3 ⊢; omega) | refine And.intro ?_ ?_ | omega)) ?_
  (set_option smartUnfolding false in conv => whnf)
  refine ⟨((b ++ nsB [x.1]), x.2.1), ?_⟩
  conv => whnf
  refine And.intro (by simp only [allP, List.nil_append, List.cons_append, true_and]; repeat' (first | assumption | rfl | trivial | exact k1.1 | exact k1.2.2 | (intros; trivial) | (simp only [en37, nsB_c, nsB_n, tsB_c, tsB_n, List.length_append, List.length_nil] at h3 ⊢; omega) | refine And.intro ?_ ?_ | omega)) ?_
  (set_option smartUnfolding false in conv => whnf)
  refine ⟨(((b ++ nsB [x.1]) ++ lsB en117 x.2.1), x.2.2.1), ?_⟩
  conv => whnf
  refine And.intro (by simp only [allP, List.nil_append, List.cons_append, true_and]; repeat' (first | assumption | rfl | trivial | exact k2.1 | exact k2.2.2 | (intros; trivial) | (simp only [en37, nsB_c, nsB_n, tsB_c, tsB_n, List.length_append, List.length_nil] at h3 ⊢; omega) | refine And.intro ?_ ?_ | omega)) ?_
  (set_option smartUnfolding false in conv => whnf)
  refine ⟨((((b ++ nsB [x.1]) ++ lsB en117 x.2.1) ++ lsB en119 x.2.2.1), x.2.2.2.1), ?_⟩
  conv => whnf
  refine And.intro (by simp only [allP, List.nil_append, List.cons_append, true_and]; repeat' (first | assumption | rfl | trivial | exact k3.1 | exact k3.2.2 | (intros; trivial) | (simp only [en37, nsB_c, nsB_n, tsB_c, tsB_n, List.length_append, List.length_nil] at h3 ⊢; omega) | refine And.intro ?_ ?_ | omega)) ?_
  (set_option smartUnfolding false in conv => whnf)
  refine ⟨(((((b ++ nsB [x.1]) ++ lsB en117 x.2.1) ++ lsB en119 x.2.2.1) ++ lsB en124 x.2.2.2.1), x.2.2.2.2), ?_⟩
  conv => whnf
  refine And.intro (by simp only [allP, List.nil_append, List.cons_append, true_and]; repeat' (first | assumption | rfl | trivial | exact k4.1 | exact k4.2.2 | (intros; trivial) | (simp only [en37, nsB_c, nsB_n, tsB_c, tsB_n, List.length_append, List.length_nil] at h3 ⊢; omega) | refine And.intro ?_ ?_ | omega)) ?_
  (set_option smartUnfolding false in conv => whnf)
  rw [show b ++ en37 x = (((((b ++ nsB [x.1]) ++ lsB en117 x.2.1) ++ lsB en119 x.2.2.1) ++ lsB en124 x.2.2.2.1) ++ lsB en128 x.2.2.2.2) from by simp only [en37, nsB_c, nsB_n, tsB_c, tsB_n, List.append_assoc, List.append_nil]]
  first | done | (and_intros <;> rfl)
theorem Ometas_sound : Sound Tryz.prog 131 cOmetas := does_sound mixed tabOk_prog gP39_ok Tryz.func131 Ometas_does
def gP40 : List (FuncId × Ctr) := (131, cOmetas) :: gP39
theorem gP40_ok : GamOk Tryz.prog gP40 := GamOk.cons gP39_ok Tryz.func131 (by kernel_rfl) (by kernel_rfl) Ometas_sound
def gPuts : List (FuncId × Ctr) := gP40
theorem gPuts_ok : GamOk Tryz.prog gPuts := gP40_ok
end Go.Proofs.YtingmlhhabaplaaGreat.Ev
