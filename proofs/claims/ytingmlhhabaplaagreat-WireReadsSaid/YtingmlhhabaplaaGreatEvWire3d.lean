/- Wire: what the document puts together: raft. No conditions. -/
import Derived.Test.YtingmlhhabaplaaGreatEvWire3c
namespace Go.Proofs.YtingmlhhabaplaaGreat.Ev
open Go
set_option linter.unusedVariables false
set_option linter.unusedSimpArgs false
set_option maxRecDepth 100000
set_option maxHeartbeats 4000000
abbrev cDRaft : Ctr := cDoc 7 en79 (fun x : S79 => .agg ((pv79 x).map avOf)) ok79
theorem DRaft_does : Does gQ11 tab Tryz.f76 cDRaft := by
  rintro x ⟨hx, h3⟩
  obtain ⟨k0, k1, k2, k3, k4, k5, k6, k7, k8, k9, k10, k11⟩ := hx
  have hil : ((fun l : List S153 => l.map fun x => elOf (pv153 x)) x.2.2.2.2.2.2.2.2.2.2.1).length = (x.2.2.2.2.2.2.2.2.2.2.1).length := List.length_map ..
  conv => whnf
  refine ⟨([7], x.1), ?_⟩
  conv => whnf
  refine And.intro (by simp only [allP, List.nil_append, List.cons_append, true_and]; repeat' (first | assumption | rfl | trivial | (apply int_r; assumption) | exact k0.1 | exact k0.2.2 | (intros; trivial) | (simp only [en79, lsB, List.length_append, List.length_cons, List.length_nil] at h3 ⊢; omega) | refine And.intro ?_ ?_ | omega)) ?_
  (set_option smartUnfolding false in conv => whnf)
  first | rw [kind_w x.2.1] | skip
  refine ⟨(([7] ++ txB x.1), ((x.2.1).toNat : Int)), ?_⟩
  conv => whnf
  refine And.intro (by simp only [allP, List.nil_append, List.cons_append, true_and]; repeat' (first | assumption | rfl | trivial | exact kind_r _ | (simp only [en79, lsB, List.length_append, List.length_cons, List.length_nil] at h3 ⊢; omega) | refine And.intro ?_ ?_ | omega)) ?_
  (set_option smartUnfolding false in conv => whnf)
  refine ⟨((([7] ++ txB x.1) ++ nuB ((x.2.1).toNat : Int)), x.2.2.1), ?_⟩
  conv => whnf
  refine And.intro (by simp only [allP, List.nil_append, List.cons_append, true_and]; repeat' (first | assumption | rfl | trivial | (apply int_r; assumption) | exact k2.1 | exact k2.2.2 | (intros; trivial) | (simp only [en79, lsB, List.length_append, List.length_cons, List.length_nil] at h3 ⊢; omega) | refine And.intro ?_ ?_ | omega)) ?_
  (set_option smartUnfolding false in conv => whnf)
  refine ⟨(((([7] ++ txB x.1) ++ nuB ((x.2.1).toNat : Int)) ++ nuB x.2.2.1), x.2.2.2.1), ?_⟩
  conv => whnf
  refine And.intro (by simp only [allP, List.nil_append, List.cons_append, true_and]; repeat' (first | assumption | rfl | trivial | (apply int_r; assumption) | exact k3.1 | exact k3.2.2 | (intros; trivial) | (simp only [en79, lsB, List.length_append, List.length_cons, List.length_nil] at h3 ⊢; omega) | refine And.intro ?_ ?_ | omega)) ?_
  (set_option smartUnfolding false in conv => whnf)
  refine ⟨((((([7] ++ txB x.1) ++ nuB ((x.2.1).toNat : Int)) ++ nuB x.2.2.1) ++ nuB x.2.2.2.1), x.2.2.2.2.1), ?_⟩
  conv => whnf
  refine And.intro (by simp only [allP, List.nil_append, List.cons_append, true_and]; repeat' (first | assumption | rfl | trivial | (apply int_r; assumption) | exact k4.1 | exact k4.2.2 | (intros; trivial) | (simp only [en79, lsB, List.length_append, List.length_cons, List.length_nil] at h3 ⊢; omega) | refine And.intro ?_ ?_ | omega)) ?_
  (set_option smartUnfolding false in conv => whnf)
  refine ⟨by rfl, ?_⟩
  show aw _ _ _ _ _ _ _
  conv => whnf
  refine ⟨(((((([7] ++ txB x.1) ++ nuB ((x.2.1).toNat : Int)) ++ nuB x.2.2.1) ++ nuB x.2.2.2.1) ++ nuB x.2.2.2.2.1), x.2.2.2.2.2.1), ?_⟩
  conv => whnf
  refine And.intro (by simp only [allP, List.nil_append, List.cons_append, true_and]; repeat' (first | assumption | rfl | trivial | (apply int_r; assumption) | exact k5.1 | exact k5.2.2 | (intros; trivial) | (simp only [en79, lsB, List.length_append, List.length_cons, List.length_nil] at h3 ⊢; omega) | refine And.intro ?_ ?_ | omega)) ?_
  (set_option smartUnfolding false in conv => whnf)
  refine ⟨((((((([7] ++ txB x.1) ++ nuB ((x.2.1).toNat : Int)) ++ nuB x.2.2.1) ++ nuB x.2.2.2.1) ++ nuB x.2.2.2.2.1) ++ nuB x.2.2.2.2.2.1), x.2.2.2.2.2.2.1), ?_⟩
  conv => whnf
  refine And.intro (by simp only [allP, List.nil_append, List.cons_append, true_and]; repeat' (first | assumption | rfl | trivial | (apply int_r; assumption) | exact k6.1 | exact k6.2.2 | (intros; trivial) | (simp only [en79, lsB, List.length_append, List.length_cons, List.length_nil] at h3 ⊢; omega) | refine And.intro ?_ ?_ | omega)) ?_
  (set_option smartUnfolding false in conv => whnf)
  refine ⟨(((((((([7] ++ txB x.1) ++ nuB ((x.2.1).toNat : Int)) ++ nuB x.2.2.1) ++ nuB x.2.2.2.1) ++ nuB x.2.2.2.2.1) ++ nuB x.2.2.2.2.2.1) ++ nuB x.2.2.2.2.2.2.1), x.2.2.2.2.2.2.2.1), ?_⟩
  conv => whnf
  refine And.intro (by simp only [allP, List.nil_append, List.cons_append, true_and]; repeat' (first | assumption | rfl | trivial | (apply int_r; assumption) | exact k7.1 | exact k7.2.2 | (intros; trivial) | (simp only [en79, lsB, List.length_append, List.length_cons, List.length_nil] at h3 ⊢; omega) | refine And.intro ?_ ?_ | omega)) ?_
  (set_option smartUnfolding false in conv => whnf)
  refine ⟨((((((((([7] ++ txB x.1) ++ nuB ((x.2.1).toNat : Int)) ++ nuB x.2.2.1) ++ nuB x.2.2.2.1) ++ nuB x.2.2.2.2.1) ++ nuB x.2.2.2.2.2.1) ++ nuB x.2.2.2.2.2.2.1) ++ nuB x.2.2.2.2.2.2.2.1), x.2.2.2.2.2.2.2.2.1), ?_⟩
  conv => whnf
  refine And.intro (by simp only [allP, List.nil_append, List.cons_append, true_and]; repeat' (first | assumption | rfl | trivial | (apply int_r; assumption) | exact k8.1 | exact k8.2.2 | (intros; trivial) | (simp only [en79, lsB, List.length_append, List.length_cons, List.length_nil] at h3 ⊢; omega) | refine And.intro ?_ ?_ | omega)) ?_
  (set_option smartUnfolding false in conv => whnf)
  refine ⟨(((((((((([7] ++ txB x.1) ++ nuB ((x.2.1).toNat : Int)) ++ nuB x.2.2.1) ++ nuB x.2.2.2.1) ++ nuB x.2.2.2.2.1) ++ nuB x.2.2.2.2.2.1) ++ nuB x.2.2.2.2.2.2.1) ++ nuB x.2.2.2.2.2.2.2.1) ++ nuB x.2.2.2.2.2.2.2.2.1), x.2.2.2.2.2.2.2.2.2.1), ?_⟩
  conv => whnf
  refine And.intro (by simp only [allP, List.nil_append, List.cons_append, true_and]; repeat' (first | assumption | rfl | trivial | (apply int_r; assumption) | exact k9.1 | exact k9.2.2 | (intros; trivial) | (simp only [en79, lsB, List.length_append, List.length_cons, List.length_nil] at h3 ⊢; omega) | refine And.intro ?_ ?_ | omega)) ?_
  (set_option smartUnfolding false in conv => whnf)
  rw [hil]
  refine ⟨((((((((((([7] ++ txB x.1) ++ nuB ((x.2.1).toNat : Int)) ++ nuB x.2.2.1) ++ nuB x.2.2.2.1) ++ nuB x.2.2.2.2.1) ++ nuB x.2.2.2.2.2.1) ++ nuB x.2.2.2.2.2.2.1) ++ nuB x.2.2.2.2.2.2.2.1) ++ nuB x.2.2.2.2.2.2.2.2.1) ++ boB x.2.2.2.2.2.2.2.2.2.1), (x.2.2.2.2.2.2.2.2.2.2.1).length), ?_⟩
  conv => whnf
  refine And.intro (by simp only [allP, List.nil_append, List.cons_append, true_and]; repeat' (first | assumption | rfl | trivial | exact k10.1 | (simp only [en79, lsB, List.length_append, List.length_cons, List.length_nil] at h3 ⊢; omega) | refine And.intro ?_ ?_ | omega)) ?_
  (set_option smartUnfolding false in conv => whnf)
  refine ⟨by rfl, ?_⟩
  show aw _ _ _ _ _ _ _
  conv => whnf
  refine ⟨{i : Nat // i ≤ (x.2.2.2.2.2.2.2.2.2.2.1).length}, fun i => ⟨[(1, .ptr 0 0), (3, .rowf 1), (4, isI .i64 i.1)], [(0, .box ((pv79 x).map avOf)), (1, .row 5 1 true false (bl ((((((((((([7] ++ txB x.1) ++ nuB ((x.2.1).toNat : Int)) ++ nuB x.2.2.1) ++ nuB x.2.2.2.1) ++ nuB x.2.2.2.2.1) ++ nuB x.2.2.2.2.2.1) ++ nuB x.2.2.2.2.2.2.1) ++ nuB x.2.2.2.2.2.2.2.1) ++ nuB x.2.2.2.2.2.2.2.2.1) ++ boB x.2.2.2.2.2.2.2.2.2.1) ++ vE (x.2.2.2.2.2.2.2.2.2.2.1).length ++ (((x.2.2.2.2.2.2.2.2.2.2.1).take i.1).map en153).flatten)))], 99⟩, fun i => (x.2.2.2.2.2.2.2.2.2.2.1).length - i.1, ⟨⟨0, Nat.zero_le _⟩, ?_⟩, ?_⟩
  · conv => whnf
    rw [List.take_zero, List.map_nil, List.flatten_nil, List.append_nil]
    first | done | (and_intros <;> rfl)
  rintro ⟨i, hi⟩
  show aw _ _ _ _ _ _ ⟨[(1, .ptr 0 0), (3, .rowf 1), (4, isI .i64 i)], [(0, .box ((pv79 x).map avOf)), (1, .row 5 1 true false (bl ((((((((((([7] ++ txB x.1) ++ nuB ((x.2.1).toNat : Int)) ++ nuB x.2.2.1) ++ nuB x.2.2.2.1) ++ nuB x.2.2.2.2.1) ++ nuB x.2.2.2.2.2.1) ++ nuB x.2.2.2.2.2.2.1) ++ nuB x.2.2.2.2.2.2.2.1) ++ nuB x.2.2.2.2.2.2.2.2.1) ++ boB x.2.2.2.2.2.2.2.2.2.1) ++ vE (x.2.2.2.2.2.2.2.2.2.2.1).length ++ (((x.2.2.2.2.2.2.2.2.2.2.1).take i).map en153).flatten)))], 99⟩
  conv => whnf
  rw [hil]
  by_cases hlt : i < (x.2.2.2.2.2.2.2.2.2.2.1).length
  · rw [decide_eq_true (show (i : Int) < ((x.2.2.2.2.2.2.2.2.2.2.1).length : Int) by omega)]
    conv => whnf
    refine And.intro (by simp only [allP, List.nil_append, List.cons_append, true_and]; rw [hil]; omega) ?_
    conv => whnf
    have hfl := flat_one_len en153 hlt
    have hst := flat_step en153 hlt
    have hok := k10.2.2 _ (List.getElem_mem hlt)
    generalize hy : (x.2.2.2.2.2.2.2.2.2.2.1)[i] = y at hfl hst hok
    obtain ⟨q0, q1⟩ := hok
    simp only [en153, List.length_append] at hfl
    have hen : en153 y = nuB y.1 ++ recB y.2 := rfl
    rw [Int.toNat_natCast, map_getD (fun x => elOf (pv153 x)) _ i _ hlt, hy]
    conv => whnf
    refine ⟨((((((((((([7] ++ txB x.1) ++ nuB ((x.2.1).toNat : Int)) ++ nuB x.2.2.1) ++ nuB x.2.2.2.1) ++ nuB x.2.2.2.2.1) ++ nuB x.2.2.2.2.2.1) ++ nuB x.2.2.2.2.2.2.1) ++ nuB x.2.2.2.2.2.2.2.1) ++ nuB x.2.2.2.2.2.2.2.2.1) ++ boB x.2.2.2.2.2.2.2.2.2.1) ++ vE (x.2.2.2.2.2.2.2.2.2.2.1).length ++ (((x.2.2.2.2.2.2.2.2.2.2.1).take i).map en153).flatten, y.1), ?_⟩
    conv => whnf
    refine And.intro (by simp only [allP, List.nil_append, List.cons_append, true_and]; repeat' (first | assumption | rfl | trivial | (apply int_r; assumption) | (simp only [en79, lsB, List.length_append, List.length_cons, List.length_nil] at h3 ⊢; omega) | refine And.intro ?_ ?_ | omega)) ?_
    conv => whnf
    refine And.intro (by simp only [allP, List.nil_append, List.cons_append, true_and]; rw [hil]; omega) ?_
    conv => whnf
    rw [Int.toNat_natCast, map_getD (fun x => elOf (pv153 x)) _ i _ hlt, hy]
    conv => whnf
    refine ⟨(((((((((((([7] ++ txB x.1) ++ nuB ((x.2.1).toNat : Int)) ++ nuB x.2.2.1) ++ nuB x.2.2.2.1) ++ nuB x.2.2.2.2.1) ++ nuB x.2.2.2.2.2.1) ++ nuB x.2.2.2.2.2.2.1) ++ nuB x.2.2.2.2.2.2.2.1) ++ nuB x.2.2.2.2.2.2.2.2.1) ++ boB x.2.2.2.2.2.2.2.2.2.1) ++ vE (x.2.2.2.2.2.2.2.2.2.2.1).length ++ (((x.2.2.2.2.2.2.2.2.2.2.1).take i).map en153).flatten) ++ nuB y.1, y.2), ?_⟩
    conv => whnf
    refine And.intro (by simp only [allP, List.nil_append, List.cons_append, true_and]; repeat' (first | assumption | rfl | trivial | exact q1.1 | exact q1.2.2 | (simp only [en79, lsB, List.length_append, List.length_cons, List.length_nil] at h3 ⊢; omega) | refine And.intro ?_ ?_ | omega)) ?_
    conv => whnf
    refine ⟨by rfl, ?_⟩
    show aw _ _ _ _ _ _ _
    conv => whnf
    refine ⟨⟨i + 1, by omega⟩, by simp only; omega, ?_⟩
    conv => whnf
    rw [hst, hen]
    and_intros <;> first | rfl | trivial | (simp [allP]; done) | (rw [wrap_i64 (by omega) (by omega)]; rfl) | (simp only [List.append_assoc]; rfl)
  · rw [decide_eq_false (show ¬ (i : Int) < ((x.2.2.2.2.2.2.2.2.2.2.1).length : Int) by omega)]
    conv => whnf
    rw [List.take_of_length_le (by omega)]
    refine ⟨((((((((((([7] ++ txB x.1) ++ nuB ((x.2.1).toNat : Int)) ++ nuB x.2.2.1) ++ nuB x.2.2.2.1) ++ nuB x.2.2.2.2.1) ++ nuB x.2.2.2.2.2.1) ++ nuB x.2.2.2.2.2.2.1) ++ nuB x.2.2.2.2.2.2.2.1) ++ nuB x.2.2.2.2.2.2.2.2.1) ++ boB x.2.2.2.2.2.2.2.2.2.1) ++ vE (x.2.2.2.2.2.2.2.2.2.2.1).length ++ ((x.2.2.2.2.2.2.2.2.2.2.1).map en153).flatten, x.2.2.2.2.2.2.2.2.2.2.2), ?_⟩
    conv => whnf
    refine And.intro (by simp only [allP, List.nil_append, List.cons_append, true_and]; repeat' (first | assumption | rfl | trivial | exact k11.1 | exact k11.2.2 | (simp only [en79, lsB, List.length_append, List.length_cons, List.length_nil] at h3 ⊢; omega) | refine And.intro ?_ ?_ | omega)) ?_
    (set_option smartUnfolding false in conv => whnf)
    rw [show (7 :: en79 x) = ((((((((((([7] ++ txB x.1) ++ nuB ((x.2.1).toNat : Int)) ++ nuB x.2.2.1) ++ nuB x.2.2.2.1) ++ nuB x.2.2.2.2.1) ++ nuB x.2.2.2.2.2.1) ++ nuB x.2.2.2.2.2.2.1) ++ nuB x.2.2.2.2.2.2.2.1) ++ nuB x.2.2.2.2.2.2.2.2.1) ++ boB x.2.2.2.2.2.2.2.2.2.1) ++ vE (x.2.2.2.2.2.2.2.2.2.2.1).length ++ ((x.2.2.2.2.2.2.2.2.2.2.1).map en153).flatten ++ recB (x.2.2.2.2.2.2.2.2.2.2.2)) from by simp only [en79, lsB, List.append_assoc]; rfl]
    first | done | (and_intros <;> rfl)
theorem DRaft_sound : Sound Tryz.prog 76 cDRaft := does_sound mixed tabOk_prog gQ11_ok Tryz.func76 DRaft_does
def gQ12 : List (FuncId × Ctr) := (76, cDRaft) :: gQ11
theorem gQ12_ok : GamOk Tryz.prog gQ12 := GamOk.cons gQ11_ok Tryz.func76 (by kernel_rfl) (by kernel_rfl) DRaft_sound
def gDocs5 : List (FuncId × Ctr) := gQ12
theorem gDocs5_ok : GamOk Tryz.prog gDocs5 := gQ12_ok
end Go.Proofs.YtingmlhhabaplaaGreat.Ev
