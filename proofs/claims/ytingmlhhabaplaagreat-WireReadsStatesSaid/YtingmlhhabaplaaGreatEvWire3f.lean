/- Wire: what the document puts together: group. No conditions. -/
import Derived.Test.YtingmlhhabaplaaGreatEvWire3e
namespace Go.Proofs.YtingmlhhabaplaaGreat.Ev
open Go
set_option linter.unusedVariables false
set_option linter.unusedSimpArgs false
set_option maxRecDepth 100000
set_option maxHeartbeats 4000000
abbrev cRgroup : Ctr := cR en124 (fun x : S124 => .agg ((pv124 x).map avOf)) ok124
theorem Rgroup_does : Does gQ14 tab Tryz.f109 cRgroup := by
  rintro ⟨b, x⟩ ⟨hx, h3⟩
  obtain ⟨k0, k1, k2, k3, k4, k5, k6⟩ := hx
  conv => whnf
  refine ⟨(b, x.1), ?_⟩
  conv => whnf
  refine And.intro (by simp only [allP, List.nil_append, List.cons_append, true_and]; repeat' (first | assumption | rfl | trivial | (apply int_r; assumption) | exact k0.1 | exact k0.2.2 | (intros; trivial) | (simp only [en190, en192, en55, en195, en199, en124, lsB, List.length_append, List.length_cons, List.length_nil] at h3 ⊢; omega) | refine And.intro ?_ ?_ | omega)) ?_
  conv => whnf
  refine ⟨((b ++ txB x.1), x.2.1), ?_⟩
  conv => whnf
  refine And.intro (by simp only [allP, List.nil_append, List.cons_append, true_and]; repeat' (first | assumption | rfl | trivial | (apply int_r; assumption) | exact k1.1 | exact k1.2.2 | (intros; trivial) | (simp only [en190, en192, en55, en195, en199, en124, lsB, List.length_append, List.length_cons, List.length_nil] at h3 ⊢; omega) | refine And.intro ?_ ?_ | omega)) ?_
  conv => whnf
  first | rw [kind_w x.2.2.1] | skip
  refine ⟨(((b ++ txB x.1) ++ nuB x.2.1), ((x.2.2.1).toNat : Int)), ?_⟩
  conv => whnf
  refine And.intro (by simp only [allP, List.nil_append, List.cons_append, true_and]; repeat' (first | assumption | rfl | trivial | exact kind_r _ | (simp only [en190, en192, en55, en195, en199, en124, lsB, List.length_append, List.length_cons, List.length_nil] at h3 ⊢; omega) | refine And.intro ?_ ?_ | omega)) ?_
  conv => whnf
  refine ⟨((((b ++ txB x.1) ++ nuB x.2.1) ++ nuB ((x.2.2.1).toNat : Int)), x.2.2.2.1), ?_⟩
  conv => whnf
  refine And.intro (by simp only [allP, List.nil_append, List.cons_append, true_and]; repeat' (first | assumption | rfl | trivial | (apply int_r; assumption) | exact k3.1 | exact k3.2.2 | (intros; trivial) | (simp only [en190, en192, en55, en195, en199, en124, lsB, List.length_append, List.length_cons, List.length_nil] at h3 ⊢; omega) | refine And.intro ?_ ?_ | omega)) ?_
  conv => whnf

  rw [show ((x.2.2.2.2.1).map fun x => elOf (pv192 x)).length = (x.2.2.2.2.1).length from List.length_map ..]
  refine ⟨(((((b ++ txB x.1) ++ nuB x.2.1) ++ nuB ((x.2.2.1).toNat : Int)) ++ nuB x.2.2.2.1), (x.2.2.2.2.1).length), ?_⟩
  conv => whnf
  refine And.intro (by simp only [allP, List.nil_append, List.cons_append, true_and]; repeat' (first | assumption | rfl | trivial | exact k4.1 | exact Nat.le_trans k4.2.1 (by omega) | (simp only [en190, en192, en55, en195, en199, en124, lsB, List.length_append, List.length_cons, List.length_nil] at h3 ⊢; omega) | refine And.intro ?_ ?_ | omega)) ?_
  conv => whnf
  refine ⟨by rfl, ?_⟩
  show aw _ _ _ _ _ _ _
  conv => whnf
  refine ⟨{i : Nat // i ≤ (x.2.2.2.2.1).length}, fun i => ⟨[(3, .ptr 1 0), (0, .rowf 2), (5, isI .i64 i.1)], [(0, .gone), (1, .box ((pv124 x).map avOf)), (2, .row 5 1 true false (bl ((((((b ++ txB x.1) ++ nuB x.2.1) ++ nuB ((x.2.2.1).toNat : Int)) ++ nuB x.2.2.2.1) ++ vE (x.2.2.2.2.1).length) ++ (((x.2.2.2.2.1).take i.1).map en192).flatten)))], 99⟩, fun i => (x.2.2.2.2.1).length - i.1, ⟨⟨0, Nat.zero_le _⟩, ?_⟩, ?_⟩
  · conv => whnf
    rw [List.take_zero, List.map_nil, List.flatten_nil, List.append_nil]
    first | done | (and_intros <;> first | rfl | trivial | (simp [allP]; done))
  rintro ⟨ia, hiia⟩
  show aw _ _ _ _ _ _ ⟨[(3, .ptr 1 0), (0, .rowf 2), (5, isI .i64 ia)], [(0, .gone), (1, .box ((pv124 x).map avOf)), (2, .row 5 1 true false (bl ((((((b ++ txB x.1) ++ nuB x.2.1) ++ nuB ((x.2.2.1).toNat : Int)) ++ nuB x.2.2.2.1) ++ vE (x.2.2.2.2.1).length) ++ (((x.2.2.2.2.1).take ia).map en192).flatten)))], 99⟩
  conv => whnf
  have hilia : ((x.2.2.2.2.1).map fun x => elOf (pv192 x)).length = (x.2.2.2.2.1).length := List.length_map ..
  rw [hilia]
  by_cases hltia : ia < (x.2.2.2.2.1).length
  · rw [decide_eq_true (show (ia : Int) < ((x.2.2.2.2.1).length : Int) by omega)]
    conv => whnf
    refine And.intro (by simp only [allP, List.nil_append, List.cons_append, true_and]; rw [hilia]; omega) ?_
    conv => whnf
    have hflia := flat_one_len en192 hltia
    have hstia := flat_step en192 hltia
    have hokia := k4.2.2 _ (List.getElem_mem hltia)
    generalize hyia : (x.2.2.2.2.1)[ia] = ya at hflia hstia hokia
    have hok'ia := hokia
    obtain ⟨⟨q0_0, q0_1⟩, q1, q2⟩ := hok'ia
    simp only [en190, en192, en55, en195, en199, en124, lsB, List.length_append] at hflia
    rw [Int.toNat_natCast, map_getD (fun x => elOf (pv192 x)) _ ia _ hltia, hyia]
    conv => whnf
    refine dI (k := ?_)
    conv => whnf
    refine dI (k := ?_)
    conv => whnf
    refine ⟨((((((b ++ txB x.1) ++ nuB x.2.1) ++ nuB ((x.2.2.1).toNat : Int)) ++ nuB x.2.2.2.1) ++ vE (x.2.2.2.2.1).length) ++ (((x.2.2.2.2.1).take ia).map en192).flatten, ya.1.1), ?_⟩
    conv => whnf
    refine And.intro (by simp only [allP, List.nil_append, List.cons_append, true_and]; repeat' (first | assumption | rfl | trivial | (apply int_r; assumption) | exact q0_0.1 | exact q0_0.2.2 | (intros; trivial) | (simp only [en190, en192, en55, en195, en199, en124, lsB, List.length_append, List.length_cons, List.length_nil] at h3 ⊢; omega) | refine And.intro ?_ ?_ | omega)) ?_
    conv => whnf
    refine ⟨(((((((b ++ txB x.1) ++ nuB x.2.1) ++ nuB ((x.2.2.1).toNat : Int)) ++ nuB x.2.2.2.1) ++ vE (x.2.2.2.2.1).length) ++ (((x.2.2.2.2.1).take ia).map en192).flatten ++ txB ya.1.1), ya.1.2), ?_⟩
    conv => whnf
    refine And.intro (by simp only [allP, List.nil_append, List.cons_append, true_and]; repeat' (first | assumption | rfl | trivial | (apply int_r; assumption) | exact q0_1.1 | exact q0_1.2.2 | (intros; trivial) | (simp only [en190, en192, en55, en195, en199, en124, lsB, List.length_append, List.length_cons, List.length_nil] at h3 ⊢; omega) | refine And.intro ?_ ?_ | omega)) ?_
    conv => whnf
    refine ⟨((((((((b ++ txB x.1) ++ nuB x.2.1) ++ nuB ((x.2.2.1).toNat : Int)) ++ nuB x.2.2.2.1) ++ vE (x.2.2.2.2.1).length) ++ (((x.2.2.2.2.1).take ia).map en192).flatten ++ txB ya.1.1) ++ lsB txB ya.1.2), ya.2.1), ?_⟩
    conv => whnf
    refine And.intro (by simp only [allP, List.nil_append, List.cons_append, true_and]; repeat' (first | assumption | rfl | trivial | (apply int_r; assumption) | exact q1.1 | exact q1.2.2 | (intros; trivial) | (simp only [en190, en192, en55, en195, en199, en124, lsB, List.length_append, List.length_cons, List.length_nil] at h3 ⊢; omega) | refine And.intro ?_ ?_ | omega)) ?_
    conv => whnf
    refine ⟨(((((((((b ++ txB x.1) ++ nuB x.2.1) ++ nuB ((x.2.2.1).toNat : Int)) ++ nuB x.2.2.2.1) ++ vE (x.2.2.2.2.1).length) ++ (((x.2.2.2.2.1).take ia).map en192).flatten ++ txB ya.1.1) ++ lsB txB ya.1.2) ++ nuB ya.2.1), ya.2.2), ?_⟩
    conv => whnf
    refine And.intro (by simp only [allP, List.nil_append, List.cons_append, true_and]; repeat' (first | assumption | rfl | trivial | (apply int_r; assumption) | exact q2.1 | exact q2.2.2 | (intros; trivial) | (simp only [en190, en192, en55, en195, en199, en124, lsB, List.length_append, List.length_cons, List.length_nil] at h3 ⊢; omega) | refine And.intro ?_ ?_ | omega)) ?_
    conv => whnf
    refine ⟨by rfl, ?_⟩
    show aw _ _ _ _ _ _ _
    conv => whnf
    refine ⟨⟨ia + 1, by omega⟩, by simp only; omega, ?_⟩
    conv => whnf
    rw [hstia]
    and_intros <;> first | rfl | trivial | (rw [wrap_i64 (by omega) (by omega)]; rfl) | (simp only [en190, en192, en55, en195, en199, en124, lsB, List.append_assoc, allP]; first | done | rfl)
  · rw [decide_eq_false (show ¬ (ia : Int) < ((x.2.2.2.2.1).length : Int) by omega)]
    conv => whnf
    rw [show (x.2.2.2.2.1).take ia = x.2.2.2.2.1 from List.take_of_length_le (by omega)]
    rw [show ((x.2.2.2.2.2.1).map fun x => elOf (pv195 x)).length = (x.2.2.2.2.2.1).length from List.length_map ..]
    refine ⟨((((((b ++ txB x.1) ++ nuB x.2.1) ++ nuB ((x.2.2.1).toNat : Int)) ++ nuB x.2.2.2.1) ++ vE (x.2.2.2.2.1).length) ++ ((x.2.2.2.2.1).map en192).flatten, (x.2.2.2.2.2.1).length), ?_⟩
    conv => whnf
    refine And.intro (by simp only [allP, List.nil_append, List.cons_append, true_and]; repeat' (first | assumption | rfl | trivial | exact k5.1 | exact Nat.le_trans k5.2.1 (by omega) | (simp only [en190, en192, en55, en195, en199, en124, lsB, List.length_append, List.length_cons, List.length_nil] at h3 ⊢; omega) | refine And.intro ?_ ?_ | omega)) ?_
    conv => whnf
    refine ⟨{i : Nat // i ≤ (x.2.2.2.2.2.1).length}, fun i => ⟨[(3, .ptr 1 0), (0, .rowf 2), (7, isI .i64 i.1)], [(0, .gone), (1, .box ((pv124 x).map avOf)), (2, .row 5 1 true false (bl (((((((b ++ txB x.1) ++ nuB x.2.1) ++ nuB ((x.2.2.1).toNat : Int)) ++ nuB x.2.2.2.1) ++ vE (x.2.2.2.2.1).length) ++ ((x.2.2.2.2.1).map en192).flatten ++ vE (x.2.2.2.2.2.1).length) ++ (((x.2.2.2.2.2.1).take i.1).map en195).flatten)))], 99⟩, fun i => (x.2.2.2.2.2.1).length - i.1, ⟨⟨0, Nat.zero_le _⟩, ?_⟩, ?_⟩
    · conv => whnf
      rw [List.take_zero, List.map_nil, List.flatten_nil, List.append_nil]
      first | done | (and_intros <;> first | rfl | trivial | (simp [allP]; done))
    rintro ⟨ib, hiib⟩
    show aw _ _ _ _ _ _ ⟨[(3, .ptr 1 0), (0, .rowf 2), (7, isI .i64 ib)], [(0, .gone), (1, .box ((pv124 x).map avOf)), (2, .row 5 1 true false (bl (((((((b ++ txB x.1) ++ nuB x.2.1) ++ nuB ((x.2.2.1).toNat : Int)) ++ nuB x.2.2.2.1) ++ vE (x.2.2.2.2.1).length) ++ ((x.2.2.2.2.1).map en192).flatten ++ vE (x.2.2.2.2.2.1).length) ++ (((x.2.2.2.2.2.1).take ib).map en195).flatten)))], 99⟩
    conv => whnf
    have hilib : ((x.2.2.2.2.2.1).map fun x => elOf (pv195 x)).length = (x.2.2.2.2.2.1).length := List.length_map ..
    rw [hilib]
    by_cases hltib : ib < (x.2.2.2.2.2.1).length
    · rw [decide_eq_true (show (ib : Int) < ((x.2.2.2.2.2.1).length : Int) by omega)]
      conv => whnf
      refine And.intro (by simp only [allP, List.nil_append, List.cons_append, true_and]; rw [hilib]; omega) ?_
      conv => whnf
      have hflib := flat_one_len en195 hltib
      have hstib := flat_step en195 hltib
      have hokib := k5.2.2 _ (List.getElem_mem hltib)
      generalize hyib : (x.2.2.2.2.2.1)[ib] = yb at hflib hstib hokib
      have hok'ib := hokib
      obtain ⟨qb0, qb1⟩ := hok'ib
      simp only [en190, en192, en55, en195, en199, en124, lsB, List.length_append] at hflib
      rw [Int.toNat_natCast, map_getD (fun x => elOf (pv195 x)) _ ib _ hltib, hyib]
      conv => whnf
      refine ⟨(((((((b ++ txB x.1) ++ nuB x.2.1) ++ nuB ((x.2.2.1).toNat : Int)) ++ nuB x.2.2.2.1) ++ vE (x.2.2.2.2.1).length) ++ ((x.2.2.2.2.1).map en192).flatten ++ vE (x.2.2.2.2.2.1).length) ++ (((x.2.2.2.2.2.1).take ib).map en195).flatten, yb.1), ?_⟩
      conv => whnf
      refine And.intro (by simp only [allP, List.nil_append, List.cons_append, true_and]; repeat' (first | assumption | rfl | trivial | (apply int_r; assumption) | exact qb0.1 | exact qb0.2.2 | (intros; trivial) | (simp only [en190, en192, en55, en195, en199, en124, lsB, List.length_append, List.length_cons, List.length_nil] at h3 ⊢; omega) | refine And.intro ?_ ?_ | omega)) ?_
      conv => whnf
      refine And.intro (by simp only [allP, List.nil_append, List.cons_append, true_and]; rw [hilib]; omega) ?_
      conv => whnf
      rw [Int.toNat_natCast, map_getD (fun x => elOf (pv195 x)) _ ib _ hltib, hyib]
      conv => whnf
      refine ⟨((((((((b ++ txB x.1) ++ nuB x.2.1) ++ nuB ((x.2.2.1).toNat : Int)) ++ nuB x.2.2.2.1) ++ vE (x.2.2.2.2.1).length) ++ ((x.2.2.2.2.1).map en192).flatten ++ vE (x.2.2.2.2.2.1).length) ++ (((x.2.2.2.2.2.1).take ib).map en195).flatten ++ txB yb.1), yb.2), ?_⟩
      conv => whnf
      refine And.intro (by simp only [allP, List.nil_append, List.cons_append, true_and]; repeat' (first | assumption | rfl | trivial | (apply int_r; assumption) | exact qb1.1 | exact qb1.2.2 | (intros; trivial) | (simp only [en190, en192, en55, en195, en199, en124, lsB, List.length_append, List.length_cons, List.length_nil] at h3 ⊢; omega) | refine And.intro ?_ ?_ | omega)) ?_
      conv => whnf
      refine ⟨by rfl, ?_⟩
      show aw _ _ _ _ _ _ _
      conv => whnf
      refine ⟨⟨ib + 1, by omega⟩, by simp only; omega, ?_⟩
      conv => whnf
      rw [hstib]
      and_intros <;> first | rfl | trivial | (rw [wrap_i64 (by omega) (by omega)]; rfl) | (simp only [en190, en192, en55, en195, en199, en124, lsB, List.append_assoc, allP]; first | done | rfl)
    · rw [decide_eq_false (show ¬ (ib : Int) < ((x.2.2.2.2.2.1).length : Int) by omega)]
      conv => whnf
      rw [show (x.2.2.2.2.2.1).take ib = x.2.2.2.2.2.1 from List.take_of_length_le (by omega)]
      rw [show ((x.2.2.2.2.2.2).map fun x => elOf (pv199 x)).length = (x.2.2.2.2.2.2).length from List.length_map ..]
      refine ⟨(((((((b ++ txB x.1) ++ nuB x.2.1) ++ nuB ((x.2.2.1).toNat : Int)) ++ nuB x.2.2.2.1) ++ vE (x.2.2.2.2.1).length) ++ ((x.2.2.2.2.1).map en192).flatten ++ vE (x.2.2.2.2.2.1).length) ++ ((x.2.2.2.2.2.1).map en195).flatten, (x.2.2.2.2.2.2).length), ?_⟩
      conv => whnf
      refine And.intro (by simp only [allP, List.nil_append, List.cons_append, true_and]; repeat' (first | assumption | rfl | trivial | exact k6.1 | exact Nat.le_trans k6.2.1 (by omega) | (simp only [en190, en192, en55, en195, en199, en124, lsB, List.length_append, List.length_cons, List.length_nil] at h3 ⊢; omega) | refine And.intro ?_ ?_ | omega)) ?_
      conv => whnf
      refine ⟨{i : Nat // i ≤ (x.2.2.2.2.2.2).length}, fun i => ⟨[(3, .ptr 1 0), (0, .rowf 2), (8, isI .i64 i.1)], [(0, .gone), (1, .box ((pv124 x).map avOf)), (2, .row 5 1 true false (bl ((((((((b ++ txB x.1) ++ nuB x.2.1) ++ nuB ((x.2.2.1).toNat : Int)) ++ nuB x.2.2.2.1) ++ vE (x.2.2.2.2.1).length) ++ ((x.2.2.2.2.1).map en192).flatten ++ vE (x.2.2.2.2.2.1).length) ++ ((x.2.2.2.2.2.1).map en195).flatten ++ vE (x.2.2.2.2.2.2).length) ++ (((x.2.2.2.2.2.2).take i.1).map en199).flatten)))], 99⟩, fun i => (x.2.2.2.2.2.2).length - i.1, ⟨⟨0, Nat.zero_le _⟩, ?_⟩, ?_⟩
      · conv => whnf
        rw [List.take_zero, List.map_nil, List.flatten_nil, List.append_nil]
        first | done | (and_intros <;> first | rfl | trivial | (simp [allP]; done))
      rintro ⟨ic, hiic⟩
      show aw _ _ _ _ _ _ ⟨[(3, .ptr 1 0), (0, .rowf 2), (8, isI .i64 ic)], [(0, .gone), (1, .box ((pv124 x).map avOf)), (2, .row 5 1 true false (bl ((((((((b ++ txB x.1) ++ nuB x.2.1) ++ nuB ((x.2.2.1).toNat : Int)) ++ nuB x.2.2.2.1) ++ vE (x.2.2.2.2.1).length) ++ ((x.2.2.2.2.1).map en192).flatten ++ vE (x.2.2.2.2.2.1).length) ++ ((x.2.2.2.2.2.1).map en195).flatten ++ vE (x.2.2.2.2.2.2).length) ++ (((x.2.2.2.2.2.2).take ic).map en199).flatten)))], 99⟩
      conv => whnf
      have hilic : ((x.2.2.2.2.2.2).map fun x => elOf (pv199 x)).length = (x.2.2.2.2.2.2).length := List.length_map ..
      rw [hilic]
      by_cases hltic : ic < (x.2.2.2.2.2.2).length
      · rw [decide_eq_true (show (ic : Int) < ((x.2.2.2.2.2.2).length : Int) by omega)]
        conv => whnf
        refine And.intro (by simp only [allP, List.nil_append, List.cons_append, true_and]; rw [hilic]; omega) ?_
        conv => whnf
        have hflic := flat_one_len en199 hltic
        have hstic := flat_step en199 hltic
        have hokic := k6.2.2 _ (List.getElem_mem hltic)
        generalize hyic : (x.2.2.2.2.2.2)[ic] = yc at hflic hstic hokic
        have hok'ic := hokic
        obtain ⟨qc0, qc1⟩ := hok'ic
        simp only [en190, en192, en55, en195, en199, en124, lsB, List.length_append] at hflic
        rw [Int.toNat_natCast, map_getD (fun x => elOf (pv199 x)) _ ic _ hltic, hyic]
        conv => whnf
        refine dI (k := ?_)
        conv => whnf
        refine ⟨((((((((b ++ txB x.1) ++ nuB x.2.1) ++ nuB ((x.2.2.1).toNat : Int)) ++ nuB x.2.2.2.1) ++ vE (x.2.2.2.2.1).length) ++ ((x.2.2.2.2.1).map en192).flatten ++ vE (x.2.2.2.2.2.1).length) ++ ((x.2.2.2.2.2.1).map en195).flatten ++ vE (x.2.2.2.2.2.2).length) ++ (((x.2.2.2.2.2.2).take ic).map en199).flatten, yc.1), ?_⟩
        conv => whnf
        refine And.intro (by simp only [allP, List.nil_append, List.cons_append, true_and]; repeat' (first | assumption | rfl | trivial | (apply int_r; assumption) | exact qc0.1 | exact qc0.2.2 | (intros; trivial) | (simp only [en190, en192, en55, en195, en199, en124, lsB, List.length_append, List.length_cons, List.length_nil] at h3 ⊢; omega) | refine And.intro ?_ ?_ | omega)) ?_
        conv => whnf
        refine And.intro (by simp only [allP, List.nil_append, List.cons_append, true_and]; rw [hilic]; omega) ?_
        conv => whnf
        rw [Int.toNat_natCast, map_getD (fun x => elOf (pv199 x)) _ ic _ hltic, hyic]
        conv => whnf
        refine ⟨(((((((((b ++ txB x.1) ++ nuB x.2.1) ++ nuB ((x.2.2.1).toNat : Int)) ++ nuB x.2.2.2.1) ++ vE (x.2.2.2.2.1).length) ++ ((x.2.2.2.2.1).map en192).flatten ++ vE (x.2.2.2.2.2.1).length) ++ ((x.2.2.2.2.2.1).map en195).flatten ++ vE (x.2.2.2.2.2.2).length) ++ (((x.2.2.2.2.2.2).take ic).map en199).flatten ++ en55 yc.1), yc.2), ?_⟩
        conv => whnf
        refine And.intro (by simp only [allP, List.nil_append, List.cons_append, true_and]; repeat' (first | assumption | rfl | trivial | (apply int_r; assumption) | exact qc1.1 | exact qc1.2.2 | (intros; trivial) | (simp only [en190, en192, en55, en195, en199, en124, lsB, List.length_append, List.length_cons, List.length_nil] at h3 ⊢; omega) | refine And.intro ?_ ?_ | omega)) ?_
        conv => whnf
        refine ⟨by rfl, ?_⟩
        show aw _ _ _ _ _ _ _
        conv => whnf
        refine ⟨⟨ic + 1, by omega⟩, by simp only; omega, ?_⟩
        conv => whnf
        rw [hstic]
        and_intros <;> first | rfl | trivial | (rw [wrap_i64 (by omega) (by omega)]; rfl) | (simp only [en190, en192, en55, en195, en199, en124, lsB, List.append_assoc, allP]; first | done | rfl)
      · rw [decide_eq_false (show ¬ (ic : Int) < ((x.2.2.2.2.2.2).length : Int) by omega)]
        conv => whnf
        rw [show (x.2.2.2.2.2.2).take ic = x.2.2.2.2.2.2 from List.take_of_length_le (by omega)]
        rw [show b ++ en124 x = ((((((((b ++ txB x.1) ++ nuB x.2.1) ++ nuB ((x.2.2.1).toNat : Int)) ++ nuB x.2.2.2.1) ++ vE (x.2.2.2.2.1).length) ++ ((x.2.2.2.2.1).map en192).flatten ++ vE (x.2.2.2.2.2.1).length) ++ ((x.2.2.2.2.2.1).map en195).flatten ++ vE (x.2.2.2.2.2.2).length) ++ ((x.2.2.2.2.2.2).map en199).flatten) from by simp only [en124, lsB, List.append_assoc]]
        first | done | (and_intros <;> rfl)
theorem Rgroup_sound : Sound Tryz.prog 109 cRgroup := does_sound mixed tabOk_prog gQ14_ok Tryz.func109 Rgroup_does
def gQ15 : List (FuncId × Ctr) := (109, cRgroup) :: gQ14
theorem gQ15_ok : GamOk Tryz.prog gQ15 := GamOk.cons gQ14_ok Tryz.func109 (by kernel_rfl) (by kernel_rfl) Rgroup_sound
end Go.Proofs.YtingmlhhabaplaaGreat.Ev
