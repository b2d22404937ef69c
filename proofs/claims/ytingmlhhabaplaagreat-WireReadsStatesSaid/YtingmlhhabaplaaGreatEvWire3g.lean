/- Wire: what the document puts together: metas. No conditions. -/
import Derived.Test.YtingmlhhabaplaaGreatEvWire3f
namespace Go.Proofs.YtingmlhhabaplaaGreat.Ev
open Go
set_option linter.unusedVariables false
set_option linter.unusedSimpArgs false
set_option maxRecDepth 100000
set_option maxHeartbeats 4000000
abbrev cDMetas : Ctr := cDoc 4 en37 (fun x : S37 => .agg ((pv37 x).map avOf)) ok37
theorem DMetas_does : Does gQ15 tab Tryz.f52 cDMetas := by
  rintro x ⟨hx, h3⟩
  obtain ⟨k0, k1, k2, k3, k4⟩ := hx
  conv => whnf
  refine ⟨([4], x.1), ?_⟩
  conv => whnf
  refine And.intro (by simp only [allP, List.nil_append, List.cons_append, true_and]; repeat' (first | assumption | rfl | trivial | (apply int_r; assumption) | exact k0.1 | exact k0.2.2 | (intros; trivial) | (simp only [en117, en119, en190, en192, en55, en195, en199, en124, en70, en130, en128, en37, lsB, List.length_append, List.length_cons, List.length_nil] at h3 ⊢; omega) | refine And.intro ?_ ?_ | omega)) ?_
  conv => whnf

  rw [show ((x.2.1).map fun x => elOf (pv117 x)).length = (x.2.1).length from List.length_map ..]
  refine ⟨(([4] ++ nuB x.1), (x.2.1).length), ?_⟩
  conv => whnf
  refine And.intro (by simp only [allP, List.nil_append, List.cons_append, true_and]; repeat' (first | assumption | rfl | trivial | exact k1.1 | exact Nat.le_trans k1.2.1 (by omega) | (simp only [en117, en119, en190, en192, en55, en195, en199, en124, en70, en130, en128, en37, lsB, List.length_append, List.length_cons, List.length_nil] at h3 ⊢; omega) | refine And.intro ?_ ?_ | omega)) ?_
  conv => whnf
  refine ⟨by rfl, ?_⟩
  show aw _ _ _ _ _ _ _
  conv => whnf
  refine ⟨{i : Nat // i ≤ (x.2.1).length}, fun i => ⟨[(1, .ptr 0 0), (3, .rowf 1), (4, isI .i64 i.1)], [(0, .box ((pv37 x).map avOf)), (1, .row 5 1 true false (bl ((([4] ++ nuB x.1) ++ vE (x.2.1).length) ++ (((x.2.1).take i.1).map en117).flatten)))], 99⟩, fun i => (x.2.1).length - i.1, ⟨⟨0, Nat.zero_le _⟩, ?_⟩, ?_⟩
  · conv => whnf
    rw [List.take_zero, List.map_nil, List.flatten_nil, List.append_nil]
    first | done | (and_intros <;> first | rfl | trivial | (simp [allP]; done))
  rintro ⟨ia, hiia⟩
  show aw _ _ _ _ _ _ ⟨[(1, .ptr 0 0), (3, .rowf 1), (4, isI .i64 ia)], [(0, .box ((pv37 x).map avOf)), (1, .row 5 1 true false (bl ((([4] ++ nuB x.1) ++ vE (x.2.1).length) ++ (((x.2.1).take ia).map en117).flatten)))], 99⟩
  conv => whnf
  have hilia : ((x.2.1).map fun x => elOf (pv117 x)).length = (x.2.1).length := List.length_map ..
  rw [hilia]
  by_cases hltia : ia < (x.2.1).length
  · rw [decide_eq_true (show (ia : Int) < ((x.2.1).length : Int) by omega)]
    conv => whnf
    refine And.intro (by simp only [allP, List.nil_append, List.cons_append, true_and]; rw [hilia]; omega) ?_
    conv => whnf
    have hflia := flat_one_len en117 hltia
    have hstia := flat_step en117 hltia
    have hokia := k1.2.2 _ (List.getElem_mem hltia)
    generalize hyia : (x.2.1)[ia] = ya at hflia hstia hokia
    have hok'ia := hokia
    obtain ⟨qa0, qa1⟩ := hok'ia
    simp only [en117, en119, en190, en192, en55, en195, en199, en124, en70, en130, en128, en37, lsB, List.length_append] at hflia
    rw [Int.toNat_natCast, map_getD (fun x => elOf (pv117 x)) _ ia _ hltia, hyia]
    conv => whnf
    refine ⟨((([4] ++ nuB x.1) ++ vE (x.2.1).length) ++ (((x.2.1).take ia).map en117).flatten, ya.1), ?_⟩
    conv => whnf
    refine And.intro (by simp only [allP, List.nil_append, List.cons_append, true_and]; repeat' (first | assumption | rfl | trivial | (apply int_r; assumption) | exact qa0.1 | exact qa0.2.2 | (intros; trivial) | (simp only [en117, en119, en190, en192, en55, en195, en199, en124, en70, en130, en128, en37, lsB, List.length_append, List.length_cons, List.length_nil] at h3 ⊢; omega) | refine And.intro ?_ ?_ | omega)) ?_
    conv => whnf
    refine And.intro (by simp only [allP, List.nil_append, List.cons_append, true_and]; rw [hilia]; omega) ?_
    conv => whnf
    rw [Int.toNat_natCast, map_getD (fun x => elOf (pv117 x)) _ ia _ hltia, hyia]
    conv => whnf
    refine ⟨(((([4] ++ nuB x.1) ++ vE (x.2.1).length) ++ (((x.2.1).take ia).map en117).flatten ++ txB ya.1), ya.2), ?_⟩
    conv => whnf
    refine And.intro (by simp only [allP, List.nil_append, List.cons_append, true_and]; repeat' (first | assumption | rfl | trivial | (apply int_r; assumption) | exact qa1.1 | exact qa1.2.2 | (intros; trivial) | (simp only [en117, en119, en190, en192, en55, en195, en199, en124, en70, en130, en128, en37, lsB, List.length_append, List.length_cons, List.length_nil] at h3 ⊢; omega) | refine And.intro ?_ ?_ | omega)) ?_
    conv => whnf
    refine ⟨by rfl, ?_⟩
    show aw _ _ _ _ _ _ _
    conv => whnf
    refine ⟨⟨ia + 1, by omega⟩, by simp only; omega, ?_⟩
    conv => whnf
    rw [hstia]
    and_intros <;> first | rfl | trivial | (rw [wrap_i64 (by omega) (by omega)]; rfl) | (simp only [en117, en119, en190, en192, en55, en195, en199, en124, en70, en130, en128, en37, lsB, List.append_assoc, allP]; first | done | rfl)
  · rw [decide_eq_false (show ¬ (ia : Int) < ((x.2.1).length : Int) by omega)]
    conv => whnf
    rw [show (x.2.1).take ia = x.2.1 from List.take_of_length_le (by omega)]
    rw [show ((x.2.2.1).map fun x => elOf (pv119 x)).length = (x.2.2.1).length from List.length_map ..]
    refine ⟨((([4] ++ nuB x.1) ++ vE (x.2.1).length) ++ ((x.2.1).map en117).flatten, (x.2.2.1).length), ?_⟩
    conv => whnf
    refine And.intro (by simp only [allP, List.nil_append, List.cons_append, true_and]; repeat' (first | assumption | rfl | trivial | exact k2.1 | exact Nat.le_trans k2.2.1 (by omega) | (simp only [en117, en119, en190, en192, en55, en195, en199, en124, en70, en130, en128, en37, lsB, List.length_append, List.length_cons, List.length_nil] at h3 ⊢; omega) | refine And.intro ?_ ?_ | omega)) ?_
    conv => whnf
    refine ⟨{i : Nat // i ≤ (x.2.2.1).length}, fun i => ⟨[(1, .ptr 0 0), (3, .rowf 1), (5, isI .i64 i.1)], [(0, .box ((pv37 x).map avOf)), (1, .row 5 1 true false (bl (((([4] ++ nuB x.1) ++ vE (x.2.1).length) ++ ((x.2.1).map en117).flatten ++ vE (x.2.2.1).length) ++ (((x.2.2.1).take i.1).map en119).flatten)))], 99⟩, fun i => (x.2.2.1).length - i.1, ⟨⟨0, Nat.zero_le _⟩, ?_⟩, ?_⟩
    · conv => whnf
      rw [List.take_zero, List.map_nil, List.flatten_nil, List.append_nil]
      first | done | (and_intros <;> first | rfl | trivial | (simp [allP]; done))
    rintro ⟨ib, hiib⟩
    show aw _ _ _ _ _ _ ⟨[(1, .ptr 0 0), (3, .rowf 1), (5, isI .i64 ib)], [(0, .box ((pv37 x).map avOf)), (1, .row 5 1 true false (bl (((([4] ++ nuB x.1) ++ vE (x.2.1).length) ++ ((x.2.1).map en117).flatten ++ vE (x.2.2.1).length) ++ (((x.2.2.1).take ib).map en119).flatten)))], 99⟩
    conv => whnf
    have hilib : ((x.2.2.1).map fun x => elOf (pv119 x)).length = (x.2.2.1).length := List.length_map ..
    rw [hilib]
    by_cases hltib : ib < (x.2.2.1).length
    · rw [decide_eq_true (show (ib : Int) < ((x.2.2.1).length : Int) by omega)]
      conv => whnf
      refine And.intro (by simp only [allP, List.nil_append, List.cons_append, true_and]; rw [hilib]; omega) ?_
      conv => whnf
      have hflib := flat_one_len en119 hltib
      have hstib := flat_step en119 hltib
      have hokib := k2.2.2 _ (List.getElem_mem hltib)
      generalize hyib : (x.2.2.1)[ib] = yb at hflib hstib hokib
      have hok'ib := hokib
      obtain ⟨qb0, qb1, qb2⟩ := hok'ib
      simp only [en117, en119, en190, en192, en55, en195, en199, en124, en70, en130, en128, en37, lsB, List.length_append] at hflib
      rw [Int.toNat_natCast, map_getD (fun x => elOf (pv119 x)) _ ib _ hltib, hyib]
      conv => whnf
      refine ⟨(((([4] ++ nuB x.1) ++ vE (x.2.1).length) ++ ((x.2.1).map en117).flatten ++ vE (x.2.2.1).length) ++ (((x.2.2.1).take ib).map en119).flatten, yb.1), ?_⟩
      conv => whnf
      refine And.intro (by simp only [allP, List.nil_append, List.cons_append, true_and]; repeat' (first | assumption | rfl | trivial | (apply int_r; assumption) | exact qb0.1 | exact qb0.2.2 | (intros; trivial) | (simp only [en117, en119, en190, en192, en55, en195, en199, en124, en70, en130, en128, en37, lsB, List.length_append, List.length_cons, List.length_nil] at h3 ⊢; omega) | refine And.intro ?_ ?_ | omega)) ?_
      conv => whnf
      refine And.intro (by simp only [allP, List.nil_append, List.cons_append, true_and]; rw [hilib]; omega) ?_
      conv => whnf
      rw [Int.toNat_natCast, map_getD (fun x => elOf (pv119 x)) _ ib _ hltib, hyib]
      conv => whnf
      refine ⟨((((([4] ++ nuB x.1) ++ vE (x.2.1).length) ++ ((x.2.1).map en117).flatten ++ vE (x.2.2.1).length) ++ (((x.2.2.1).take ib).map en119).flatten ++ txB yb.1), yb.2.1), ?_⟩
      conv => whnf
      refine And.intro (by simp only [allP, List.nil_append, List.cons_append, true_and]; repeat' (first | assumption | rfl | trivial | (apply int_r; assumption) | exact qb1.1 | exact qb1.2.2 | (intros; trivial) | (simp only [en117, en119, en190, en192, en55, en195, en199, en124, en70, en130, en128, en37, lsB, List.length_append, List.length_cons, List.length_nil] at h3 ⊢; omega) | refine And.intro ?_ ?_ | omega)) ?_
      conv => whnf
      refine And.intro (by simp only [allP, List.nil_append, List.cons_append, true_and]; rw [hilib]; omega) ?_
      conv => whnf
      rw [Int.toNat_natCast, map_getD (fun x => elOf (pv119 x)) _ ib _ hltib, hyib]
      conv => whnf
      refine ⟨(((((([4] ++ nuB x.1) ++ vE (x.2.1).length) ++ ((x.2.1).map en117).flatten ++ vE (x.2.2.1).length) ++ (((x.2.2.1).take ib).map en119).flatten ++ txB yb.1) ++ nuB yb.2.1), yb.2.2), ?_⟩
      conv => whnf
      refine And.intro (by simp only [allP, List.nil_append, List.cons_append, true_and]; repeat' (first | assumption | rfl | trivial | (apply int_r; assumption) | exact qb2.1 | exact qb2.2.2 | (intros; trivial) | (simp only [en117, en119, en190, en192, en55, en195, en199, en124, en70, en130, en128, en37, lsB, List.length_append, List.length_cons, List.length_nil] at h3 ⊢; omega) | refine And.intro ?_ ?_ | omega)) ?_
      conv => whnf
      refine ⟨by rfl, ?_⟩
      show aw _ _ _ _ _ _ _
      conv => whnf
      refine ⟨⟨ib + 1, by omega⟩, by simp only; omega, ?_⟩
      conv => whnf
      rw [hstib]
      and_intros <;> first | rfl | trivial | (rw [wrap_i64 (by omega) (by omega)]; rfl) | (simp only [en117, en119, en190, en192, en55, en195, en199, en124, en70, en130, en128, en37, lsB, List.append_assoc, allP]; first | done | rfl)
    · rw [decide_eq_false (show ¬ (ib : Int) < ((x.2.2.1).length : Int) by omega)]
      conv => whnf
      rw [show (x.2.2.1).take ib = x.2.2.1 from List.take_of_length_le (by omega)]
      rw [show ((x.2.2.2.1).map fun x => elOf (pv124 x)).length = (x.2.2.2.1).length from List.length_map ..]
      refine ⟨(((([4] ++ nuB x.1) ++ vE (x.2.1).length) ++ ((x.2.1).map en117).flatten ++ vE (x.2.2.1).length) ++ ((x.2.2.1).map en119).flatten, (x.2.2.2.1).length), ?_⟩
      conv => whnf
      refine And.intro (by simp only [allP, List.nil_append, List.cons_append, true_and]; repeat' (first | assumption | rfl | trivial | exact k3.1 | exact Nat.le_trans k3.2.1 (by omega) | (simp only [en117, en119, en190, en192, en55, en195, en199, en124, en70, en130, en128, en37, lsB, List.length_append, List.length_cons, List.length_nil] at h3 ⊢; omega) | refine And.intro ?_ ?_ | omega)) ?_
      conv => whnf
      refine ⟨{i : Nat // i ≤ (x.2.2.2.1).length}, fun i => ⟨[(1, .ptr 0 0), (3, .rowf 1), (6, isI .i64 i.1)], [(0, .box ((pv37 x).map avOf)), (1, .row 5 1 true false (bl ((((([4] ++ nuB x.1) ++ vE (x.2.1).length) ++ ((x.2.1).map en117).flatten ++ vE (x.2.2.1).length) ++ ((x.2.2.1).map en119).flatten ++ vE (x.2.2.2.1).length) ++ (((x.2.2.2.1).take i.1).map en124).flatten)))], 99⟩, fun i => (x.2.2.2.1).length - i.1, ⟨⟨0, Nat.zero_le _⟩, ?_⟩, ?_⟩
      · conv => whnf
        rw [List.take_zero, List.map_nil, List.flatten_nil, List.append_nil]
        first | done | (and_intros <;> first | rfl | trivial | (simp [allP]; done))
      rintro ⟨ic, hiic⟩
      show aw _ _ _ _ _ _ ⟨[(1, .ptr 0 0), (3, .rowf 1), (6, isI .i64 ic)], [(0, .box ((pv37 x).map avOf)), (1, .row 5 1 true false (bl ((((([4] ++ nuB x.1) ++ vE (x.2.1).length) ++ ((x.2.1).map en117).flatten ++ vE (x.2.2.1).length) ++ ((x.2.2.1).map en119).flatten ++ vE (x.2.2.2.1).length) ++ (((x.2.2.2.1).take ic).map en124).flatten)))], 99⟩
      conv => whnf
      have hilic : ((x.2.2.2.1).map fun x => elOf (pv124 x)).length = (x.2.2.2.1).length := List.length_map ..
      rw [hilic]
      by_cases hltic : ic < (x.2.2.2.1).length
      · rw [decide_eq_true (show (ic : Int) < ((x.2.2.2.1).length : Int) by omega)]
        conv => whnf
        refine And.intro (by simp only [allP, List.nil_append, List.cons_append, true_and]; rw [hilic]; omega) ?_
        conv => whnf
        have hflic := flat_one_len en124 hltic
        have hstic := flat_step en124 hltic
        have hokic := k3.2.2 _ (List.getElem_mem hltic)
        generalize hyic : (x.2.2.2.1)[ic] = yc at hflic hstic hokic
        have hok'ic := hokic
        obtain q := hok'ic
        simp only [en117, en119, en190, en192, en55, en195, en199, en124, en70, en130, en128, en37, lsB, List.length_append] at hflic
        rw [Int.toNat_natCast, map_getD (fun x => elOf (pv124 x)) _ ic _ hltic, hyic]
        conv => whnf
        refine dI (k := ?_)
        conv => whnf
        refine ⟨((((([4] ++ nuB x.1) ++ vE (x.2.1).length) ++ ((x.2.1).map en117).flatten ++ vE (x.2.2.1).length) ++ ((x.2.2.1).map en119).flatten ++ vE (x.2.2.2.1).length) ++ (((x.2.2.2.1).take ic).map en124).flatten, yc), ?_⟩
        conv => whnf
        refine And.intro (by simp only [allP, List.nil_append, List.cons_append, true_and]; repeat' (first | assumption | rfl | trivial | (simp only [en117, en119, en190, en192, en55, en195, en199, en124, en70, en130, en128, en37, lsB, List.length_append, List.length_cons, List.length_nil] at h3 ⊢; omega) | refine And.intro ?_ ?_ | omega)) ?_
        conv => whnf
        refine ⟨⟨ic + 1, by omega⟩, by simp only; omega, ?_⟩
        conv => whnf
        rw [hstic]
        and_intros <;> first | rfl | trivial | (rw [wrap_i64 (by omega) (by omega)]; rfl) | (simp only [en117, en119, en190, en192, en55, en195, en199, en124, en70, en130, en128, en37, lsB, List.append_assoc, allP]; first | done | rfl)
      · rw [decide_eq_false (show ¬ (ic : Int) < ((x.2.2.2.1).length : Int) by omega)]
        conv => whnf
        rw [show (x.2.2.2.1).take ic = x.2.2.2.1 from List.take_of_length_le (by omega)]
        rw [show ((x.2.2.2.2).map fun x => elOf (pv128 x)).length = (x.2.2.2.2).length from List.length_map ..]
        refine ⟨((((([4] ++ nuB x.1) ++ vE (x.2.1).length) ++ ((x.2.1).map en117).flatten ++ vE (x.2.2.1).length) ++ ((x.2.2.1).map en119).flatten ++ vE (x.2.2.2.1).length) ++ ((x.2.2.2.1).map en124).flatten, (x.2.2.2.2).length), ?_⟩
        conv => whnf
        refine And.intro (by simp only [allP, List.nil_append, List.cons_append, true_and]; repeat' (first | assumption | rfl | trivial | exact k4.1 | exact Nat.le_trans k4.2.1 (by omega) | (simp only [en117, en119, en190, en192, en55, en195, en199, en124, en70, en130, en128, en37, lsB, List.length_append, List.length_cons, List.length_nil] at h3 ⊢; omega) | refine And.intro ?_ ?_ | omega)) ?_
        conv => whnf
        refine ⟨{i : Nat // i ≤ (x.2.2.2.2).length}, fun i => ⟨[(1, .ptr 0 0), (3, .rowf 1), (7, isI .i64 i.1)], [(0, .box ((pv37 x).map avOf)), (1, .row 5 1 true false (bl (((((([4] ++ nuB x.1) ++ vE (x.2.1).length) ++ ((x.2.1).map en117).flatten ++ vE (x.2.2.1).length) ++ ((x.2.2.1).map en119).flatten ++ vE (x.2.2.2.1).length) ++ ((x.2.2.2.1).map en124).flatten ++ vE (x.2.2.2.2).length) ++ (((x.2.2.2.2).take i.1).map en128).flatten)))], 99⟩, fun i => (x.2.2.2.2).length - i.1, ⟨⟨0, Nat.zero_le _⟩, ?_⟩, ?_⟩
        · conv => whnf
          rw [List.take_zero, List.map_nil, List.flatten_nil, List.append_nil]
          first | done | (and_intros <;> first | rfl | trivial | (simp [allP]; done))
        rintro ⟨id, hiid⟩
        show aw _ _ _ _ _ _ ⟨[(1, .ptr 0 0), (3, .rowf 1), (7, isI .i64 id)], [(0, .box ((pv37 x).map avOf)), (1, .row 5 1 true false (bl (((((([4] ++ nuB x.1) ++ vE (x.2.1).length) ++ ((x.2.1).map en117).flatten ++ vE (x.2.2.1).length) ++ ((x.2.2.1).map en119).flatten ++ vE (x.2.2.2.1).length) ++ ((x.2.2.2.1).map en124).flatten ++ vE (x.2.2.2.2).length) ++ (((x.2.2.2.2).take id).map en128).flatten)))], 99⟩
        conv => whnf
        have hilid : ((x.2.2.2.2).map fun x => elOf (pv128 x)).length = (x.2.2.2.2).length := List.length_map ..
        rw [hilid]
        by_cases hltid : id < (x.2.2.2.2).length
        · rw [decide_eq_true (show (id : Int) < ((x.2.2.2.2).length : Int) by omega)]
          conv => whnf
          refine And.intro (by simp only [allP, List.nil_append, List.cons_append, true_and]; rw [hilid]; omega) ?_
          conv => whnf
          have hflid := flat_one_len en128 hltid
          have hstid := flat_step en128 hltid
          have hokid := k4.2.2 _ (List.getElem_mem hltid)
          generalize hyid : (x.2.2.2.2)[id] = yd at hflid hstid hokid
          have hok'id := hokid
          obtain ⟨q0, q1, q2⟩ := hok'id
          simp only [en117, en119, en190, en192, en55, en195, en199, en124, en70, en130, en128, en37, lsB, List.length_append] at hflid
          rw [Int.toNat_natCast, map_getD (fun x => elOf (pv128 x)) _ id _ hltid, hyid]
          conv => whnf
          refine dI (k := ?_)
          conv => whnf
          refine dI (k := ?_)
          conv => whnf
          refine ⟨(((((([4] ++ nuB x.1) ++ vE (x.2.1).length) ++ ((x.2.1).map en117).flatten ++ vE (x.2.2.1).length) ++ ((x.2.2.1).map en119).flatten ++ vE (x.2.2.2.1).length) ++ ((x.2.2.2.1).map en124).flatten ++ vE (x.2.2.2.2).length) ++ (((x.2.2.2.2).take id).map en128).flatten, yd.1), ?_⟩
          conv => whnf
          refine And.intro (by simp only [allP, List.nil_append, List.cons_append, true_and]; repeat' (first | assumption | rfl | trivial | (apply int_r; assumption) | exact q0.1 | exact q0.2.2 | (intros; trivial) | (simp only [en117, en119, en190, en192, en55, en195, en199, en124, en70, en130, en128, en37, lsB, List.length_append, List.length_cons, List.length_nil] at h3 ⊢; omega) | refine And.intro ?_ ?_ | omega)) ?_
          conv => whnf
          refine ⟨((((((([4] ++ nuB x.1) ++ vE (x.2.1).length) ++ ((x.2.1).map en117).flatten ++ vE (x.2.2.1).length) ++ ((x.2.2.1).map en119).flatten ++ vE (x.2.2.2.1).length) ++ ((x.2.2.2.1).map en124).flatten ++ vE (x.2.2.2.2).length) ++ (((x.2.2.2.2).take id).map en128).flatten ++ nuB yd.1), yd.2.1), ?_⟩
          conv => whnf
          refine And.intro (by simp only [allP, List.nil_append, List.cons_append, true_and]; repeat' (first | assumption | rfl | trivial | (apply int_r; assumption) | exact q1.1 | exact q1.2.2 | (intros; trivial) | (simp only [en117, en119, en190, en192, en55, en195, en199, en124, en70, en130, en128, en37, lsB, List.length_append, List.length_cons, List.length_nil] at h3 ⊢; omega) | refine And.intro ?_ ?_ | omega)) ?_
          conv => whnf

          rw [show ((yd.2.2).map fun x => elOf (pv130 x)).length = (yd.2.2).length from List.length_map ..]
          refine ⟨(((((((([4] ++ nuB x.1) ++ vE (x.2.1).length) ++ ((x.2.1).map en117).flatten ++ vE (x.2.2.1).length) ++ ((x.2.2.1).map en119).flatten ++ vE (x.2.2.2.1).length) ++ ((x.2.2.2.1).map en124).flatten ++ vE (x.2.2.2.2).length) ++ (((x.2.2.2.2).take id).map en128).flatten ++ nuB yd.1) ++ nuB yd.2.1), (yd.2.2).length), ?_⟩
          conv => whnf
          refine And.intro (by simp only [allP, List.nil_append, List.cons_append, true_and]; repeat' (first | assumption | rfl | trivial | exact q2.1 | exact Nat.le_trans q2.2.1 (by omega) | (simp only [en117, en119, en190, en192, en55, en195, en199, en124, en70, en130, en128, en37, lsB, List.length_append, List.length_cons, List.length_nil] at h3 ⊢; omega) | refine And.intro ?_ ?_ | omega)) ?_
          conv => whnf
          refine ⟨by rfl, ?_⟩
          show aw _ _ _ _ _ _ _
          conv => whnf
          refine ⟨{i : Nat // i ≤ (yd.2.2).length}, fun i => ⟨[(1, .ptr 0 0), (8, .ptr 2 0), (3, .rowf 1), (7, isI .i64 id), (9, isI .i64 i.1)], [(0, .box ((pv37 x).map avOf)), (2, .box ((pv128 yd).map avOf)), (1, .row 5 1 true false (bl ((((((((([4] ++ nuB x.1) ++ vE (x.2.1).length) ++ ((x.2.1).map en117).flatten ++ vE (x.2.2.1).length) ++ ((x.2.2.1).map en119).flatten ++ vE (x.2.2.2.1).length) ++ ((x.2.2.2.1).map en124).flatten ++ vE (x.2.2.2.2).length) ++ (((x.2.2.2.2).take id).map en128).flatten ++ nuB yd.1) ++ nuB yd.2.1) ++ vE (yd.2.2).length) ++ (((yd.2.2).take i.1).map en130).flatten)))], 99⟩, fun i => (yd.2.2).length - i.1, ⟨⟨0, Nat.zero_le _⟩, ?_⟩, ?_⟩
          · conv => whnf
            rw [List.take_zero, List.map_nil, List.flatten_nil, List.append_nil]
            first | done | (and_intros <;> first | rfl | trivial | (simp [allP]; done))
          rintro ⟨ie, hiie⟩
          show aw _ _ _ _ _ _ ⟨[(1, .ptr 0 0), (8, .ptr 2 0), (3, .rowf 1), (7, isI .i64 id), (9, isI .i64 ie)], [(0, .box ((pv37 x).map avOf)), (2, .box ((pv128 yd).map avOf)), (1, .row 5 1 true false (bl ((((((((([4] ++ nuB x.1) ++ vE (x.2.1).length) ++ ((x.2.1).map en117).flatten ++ vE (x.2.2.1).length) ++ ((x.2.2.1).map en119).flatten ++ vE (x.2.2.2.1).length) ++ ((x.2.2.2.1).map en124).flatten ++ vE (x.2.2.2.2).length) ++ (((x.2.2.2.2).take id).map en128).flatten ++ nuB yd.1) ++ nuB yd.2.1) ++ vE (yd.2.2).length) ++ (((yd.2.2).take ie).map en130).flatten)))], 99⟩
          conv => whnf
          have hilie : ((yd.2.2).map fun x => elOf (pv130 x)).length = (yd.2.2).length := List.length_map ..
          rw [hilie]
          by_cases hltie : ie < (yd.2.2).length
          · rw [decide_eq_true (show (ie : Int) < ((yd.2.2).length : Int) by omega)]
            conv => whnf
            refine And.intro (by simp only [allP, List.nil_append, List.cons_append, true_and]; rw [hilie]; omega) ?_
            conv => whnf
            have hflie := flat_one_len en130 hltie
            have hstie := flat_step en130 hltie
            have hokie := q2.2.2 _ (List.getElem_mem hltie)
            generalize hyie : (yd.2.2)[ie] = ye at hflie hstie hokie
            have hok'ie := hokie
            obtain ⟨qe0, qe1⟩ := hok'ie
            simp only [en117, en119, en190, en192, en55, en195, en199, en124, en70, en130, en128, en37, lsB, List.length_append] at hflie
            rw [Int.toNat_natCast, map_getD (fun x => elOf (pv130 x)) _ ie _ hltie, hyie]
            conv => whnf
            refine ⟨((((((((([4] ++ nuB x.1) ++ vE (x.2.1).length) ++ ((x.2.1).map en117).flatten ++ vE (x.2.2.1).length) ++ ((x.2.2.1).map en119).flatten ++ vE (x.2.2.2.1).length) ++ ((x.2.2.2.1).map en124).flatten ++ vE (x.2.2.2.2).length) ++ (((x.2.2.2.2).take id).map en128).flatten ++ nuB yd.1) ++ nuB yd.2.1) ++ vE (yd.2.2).length) ++ (((yd.2.2).take ie).map en130).flatten, ye.1), ?_⟩
            conv => whnf
            refine And.intro (by simp only [allP, List.nil_append, List.cons_append, true_and]; repeat' (first | assumption | rfl | trivial | (apply int_r; assumption) | exact qe0.1 | exact qe0.2.2 | (intros; trivial) | (simp only [en117, en119, en190, en192, en55, en195, en199, en124, en70, en130, en128, en37, lsB, List.length_append, List.length_cons, List.length_nil] at h3 ⊢; omega) | refine And.intro ?_ ?_ | omega)) ?_
            conv => whnf
            refine And.intro (by simp only [allP, List.nil_append, List.cons_append, true_and]; rw [hilie]; omega) ?_
            conv => whnf
            rw [Int.toNat_natCast, map_getD (fun x => elOf (pv130 x)) _ ie _ hltie, hyie]
            conv => whnf
            refine dI (k := ?_)
            conv => whnf
            refine ⟨(((((((((([4] ++ nuB x.1) ++ vE (x.2.1).length) ++ ((x.2.1).map en117).flatten ++ vE (x.2.2.1).length) ++ ((x.2.2.1).map en119).flatten ++ vE (x.2.2.2.1).length) ++ ((x.2.2.2.1).map en124).flatten ++ vE (x.2.2.2.2).length) ++ (((x.2.2.2.2).take id).map en128).flatten ++ nuB yd.1) ++ nuB yd.2.1) ++ vE (yd.2.2).length) ++ (((yd.2.2).take ie).map en130).flatten ++ nuB ye.1), ye.2), ?_⟩
            conv => whnf
            refine And.intro (by simp only [allP, List.nil_append, List.cons_append, true_and]; repeat' (first | assumption | rfl | trivial | (apply int_r; assumption) | exact qe1.1 | exact qe1.2.2 | (intros; trivial) | (simp only [en117, en119, en190, en192, en55, en195, en199, en124, en70, en130, en128, en37, lsB, List.length_append, List.length_cons, List.length_nil] at h3 ⊢; omega) | refine And.intro ?_ ?_ | omega)) ?_
            conv => whnf
            refine ⟨by rfl, ?_⟩
            show aw _ _ _ _ _ _ _
            conv => whnf
            refine ⟨⟨ie + 1, by omega⟩, by simp only; omega, ?_⟩
            conv => whnf
            rw [hstie]
            and_intros <;> first | rfl | trivial | (rw [wrap_i64 (by omega) (by omega)]; rfl) | (simp only [en117, en119, en190, en192, en55, en195, en199, en124, en70, en130, en128, en37, lsB, List.append_assoc, allP]; first | done | rfl)
          · rw [decide_eq_false (show ¬ (ie : Int) < ((yd.2.2).length : Int) by omega)]
            conv => whnf
            rw [show (yd.2.2).take ie = yd.2.2 from List.take_of_length_le (by omega)]
            refine ⟨⟨id + 1, by omega⟩, by simp only; omega, ?_⟩
            conv => whnf
            rw [hstid]
            and_intros <;> first | rfl | trivial | (rw [wrap_i64 (by omega) (by omega)]; rfl) | (simp only [en117, en119, en190, en192, en55, en195, en199, en124, en70, en130, en128, en37, lsB, List.append_assoc, allP]; first | done | rfl)
        · rw [decide_eq_false (show ¬ (id : Int) < ((x.2.2.2.2).length : Int) by omega)]
          conv => whnf
          rw [show (x.2.2.2.2).take id = x.2.2.2.2 from List.take_of_length_le (by omega)]
          rw [show (4 :: en37 x) = (((((([4] ++ nuB x.1) ++ vE (x.2.1).length) ++ ((x.2.1).map en117).flatten ++ vE (x.2.2.1).length) ++ ((x.2.2.1).map en119).flatten ++ vE (x.2.2.2.1).length) ++ ((x.2.2.2.1).map en124).flatten ++ vE (x.2.2.2.2).length) ++ ((x.2.2.2.2).map en128).flatten) from by simp only [en37, lsB, List.append_assoc]; rfl]
          first | done | (and_intros <;> rfl)
theorem DMetas_sound : Sound Tryz.prog 52 cDMetas := does_sound mixed tabOk_prog gQ15_ok Tryz.func52 DMetas_does
def gQ16 : List (FuncId × Ctr) := (52, cDMetas) :: gQ15
theorem gQ16_ok : GamOk Tryz.prog gQ16 := GamOk.cons gQ15_ok Tryz.func52 (by kernel_rfl) (by kernel_rfl) DMetas_sound
def gDocsS : List (FuncId × Ctr) := gQ16
theorem gDocsS_ok : GamOk Tryz.prog gDocsS := gQ16_ok
end Go.Proofs.YtingmlhhabaplaaGreat.Ev
