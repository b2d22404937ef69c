/- Wire: what the document puts together: parts. No conditions. -/
import Derived.Test.YtingmlhhabaplaaGreatEvWire3b
namespace Go.Proofs.YtingmlhhabaplaaGreat.Ev
open Go
set_option linter.unusedVariables false
set_option linter.unusedSimpArgs false
set_option maxRecDepth 100000
set_option maxHeartbeats 4000000
abbrev cDParts : Ctr := cDoc 3 en28 (fun x : S28 => .agg ((pv28 x).map avOf)) ok28
theorem DParts_does : Does gQ9 tab Tryz.f47 cDParts := by
  rintro x ⟨hx, h3⟩
  obtain ⟨k0, k1, k2, k3⟩ := hx
  conv => whnf
  refine ⟨([3], x.1), ?_⟩
  conv => whnf
  refine And.intro (by simp only [allP, List.nil_append, List.cons_append, true_and]; repeat' (first | assumption | rfl | trivial | (apply int_r; assumption) | exact k0.1 | exact k0.2.2 | (intros; trivial) | (simp only [en111, en109, en28, lsB, List.length_append, List.length_cons, List.length_nil] at h3 ⊢; omega) | refine And.intro ?_ ?_ | omega)) ?_
  conv => whnf
  refine ⟨(([3] ++ nuB x.1), x.2.1), ?_⟩
  conv => whnf
  refine And.intro (by simp only [allP, List.nil_append, List.cons_append, true_and]; repeat' (first | assumption | rfl | trivial | (apply int_r; assumption) | exact k1.1 | exact k1.2.2 | (intros; trivial) | (simp only [en111, en109, en28, lsB, List.length_append, List.length_cons, List.length_nil] at h3 ⊢; omega) | refine And.intro ?_ ?_ | omega)) ?_
  conv => whnf
  refine ⟨((([3] ++ nuB x.1) ++ nuB x.2.1), x.2.2.1), ?_⟩
  conv => whnf
  refine And.intro (by simp only [allP, List.nil_append, List.cons_append, true_and]; repeat' (first | assumption | rfl | trivial | (apply int_r; assumption) | exact k2.1 | exact k2.2.2 | (intros; trivial) | (simp only [en111, en109, en28, lsB, List.length_append, List.length_cons, List.length_nil] at h3 ⊢; omega) | refine And.intro ?_ ?_ | omega)) ?_
  conv => whnf

  rw [show ((x.2.2.2).map fun x => elOf (pv109 x)).length = (x.2.2.2).length from List.length_map ..]
  refine ⟨(((([3] ++ nuB x.1) ++ nuB x.2.1) ++ lsB recB x.2.2.1), (x.2.2.2).length), ?_⟩
  conv => whnf
  refine And.intro (by simp only [allP, List.nil_append, List.cons_append, true_and]; repeat' (first | assumption | rfl | trivial | exact k3.1 | exact Nat.le_trans k3.2.1 (by omega) | (simp only [en111, en109, en28, lsB, List.length_append, List.length_cons, List.length_nil] at h3 ⊢; omega) | refine And.intro ?_ ?_ | omega)) ?_
  conv => whnf
  refine ⟨by rfl, ?_⟩
  show aw _ _ _ _ _ _ _
  conv => whnf
  refine ⟨{i : Nat // i ≤ (x.2.2.2).length}, fun i => ⟨[(1, .ptr 0 0), (3, .rowf 1), (4, isI .i64 i.1)], [(0, .box ((pv28 x).map avOf)), (1, .row 5 1 true false (bl ((((([3] ++ nuB x.1) ++ nuB x.2.1) ++ lsB recB x.2.2.1) ++ vE (x.2.2.2).length) ++ (((x.2.2.2).take i.1).map en109).flatten)))], 99⟩, fun i => (x.2.2.2).length - i.1, ⟨⟨0, Nat.zero_le _⟩, ?_⟩, ?_⟩
  · conv => whnf
    rw [List.take_zero, List.map_nil, List.flatten_nil, List.append_nil]
    first | done | (and_intros <;> first | rfl | trivial | (simp [allP]; done))
  rintro ⟨ia, hiia⟩
  show aw _ _ _ _ _ _ ⟨[(1, .ptr 0 0), (3, .rowf 1), (4, isI .i64 ia)], [(0, .box ((pv28 x).map avOf)), (1, .row 5 1 true false (bl ((((([3] ++ nuB x.1) ++ nuB x.2.1) ++ lsB recB x.2.2.1) ++ vE (x.2.2.2).length) ++ (((x.2.2.2).take ia).map en109).flatten)))], 99⟩
  conv => whnf
  have hilia : ((x.2.2.2).map fun x => elOf (pv109 x)).length = (x.2.2.2).length := List.length_map ..
  rw [hilia]
  by_cases hltia : ia < (x.2.2.2).length
  · rw [decide_eq_true (show (ia : Int) < ((x.2.2.2).length : Int) by omega)]
    conv => whnf
    refine And.intro (by simp only [allP, List.nil_append, List.cons_append, true_and]; rw [hilia]; omega) ?_
    conv => whnf
    have hflia := flat_one_len en109 hltia
    have hstia := flat_step en109 hltia
    have hokia := k3.2.2 _ (List.getElem_mem hltia)
    generalize hyia : (x.2.2.2)[ia] = ya at hflia hstia hokia
    have hok'ia := hokia
    obtain ⟨q0, q1, q2, q3⟩ := hok'ia
    simp only [en111, en109, en28, lsB, List.length_append] at hflia
    rw [Int.toNat_natCast, map_getD (fun x => elOf (pv109 x)) _ ia _ hltia, hyia]
    conv => whnf
    refine dI (k := ?_)
    conv => whnf
    refine dI (k := ?_)
    conv => whnf
    refine ⟨((((([3] ++ nuB x.1) ++ nuB x.2.1) ++ lsB recB x.2.2.1) ++ vE (x.2.2.2).length) ++ (((x.2.2.2).take ia).map en109).flatten, ya.1), ?_⟩
    conv => whnf
    refine And.intro (by simp only [allP, List.nil_append, List.cons_append, true_and]; repeat' (first | assumption | rfl | trivial | (apply int_r; assumption) | exact q0.1 | exact q0.2.2 | (intros; trivial) | (simp only [en111, en109, en28, lsB, List.length_append, List.length_cons, List.length_nil] at h3 ⊢; omega) | refine And.intro ?_ ?_ | omega)) ?_
    conv => whnf
    refine ⟨(((((([3] ++ nuB x.1) ++ nuB x.2.1) ++ lsB recB x.2.2.1) ++ vE (x.2.2.2).length) ++ (((x.2.2.2).take ia).map en109).flatten ++ nuB ya.1), ya.2.1), ?_⟩
    conv => whnf
    refine And.intro (by simp only [allP, List.nil_append, List.cons_append, true_and]; repeat' (first | assumption | rfl | trivial | (apply int_r; assumption) | exact q1.1 | exact q1.2.2 | (intros; trivial) | (simp only [en111, en109, en28, lsB, List.length_append, List.length_cons, List.length_nil] at h3 ⊢; omega) | refine And.intro ?_ ?_ | omega)) ?_
    conv => whnf
    refine ⟨((((((([3] ++ nuB x.1) ++ nuB x.2.1) ++ lsB recB x.2.2.1) ++ vE (x.2.2.2).length) ++ (((x.2.2.2).take ia).map en109).flatten ++ nuB ya.1) ++ nuB ya.2.1), ya.2.2.1), ?_⟩
    conv => whnf
    refine And.intro (by simp only [allP, List.nil_append, List.cons_append, true_and]; repeat' (first | assumption | rfl | trivial | (apply int_r; assumption) | exact q2.1 | exact q2.2.2 | (intros; trivial) | (simp only [en111, en109, en28, lsB, List.length_append, List.length_cons, List.length_nil] at h3 ⊢; omega) | refine And.intro ?_ ?_ | omega)) ?_
    conv => whnf

    rw [show ((ya.2.2.2).map fun x => elOf (pv111 x)).length = (ya.2.2.2).length from List.length_map ..]
    refine ⟨(((((((([3] ++ nuB x.1) ++ nuB x.2.1) ++ lsB recB x.2.2.1) ++ vE (x.2.2.2).length) ++ (((x.2.2.2).take ia).map en109).flatten ++ nuB ya.1) ++ nuB ya.2.1) ++ nuB ya.2.2.1), (ya.2.2.2).length), ?_⟩
    conv => whnf
    refine And.intro (by simp only [allP, List.nil_append, List.cons_append, true_and]; repeat' (first | assumption | rfl | trivial | exact q3.1 | exact Nat.le_trans q3.2.1 (by omega) | (simp only [en111, en109, en28, lsB, List.length_append, List.length_cons, List.length_nil] at h3 ⊢; omega) | refine And.intro ?_ ?_ | omega)) ?_
    conv => whnf
    refine ⟨by rfl, ?_⟩
    show aw _ _ _ _ _ _ _
    conv => whnf
    refine ⟨{i : Nat // i ≤ (ya.2.2.2).length}, fun i => ⟨[(1, .ptr 0 0), (5, .ptr 2 0), (3, .rowf 1), (4, isI .i64 ia), (6, isI .i64 i.1)], [(0, .box ((pv28 x).map avOf)), (2, .box ((pv109 ya).map avOf)), (1, .row 5 1 true false (bl ((((((((([3] ++ nuB x.1) ++ nuB x.2.1) ++ lsB recB x.2.2.1) ++ vE (x.2.2.2).length) ++ (((x.2.2.2).take ia).map en109).flatten ++ nuB ya.1) ++ nuB ya.2.1) ++ nuB ya.2.2.1) ++ vE (ya.2.2.2).length) ++ (((ya.2.2.2).take i.1).map en111).flatten)))], 99⟩, fun i => (ya.2.2.2).length - i.1, ⟨⟨0, Nat.zero_le _⟩, ?_⟩, ?_⟩
    · conv => whnf
      rw [List.take_zero, List.map_nil, List.flatten_nil, List.append_nil]
      first | done | (and_intros <;> first | rfl | trivial | (simp [allP]; done))
    rintro ⟨ib, hiib⟩
    show aw _ _ _ _ _ _ ⟨[(1, .ptr 0 0), (5, .ptr 2 0), (3, .rowf 1), (4, isI .i64 ia), (6, isI .i64 ib)], [(0, .box ((pv28 x).map avOf)), (2, .box ((pv109 ya).map avOf)), (1, .row 5 1 true false (bl ((((((((([3] ++ nuB x.1) ++ nuB x.2.1) ++ lsB recB x.2.2.1) ++ vE (x.2.2.2).length) ++ (((x.2.2.2).take ia).map en109).flatten ++ nuB ya.1) ++ nuB ya.2.1) ++ nuB ya.2.2.1) ++ vE (ya.2.2.2).length) ++ (((ya.2.2.2).take ib).map en111).flatten)))], 99⟩
    conv => whnf
    have hilib : ((ya.2.2.2).map fun x => elOf (pv111 x)).length = (ya.2.2.2).length := List.length_map ..
    rw [hilib]
    by_cases hltib : ib < (ya.2.2.2).length
    · rw [decide_eq_true (show (ib : Int) < ((ya.2.2.2).length : Int) by omega)]
      conv => whnf
      refine And.intro (by simp only [allP, List.nil_append, List.cons_append, true_and]; rw [hilib]; omega) ?_
      conv => whnf
      have hflib := flat_one_len en111 hltib
      have hstib := flat_step en111 hltib
      have hokib := q3.2.2 _ (List.getElem_mem hltib)
      generalize hyib : (ya.2.2.2)[ib] = yb at hflib hstib hokib
      have hok'ib := hokib
      obtain ⟨qb0, qb1, qb2⟩ := hok'ib
      simp only [en111, en109, en28, lsB, List.length_append] at hflib
      rw [Int.toNat_natCast, map_getD (fun x => elOf (pv111 x)) _ ib _ hltib, hyib]
      conv => whnf
      refine ⟨((((((((([3] ++ nuB x.1) ++ nuB x.2.1) ++ lsB recB x.2.2.1) ++ vE (x.2.2.2).length) ++ (((x.2.2.2).take ia).map en109).flatten ++ nuB ya.1) ++ nuB ya.2.1) ++ nuB ya.2.2.1) ++ vE (ya.2.2.2).length) ++ (((ya.2.2.2).take ib).map en111).flatten, yb.1), ?_⟩
      conv => whnf
      refine And.intro (by simp only [allP, List.nil_append, List.cons_append, true_and]; repeat' (first | assumption | rfl | trivial | (apply int_r; assumption) | exact qb0.1 | exact qb0.2.2 | (intros; trivial) | (simp only [en111, en109, en28, lsB, List.length_append, List.length_cons, List.length_nil] at h3 ⊢; omega) | refine And.intro ?_ ?_ | omega)) ?_
      conv => whnf
      refine And.intro (by simp only [allP, List.nil_append, List.cons_append, true_and]; rw [hilib]; omega) ?_
      conv => whnf
      rw [Int.toNat_natCast, map_getD (fun x => elOf (pv111 x)) _ ib _ hltib, hyib]
      conv => whnf
      refine ⟨(((((((((([3] ++ nuB x.1) ++ nuB x.2.1) ++ lsB recB x.2.2.1) ++ vE (x.2.2.2).length) ++ (((x.2.2.2).take ia).map en109).flatten ++ nuB ya.1) ++ nuB ya.2.1) ++ nuB ya.2.2.1) ++ vE (ya.2.2.2).length) ++ (((ya.2.2.2).take ib).map en111).flatten ++ nuB yb.1), yb.2.1), ?_⟩
      conv => whnf
      refine And.intro (by simp only [allP, List.nil_append, List.cons_append, true_and]; repeat' (first | assumption | rfl | trivial | (apply int_r; assumption) | exact qb1.1 | exact qb1.2.2 | (intros; trivial) | (simp only [en111, en109, en28, lsB, List.length_append, List.length_cons, List.length_nil] at h3 ⊢; omega) | refine And.intro ?_ ?_ | omega)) ?_
      conv => whnf
      refine And.intro (by simp only [allP, List.nil_append, List.cons_append, true_and]; rw [hilib]; omega) ?_
      conv => whnf
      rw [Int.toNat_natCast, map_getD (fun x => elOf (pv111 x)) _ ib _ hltib, hyib]
      conv => whnf
      refine ⟨((((((((((([3] ++ nuB x.1) ++ nuB x.2.1) ++ lsB recB x.2.2.1) ++ vE (x.2.2.2).length) ++ (((x.2.2.2).take ia).map en109).flatten ++ nuB ya.1) ++ nuB ya.2.1) ++ nuB ya.2.2.1) ++ vE (ya.2.2.2).length) ++ (((ya.2.2.2).take ib).map en111).flatten ++ nuB yb.1) ++ nuB yb.2.1), yb.2.2), ?_⟩
      conv => whnf
      refine And.intro (by simp only [allP, List.nil_append, List.cons_append, true_and]; repeat' (first | assumption | rfl | trivial | (apply int_r; assumption) | exact qb2.1 | exact qb2.2.2 | (intros; trivial) | (simp only [en111, en109, en28, lsB, List.length_append, List.length_cons, List.length_nil] at h3 ⊢; omega) | refine And.intro ?_ ?_ | omega)) ?_
      conv => whnf
      refine ⟨by rfl, ?_⟩
      show aw _ _ _ _ _ _ _
      conv => whnf
      refine ⟨⟨ib + 1, by omega⟩, by simp only; omega, ?_⟩
      conv => whnf
      rw [hstib]
      and_intros <;> first | rfl | trivial | (rw [wrap_i64 (by omega) (by omega)]; rfl) | (simp only [en111, en109, en28, lsB, List.append_assoc, allP]; first | done | rfl)
    · rw [decide_eq_false (show ¬ (ib : Int) < ((ya.2.2.2).length : Int) by omega)]
      conv => whnf
      rw [show (ya.2.2.2).take ib = ya.2.2.2 from List.take_of_length_le (by omega)]
      refine ⟨⟨ia + 1, by omega⟩, by simp only; omega, ?_⟩
      conv => whnf
      rw [hstia]
      and_intros <;> first | rfl | trivial | (rw [wrap_i64 (by omega) (by omega)]; rfl) | (simp only [en111, en109, en28, lsB, List.append_assoc, allP]; first | done | rfl)
  · rw [decide_eq_false (show ¬ (ia : Int) < ((x.2.2.2).length : Int) by omega)]
    conv => whnf
    rw [show (x.2.2.2).take ia = x.2.2.2 from List.take_of_length_le (by omega)]
    rw [show (3 :: en28 x) = ((((([3] ++ nuB x.1) ++ nuB x.2.1) ++ lsB recB x.2.2.1) ++ vE (x.2.2.2).length) ++ ((x.2.2.2).map en109).flatten) from by simp only [en28, lsB, List.append_assoc]; rfl]
    first | done | (and_intros <;> rfl)
theorem DParts_sound : Sound Tryz.prog 47 cDParts := does_sound mixed tabOk_prog gQ9_ok Tryz.func47 DParts_does
def gQ14 : List (FuncId × Ctr) := (47, cDParts) :: gQ9
theorem gQ14_ok : GamOk Tryz.prog gQ14 := GamOk.cons gQ9_ok Tryz.func47 (by kernel_rfl) (by kernel_rfl) DParts_sound
end Go.Proofs.YtingmlhhabaplaaGreat.Ev
