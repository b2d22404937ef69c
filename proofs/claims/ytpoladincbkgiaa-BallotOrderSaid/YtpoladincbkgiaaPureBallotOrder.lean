/- Logs are ordered by what they have at their ends, and two majorities have one in common: BallotOrder answers true. No conditions. -/
import Derived.Test.YtpoladincbkgiaaMx4
import Derived.Test.YtpoladincbkgiaaOk
import Derived.Test.YtpoladincbkgiaaAid
namespace Go.Proofs.Ytpoladincbkgiaa.Pure
open Go.RowKit Go.Proofs.Ytpoladincbkgiaa.M Go.Proofs.YtpoladincbkgiaaW.PrintWords Go.Proofs.YtpoladincbkgiaaW.PrintLast Go.Proofs.YtpoladincbkgiaaW.PrintMore Go.Proofs.Ytpoladincbkgiaa.Aid
open Go.Proofs.Ytpoladincbkgiaa

theorem newer_iff (x y : Int × Int) : conduitlaw20_BallotOrder.N x y = true ↔ (x.1 > y.1 ∨ x.1 = y.1 ∧ x.2 ≥ y.2) := by
  unfold conduitlaw20_BallotOrder.N
  simp only [Bool.or_eq_true, Bool.and_eq_true, decide_eq_true_eq]
theorem newer_ways (x y z : Int × Int) : ∃ ab ba eq bc ac : Bool, conduitlaw20_BallotOrder.N x y = ab ∧ conduitlaw20_BallotOrder.N y x = ba ∧ (x.1 == y.1 && x.2 == y.2) = eq ∧ conduitlaw20_BallotOrder.N y z = bc ∧ conduitlaw20_BallotOrder.N x z = ac ∧
    (ab = true ∧ ba = true ∧ eq = true ∧ bc = true ∧ ac = true ∨ ab = true ∧ ba = true ∧ eq = true ∧ bc = false ∨ ab = true ∧ ba = false ∧ eq = false ∧ bc = true ∧ ac = true ∨ ab = true ∧ ba = false ∧ eq = false ∧ bc = false ∨ ab = false ∧ ba = true ∧ eq = false) := by
  refine ⟨_, _, _, _, _, rfl, rfl, rfl, rfl, rfl, ?_⟩
  have h1 := newer_iff x y
  have h2 := newer_iff y x
  have h3 := newer_iff y z
  have h4 := newer_iff x z
  have h5 : (x.1 == y.1 && x.2 == y.2) = true ↔ (x.1 = y.1 ∧ x.2 = y.2) := by simp
  generalize conduitlaw20_BallotOrder.N x y = ab at *
  generalize conduitlaw20_BallotOrder.N y x = ba at *
  generalize conduitlaw20_BallotOrder.N y z = bc at *
  generalize conduitlaw20_BallotOrder.N x z = ac at *
  generalize (x.1 == y.1 && x.2 == y.2) = eq at *
  cases ab <;> cases ba <;> cases bc <;> cases ac <;> cases eq <;> simp at h1 h2 h3 h4 h5 ⊢ <;> omega
theorem pick_int (a n : Int) (h : 0 < n) (hn : n ≤ 9223372036854775807) : conduitlow_Pick.f a n = some (a % n) := by
  have hb := pick_bd a n h
  have h1 := Int.emod_nonneg a (show n ≠ 0 by omega)
  have h2 := Int.emod_lt_of_pos a h
  unfold conduitlow_Pick.f
  rw [if_neg (by omega), if_neg (by omega)]
  by_cases c : Int.tmod a n < 0
  · rw [if_pos c] at hb ⊢
    rw [hb, wrap64_id (by omega) (by omega)]
  · rw [if_neg c] at hb ⊢
    rw [hb]
set_option linter.unusedVariables false in
theorem BallotOrder_walk (W : World) (y0 : (Int × Int)) (cs0 : List Value) (h0 : (Kd.pair (Kd.int .i64) (Kd.int .i64)).K W y0 cs0) (ok0 : ((Lit.int .i64 y0.1).wf = true ∧ (Lit.int .i64 y0.2).wf = true)) (y1 : (Int × Int)) (cs1 : List Value) (h1 : (Kd.pair (Kd.int .i64) (Kd.int .i64)).K W y1 cs1) (ok1 : ((Lit.int .i64 y1.1).wf = true ∧ (Lit.int .i64 y1.2).wf = true)) (y2 : (Int × Int)) (cs2 : List Value) (h2 : (Kd.pair (Kd.int .i64) (Kd.int .i64)).K W y2 cs2) (ok2 : ((Lit.int .i64 y2.1).wf = true ∧ (Lit.int .i64 y2.2).wf = true)) (a3 : Int) (ok3 : (Lit.int .i64 a3).wf = true) (a4 : Int) (ok4 : (Lit.int .i64 a4).wf = true) (a5 : Int) (ok5 : (Lit.int .i64 a5).wf = true) :
    Calls Try.prog 8 #[.agg cs0.toArray, .agg cs1.toArray, .agg cs2.toArray, .int .i64 a3, .int .i64 a4, .int .i64 a5] W fun e w' => e = .returned (.bool true) ∧ Below W.heap.size W w' := by
  obtain ⟨_, _, rfl, rfl, rfl⟩ := h0
  obtain ⟨_, _, rfl, rfl, rfl⟩ := h1
  obtain ⟨_, _, rfl, rfl, rfl⟩ := h2
  have s0 := Int.emod_nonneg a5 (show (1000 : Int) ≠ 0 by decide)
  have s1 := Int.emod_lt_of_pos a5 (show (0 : Int) < 1000 by decide)
  have t0 := Int.emod_nonneg a3 (show a5 % 1000 + 1 ≠ 0 by omega)
  have t1 := Int.emod_lt_of_pos a3 (show 0 < a5 % 1000 + 1 by omega)
  have u0 := Int.emod_nonneg a4 (show a5 % 1000 + 1 ≠ 0 by omega)
  have u1 := Int.emod_lt_of_pos a4 (show 0 < a5 % 1000 + 1 by omega)
  exact conduitlaw20_BallotOrder.runs y0 y1 y2 a3 a4 a5 W (by decide +kernel) (a5 % 1000) (a3 % (a5 % 1000 + 1)) (a4 % (a5 % 1000 + 1)) (pick_int _ _ (by omega) (by omega)) s0 s1 (pick_int _ _ (by omega) (by omega)) t0 (by omega) (pick_int _ _ (by omega) (by omega)) u0 (by omega) (newer_ways y0 y1 y2)

end Go.Proofs.Ytpoladincbkgiaa.Pure
