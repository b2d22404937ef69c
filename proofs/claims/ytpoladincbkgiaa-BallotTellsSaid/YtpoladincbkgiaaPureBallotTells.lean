/- The program's votes, timeouts and majorities are the document's: BallotTells answers true. No conditions. -/
import Derived.Test.YtpoladincbkgiaaMx4
import Derived.Test.YtpoladincbkgiaaOk
import Derived.Test.YtpoladincbkgiaaAid
import Derived.Laws.BitsLemmas
namespace Go.Proofs.Ytpoladincbkgiaa.Pure
open Go.RowKit Go.Proofs.Ytpoladincbkgiaa.M Go.Proofs.YtpoladincbkgiaaW.PrintWords Go.Proofs.YtpoladincbkgiaaW.PrintLast Go.Proofs.YtpoladincbkgiaaW.PrintMore Go.Proofs.Ytpoladincbkgiaa.Aid
open Go.Proofs.Ytpoladincbkgiaa

theorem i64_and15 (n : Int) : Go.bits .and .i64 n 15 = n % 16 := by
  have h15 : (BitVec.ofInt 64 15).toNat = 2 ^ 4 - 1 := by decide
  have key : (BitVec.ofInt 64 n &&& BitVec.ofInt 64 15).toNat = (n % ((2 ^ 64 : Nat) : Int)).toNat % 2 ^ 4 := by
    rw [BitVec.toNat_and, BitVec.toNat_ofInt, h15, Nat.and_two_pow_sub_one_eq_mod]
  show IntKind.i64.wrap ((BitVec.ofInt 64 n &&& BitVec.ofInt 64 15).toNat : Nat) = n % 16
  rw [key, IntKind.wrap_i64]
  omega
theorem newer_ref (a b c d : Int) : ballot_Newer.f a b c d = conduitref20_Newer.f a b c d := by
  unfold ballot_Newer.f conduitref20_Newer.f
  by_cases h : a = c
  · rw [if_neg (by omega), if_pos h, if_pos h]
  · by_cases g : a > c
    · rw [if_pos g, if_neg h, decide_eq_true g]
    · rw [if_neg g, if_neg h, if_neg h, decide_eq_false g]
theorem timeout_ref (a : Int) : ballot_Timeout.f a = conduitref20_Timeout.f a := by
  have h := Int.tmod_lt_of_pos a (show (0 : Int) < 10 by decide)
  have h2 : -10 < Int.tmod a 10 := by
    have := Int.tmod_lt_of_pos (-a) (show (0 : Int) < 10 by decide)
    rw [Int.neg_tmod] at this
    omega
  unfold ballot_Timeout.f conduitref20_Timeout.f
  generalize Int.tmod a 10 = r at h h2 ⊢
  have e1 : wrap64 (r + 10) = r + 10 := wrap64_id (by omega) (by omega)
  rw [e1, Int.tmod_eq_emod_of_nonneg (show 0 ≤ r + 10 by omega), wrap64_id (show -9223372036854775808 ≤ 10 + (r + 10) % 10 by omega) (by omega)]
  by_cases c : r < 0
  · rw [if_pos c, show (r + 10) % 10 = r + 10 by omega, wrap64_id (by omega) (by omega)]
  · rw [if_neg c, show (r + 10) % 10 = r by omega, wrap64_id (by omega) (by omega)]
theorem majority_ref (n s : Int) (h0 : 0 ≤ n) (h1 : n < 16) (s0 : 0 ≤ s) (s1 : s < 16) : ballot_Majority.f n s = conduitref20_Majority.f n s := by
  unfold ballot_Majority.f conduitref20_Majority.f
  rw [wrap64_id (by omega) (by omega), Int.tdiv_eq_ediv_of_nonneg s0, wrap64_id (by omega) (by omega)]
  congr 1
  rw [Bool.eq_iff_iff, decide_eq_true_eq, decide_eq_true_eq]
  omega
theorem newer_some (a b c d : Int) : ∃ r, conduitref20_Newer.f a b c d = some r := by unfold conduitref20_Newer.f; split <;> exact ⟨_, rfl⟩
theorem vote_ref (a0 a1 a2 a3 : Int) (y : S28) (k : Nat) : conduitref20_Vote.f (k + 2) a0 a1 a2 a3 y.f0 y.f1 y.f2 y.f3 y.f4 y.f5 y.f6 y.f7 y.f8 y.f9 y.f10 y.f11 = ballot_Vote.f a0 a1 a2 a3 y.f0 y.f1 y.f2 y.f3 y.f4 y.f5 y.f6 y.f7 y.f8 y.f9 y.f10 y.f11 := by
  obtain ⟨b, hb⟩ := newer_some y.f6 y.f5 a2 a3
  unfold conduitref20_Vote.f ballot_Vote.f
  by_cases c : y.f4 < a0
  · rw [if_pos c, if_pos c]
  · rw [if_neg c, if_neg c]
    by_cases d : y.f4 > a0
    · rw [if_pos d, if_pos d, conduitref20_Vote.j0, newer_ref, hb, Option.bind_some, Option.bind_some, if_pos rfl, conduitref20_Vote.j1, if_neg (by decide)]
      cases b <;> rfl
    · rw [if_neg d, if_neg d, conduitref20_Vote.j0, newer_ref, hb, Option.bind_some]
      by_cases e : a1 = 0
      · rw [if_pos e, if_pos e, conduitref20_Vote.j1, if_neg (by decide), Option.bind_some]
        cases b <;> rfl
      · rw [if_neg e, if_neg e, conduitref20_Vote.j1]
        by_cases f : a1 = y.f2
        · rw [if_neg (by simp [f]), if_pos f, Option.bind_some]
          cases b <;> rfl
        · rw [if_pos (by simpa using f), if_neg f]
theorem vote_some (a0 a1 a2 a3 : Int) (y : S28) : ∃ r, ballot_Vote.f a0 a1 a2 a3 y.f0 y.f1 y.f2 y.f3 y.f4 y.f5 y.f6 y.f7 y.f8 y.f9 y.f10 y.f11 = some r := by
  obtain ⟨b, hb⟩ := newer_some y.f6 y.f5 a2 a3
  unfold ballot_Vote.f
  rw [newer_ref, hb]
  simp only [Option.bind_some]
  repeat' split
  all_goals exact ⟨_, rfl⟩
theorem tells (a0 a1 a2 a3 a5 : Int) (y : S28) : conduitlaw20_BallotTells.f 2 a0 a1 a2 a3 y.f0 y.f1 y.f2 y.f3 y.f4 y.f5 y.f6 y.f7 y.f8 y.f9 y.f10 y.f11 a5 = some true := by
  obtain ⟨r, hr⟩ := vote_some a0 a1 a2 a3 y
  obtain ⟨b, hb⟩ := newer_some a0 a1 a2 a3
  obtain ⟨t, ht⟩ : ∃ t, conduitref20_Timeout.f a5 = some t := by unfold conduitref20_Timeout.f; split <;> exact ⟨_, rfl⟩
  obtain ⟨m, hm⟩ : ∃ m, conduitref20_Majority.f (a5 % 16) (a1 % 16) = some m := ⟨_, rfl⟩
  have ha : conduitlaw20_awake.f = some true := by decide +kernel
  unfold conduitlaw20_BallotTells.f
  rw [vote_ref a0 a1 a2 a3 y 0, hr, Option.bind_some, Option.bind_some, if_pos rfl, if_pos rfl, if_pos (beq_self_eq_true _), newer_ref, hb, Option.bind_some, Option.bind_some, if_pos (beq_self_eq_true _), timeout_ref, ht, Option.bind_some, Option.bind_some, if_pos rfl,
    i64_and15, i64_and15, majority_ref _ _ (by omega) (by omega) (by omega) (by omega), hm, Option.bind_some, Option.bind_some, if_pos (beq_self_eq_true _), ha]
  rfl
set_option linter.unusedVariables false in
theorem BallotTells_walk (W : World) (a0 : Int) (ok0 : (Lit.int .i64 a0).wf = true) (a1 : Int) (ok1 : (Lit.int .i64 a1).wf = true) (a2 : Int) (ok2 : (Lit.int .i64 a2).wf = true) (a3 : Int) (ok3 : (Lit.int .i64 a3).wf = true) (y4 : M.S28) (cs4 : List Value) (h4 : M.k28.K W y4 cs4) (ok4 : Ok.ok28 y4) (a5 : Int) (ok5 : (Lit.int .i64 a5).wf = true) :
    Calls Try.prog 10 #[.int .i64 a0, .int .i64 a1, .int .i64 a2, .int .i64 a3, .agg cs4.toArray, .int .i64 a5] W fun e w' => e = .returned (.bool true) ∧ Below W.heap.size W w' := by
  obtain ⟨A10, c10, A11, c11, rfl, l10, g10, l11, g11⟩ := k28_open h4
  exact conduitlaw20_BallotTells.calls 2 a0 a1 a2 a3 _ _ _ _ _ _ _ _ _ _ _ _ _ _ _ _ a5 true W g10 l10 g11 l11 (tells a0 a1 a2 a3 a5 y4)

end Go.Proofs.Ytpoladincbkgiaa.Pure
