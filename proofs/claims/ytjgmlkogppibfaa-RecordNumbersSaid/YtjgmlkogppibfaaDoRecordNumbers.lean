/- RecordNumbers answers true: its walk. No conditions. -/
import Derived.Test.YtjgmlkogppibfaaEvMany
import Derived.Test.YtjgmlkogppibfaaCtr
namespace Go.Proofs.Ytjgmlkogppibfaa.Ev
open Go
set_option linter.unusedVariables false
set_option linter.unusedSimpArgs false
set_option maxRecDepth 100000
set_option maxHeartbeats 4000000
theorem vCnt_200 : vCnt 200 = 2 := by rw [vCnt_big (by decide), vCnt_small (by decide)]
def two1 : BT := (1, 0, 2, [[98]])
theorem two_in : inB two1 = [2, 0, 4, 1, 1, 98] := by
  have h1 : zig 1 = 2 := by decide
  have h0 : zig 0 = 0 := by decide
  have h2 : zig 2 = 4 := by decide
  simp [inB, two1, hdB, recsB, recB, h1, h0, h2, vE_small]
theorem two_ok : okE 7 two1 := by
  refine ⟨by unfold i64R; omega, by unfold i64R two1; simp, by unfold i64R two1; simp, by unfold i64R two1; simp, by decide, by rw [two_in]; decide⟩
theorem sums_apart : crV 0 [2, 0, 4, 1, 1, 97] ≠ crV 0 [2, 0, 4, 1, 1, 98] := by decide
/-- Another letter, the sum as it was. -/
theorem bad_letter {a b c d : UInt8} (h : enB 7 one1 = [0, 0, 0, 0, 0, 0, 0, 7, a, b, c, d, 2, 0, 4, 1, 1, 97]) : badE [0, 0, 0, 0, 0, 0, 0, 7, a, b, c, d, 2, 0, 4, 1, 1, 98] := by
  intro m y ho he
  have h1 : inB y ++ [] = inB two1 ++ [] := by rw [List.append_nil, List.append_nil, enB_in he, two_in]; rfl
  have h2 := (inB_sd ⟨m, ho⟩ ⟨7, two_ok⟩ h1).1
  have h3 := (sum_of he).1
  have h4 := (sum_of h).1
  exact sums_apart (h4.symm.trans h3)
theorem zero_in : inB (0, 0, 0, []) = [0, 0, 0, 0] := by
  have h0 : zig 0 = 0 := by decide
  simp [inB, hdB, recsB, h0, vE_small]
theorem zero_enB : ∃ a b c d : UInt8, enB 0 (0, 0, 0, []) = [0, 0, 0, 0, 0, 0, 0, 0, a, b, c, d, 0, 0, 0, 0] := by
  have h : ∀ v, ∃ a b c d : UInt8, beB 4 v = [a, b, c, d] := fun v => ⟨_, _, _, _, rfl⟩
  obtain ⟨a, b, c, d, h4⟩ := h (crV 0 (inB (0, 0, 0, [])))
  refine ⟨a, b, c, d, ?_⟩
  unfold enB
  rw [h4, zero_in, show beB 8 (u64N 0) = [0, 0, 0, 0, 0, 0, 0, 0] from by decide]
  rfl
def rnI : Nat → Int
  | 0 => 0
  | 1 => 1
  | 2 => 2
  | 3 => 3
  | _ => 4
theorem RecordNumbers_does : Does gNums tab Try.f7 lawRecordNumbers := by
  rintro x -
  have hok := one_ok
  obtain ⟨a, b, c, d, hE⟩ := one_enB
  have hZ0 : i64R 0 := by unfold i64R; decide
  obtain ⟨R256, hR256⟩ : ∃ R, R = manyR 256 200 := ⟨_, rfl⟩
  have lR256 : R256.length = 256 := by rw [hR256]; exact manyR_length _ _
  have aR256 : ∀ r ∈ R256, r.length = 200 := by rw [hR256]; exact manyR_all
  have rR256 : rgt (0, 0, 0, R256) = true := (rgt_iff _).2 ⟨by simp only [lR256]; decide, fun r hr => by rw [aR256 r hr]; decide⟩
  have bR256 : (inB (0, 0, 0, R256)).length = 51717 := by
    rw [in_zero, lR256, hR256, manyR_bytes, vCnt_200, (by rw [vCnt_big (by decide), vCnt_small (by decide)] : vCnt 256 = 2)]
  have eR256 : rgt (0, 0, 0, R256) = true ∧ 12 + (inB (0, 0, 0, R256)).length ≤ 60000 := ⟨rR256, by rw [bR256]; decide⟩
  obtain ⟨R257, hR257⟩ : ∃ R, R = manyR 257 1 := ⟨_, rfl⟩
  have lR257 : R257.length = 257 := by rw [hR257]; exact manyR_length _ _
  have aR257 : ∀ r ∈ R257, r.length = 1 := by rw [hR257]; exact manyR_all
  have eR257 : rgt (0, 0, 0, R257) = false := by
    rw [Bool.eq_false_iff]
    intro h
    have h := (rgt_iff _).1 h
    simp only at h
    rw [lR257] at h
    exact absurd h.1 (by decide)
  obtain ⟨R1, hR1⟩ : ∃ R, R = manyR 1 1025 := ⟨_, rfl⟩
  have lR1 : R1.length = 1 := by rw [hR1]; exact manyR_length _ _
  have aR1 : ∀ r ∈ R1, r.length = 1025 := by rw [hR1]; exact manyR_all
  have eR1 : rgt (0, 0, 0, R1) = false := by
    rw [Bool.eq_false_iff]
    intro h
    have h := (rgt_iff _).1 h
    simp only at h
    have h2 := h.2 R1[0] (List.getElem_mem (by omega))
    rw [aR1 _ (List.getElem_mem (by omega))] at h2
    exact absurd h2 (by decide)
  obtain ⟨R100, hR100⟩ : ∃ R, R = manyR 100 1024 := ⟨_, rfl⟩
  have lR100 : R100.length = 100 := by rw [hR100]; exact manyR_length _ _
  have aR100 : ∀ r ∈ R100, r.length = 1024 := by rw [hR100]; exact manyR_all
  have rR100 : rgt (0, 0, 0, R100) = true := (rgt_iff _).2 ⟨by simp only [lR100]; decide, fun r hr => by rw [aR100 r hr]; decide⟩
  have bR100 : (inB (0, 0, 0, R100)).length = 102604 := by
    rw [in_zero, lR100, hR100, manyR_bytes, vCnt_1024, (vCnt_small (by decide) : vCnt 100 = 1)]
  have eR100 : rgt (0, 0, 0, R100) = true ∧ 60000 < 12 + (inB (0, 0, 0, R100)).length := ⟨rR100, by rw [bR100]; decide⟩
  obtain ⟨R2, hR2⟩ : ∃ R, R = manyR 2 1024 := ⟨_, rfl⟩
  have lR2 : R2.length = 2 := by rw [hR2]; exact manyR_length _ _
  have aR2 : ∀ r ∈ R2, r.length = 1024 := by rw [hR2]; exact manyR_all
  have rR2 : rgt (0, 0, 0, R2) = true := (rgt_iff _).2 ⟨by simp only [lR2]; decide, fun r hr => by rw [aR2 r hr]; decide⟩
  have bR2 : (inB (0, 0, 0, R2)).length = 2056 := by
    rw [in_zero, lR2, hR2, manyR_bytes, vCnt_1024, (vCnt_small (by decide) : vCnt 2 = 1)]
  have eR2 : rgt (0, 0, 0, R2) = true ∧ 12 + (inB (0, 0, 0, R2)).length ≤ 60000 := ⟨rR2, by rw [bR2]; decide⟩
  have h0 : (inB (0, 0, 0, [])).length = 4 := by rw [in_zero, (vCnt_small (by decide) : vCnt ([] : List (List UInt8)).length = 1)]; rfl
  have k0 := bl_length (enB 0 (0, 0, 0, []))
  rw [enB_length, h0] at k0
  have o256 : okE (-1) (0, 0, 0, R256) := ⟨by unfold i64R; decide, hZ0, hZ0, hZ0, eR256.1, eR256.2⟩
  have o2 : okE 0 (0, 0, 0, R2) := ⟨hZ0, hZ0, hZ0, hZ0, eR2.1, eR2.2⟩
  have hl18 : (enB 7 one1).length = 18 := by rw [hE]; rfl
  have b0 : badE [0, 0, 0, 0, 0, 0, 0, 7, a, b, c, d, 2, 0, 4, 1, 1, 97, 0] := by have h := bad_more hok 0; rw [hE] at h; exact h
  have b1 : badE [0, 0, 0, 0, 0, 0, 0, 7, a, b, c, d, 2, 0, 4, 1, 1] := by have h := bad_cut hok (n := 17) (by omega); rw [hE] at h; exact h
  have b3 : badE [0, 0, 0, 0, 0] := by have h := bad_cut hok (n := 5) (by omega); rw [hE] at h; exact h
  obtain ⟨a0, b0', c0, d0, hE0⟩ : ∃ a b c d, enB 0 (0, 0, 0, []) = [0, 0, 0, 0, 0, 0, 0, 0, a, b, c, d, 0, 0, 0, 0] := zero_enB
  conv => whnf
  refine ⟨(0, 0, (0, 0, 0, [])), ?_⟩
  conv => whnf
  refine And.intro (by simp only [allP, List.nil_append, List.cons_append, true_and]; exact ⟨rfl, rfl, rfl, rfl, rfl, ⟨hZ0, hZ0, hZ0, hZ0, by decide⟩, by decide, by rw [h0]; decide⟩) ?_
  (set_option smartUnfolding false in conv => whnf)
  refine ⟨(256, 200), ?_⟩
  conv => whnf
  refine And.intro (by simp only [allP, List.nil_append, List.cons_append, true_and]; exact ⟨rfl, rfl, by decide, by decide⟩) ?_
  (set_option smartUnfolding false in conv => whnf)
  rw [← hR256]
  refine ⟨(0, -1, (0, 0, 0, R256)), ?_⟩
  conv => whnf
  refine And.intro (by simp only [allP, List.nil_append, List.cons_append, true_and]; exact ⟨rfl, rfl, rfl, rfl, rfl, ⟨by unfold i64R; decide, hZ0, hZ0, hZ0, by show R256.length ≤ _; rw [lR256]; decide⟩, eR256⟩) ?_
  (set_option smartUnfolding false in conv => whnf)
  refine ⟨(257, 1), ?_⟩
  conv => whnf
  refine And.intro (by simp only [allP, List.nil_append, List.cons_append, true_and]; exact ⟨rfl, rfl, by decide, by decide⟩) ?_
  (set_option smartUnfolding false in conv => whnf)
  rw [← hR257]
  refine ⟨(1, 0, (0, 0, 0, R257)), ?_⟩
  conv => whnf
  refine And.intro (by simp only [allP, List.nil_append, List.cons_append, true_and]; exact ⟨rfl, rfl, rfl, rfl, rfl, ⟨by unfold i64R; decide, hZ0, hZ0, hZ0, by show R257.length ≤ _; rw [lR257]; decide⟩, eR257⟩) ?_
  (set_option smartUnfolding false in conv => whnf)
  refine ⟨(1, 1025), ?_⟩
  conv => whnf
  refine And.intro (by simp only [allP, List.nil_append, List.cons_append, true_and]; exact ⟨rfl, rfl, by decide, by decide⟩) ?_
  (set_option smartUnfolding false in conv => whnf)
  rw [← hR1]
  refine ⟨(1, 0, (0, 0, 0, R1)), ?_⟩
  conv => whnf
  refine And.intro (by simp only [allP, List.nil_append, List.cons_append, true_and]; exact ⟨rfl, rfl, rfl, rfl, rfl, ⟨by unfold i64R; decide, hZ0, hZ0, hZ0, by show R1.length ≤ _; rw [lR1]; decide⟩, eR1⟩) ?_
  (set_option smartUnfolding false in conv => whnf)
  refine ⟨(100, 1024), ?_⟩
  conv => whnf
  refine And.intro (by simp only [allP, List.nil_append, List.cons_append, true_and]; exact ⟨rfl, rfl, by decide, by decide⟩) ?_
  (set_option smartUnfolding false in conv => whnf)
  rw [← hR100]
  refine ⟨(2, 0, (0, 0, 0, R100)), ?_⟩
  conv => whnf
  refine And.intro (by simp only [allP, List.nil_append, List.cons_append, true_and]; exact ⟨rfl, rfl, rfl, rfl, rfl, ⟨by unfold i64R; decide, hZ0, hZ0, hZ0, by show R100.length ≤ _; rw [lR100]; decide⟩, eR100⟩) ?_
  (set_option smartUnfolding false in conv => whnf)
  refine ⟨(2, 1024), ?_⟩
  conv => whnf
  refine And.intro (by simp only [allP, List.nil_append, List.cons_append, true_and]; exact ⟨rfl, rfl, by decide, by decide⟩) ?_
  (set_option smartUnfolding false in conv => whnf)
  rw [← hR2]
  refine ⟨(0, 0, (0, 0, 0, R2)), ?_⟩
  conv => whnf
  refine And.intro (by simp only [allP, List.nil_append, List.cons_append, true_and]; exact ⟨rfl, rfl, rfl, rfl, rfl, ⟨by unfold i64R; decide, hZ0, hZ0, hZ0, by show R2.length ≤ _; rw [lR2]; decide⟩, eR2⟩) ?_
  (set_option smartUnfolding false in conv => whnf)
  refine ⟨(enB (-1) (0, 0, 0, R256), some (-1, (0, 0, 0, R256))), ?_⟩
  conv => whnf
  refine And.intro (by simp only [allP, List.nil_append, List.cons_append, true_and]; exact ⟨rfl, by rw [enB_length, bR256]; decide, o256, trivial⟩) ?_
  (set_option smartUnfolding false in conv => whnf)
  refine And.intro (by first | exact Nat.le_of_ble_eq_true rfl | exact ⟨Nat.le_of_ble_eq_true rfl, rfl⟩ | exact rfl | decide | (simp [allP]; done)) ?_
  (set_option smartUnfolding false in conv => whnf)
  refine ⟨(enB 0 (0, 0, 0, R2), some (0, (0, 0, 0, R2))), ?_⟩
  conv => whnf
  refine And.intro (by simp only [allP, List.nil_append, List.cons_append, true_and]; exact ⟨rfl, by rw [enB_length, bR2]; decide, o2, trivial⟩) ?_
  (set_option smartUnfolding false in conv => whnf)
  refine And.intro (by first | exact Nat.le_of_ble_eq_true rfl | exact ⟨Nat.le_of_ble_eq_true rfl, rfl⟩ | exact rfl | decide | (simp [allP]; done)) ?_
  (set_option smartUnfolding false in conv => whnf)
  refine ⟨(), ?_⟩
  conv => whnf
  refine And.intro (by simp only [allP, List.nil_append, List.cons_append, true_and]; skip) ?_
  (set_option smartUnfolding false in conv => whnf)
  refine ⟨(0, 7, one1), ?_⟩
  conv => whnf
  refine And.intro (by simp only [allP, List.nil_append, List.cons_append, true_and]; exact ⟨rfl, rfl, rfl, rfl, rfl, ⟨hok.1, hok.2.1, hok.2.2.1, hok.2.2.2.1, Nat.le_of_ble_eq_true rfl⟩, hok.2.2.2.2.1, hok.2.2.2.2.2⟩) ?_
  (set_option smartUnfolding false in conv => whnf)
  refine ⟨(), ?_⟩
  conv => whnf
  refine And.intro (by simp only [allP, List.nil_append, List.cons_append, true_and]; skip) ?_
  (set_option smartUnfolding false in conv => whnf)
  refine ⟨(), ?_⟩
  conv => whnf
  refine And.intro (by simp only [allP, List.nil_append, List.cons_append, true_and]; skip) ?_
  (set_option smartUnfolding false in conv => whnf)
  rw [hE, hE0]
  refine ⟨Nat, fun i => ⟨[(1, .p false (.sl 1 (bl [0, 0, 0, 0, 0, 0, 0, 0, a0, b0', c0, d0, 0, 0, 0, 0]))), (2, isI .i64 0), (4, isI .i64 0), (6, isI .i64 2), (8, isI .i64 2), (10, isI .i64 3), (12, isI .i64 0), (13, isI .i64 (-1)), (14, .ptr 0 0), (15, isI .i64 0), (17, .ptr 1 0), (18, isI .i64 0), (19, .p false (.sl 1 (bl [0, 0, 0, 0, 0, 0, 0, 7, a, b, c, d, 2, 0, 4, 1, 1, 97]))), (21, isI .i64 (rnI i))], [(0, .box [isI .i64 0, isI .i64 0, isI .i64 0, .p false (.sl 1 (ll R256))]), (1, .box [isI .i64 0, isI .i64 0, isI .i64 0, .p false (.sl 1 (ll R2))])], 99⟩, fun i => 4 - i, ⟨0, ?_⟩, ?_⟩
  · (set_option smartUnfolding false in conv => whnf)
    and_intros <;> rfl
  rintro (_ | _ | _ | _ | m)
  · (set_option smartUnfolding false in conv => whnf)
    refine ⟨[0, 0, 0, 0, 0, 0, 0, 7, a, b, c, d, 2, 0, 4, 1, 1, 97], ?_⟩
    conv => whnf
    refine And.intro (by simp only [allP, List.nil_append, List.cons_append, true_and]; exact ⟨rfl, Nat.le_of_ble_eq_true rfl⟩) ?_
    (set_option smartUnfolding false in conv => whnf)
    refine And.intro (by simp only [allP, List.nil_append, List.cons_append, true_and]; simp only [bl_length, List.length_cons, List.length_nil]; omega) ?_
    (set_option smartUnfolding false in conv => whnf)
    refine ⟨([0, 0, 0, 0, 0, 0, 0, 7, a, b, c, d, 2, 0, 4, 1, 1, 97, 0], none), ?_⟩
    conv => whnf
    refine And.intro (by simp only [allP, List.nil_append, List.cons_append, true_and]; exact ⟨rfl, Nat.le_of_ble_eq_true rfl, b0⟩) ?_
    (set_option smartUnfolding false in conv => whnf)
    refine And.intro (by first | exact Nat.le_of_ble_eq_true rfl | exact ⟨Nat.le_of_ble_eq_true rfl, rfl⟩ | exact rfl | decide | (simp [allP]; done)) ?_
    (set_option smartUnfolding false in conv => whnf)
    refine ⟨1, by decide, ?_⟩
    (set_option smartUnfolding false in conv => whnf)
    and_intros <;> rfl
  · (set_option smartUnfolding false in conv => whnf)
    refine ⟨[0, 0, 0, 0, 0, 0, 0, 7, a, b, c, d, 2, 0, 4, 1, 1, 97], ?_⟩
    conv => whnf
    refine And.intro (by simp only [allP, List.nil_append, List.cons_append, true_and]; exact ⟨rfl, Nat.le_of_ble_eq_true rfl⟩) ?_
    (set_option smartUnfolding false in conv => whnf)
    refine And.intro ⟨by decide, by decide, by rw [bl_length]; show (17 : Int) ≤ 18; decide⟩ ?_
    (set_option smartUnfolding false in conv => whnf)
    refine ⟨([0, 0, 0, 0, 0, 0, 0, 7, a, b, c, d, 2, 0, 4, 1, 1], none), ?_⟩
    conv => whnf
    refine And.intro (by simp only [allP, List.nil_append, List.cons_append, true_and]; exact ⟨rfl, Nat.le_of_ble_eq_true rfl, b1⟩) ?_
    (set_option smartUnfolding false in conv => whnf)
    refine And.intro (by first | exact Nat.le_of_ble_eq_true rfl | exact ⟨Nat.le_of_ble_eq_true rfl, rfl⟩ | exact rfl | decide | (simp [allP]; done)) ?_
    (set_option smartUnfolding false in conv => whnf)
    refine ⟨2, by decide, ?_⟩
    (set_option smartUnfolding false in conv => whnf)
    and_intros <;> rfl
  · (set_option smartUnfolding false in conv => whnf)
    refine ⟨[0, 0, 0, 0, 0, 0, 0, 7, a, b, c, d, 2, 0, 4, 1, 1, 97], ?_⟩
    conv => whnf
    refine And.intro (by simp only [allP, List.nil_append, List.cons_append, true_and]; exact ⟨rfl, Nat.le_of_ble_eq_true rfl⟩) ?_
    (set_option smartUnfolding false in conv => whnf)
    refine And.intro ⟨by decide, by rw [bl_length]; show (17 : Int) < 18; decide⟩ ?_
    (set_option smartUnfolding false in conv => whnf)
    refine ⟨([0, 0, 0, 0, 0, 0, 0, 7, a, b, c, d, 2, 0, 4, 1, 1, 98], none), ?_⟩
    conv => whnf
    refine And.intro (by simp only [allP, List.nil_append, List.cons_append, true_and]; exact ⟨rfl, Nat.le_of_ble_eq_true rfl, bad_letter hE⟩) ?_
    (set_option smartUnfolding false in conv => whnf)
    refine And.intro (by first | exact Nat.le_of_ble_eq_true rfl | exact ⟨Nat.le_of_ble_eq_true rfl, rfl⟩ | exact rfl | decide | (simp [allP]; done)) ?_
    (set_option smartUnfolding false in conv => whnf)
    refine ⟨3, by decide, ?_⟩
    (set_option smartUnfolding false in conv => whnf)
    and_intros <;> rfl
  · (set_option smartUnfolding false in conv => whnf)
    refine ⟨[0, 0, 0, 0, 0, 0, 0, 7, a, b, c, d, 2, 0, 4, 1, 1, 97], ?_⟩
    conv => whnf
    refine And.intro (by simp only [allP, List.nil_append, List.cons_append, true_and]; exact ⟨rfl, Nat.le_of_ble_eq_true rfl⟩) ?_
    (set_option smartUnfolding false in conv => whnf)
    refine And.intro ⟨by decide, by decide, by rw [bl_length]; show (5 : Int) ≤ 18; decide⟩ ?_
    (set_option smartUnfolding false in conv => whnf)
    refine ⟨([0, 0, 0, 0, 0], none), ?_⟩
    conv => whnf
    refine And.intro (by simp only [allP, List.nil_append, List.cons_append, true_and]; exact ⟨rfl, Nat.le_of_ble_eq_true rfl, b3⟩) ?_
    (set_option smartUnfolding false in conv => whnf)
    refine And.intro (by first | exact Nat.le_of_ble_eq_true rfl | exact ⟨Nat.le_of_ble_eq_true rfl, rfl⟩ | exact rfl | decide | (simp [allP]; done)) ?_
    (set_option smartUnfolding false in conv => whnf)
    refine ⟨4, by decide, ?_⟩
    (set_option smartUnfolding false in conv => whnf)
    and_intros <;> rfl
  · (set_option smartUnfolding false in conv => whnf)
    rw [show (((ll R256).length : Int) == 256) = true from by rw [ll_length, lR256]; rfl]
    (set_option smartUnfolding false in conv => whnf)
    rw [show (((ll R2).length : Int) == 2) = true from by rw [ll_length, lR2]; rfl]
    (set_option smartUnfolding false in conv => whnf)
    refine ⟨(), ?_⟩
    conv => whnf
    refine And.intro (by simp only [allP, List.nil_append, List.cons_append, true_and]; skip) ?_
    (set_option smartUnfolding false in conv => whnf)
    rfl
theorem RecordNumbers_sound : Sound Try.prog 7 lawRecordNumbers := does_sound mixed tabOk_prog gNums_ok Try.func7 RecordNumbers_does
end Go.Proofs.Ytjgmlkogppibfaa.Ev
