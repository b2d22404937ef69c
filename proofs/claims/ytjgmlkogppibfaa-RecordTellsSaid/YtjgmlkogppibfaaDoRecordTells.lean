/- RecordTells answers true: its walk. No conditions. -/
import Derived.Test.YtjgmlkogppibfaaEvAwake05
import Derived.Test.YtjgmlkogppibfaaCtr
namespace Go.Proofs.Ytjgmlkogppibfaa.Ev
open Go
set_option linter.unusedVariables false
set_option linter.unusedSimpArgs false
set_option maxRecDepth 100000
set_option maxHeartbeats 4000000
theorem i64R_wf {a : Int} (h : (Lit.int .i64 a).wf = true) : i64R a := wf_i64 h
theorem RecordTells_does : Does gRA tab Try.f8 lawRecordTells := by
  rintro ⟨base, x, bs⟩ ⟨hb, hx, hbs⟩
  obtain ⟨hx1, hx2, hx3, hx4, hx5, hx6⟩ := hx
  have hbl := ll_length x.2.2.2
  have hsl := bl_length bs
  have hll : (List.map (fun x => elOf [PV.sl 1 (bl x)]) (base, x, bs).2.1.2.2.2).length = x.2.2.2.length := List.length_map ..
  conv => whnf
  rw [hll]
  by_cases h300 : 300 < x.2.2.2.length
  · rw [decide_eq_true (show ((x.2.2.2.length : Nat) : Int) > 300 by omega)]
    conv => whnf
    refine ⟨(), ?_⟩
    conv => whnf
    refine And.intro (by simp only [allP, List.nil_append, List.cons_append, true_and]; skip) ?_
    (set_option smartUnfolding false in conv => whnf)
  rw [decide_eq_false (show ¬ ((x.2.2.2.length : Nat) : Int) > 300 by omega)]
  conv => whnf
  rw [hsl]
  by_cases h70 : 70000 < bs.length
  · rw [decide_eq_true (show ((bs.length : Nat) : Int) > 70000 by omega)]
    conv => whnf
    refine ⟨(), ?_⟩
    conv => whnf
    refine And.intro (by simp only [allP, List.nil_append, List.cons_append, true_and]; skip) ?_
    (set_option smartUnfolding false in conv => whnf)
  rw [decide_eq_false (show ¬ ((bs.length : Nat) : Int) > 70000 by omega)]
  conv => whnf
  have hc : cutEls 0 bs.length (bl (bs ++ [77, 78, 79])) = bl bs := by simp [cutEls, bl_take]
  have hpre : i64R base ∧ i64R x.1 ∧ i64R x.2.1 ∧ i64R x.2.2.1 ∧ x.2.2.2.length ≤ 1000000000 := ⟨i64R_wf hb, i64R_wf hx1, i64R_wf hx2, i64R_wf hx3, by omega⟩
  refine And.intro (by first | exact Nat.le_of_ble_eq_true rfl | exact ⟨Nat.le_of_ble_eq_true rfl, rfl⟩ | exact rfl | decide | (simp [allP]; done)) ?_
  (set_option smartUnfolding false in conv => whnf)
  refine ⟨x, ?_⟩
  conv => whnf
  refine And.intro (by simp only [allP, List.nil_append, List.cons_append, true_and]; exact ⟨rfl, rfl, rfl, rfl, by omega, fun r hr => by have := (hx6 r hr).1; omega⟩) ?_
  (set_option smartUnfolding false in conv => whnf)
  refine And.intro (by first | exact Nat.le_of_ble_eq_true rfl | exact ⟨Nat.le_of_ble_eq_true rfl, rfl⟩ | exact rfl | decide | (simp [allP]; done)) ?_
  (set_option smartUnfolding false in conv => whnf)
  refine ⟨bs, ?_⟩
  conv => whnf
  refine And.intro (by simp only [allP, List.nil_append, List.cons_append, true_and]; exact ⟨rfl, by omega⟩) ?_
  (set_option smartUnfolding false in conv => whnf)
  refine And.intro (by first | exact Nat.le_of_ble_eq_true rfl | exact ⟨Nat.le_of_ble_eq_true rfl, rfl⟩ | exact rfl | decide | (simp [allP]; done)) ?_
  (set_option smartUnfolding false in conv => whnf)
  have hg : (rgt x = false) ∨ (rgt x = true ∧ 12 + (inB x).length ≤ 60000) ∨ (rgt x = true ∧ 60000 < 12 + (inB x).length) := by
    cases rgt x
    · exact Or.inl rfl
    · rcases Nat.lt_or_ge 60000 (12 + (inB x).length) with h | h
      · exact Or.inr (Or.inr ⟨rfl, h⟩)
      · exact Or.inr (Or.inl ⟨rfl, h⟩)
  have hdec : (∃ m y, okE m y ∧ enB m y = bs) ∨ badE bs := by
    by_cases h : ∃ m y, okE m y ∧ enB m y = bs
    · exact Or.inl h
    · exact Or.inr fun m y ho he => h ⟨m, y, ho, he⟩
  rcases hg with hr | ⟨hr, hl⟩ | ⟨hr, hl⟩
  · rcases hdec with ⟨m, y, ho⟩ | ho
    · obtain ⟨hy0, hy⟩ := (rgt_iff y).1 ho.1.2.2.2.2.1
      refine ⟨(1, base, x), ?_⟩
      conv => whnf
      refine And.intro (by simp only [allP, List.nil_append, List.cons_append, true_and]; exact ⟨rfl, rfl, rfl, rfl, rfl, hpre, hr⟩) ?_
      (set_option smartUnfolding false in conv => whnf)
      refine And.intro (by first | exact Nat.le_of_ble_eq_true rfl | exact ⟨Nat.le_of_ble_eq_true rfl, rfl⟩ | exact rfl | decide | (simp [allP]; done)) ?_
      (set_option smartUnfolding false in conv => whnf)
      refine ⟨(1, base, x), ?_⟩
      conv => whnf
      refine And.intro (by simp only [allP, List.nil_append, List.cons_append, true_and]; exact ⟨rfl, rfl, rfl, rfl, rfl, hpre, hr⟩) ?_
      (set_option smartUnfolding false in conv => whnf)
      refine ⟨(bs, some (m, y)), ?_⟩
      conv => whnf
      refine And.intro (by simp only [allP, List.nil_append, List.cons_append, true_and]; rw [hc]; exact ⟨rfl, by omega, ho⟩) ?_
      (set_option smartUnfolding false in conv => whnf)
      refine And.intro (by first | exact Nat.le_of_ble_eq_true rfl | exact ⟨Nat.le_of_ble_eq_true rfl, rfl⟩ | exact rfl | decide | (simp [allP]; done)) ?_
      (set_option smartUnfolding false in conv => whnf)
      refine ⟨(bs, some (m, y)), ?_⟩
      conv => whnf
      refine And.intro (by simp only [allP, List.nil_append, List.cons_append, true_and]; exact ⟨rfl, by omega, ho⟩) ?_
      (set_option smartUnfolding false in conv => whnf)
      refine And.intro (by first | exact Nat.le_of_ble_eq_true rfl | exact ⟨Nat.le_of_ble_eq_true rfl, rfl⟩ | exact rfl | decide | (simp [allP]; done)) ?_
      (set_option smartUnfolding false in conv => whnf)
      refine And.intro (by first | exact Nat.le_of_ble_eq_true rfl | exact ⟨Nat.le_of_ble_eq_true rfl, rfl⟩ | exact rfl | decide | (simp [allP]; done)) ?_
      (set_option smartUnfolding false in conv => whnf)
      refine ⟨x, ?_⟩
      conv => whnf
      refine And.intro (by simp only [allP, List.nil_append, List.cons_append, true_and]; exact ⟨rfl, rfl, rfl, rfl, by omega⟩) ?_
      (set_option smartUnfolding false in conv => whnf)
      rw [hr]
      refine And.intro (by first | exact Nat.le_of_ble_eq_true rfl | exact ⟨Nat.le_of_ble_eq_true rfl, rfl⟩ | exact rfl | decide | (simp [allP]; done)) ?_
      (set_option smartUnfolding false in conv => whnf)
      refine ⟨x, ?_⟩
      conv => whnf
      refine And.intro (by simp only [allP, List.nil_append, List.cons_append, true_and]; exact ⟨rfl, rfl, rfl, rfl, by omega⟩) ?_
      (set_option smartUnfolding false in conv => whnf)
      rw [hr]
      (set_option smartUnfolding false in conv => whnf)
      refine ⟨([], []), ?_⟩
      conv => whnf
      refine And.intro (by simp only [allP, List.nil_append, List.cons_append, true_and]; exact ⟨rfl, rfl, trivial⟩) ?_
      (set_option smartUnfolding false in conv => whnf)
      rw [decide_eq_true rfl]
      (set_option smartUnfolding false in conv => whnf)
      rw [beq_self_eq_true m]
      (set_option smartUnfolding false in conv => whnf)
      refine And.intro (by first | exact Nat.le_of_ble_eq_true rfl | exact ⟨Nat.le_of_ble_eq_true rfl, rfl⟩ | exact rfl | decide | (simp [allP]; done)) ?_
      (set_option smartUnfolding false in conv => whnf)
      refine And.intro (by first | exact Nat.le_of_ble_eq_true rfl | exact ⟨Nat.le_of_ble_eq_true rfl, rfl⟩ | exact rfl | decide | (simp [allP]; done)) ?_
      (set_option smartUnfolding false in conv => whnf)
      refine ⟨(y, y), ?_⟩
      conv => whnf
      refine And.intro (by simp only [allP, List.nil_append, List.cons_append, true_and]; exact ⟨rfl, rfl, rfl, rfl, rfl, rfl, rfl, rfl, by omega, fun r hr' => by have := hy r hr'; omega⟩) ?_
      (set_option smartUnfolding false in conv => whnf)
      rw [decide_eq_true rfl]
      (set_option smartUnfolding false in conv => whnf)
      refine And.intro (by first | exact Nat.le_of_ble_eq_true rfl | exact ⟨Nat.le_of_ble_eq_true rfl, rfl⟩ | exact rfl | decide | (simp [allP]; done)) ?_
      (set_option smartUnfolding false in conv => whnf)
      refine And.intro (by first | exact Nat.le_of_ble_eq_true rfl | exact ⟨Nat.le_of_ble_eq_true rfl, rfl⟩ | exact rfl | decide | (simp [allP]; done)) ?_
      (set_option smartUnfolding false in conv => whnf)
      refine ⟨(x, x), ?_⟩
      conv => whnf
      refine And.intro (by simp only [allP, List.nil_append, List.cons_append, true_and]; exact ⟨rfl, rfl, rfl, rfl, rfl, rfl, rfl, rfl, by omega, fun r hr' => by have := (hx6 r hr').1; omega⟩) ?_
      (set_option smartUnfolding false in conv => whnf)
      rw [decide_eq_true rfl]
      (set_option smartUnfolding false in conv => whnf)
      refine ⟨bs, ?_⟩
      conv => whnf
      refine And.intro (by simp only [allP, List.nil_append, List.cons_append, true_and]; and_intros <;> first | rfl | omega) ?_
      (set_option smartUnfolding false in conv => whnf)
      refine ⟨(), ?_⟩
      conv => whnf
      refine And.intro (by simp only [allP, List.nil_append, List.cons_append, true_and]; skip) ?_
      (set_option smartUnfolding false in conv => whnf)
      refine ⟨by rfl, ?_⟩
      (set_option smartUnfolding false in conv => whnf)
      first | done | rfl
    · refine ⟨(1, base, x), ?_⟩
      conv => whnf
      refine And.intro (by simp only [allP, List.nil_append, List.cons_append, true_and]; exact ⟨rfl, rfl, rfl, rfl, rfl, hpre, hr⟩) ?_
      (set_option smartUnfolding false in conv => whnf)
      refine And.intro (by first | exact Nat.le_of_ble_eq_true rfl | exact ⟨Nat.le_of_ble_eq_true rfl, rfl⟩ | exact rfl | decide | (simp [allP]; done)) ?_
      (set_option smartUnfolding false in conv => whnf)
      refine ⟨(1, base, x), ?_⟩
      conv => whnf
      refine And.intro (by simp only [allP, List.nil_append, List.cons_append, true_and]; exact ⟨rfl, rfl, rfl, rfl, rfl, hpre, hr⟩) ?_
      (set_option smartUnfolding false in conv => whnf)
      refine ⟨(bs, none), ?_⟩
      conv => whnf
      refine And.intro (by simp only [allP, List.nil_append, List.cons_append, true_and]; rw [hc]; exact ⟨rfl, by omega, ho⟩) ?_
      (set_option smartUnfolding false in conv => whnf)
      refine And.intro (by first | exact Nat.le_of_ble_eq_true rfl | exact ⟨Nat.le_of_ble_eq_true rfl, rfl⟩ | exact rfl | decide | (simp [allP]; done)) ?_
      (set_option smartUnfolding false in conv => whnf)
      refine ⟨(bs, none), ?_⟩
      conv => whnf
      refine And.intro (by simp only [allP, List.nil_append, List.cons_append, true_and]; exact ⟨rfl, by omega, ho⟩) ?_
      (set_option smartUnfolding false in conv => whnf)
      refine And.intro (by first | exact Nat.le_of_ble_eq_true rfl | exact ⟨Nat.le_of_ble_eq_true rfl, rfl⟩ | exact rfl | decide | (simp [allP]; done)) ?_
      (set_option smartUnfolding false in conv => whnf)
      refine And.intro (by first | exact Nat.le_of_ble_eq_true rfl | exact ⟨Nat.le_of_ble_eq_true rfl, rfl⟩ | exact rfl | decide | (simp [allP]; done)) ?_
      (set_option smartUnfolding false in conv => whnf)
      refine ⟨x, ?_⟩
      conv => whnf
      refine And.intro (by simp only [allP, List.nil_append, List.cons_append, true_and]; exact ⟨rfl, rfl, rfl, rfl, by omega⟩) ?_
      (set_option smartUnfolding false in conv => whnf)
      rw [hr]
      refine And.intro (by first | exact Nat.le_of_ble_eq_true rfl | exact ⟨Nat.le_of_ble_eq_true rfl, rfl⟩ | exact rfl | decide | (simp [allP]; done)) ?_
      (set_option smartUnfolding false in conv => whnf)
      refine ⟨x, ?_⟩
      conv => whnf
      refine And.intro (by simp only [allP, List.nil_append, List.cons_append, true_and]; exact ⟨rfl, rfl, rfl, rfl, by omega⟩) ?_
      (set_option smartUnfolding false in conv => whnf)
      rw [hr]
      (set_option smartUnfolding false in conv => whnf)
      refine ⟨([], []), ?_⟩
      conv => whnf
      refine And.intro (by simp only [allP, List.nil_append, List.cons_append, true_and]; exact ⟨rfl, rfl, trivial⟩) ?_
      (set_option smartUnfolding false in conv => whnf)
      rw [decide_eq_true rfl]
      (set_option smartUnfolding false in conv => whnf)
      refine And.intro (by first | exact Nat.le_of_ble_eq_true rfl | exact ⟨Nat.le_of_ble_eq_true rfl, rfl⟩ | exact rfl | decide | (simp [allP]; done)) ?_
      (set_option smartUnfolding false in conv => whnf)
      refine And.intro (by first | exact Nat.le_of_ble_eq_true rfl | exact ⟨Nat.le_of_ble_eq_true rfl, rfl⟩ | exact rfl | decide | (simp [allP]; done)) ?_
      (set_option smartUnfolding false in conv => whnf)
      refine ⟨((0, 0, 0, []), (0, 0, 0, [])), ?_⟩
      conv => whnf
      refine And.intro (by simp only [allP, List.nil_append, List.cons_append, true_and]; exact ⟨rfl, rfl, rfl, rfl, rfl, rfl, rfl, rfl, by decide, fun r hr' => by cases hr'⟩) ?_
      (set_option smartUnfolding false in conv => whnf)
      rw [decide_eq_true rfl]
      (set_option smartUnfolding false in conv => whnf)
      refine And.intro (by first | exact Nat.le_of_ble_eq_true rfl | exact ⟨Nat.le_of_ble_eq_true rfl, rfl⟩ | exact rfl | decide | (simp [allP]; done)) ?_
      (set_option smartUnfolding false in conv => whnf)
      refine And.intro (by first | exact Nat.le_of_ble_eq_true rfl | exact ⟨Nat.le_of_ble_eq_true rfl, rfl⟩ | exact rfl | decide | (simp [allP]; done)) ?_
      (set_option smartUnfolding false in conv => whnf)
      refine ⟨(x, x), ?_⟩
      conv => whnf
      refine And.intro (by simp only [allP, List.nil_append, List.cons_append, true_and]; exact ⟨rfl, rfl, rfl, rfl, rfl, rfl, rfl, rfl, by omega, fun r hr' => by have := (hx6 r hr').1; omega⟩) ?_
      (set_option smartUnfolding false in conv => whnf)
      rw [decide_eq_true rfl]
      (set_option smartUnfolding false in conv => whnf)
      refine ⟨bs, ?_⟩
      conv => whnf
      refine And.intro (by simp only [allP, List.nil_append, List.cons_append, true_and]; and_intros <;> first | rfl | omega) ?_
      (set_option smartUnfolding false in conv => whnf)
      refine ⟨(), ?_⟩
      conv => whnf
      refine And.intro (by simp only [allP, List.nil_append, List.cons_append, true_and]; skip) ?_
      (set_option smartUnfolding false in conv => whnf)
      refine ⟨by rfl, ?_⟩
      (set_option smartUnfolding false in conv => whnf)
      first | done | rfl
  · rcases hdec with ⟨m, y, ho⟩ | ho
    · obtain ⟨hy0, hy⟩ := (rgt_iff y).1 ho.1.2.2.2.2.1
      refine ⟨(0, base, x), ?_⟩
      conv => whnf
      refine And.intro (by simp only [allP, List.nil_append, List.cons_append, true_and]; exact ⟨rfl, rfl, rfl, rfl, rfl, hpre, hr, by omega⟩) ?_
      (set_option smartUnfolding false in conv => whnf)
      refine And.intro (by first | exact Nat.le_of_ble_eq_true rfl | exact ⟨Nat.le_of_ble_eq_true rfl, rfl⟩ | exact rfl | decide | (simp [allP]; done)) ?_
      (set_option smartUnfolding false in conv => whnf)
      refine ⟨(0, base, x), ?_⟩
      conv => whnf
      refine And.intro (by simp only [allP, List.nil_append, List.cons_append, true_and]; exact ⟨rfl, rfl, rfl, rfl, rfl, hpre, hr, by omega⟩) ?_
      (set_option smartUnfolding false in conv => whnf)
      refine ⟨(bs, some (m, y)), ?_⟩
      conv => whnf
      refine And.intro (by simp only [allP, List.nil_append, List.cons_append, true_and]; rw [hc]; exact ⟨rfl, by omega, ho⟩) ?_
      (set_option smartUnfolding false in conv => whnf)
      refine And.intro (by first | exact Nat.le_of_ble_eq_true rfl | exact ⟨Nat.le_of_ble_eq_true rfl, rfl⟩ | exact rfl | decide | (simp [allP]; done)) ?_
      (set_option smartUnfolding false in conv => whnf)
      refine ⟨(bs, some (m, y)), ?_⟩
      conv => whnf
      refine And.intro (by simp only [allP, List.nil_append, List.cons_append, true_and]; exact ⟨rfl, by omega, ho⟩) ?_
      (set_option smartUnfolding false in conv => whnf)
      refine And.intro (by first | exact Nat.le_of_ble_eq_true rfl | exact ⟨Nat.le_of_ble_eq_true rfl, rfl⟩ | exact rfl | decide | (simp [allP]; done)) ?_
      (set_option smartUnfolding false in conv => whnf)
      refine And.intro (by first | exact Nat.le_of_ble_eq_true rfl | exact ⟨Nat.le_of_ble_eq_true rfl, rfl⟩ | exact rfl | decide | (simp [allP]; done)) ?_
      (set_option smartUnfolding false in conv => whnf)
      refine ⟨x, ?_⟩
      conv => whnf
      refine And.intro (by simp only [allP, List.nil_append, List.cons_append, true_and]; exact ⟨rfl, rfl, rfl, rfl, by omega⟩) ?_
      (set_option smartUnfolding false in conv => whnf)
      rw [hr]
      refine And.intro (by first | exact Nat.le_of_ble_eq_true rfl | exact ⟨Nat.le_of_ble_eq_true rfl, rfl⟩ | exact rfl | decide | (simp [allP]; done)) ?_
      (set_option smartUnfolding false in conv => whnf)
      refine ⟨x, ?_⟩
      conv => whnf
      refine And.intro (by simp only [allP, List.nil_append, List.cons_append, true_and]; exact ⟨rfl, rfl, rfl, rfl, by omega⟩) ?_
      (set_option smartUnfolding false in conv => whnf)
      rw [hr]
      (set_option smartUnfolding false in conv => whnf)
      refine ⟨(enB base x, enB base x), ?_⟩
      conv => whnf
      refine And.intro (by simp only [allP, List.nil_append, List.cons_append, true_and]; exact ⟨rfl, rfl, trivial⟩) ?_
      (set_option smartUnfolding false in conv => whnf)
      rw [decide_eq_true rfl]
      (set_option smartUnfolding false in conv => whnf)
      rw [beq_self_eq_true m]
      (set_option smartUnfolding false in conv => whnf)
      refine And.intro (by first | exact Nat.le_of_ble_eq_true rfl | exact ⟨Nat.le_of_ble_eq_true rfl, rfl⟩ | exact rfl | decide | (simp [allP]; done)) ?_
      (set_option smartUnfolding false in conv => whnf)
      refine And.intro (by first | exact Nat.le_of_ble_eq_true rfl | exact ⟨Nat.le_of_ble_eq_true rfl, rfl⟩ | exact rfl | decide | (simp [allP]; done)) ?_
      (set_option smartUnfolding false in conv => whnf)
      refine ⟨(y, y), ?_⟩
      conv => whnf
      refine And.intro (by simp only [allP, List.nil_append, List.cons_append, true_and]; exact ⟨rfl, rfl, rfl, rfl, rfl, rfl, rfl, rfl, by omega, fun r hr' => by have := hy r hr'; omega⟩) ?_
      (set_option smartUnfolding false in conv => whnf)
      rw [decide_eq_true rfl]
      (set_option smartUnfolding false in conv => whnf)
      refine And.intro (by first | exact Nat.le_of_ble_eq_true rfl | exact ⟨Nat.le_of_ble_eq_true rfl, rfl⟩ | exact rfl | decide | (simp [allP]; done)) ?_
      (set_option smartUnfolding false in conv => whnf)
      refine And.intro (by first | exact Nat.le_of_ble_eq_true rfl | exact ⟨Nat.le_of_ble_eq_true rfl, rfl⟩ | exact rfl | decide | (simp [allP]; done)) ?_
      (set_option smartUnfolding false in conv => whnf)
      refine ⟨(x, x), ?_⟩
      conv => whnf
      refine And.intro (by simp only [allP, List.nil_append, List.cons_append, true_and]; exact ⟨rfl, rfl, rfl, rfl, rfl, rfl, rfl, rfl, by omega, fun r hr' => by have := (hx6 r hr').1; omega⟩) ?_
      (set_option smartUnfolding false in conv => whnf)
      rw [decide_eq_true rfl]
      (set_option smartUnfolding false in conv => whnf)
      refine ⟨bs, ?_⟩
      conv => whnf
      refine And.intro (by simp only [allP, List.nil_append, List.cons_append, true_and]; and_intros <;> first | rfl | omega) ?_
      (set_option smartUnfolding false in conv => whnf)
      refine ⟨(), ?_⟩
      conv => whnf
      refine And.intro (by simp only [allP, List.nil_append, List.cons_append, true_and]; skip) ?_
      (set_option smartUnfolding false in conv => whnf)
      refine ⟨by rfl, ?_⟩
      (set_option smartUnfolding false in conv => whnf)
      first | done | rfl
    · refine ⟨(0, base, x), ?_⟩
      conv => whnf
      refine And.intro (by simp only [allP, List.nil_append, List.cons_append, true_and]; exact ⟨rfl, rfl, rfl, rfl, rfl, hpre, hr, by omega⟩) ?_
      (set_option smartUnfolding false in conv => whnf)
      refine And.intro (by first | exact Nat.le_of_ble_eq_true rfl | exact ⟨Nat.le_of_ble_eq_true rfl, rfl⟩ | exact rfl | decide | (simp [allP]; done)) ?_
      (set_option smartUnfolding false in conv => whnf)
      refine ⟨(0, base, x), ?_⟩
      conv => whnf
      refine And.intro (by simp only [allP, List.nil_append, List.cons_append, true_and]; exact ⟨rfl, rfl, rfl, rfl, rfl, hpre, hr, by omega⟩) ?_
      (set_option smartUnfolding false in conv => whnf)
      refine ⟨(bs, none), ?_⟩
      conv => whnf
      refine And.intro (by simp only [allP, List.nil_append, List.cons_append, true_and]; rw [hc]; exact ⟨rfl, by omega, ho⟩) ?_
      (set_option smartUnfolding false in conv => whnf)
      refine And.intro (by first | exact Nat.le_of_ble_eq_true rfl | exact ⟨Nat.le_of_ble_eq_true rfl, rfl⟩ | exact rfl | decide | (simp [allP]; done)) ?_
      (set_option smartUnfolding false in conv => whnf)
      refine ⟨(bs, none), ?_⟩
      conv => whnf
      refine And.intro (by simp only [allP, List.nil_append, List.cons_append, true_and]; exact ⟨rfl, by omega, ho⟩) ?_
      (set_option smartUnfolding false in conv => whnf)
      refine And.intro (by first | exact Nat.le_of_ble_eq_true rfl | exact ⟨Nat.le_of_ble_eq_true rfl, rfl⟩ | exact rfl | decide | (simp [allP]; done)) ?_
      (set_option smartUnfolding false in conv => whnf)
      refine And.intro (by first | exact Nat.le_of_ble_eq_true rfl | exact ⟨Nat.le_of_ble_eq_true rfl, rfl⟩ | exact rfl | decide | (simp [allP]; done)) ?_
      (set_option smartUnfolding false in conv => whnf)
      refine ⟨x, ?_⟩
      conv => whnf
      refine And.intro (by simp only [allP, List.nil_append, List.cons_append, true_and]; exact ⟨rfl, rfl, rfl, rfl, by omega⟩) ?_
      (set_option smartUnfolding false in conv => whnf)
      rw [hr]
      refine And.intro (by first | exact Nat.le_of_ble_eq_true rfl | exact ⟨Nat.le_of_ble_eq_true rfl, rfl⟩ | exact rfl | decide | (simp [allP]; done)) ?_
      (set_option smartUnfolding false in conv => whnf)
      refine ⟨x, ?_⟩
      conv => whnf
      refine And.intro (by simp only [allP, List.nil_append, List.cons_append, true_and]; exact ⟨rfl, rfl, rfl, rfl, by omega⟩) ?_
      (set_option smartUnfolding false in conv => whnf)
      rw [hr]
      (set_option smartUnfolding false in conv => whnf)
      refine ⟨(enB base x, enB base x), ?_⟩
      conv => whnf
      refine And.intro (by simp only [allP, List.nil_append, List.cons_append, true_and]; exact ⟨rfl, rfl, trivial⟩) ?_
      (set_option smartUnfolding false in conv => whnf)
      rw [decide_eq_true rfl]
      (set_option smartUnfolding false in conv => whnf)
      refine And.intro (by first | exact Nat.le_of_ble_eq_true rfl | exact ⟨Nat.le_of_ble_eq_true rfl, rfl⟩ | exact rfl | decide | (simp [allP]; done)) ?_
      (set_option smartUnfolding false in conv => whnf)
      refine And.intro (by first | exact Nat.le_of_ble_eq_true rfl | exact ⟨Nat.le_of_ble_eq_true rfl, rfl⟩ | exact rfl | decide | (simp [allP]; done)) ?_
      (set_option smartUnfolding false in conv => whnf)
      refine ⟨((0, 0, 0, []), (0, 0, 0, [])), ?_⟩
      conv => whnf
      refine And.intro (by simp only [allP, List.nil_append, List.cons_append, true_and]; exact ⟨rfl, rfl, rfl, rfl, rfl, rfl, rfl, rfl, by decide, fun r hr' => by cases hr'⟩) ?_
      (set_option smartUnfolding false in conv => whnf)
      rw [decide_eq_true rfl]
      (set_option smartUnfolding false in conv => whnf)
      refine And.intro (by first | exact Nat.le_of_ble_eq_true rfl | exact ⟨Nat.le_of_ble_eq_true rfl, rfl⟩ | exact rfl | decide | (simp [allP]; done)) ?_
      (set_option smartUnfolding false in conv => whnf)
      refine And.intro (by first | exact Nat.le_of_ble_eq_true rfl | exact ⟨Nat.le_of_ble_eq_true rfl, rfl⟩ | exact rfl | decide | (simp [allP]; done)) ?_
      (set_option smartUnfolding false in conv => whnf)
      refine ⟨(x, x), ?_⟩
      conv => whnf
      refine And.intro (by simp only [allP, List.nil_append, List.cons_append, true_and]; exact ⟨rfl, rfl, rfl, rfl, rfl, rfl, rfl, rfl, by omega, fun r hr' => by have := (hx6 r hr').1; omega⟩) ?_
      (set_option smartUnfolding false in conv => whnf)
      rw [decide_eq_true rfl]
      (set_option smartUnfolding false in conv => whnf)
      refine ⟨bs, ?_⟩
      conv => whnf
      refine And.intro (by simp only [allP, List.nil_append, List.cons_append, true_and]; and_intros <;> first | rfl | omega) ?_
      (set_option smartUnfolding false in conv => whnf)
      refine ⟨(), ?_⟩
      conv => whnf
      refine And.intro (by simp only [allP, List.nil_append, List.cons_append, true_and]; skip) ?_
      (set_option smartUnfolding false in conv => whnf)
      refine ⟨by rfl, ?_⟩
      (set_option smartUnfolding false in conv => whnf)
      first | done | rfl
  · rcases hdec with ⟨m, y, ho⟩ | ho
    · obtain ⟨hy0, hy⟩ := (rgt_iff y).1 ho.1.2.2.2.2.1
      refine ⟨(2, base, x), ?_⟩
      conv => whnf
      refine And.intro (by simp only [allP, List.nil_append, List.cons_append, true_and]; exact ⟨rfl, rfl, rfl, rfl, rfl, hpre, hr, by omega⟩) ?_
      (set_option smartUnfolding false in conv => whnf)
      refine And.intro (by first | exact Nat.le_of_ble_eq_true rfl | exact ⟨Nat.le_of_ble_eq_true rfl, rfl⟩ | exact rfl | decide | (simp [allP]; done)) ?_
      (set_option smartUnfolding false in conv => whnf)
      refine ⟨(2, base, x), ?_⟩
      conv => whnf
      refine And.intro (by simp only [allP, List.nil_append, List.cons_append, true_and]; exact ⟨rfl, rfl, rfl, rfl, rfl, hpre, hr, by omega⟩) ?_
      (set_option smartUnfolding false in conv => whnf)
      refine ⟨(bs, some (m, y)), ?_⟩
      conv => whnf
      refine And.intro (by simp only [allP, List.nil_append, List.cons_append, true_and]; rw [hc]; exact ⟨rfl, by omega, ho⟩) ?_
      (set_option smartUnfolding false in conv => whnf)
      refine And.intro (by first | exact Nat.le_of_ble_eq_true rfl | exact ⟨Nat.le_of_ble_eq_true rfl, rfl⟩ | exact rfl | decide | (simp [allP]; done)) ?_
      (set_option smartUnfolding false in conv => whnf)
      refine ⟨(bs, some (m, y)), ?_⟩
      conv => whnf
      refine And.intro (by simp only [allP, List.nil_append, List.cons_append, true_and]; exact ⟨rfl, by omega, ho⟩) ?_
      (set_option smartUnfolding false in conv => whnf)
      refine And.intro (by first | exact Nat.le_of_ble_eq_true rfl | exact ⟨Nat.le_of_ble_eq_true rfl, rfl⟩ | exact rfl | decide | (simp [allP]; done)) ?_
      (set_option smartUnfolding false in conv => whnf)
      refine And.intro (by first | exact Nat.le_of_ble_eq_true rfl | exact ⟨Nat.le_of_ble_eq_true rfl, rfl⟩ | exact rfl | decide | (simp [allP]; done)) ?_
      (set_option smartUnfolding false in conv => whnf)
      refine ⟨x, ?_⟩
      conv => whnf
      refine And.intro (by simp only [allP, List.nil_append, List.cons_append, true_and]; exact ⟨rfl, rfl, rfl, rfl, by omega⟩) ?_
      (set_option smartUnfolding false in conv => whnf)
      rw [hr]
      refine And.intro (by first | exact Nat.le_of_ble_eq_true rfl | exact ⟨Nat.le_of_ble_eq_true rfl, rfl⟩ | exact rfl | decide | (simp [allP]; done)) ?_
      (set_option smartUnfolding false in conv => whnf)
      refine ⟨x, ?_⟩
      conv => whnf
      refine And.intro (by simp only [allP, List.nil_append, List.cons_append, true_and]; exact ⟨rfl, rfl, rfl, rfl, by omega⟩) ?_
      (set_option smartUnfolding false in conv => whnf)
      rw [hr]
      (set_option smartUnfolding false in conv => whnf)
      refine ⟨([], []), ?_⟩
      conv => whnf
      refine And.intro (by simp only [allP, List.nil_append, List.cons_append, true_and]; exact ⟨rfl, rfl, trivial⟩) ?_
      (set_option smartUnfolding false in conv => whnf)
      rw [decide_eq_true rfl]
      (set_option smartUnfolding false in conv => whnf)
      rw [beq_self_eq_true m]
      (set_option smartUnfolding false in conv => whnf)
      refine And.intro (by first | exact Nat.le_of_ble_eq_true rfl | exact ⟨Nat.le_of_ble_eq_true rfl, rfl⟩ | exact rfl | decide | (simp [allP]; done)) ?_
      (set_option smartUnfolding false in conv => whnf)
      refine And.intro (by first | exact Nat.le_of_ble_eq_true rfl | exact ⟨Nat.le_of_ble_eq_true rfl, rfl⟩ | exact rfl | decide | (simp [allP]; done)) ?_
      (set_option smartUnfolding false in conv => whnf)
      refine ⟨(y, y), ?_⟩
      conv => whnf
      refine And.intro (by simp only [allP, List.nil_append, List.cons_append, true_and]; exact ⟨rfl, rfl, rfl, rfl, rfl, rfl, rfl, rfl, by omega, fun r hr' => by have := hy r hr'; omega⟩) ?_
      (set_option smartUnfolding false in conv => whnf)
      rw [decide_eq_true rfl]
      (set_option smartUnfolding false in conv => whnf)
      refine And.intro (by first | exact Nat.le_of_ble_eq_true rfl | exact ⟨Nat.le_of_ble_eq_true rfl, rfl⟩ | exact rfl | decide | (simp [allP]; done)) ?_
      (set_option smartUnfolding false in conv => whnf)
      refine And.intro (by first | exact Nat.le_of_ble_eq_true rfl | exact ⟨Nat.le_of_ble_eq_true rfl, rfl⟩ | exact rfl | decide | (simp [allP]; done)) ?_
      (set_option smartUnfolding false in conv => whnf)
      refine ⟨(x, x), ?_⟩
      conv => whnf
      refine And.intro (by simp only [allP, List.nil_append, List.cons_append, true_and]; exact ⟨rfl, rfl, rfl, rfl, rfl, rfl, rfl, rfl, by omega, fun r hr' => by have := (hx6 r hr').1; omega⟩) ?_
      (set_option smartUnfolding false in conv => whnf)
      rw [decide_eq_true rfl]
      (set_option smartUnfolding false in conv => whnf)
      refine ⟨bs, ?_⟩
      conv => whnf
      refine And.intro (by simp only [allP, List.nil_append, List.cons_append, true_and]; and_intros <;> first | rfl | omega) ?_
      (set_option smartUnfolding false in conv => whnf)
      refine ⟨(), ?_⟩
      conv => whnf
      refine And.intro (by simp only [allP, List.nil_append, List.cons_append, true_and]; skip) ?_
      (set_option smartUnfolding false in conv => whnf)
      refine ⟨by rfl, ?_⟩
      (set_option smartUnfolding false in conv => whnf)
      first | done | rfl
    · refine ⟨(2, base, x), ?_⟩
      conv => whnf
      refine And.intro (by simp only [allP, List.nil_append, List.cons_append, true_and]; exact ⟨rfl, rfl, rfl, rfl, rfl, hpre, hr, by omega⟩) ?_
      (set_option smartUnfolding false in conv => whnf)
      refine And.intro (by first | exact Nat.le_of_ble_eq_true rfl | exact ⟨Nat.le_of_ble_eq_true rfl, rfl⟩ | exact rfl | decide | (simp [allP]; done)) ?_
      (set_option smartUnfolding false in conv => whnf)
      refine ⟨(2, base, x), ?_⟩
      conv => whnf
      refine And.intro (by simp only [allP, List.nil_append, List.cons_append, true_and]; exact ⟨rfl, rfl, rfl, rfl, rfl, hpre, hr, by omega⟩) ?_
      (set_option smartUnfolding false in conv => whnf)
      refine ⟨(bs, none), ?_⟩
      conv => whnf
      refine And.intro (by simp only [allP, List.nil_append, List.cons_append, true_and]; rw [hc]; exact ⟨rfl, by omega, ho⟩) ?_
      (set_option smartUnfolding false in conv => whnf)
      refine And.intro (by first | exact Nat.le_of_ble_eq_true rfl | exact ⟨Nat.le_of_ble_eq_true rfl, rfl⟩ | exact rfl | decide | (simp [allP]; done)) ?_
      (set_option smartUnfolding false in conv => whnf)
      refine ⟨(bs, none), ?_⟩
      conv => whnf
      refine And.intro (by simp only [allP, List.nil_append, List.cons_append, true_and]; exact ⟨rfl, by omega, ho⟩) ?_
      (set_option smartUnfolding false in conv => whnf)
      refine And.intro (by first | exact Nat.le_of_ble_eq_true rfl | exact ⟨Nat.le_of_ble_eq_true rfl, rfl⟩ | exact rfl | decide | (simp [allP]; done)) ?_
      (set_option smartUnfolding false in conv => whnf)
      refine And.intro (by first | exact Nat.le_of_ble_eq_true rfl | exact ⟨Nat.le_of_ble_eq_true rfl, rfl⟩ | exact rfl | decide | (simp [allP]; done)) ?_
      (set_option smartUnfolding false in conv => whnf)
      refine ⟨x, ?_⟩
      conv => whnf
      refine And.intro (by simp only [allP, List.nil_append, List.cons_append, true_and]; exact ⟨rfl, rfl, rfl, rfl, by omega⟩) ?_
      (set_option smartUnfolding false in conv => whnf)
      rw [hr]
      refine And.intro (by first | exact Nat.le_of_ble_eq_true rfl | exact ⟨Nat.le_of_ble_eq_true rfl, rfl⟩ | exact rfl | decide | (simp [allP]; done)) ?_
      (set_option smartUnfolding false in conv => whnf)
      refine ⟨x, ?_⟩
      conv => whnf
      refine And.intro (by simp only [allP, List.nil_append, List.cons_append, true_and]; exact ⟨rfl, rfl, rfl, rfl, by omega⟩) ?_
      (set_option smartUnfolding false in conv => whnf)
      rw [hr]
      (set_option smartUnfolding false in conv => whnf)
      refine ⟨([], []), ?_⟩
      conv => whnf
      refine And.intro (by simp only [allP, List.nil_append, List.cons_append, true_and]; exact ⟨rfl, rfl, trivial⟩) ?_
      (set_option smartUnfolding false in conv => whnf)
      rw [decide_eq_true rfl]
      (set_option smartUnfolding false in conv => whnf)
      refine And.intro (by first | exact Nat.le_of_ble_eq_true rfl | exact ⟨Nat.le_of_ble_eq_true rfl, rfl⟩ | exact rfl | decide | (simp [allP]; done)) ?_
      (set_option smartUnfolding false in conv => whnf)
      refine And.intro (by first | exact Nat.le_of_ble_eq_true rfl | exact ⟨Nat.le_of_ble_eq_true rfl, rfl⟩ | exact rfl | decide | (simp [allP]; done)) ?_
      (set_option smartUnfolding false in conv => whnf)
      refine ⟨((0, 0, 0, []), (0, 0, 0, [])), ?_⟩
      conv => whnf
      refine And.intro (by simp only [allP, List.nil_append, List.cons_append, true_and]; exact ⟨rfl, rfl, rfl, rfl, rfl, rfl, rfl, rfl, by decide, fun r hr' => by cases hr'⟩) ?_
      (set_option smartUnfolding false in conv => whnf)
      rw [decide_eq_true rfl]
      (set_option smartUnfolding false in conv => whnf)
      refine And.intro (by first | exact Nat.le_of_ble_eq_true rfl | exact ⟨Nat.le_of_ble_eq_true rfl, rfl⟩ | exact rfl | decide | (simp [allP]; done)) ?_
      (set_option smartUnfolding false in conv => whnf)
      refine And.intro (by first | exact Nat.le_of_ble_eq_true rfl | exact ⟨Nat.le_of_ble_eq_true rfl, rfl⟩ | exact rfl | decide | (simp [allP]; done)) ?_
      (set_option smartUnfolding false in conv => whnf)
      refine ⟨(x, x), ?_⟩
      conv => whnf
      refine And.intro (by simp only [allP, List.nil_append, List.cons_append, true_and]; exact ⟨rfl, rfl, rfl, rfl, rfl, rfl, rfl, rfl, by omega, fun r hr' => by have := (hx6 r hr').1; omega⟩) ?_
      (set_option smartUnfolding false in conv => whnf)
      rw [decide_eq_true rfl]
      (set_option smartUnfolding false in conv => whnf)
      refine ⟨bs, ?_⟩
      conv => whnf
      refine And.intro (by simp only [allP, List.nil_append, List.cons_append, true_and]; and_intros <;> first | rfl | omega) ?_
      (set_option smartUnfolding false in conv => whnf)
      refine ⟨(), ?_⟩
      conv => whnf
      refine And.intro (by simp only [allP, List.nil_append, List.cons_append, true_and]; skip) ?_
      (set_option smartUnfolding false in conv => whnf)
      refine ⟨by rfl, ?_⟩
      (set_option smartUnfolding false in conv => whnf)
      first | done | rfl
theorem RecordTells_sound : Sound Try.prog 8 lawRecordTells := does_sound mixed tabOk_prog gRA_ok Try.func8 RecordTells_does
end Go.Proofs.Ytjgmlkogppibfaa.Ev
