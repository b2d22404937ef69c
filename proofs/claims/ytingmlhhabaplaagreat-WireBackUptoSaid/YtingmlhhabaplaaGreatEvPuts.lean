/- Wire: each thing's bytes. No conditions. -/
import Derived.Test.YtingmlhhabaplaaGreatEvWire2c
namespace Go.Proofs.YtingmlhhabaplaaGreat.Ev
open Go
set_option linter.unusedVariables false
set_option linter.unusedSimpArgs false
set_option maxRecDepth 100000
set_option maxHeartbeats 4000000
/-- Each thing's bytes, or none. -/
abbrev G7 : Type := Bool × Bool × Bool × Bool × Bool × Bool × Bool
def preP (g : G7) (x : S84) : Prop := ok84 x ∧ ((en48 x.1).length ≤ 900000000000 ∧ (en57 x.2.1).length ≤ 900000000000 ∧ (en28 x.2.2.1).length ≤ 900000000000 ∧ (en37 x.2.2.2.1).length ≤ 900000000000 ∧ (en63 x.2.2.2.2.1).length ≤ 900000000000 ∧ (en72 x.2.2.2.2.2.1).length ≤ 900000000000 ∧ (en79 x.2.2.2.2.2.2).length ≤ 900000000000) ∧ (g.1 = decide (1 + (en48 x.1).length ≤ 60000) ∧ g.2.1 = decide (1 + (en57 x.2.1).length ≤ 60000) ∧ g.2.2.1 = decide (1 + (en28 x.2.2.1).length ≤ 60000) ∧ g.2.2.2.1 = decide (1 + (en37 x.2.2.2.1).length ≤ 60000) ∧ g.2.2.2.2.1 = decide (1 + (en63 x.2.2.2.2.1).length ≤ 60000) ∧ g.2.2.2.2.2.1 = decide (1 + (en72 x.2.2.2.2.2.1).length ≤ 60000) ∧ g.2.2.2.2.2.2 = decide (1 + (en79 x.2.2.2.2.2.2).length ≤ 65545))
abbrev cPuts : Ctr := ⟨G7 × S84, 0, fun (g, x) => [.agg ((pv84 x).map avOf)], fun _ => [], fun (g, x) => preP g x,
  fun (g, x) => .tuple [.agg [.p true (.sl 1 (bl (oT 1 en48 g.1 x.1))), .p true (.sl 1 (bl (oT 2 en57 g.2.1 x.2.1))), .p true (.sl 1 (bl (oT 3 en28 g.2.2.1 x.2.2.1))), .p true (.sl 1 (bl (oT 4 en37 g.2.2.2.1 x.2.2.2.1))), .p true (.sl 1 (bl (oT 5 en63 g.2.2.2.2.1 x.2.2.2.2.1))), .p true (.sl 1 (bl (oT 6 en72 g.2.2.2.2.2.1 x.2.2.2.2.2.1))), .p true (.sl 1 (bl (oT 7 en79 g.2.2.2.2.2.2 x.2.2.2.2.2.2)))], isB true], fun _ => []⟩
theorem puts_does : Does gPutsU tab Tryz.f31 cPuts := by
  rintro ⟨⟨g0, g1, g2, g3, g4, g5, g6⟩, x0, x1, x2, x3, x4, x5, x6⟩ ⟨⟨k0, k1, k2, k3, k4, k5, k6⟩, ⟨l0, l1, l2, l3, l4, l5, l6⟩, ⟨e0, e1, e2, e3, e4, e5, e6⟩⟩
  conv => whnf
  refine dI (k := ?_)
  (set_option smartUnfolding false in conv => whnf)
  refine ⟨(g0, x0), ?_⟩
  conv => whnf
  refine And.intro (by simp only [allP, List.nil_append, List.cons_append, true_and]; repeat' (first | exact k0 | exact l0 | exact e0 | rfl | refine And.intro ?_ ?_)) ?_
  (set_option smartUnfolding false in conv => whnf)
  refine dI (k := ?_)
  (set_option smartUnfolding false in conv => whnf)
  refine dI (k := ?_)
  (set_option smartUnfolding false in conv => whnf)
  refine dI (k := ?_)
  (set_option smartUnfolding false in conv => whnf)
  refine dI (k := ?_)
  conv => whnf
  refine dI (k := ?_)
  (set_option smartUnfolding false in conv => whnf)
  refine ⟨(g1, x1), ?_⟩
  conv => whnf
  refine And.intro (by simp only [allP, List.nil_append, List.cons_append, true_and]; repeat' (first | exact k1 | exact l1 | exact e1 | rfl | refine And.intro ?_ ?_)) ?_
  (set_option smartUnfolding false in conv => whnf)
  refine dI (k := ?_)
  (set_option smartUnfolding false in conv => whnf)
  refine dI (k := ?_)
  (set_option smartUnfolding false in conv => whnf)
  refine dI (k := ?_)
  (set_option smartUnfolding false in conv => whnf)
  refine dI (k := ?_)
  conv => whnf
  refine dI (k := ?_)
  (set_option smartUnfolding false in conv => whnf)
  refine ⟨(g2, x2), ?_⟩
  conv => whnf
  refine And.intro (by simp only [allP, List.nil_append, List.cons_append, true_and]; repeat' (first | exact k2 | exact l2 | exact e2 | rfl | refine And.intro ?_ ?_)) ?_
  (set_option smartUnfolding false in conv => whnf)
  refine dI (k := ?_)
  (set_option smartUnfolding false in conv => whnf)
  refine dI (k := ?_)
  (set_option smartUnfolding false in conv => whnf)
  refine dI (k := ?_)
  (set_option smartUnfolding false in conv => whnf)
  refine dI (k := ?_)
  conv => whnf
  refine dI (k := ?_)
  (set_option smartUnfolding false in conv => whnf)
  refine ⟨(g3, x3), ?_⟩
  conv => whnf
  refine And.intro (by simp only [allP, List.nil_append, List.cons_append, true_and]; repeat' (first | exact k3 | exact l3 | exact e3 | rfl | refine And.intro ?_ ?_)) ?_
  (set_option smartUnfolding false in conv => whnf)
  refine dI (k := ?_)
  (set_option smartUnfolding false in conv => whnf)
  refine dI (k := ?_)
  (set_option smartUnfolding false in conv => whnf)
  refine dI (k := ?_)
  (set_option smartUnfolding false in conv => whnf)
  refine dI (k := ?_)
  conv => whnf
  refine dI (k := ?_)
  (set_option smartUnfolding false in conv => whnf)
  refine ⟨(g4, x4), ?_⟩
  conv => whnf
  refine And.intro (by simp only [allP, List.nil_append, List.cons_append, true_and]; repeat' (first | exact k4 | exact l4 | exact e4 | rfl | refine And.intro ?_ ?_)) ?_
  (set_option smartUnfolding false in conv => whnf)
  refine dI (k := ?_)
  (set_option smartUnfolding false in conv => whnf)
  refine dI (k := ?_)
  (set_option smartUnfolding false in conv => whnf)
  refine dI (k := ?_)
  (set_option smartUnfolding false in conv => whnf)
  refine dI (k := ?_)
  conv => whnf
  refine dI (k := ?_)
  (set_option smartUnfolding false in conv => whnf)
  refine ⟨(g5, x5), ?_⟩
  conv => whnf
  refine And.intro (by simp only [allP, List.nil_append, List.cons_append, true_and]; repeat' (first | exact k5 | exact l5 | exact e5 | rfl | refine And.intro ?_ ?_)) ?_
  (set_option smartUnfolding false in conv => whnf)
  refine dI (k := ?_)
  (set_option smartUnfolding false in conv => whnf)
  refine dI (k := ?_)
  (set_option smartUnfolding false in conv => whnf)
  refine dI (k := ?_)
  (set_option smartUnfolding false in conv => whnf)
  refine dI (k := ?_)
  conv => whnf
  refine dI (k := ?_)
  (set_option smartUnfolding false in conv => whnf)
  refine ⟨(g6, x6), ?_⟩
  conv => whnf
  refine And.intro (by simp only [allP, List.nil_append, List.cons_append, true_and]; repeat' (first | exact k6 | exact l6 | exact e6 | rfl | refine And.intro ?_ ?_)) ?_
  (set_option smartUnfolding false in conv => whnf)
  refine dI (k := ?_)
  (set_option smartUnfolding false in conv => whnf)
  refine dI (k := ?_)
  (set_option smartUnfolding false in conv => whnf)
  refine dI (k := ?_)
  (set_option smartUnfolding false in conv => whnf)
  refine dI (k := ?_)
  conv => whnf
  refine ⟨{i : Nat // i ≤ 7}, fun i => ⟨[(2, .ptr 0 0), (4, .ptr 1 0), (5, .ptr 2 0), (6, isI .i64 (i.1 : Nat))], [(0, .box [.p true .nilsl, .p true .nilsl, .p true .nilsl, .p true .nilsl, .p true .nilsl, .p true .nilsl, .p true .nilsl]), (1, .box [.p true (.sl 1 (bl (oT 1 en48 g0 x0))), .p true (.sl 1 (bl (oT 2 en57 g1 x1))), .p true (.sl 1 (bl (oT 3 en28 g2 x2))), .p true (.sl 1 (bl (oT 4 en37 g3 x3))), .p true (.sl 1 (bl (oT 5 en63 g4 x4))), .p true (.sl 1 (bl (oT 6 en72 g5 x5))), .p true (.sl 1 (bl (oT 7 en79 g6 x6)))]), (2, .box [isI .i64 (eT g0), isI .i64 (eT g1), isI .i64 (eT g2), isI .i64 (eT g3), isI .i64 (eT g4), isI .i64 (eT g5), isI .i64 (eT g6)])], 99⟩, fun i => 7 - i.1, ⟨⟨0, by omega⟩, ?_⟩, ?_⟩
  · conv => whnf
    and_intros <;> first | rfl | exact trivial
  rintro ⟨i, hi⟩
  obtain rfl | rfl | rfl | rfl | rfl | rfl | rfl | rfl : i = 0 ∨ i = 1 ∨ i = 2 ∨ i = 3 ∨ i = 4 ∨ i = 5 ∨ i = 6 ∨ i = 7 := by omega
  · show aw _ _ _ _ _ _ ⟨[(2, .ptr 0 0), (4, .ptr 1 0), (5, .ptr 2 0), (6, isI .i64 0)], [(0, .box [.p true .nilsl, .p true .nilsl, .p true .nilsl, .p true .nilsl, .p true .nilsl, .p true .nilsl, .p true .nilsl]), (1, .box [.p true (.sl 1 (bl (oT 1 en48 g0 x0))), .p true (.sl 1 (bl (oT 2 en57 g1 x1))), .p true (.sl 1 (bl (oT 3 en28 g2 x2))), .p true (.sl 1 (bl (oT 4 en37 g3 x3))), .p true (.sl 1 (bl (oT 5 en63 g4 x4))), .p true (.sl 1 (bl (oT 6 en72 g5 x5))), .p true (.sl 1 (bl (oT 7 en79 g6 x6)))]), (2, .box [isI .i64 (eT g0), isI .i64 (eT g1), isI .i64 (eT g2), isI .i64 (eT g3), isI .i64 (eT g4), isI .i64 (eT g5), isI .i64 (eT g6)])], 99⟩
    cases g0
    · (set_option smartUnfolding false in conv => whnf)
      repeat (refine And.intro (by first | exact ⟨Nat.le_of_ble_eq_true rfl, rfl⟩ | decide | (simp [allP, bl_length, oT]; done)) ?_; (set_option smartUnfolding false in conv => whnf))
      refine ⟨⟨1, by omega⟩, by simp only; omega, ?_⟩
      (set_option smartUnfolding false in conv => whnf)
      first | done | (and_intros <;> first | rfl | exact trivial)
    · (set_option smartUnfolding false in conv => whnf)
      repeat (refine And.intro (by first | exact ⟨Nat.le_of_ble_eq_true rfl, rfl⟩ | decide | (simp [allP, bl_length, oT]; done)) ?_; (set_option smartUnfolding false in conv => whnf))
      refine ⟨⟨1, by omega⟩, by simp only; omega, ?_⟩
      (set_option smartUnfolding false in conv => whnf)
      first | done | (and_intros <;> first | rfl | exact trivial)
  · show aw _ _ _ _ _ _ ⟨[(2, .ptr 0 0), (4, .ptr 1 0), (5, .ptr 2 0), (6, isI .i64 1)], [(0, .box [.p true .nilsl, .p true .nilsl, .p true .nilsl, .p true .nilsl, .p true .nilsl, .p true .nilsl, .p true .nilsl]), (1, .box [.p true (.sl 1 (bl (oT 1 en48 g0 x0))), .p true (.sl 1 (bl (oT 2 en57 g1 x1))), .p true (.sl 1 (bl (oT 3 en28 g2 x2))), .p true (.sl 1 (bl (oT 4 en37 g3 x3))), .p true (.sl 1 (bl (oT 5 en63 g4 x4))), .p true (.sl 1 (bl (oT 6 en72 g5 x5))), .p true (.sl 1 (bl (oT 7 en79 g6 x6)))]), (2, .box [isI .i64 (eT g0), isI .i64 (eT g1), isI .i64 (eT g2), isI .i64 (eT g3), isI .i64 (eT g4), isI .i64 (eT g5), isI .i64 (eT g6)])], 99⟩
    cases g1
    · (set_option smartUnfolding false in conv => whnf)
      repeat (refine And.intro (by first | exact ⟨Nat.le_of_ble_eq_true rfl, rfl⟩ | decide | (simp [allP, bl_length, oT]; done)) ?_; (set_option smartUnfolding false in conv => whnf))
      refine ⟨⟨2, by omega⟩, by simp only; omega, ?_⟩
      (set_option smartUnfolding false in conv => whnf)
      first | done | (and_intros <;> first | rfl | exact trivial)
    · (set_option smartUnfolding false in conv => whnf)
      repeat (refine And.intro (by first | exact ⟨Nat.le_of_ble_eq_true rfl, rfl⟩ | decide | (simp [allP, bl_length, oT]; done)) ?_; (set_option smartUnfolding false in conv => whnf))
      refine ⟨⟨2, by omega⟩, by simp only; omega, ?_⟩
      (set_option smartUnfolding false in conv => whnf)
      first | done | (and_intros <;> first | rfl | exact trivial)
  · show aw _ _ _ _ _ _ ⟨[(2, .ptr 0 0), (4, .ptr 1 0), (5, .ptr 2 0), (6, isI .i64 2)], [(0, .box [.p true .nilsl, .p true .nilsl, .p true .nilsl, .p true .nilsl, .p true .nilsl, .p true .nilsl, .p true .nilsl]), (1, .box [.p true (.sl 1 (bl (oT 1 en48 g0 x0))), .p true (.sl 1 (bl (oT 2 en57 g1 x1))), .p true (.sl 1 (bl (oT 3 en28 g2 x2))), .p true (.sl 1 (bl (oT 4 en37 g3 x3))), .p true (.sl 1 (bl (oT 5 en63 g4 x4))), .p true (.sl 1 (bl (oT 6 en72 g5 x5))), .p true (.sl 1 (bl (oT 7 en79 g6 x6)))]), (2, .box [isI .i64 (eT g0), isI .i64 (eT g1), isI .i64 (eT g2), isI .i64 (eT g3), isI .i64 (eT g4), isI .i64 (eT g5), isI .i64 (eT g6)])], 99⟩
    cases g2
    · (set_option smartUnfolding false in conv => whnf)
      repeat (refine And.intro (by first | exact ⟨Nat.le_of_ble_eq_true rfl, rfl⟩ | decide | (simp [allP, bl_length, oT]; done)) ?_; (set_option smartUnfolding false in conv => whnf))
      refine ⟨⟨3, by omega⟩, by simp only; omega, ?_⟩
      (set_option smartUnfolding false in conv => whnf)
      first | done | (and_intros <;> first | rfl | exact trivial)
    · (set_option smartUnfolding false in conv => whnf)
      repeat (refine And.intro (by first | exact ⟨Nat.le_of_ble_eq_true rfl, rfl⟩ | decide | (simp [allP, bl_length, oT]; done)) ?_; (set_option smartUnfolding false in conv => whnf))
      refine ⟨⟨3, by omega⟩, by simp only; omega, ?_⟩
      (set_option smartUnfolding false in conv => whnf)
      first | done | (and_intros <;> first | rfl | exact trivial)
  · show aw _ _ _ _ _ _ ⟨[(2, .ptr 0 0), (4, .ptr 1 0), (5, .ptr 2 0), (6, isI .i64 3)], [(0, .box [.p true .nilsl, .p true .nilsl, .p true .nilsl, .p true .nilsl, .p true .nilsl, .p true .nilsl, .p true .nilsl]), (1, .box [.p true (.sl 1 (bl (oT 1 en48 g0 x0))), .p true (.sl 1 (bl (oT 2 en57 g1 x1))), .p true (.sl 1 (bl (oT 3 en28 g2 x2))), .p true (.sl 1 (bl (oT 4 en37 g3 x3))), .p true (.sl 1 (bl (oT 5 en63 g4 x4))), .p true (.sl 1 (bl (oT 6 en72 g5 x5))), .p true (.sl 1 (bl (oT 7 en79 g6 x6)))]), (2, .box [isI .i64 (eT g0), isI .i64 (eT g1), isI .i64 (eT g2), isI .i64 (eT g3), isI .i64 (eT g4), isI .i64 (eT g5), isI .i64 (eT g6)])], 99⟩
    cases g3
    · (set_option smartUnfolding false in conv => whnf)
      repeat (refine And.intro (by first | exact ⟨Nat.le_of_ble_eq_true rfl, rfl⟩ | decide | (simp [allP, bl_length, oT]; done)) ?_; (set_option smartUnfolding false in conv => whnf))
      refine ⟨⟨4, by omega⟩, by simp only; omega, ?_⟩
      (set_option smartUnfolding false in conv => whnf)
      first | done | (and_intros <;> first | rfl | exact trivial)
    · (set_option smartUnfolding false in conv => whnf)
      repeat (refine And.intro (by first | exact ⟨Nat.le_of_ble_eq_true rfl, rfl⟩ | decide | (simp [allP, bl_length, oT]; done)) ?_; (set_option smartUnfolding false in conv => whnf))
      refine ⟨⟨4, by omega⟩, by simp only; omega, ?_⟩
      (set_option smartUnfolding false in conv => whnf)
      first | done | (and_intros <;> first | rfl | exact trivial)
  · show aw _ _ _ _ _ _ ⟨[(2, .ptr 0 0), (4, .ptr 1 0), (5, .ptr 2 0), (6, isI .i64 4)], [(0, .box [.p true .nilsl, .p true .nilsl, .p true .nilsl, .p true .nilsl, .p true .nilsl, .p true .nilsl, .p true .nilsl]), (1, .box [.p true (.sl 1 (bl (oT 1 en48 g0 x0))), .p true (.sl 1 (bl (oT 2 en57 g1 x1))), .p true (.sl 1 (bl (oT 3 en28 g2 x2))), .p true (.sl 1 (bl (oT 4 en37 g3 x3))), .p true (.sl 1 (bl (oT 5 en63 g4 x4))), .p true (.sl 1 (bl (oT 6 en72 g5 x5))), .p true (.sl 1 (bl (oT 7 en79 g6 x6)))]), (2, .box [isI .i64 (eT g0), isI .i64 (eT g1), isI .i64 (eT g2), isI .i64 (eT g3), isI .i64 (eT g4), isI .i64 (eT g5), isI .i64 (eT g6)])], 99⟩
    cases g4
    · (set_option smartUnfolding false in conv => whnf)
      repeat (refine And.intro (by first | exact ⟨Nat.le_of_ble_eq_true rfl, rfl⟩ | decide | (simp [allP, bl_length, oT]; done)) ?_; (set_option smartUnfolding false in conv => whnf))
      refine ⟨⟨5, by omega⟩, by simp only; omega, ?_⟩
      (set_option smartUnfolding false in conv => whnf)
      first | done | (and_intros <;> first | rfl | exact trivial)
    · (set_option smartUnfolding false in conv => whnf)
      repeat (refine And.intro (by first | exact ⟨Nat.le_of_ble_eq_true rfl, rfl⟩ | decide | (simp [allP, bl_length, oT]; done)) ?_; (set_option smartUnfolding false in conv => whnf))
      refine ⟨⟨5, by omega⟩, by simp only; omega, ?_⟩
      (set_option smartUnfolding false in conv => whnf)
      first | done | (and_intros <;> first | rfl | exact trivial)
  · show aw _ _ _ _ _ _ ⟨[(2, .ptr 0 0), (4, .ptr 1 0), (5, .ptr 2 0), (6, isI .i64 5)], [(0, .box [.p true .nilsl, .p true .nilsl, .p true .nilsl, .p true .nilsl, .p true .nilsl, .p true .nilsl, .p true .nilsl]), (1, .box [.p true (.sl 1 (bl (oT 1 en48 g0 x0))), .p true (.sl 1 (bl (oT 2 en57 g1 x1))), .p true (.sl 1 (bl (oT 3 en28 g2 x2))), .p true (.sl 1 (bl (oT 4 en37 g3 x3))), .p true (.sl 1 (bl (oT 5 en63 g4 x4))), .p true (.sl 1 (bl (oT 6 en72 g5 x5))), .p true (.sl 1 (bl (oT 7 en79 g6 x6)))]), (2, .box [isI .i64 (eT g0), isI .i64 (eT g1), isI .i64 (eT g2), isI .i64 (eT g3), isI .i64 (eT g4), isI .i64 (eT g5), isI .i64 (eT g6)])], 99⟩
    cases g5
    · (set_option smartUnfolding false in conv => whnf)
      repeat (refine And.intro (by first | exact ⟨Nat.le_of_ble_eq_true rfl, rfl⟩ | decide | (simp [allP, bl_length, oT]; done)) ?_; (set_option smartUnfolding false in conv => whnf))
      refine ⟨⟨6, by omega⟩, by simp only; omega, ?_⟩
      (set_option smartUnfolding false in conv => whnf)
      first | done | (and_intros <;> first | rfl | exact trivial)
    · (set_option smartUnfolding false in conv => whnf)
      repeat (refine And.intro (by first | exact ⟨Nat.le_of_ble_eq_true rfl, rfl⟩ | decide | (simp [allP, bl_length, oT]; done)) ?_; (set_option smartUnfolding false in conv => whnf))
      refine ⟨⟨6, by omega⟩, by simp only; omega, ?_⟩
      (set_option smartUnfolding false in conv => whnf)
      first | done | (and_intros <;> first | rfl | exact trivial)
  · show aw _ _ _ _ _ _ ⟨[(2, .ptr 0 0), (4, .ptr 1 0), (5, .ptr 2 0), (6, isI .i64 6)], [(0, .box [.p true .nilsl, .p true .nilsl, .p true .nilsl, .p true .nilsl, .p true .nilsl, .p true .nilsl, .p true .nilsl]), (1, .box [.p true (.sl 1 (bl (oT 1 en48 g0 x0))), .p true (.sl 1 (bl (oT 2 en57 g1 x1))), .p true (.sl 1 (bl (oT 3 en28 g2 x2))), .p true (.sl 1 (bl (oT 4 en37 g3 x3))), .p true (.sl 1 (bl (oT 5 en63 g4 x4))), .p true (.sl 1 (bl (oT 6 en72 g5 x5))), .p true (.sl 1 (bl (oT 7 en79 g6 x6)))]), (2, .box [isI .i64 (eT g0), isI .i64 (eT g1), isI .i64 (eT g2), isI .i64 (eT g3), isI .i64 (eT g4), isI .i64 (eT g5), isI .i64 (eT g6)])], 99⟩
    cases g6
    · (set_option smartUnfolding false in conv => whnf)
      repeat (refine And.intro (by first | exact ⟨Nat.le_of_ble_eq_true rfl, rfl⟩ | decide | (simp [allP, bl_length, oT]; done)) ?_; (set_option smartUnfolding false in conv => whnf))
      refine ⟨⟨7, by omega⟩, by simp only; omega, ?_⟩
      (set_option smartUnfolding false in conv => whnf)
      first | done | (and_intros <;> first | rfl | exact trivial)
    · (set_option smartUnfolding false in conv => whnf)
      repeat (refine And.intro (by first | exact ⟨Nat.le_of_ble_eq_true rfl, rfl⟩ | decide | (simp [allP, bl_length, oT]; done)) ?_; (set_option smartUnfolding false in conv => whnf))
      refine ⟨⟨7, by omega⟩, by simp only; omega, ?_⟩
      (set_option smartUnfolding false in conv => whnf)
      first | done | (and_intros <;> first | rfl | exact trivial)
  · show aw _ _ _ _ _ _ ⟨[(2, .ptr 0 0), (4, .ptr 1 0), (5, .ptr 2 0), (6, isI .i64 7)], [(0, .box [.p true .nilsl, .p true .nilsl, .p true .nilsl, .p true .nilsl, .p true .nilsl, .p true .nilsl, .p true .nilsl]), (1, .box [.p true (.sl 1 (bl (oT 1 en48 g0 x0))), .p true (.sl 1 (bl (oT 2 en57 g1 x1))), .p true (.sl 1 (bl (oT 3 en28 g2 x2))), .p true (.sl 1 (bl (oT 4 en37 g3 x3))), .p true (.sl 1 (bl (oT 5 en63 g4 x4))), .p true (.sl 1 (bl (oT 6 en72 g5 x5))), .p true (.sl 1 (bl (oT 7 en79 g6 x6)))]), (2, .box [isI .i64 (eT g0), isI .i64 (eT g1), isI .i64 (eT g2), isI .i64 (eT g3), isI .i64 (eT g4), isI .i64 (eT g5), isI .i64 (eT g6)])], 99⟩
    (set_option smartUnfolding false in conv => whnf)
    refine dI (k := ?_)
    (set_option smartUnfolding false in conv => whnf)
    refine dI (k := ?_)
    (set_option smartUnfolding false in conv => whnf)
    refine dI (k := ?_)
    (set_option smartUnfolding false in conv => whnf)
    first | done | (and_intros <;> first | rfl | exact trivial)
theorem puts_sound : Sound Tryz.prog 31 cPuts := does_sound mixed tabOk_prog gPutsU_ok Tryz.func31 puts_does

end Go.Proofs.YtingmlhhabaplaaGreat.Ev
