/- FrameTells answers true: its walk. No conditions. -/
import Derived.Test.YtjgmlkogppibfaaEvFeed04
import Derived.Test.YtjgmlkogppibfaaCtr
namespace Go.Proofs.Ytjgmlkogppibfaa.Ev
open Go
set_option linter.unusedVariables false
set_option linter.unusedSimpArgs false
set_option maxRecDepth 100000
set_option maxHeartbeats 4000000
/-- What a reader holds. -/
def lfV : Bool → List UInt8 → AV
  | true, _ => .p true .nilsl
  | false, l => .p false (.sl 1 (bl l))
theorem FrameTells_does : Does gF5 tab Try.f4 lawFrameTells := by
  rintro pieces ⟨h1, h2, h3⟩
  have hbl := ll_length pieces
  conv => whnf
  refine ⟨(), ?_⟩
  conv => whnf
  refine And.intro (by simp only [allP, List.nil_append, List.cons_append, true_and]; skip) ?_
  conv => whnf
  refine ⟨{s : Bool × List UInt8 × Nat × Nat // s.2.2.2 ≤ min pieces.length 40 ∧ s.2.2.1 ≤ 100000 ∧ s.2.1.length ≤ s.2.2.1 ∧ (s.1 = true → s.2.1 = [])}, fun s => ⟨[(0, .p false (.sl 1 (ll pieces))), (3, .ptr 0 0), (4, .ptr 1 0), (5, isI .i64 s.1.2.2.1), (6, isI .i64 s.1.2.2.2)], [(0, .box [isB true, isB s.1.1, lfV s.1.1 s.1.2.1]), (1, .box [.p false (.sl 1 (bl s.1.2.1)), isB s.1.1])], 99⟩,
    fun s => 40 - s.1.2.2.2, ⟨⟨(false, [], 0, 0), by simp only; omega, by simp only; omega, Nat.le_refl _, fun _ => rfl⟩, ?_⟩, ?_⟩
  · conv => whnf
    exact ⟨rfl, rfl, rfl, rfl, rfl, rfl, rfl, rfl⟩
  rintro ⟨⟨o, left, t, i⟩, hi, ht, hlt, ho⟩
  simp only at hi ht hlt ho
  show aw _ _ _ _ _ _ ⟨[(0, .p false (.sl 1 (ll pieces))), (3, .ptr 0 0), (4, .ptr 1 0), (5, isI .i64 t), (6, isI .i64 i)], [(0, .box [isB true, isB o, lfV o left]), (1, .box [.p false (.sl 1 (bl left)), isB o])], 99⟩
  conv => whnf
  rw [hbl]
  by_cases hgo : i < min pieces.length 40
  · rw [show decide ((i : Int) < ((pieces.length : Nat) : Int)) = true from decide_eq_true (by omega)]
    conv => whnf
    rw [show decide ((i : Int) < 40) = true from decide_eq_true (by omega)]
    conv => whnf
    have hip : i < pieces.length := by omega
    have hmem := h3 _ (List.getElem_mem hip)
    refine And.intro (by simp only [allP, List.nil_append, List.cons_append, true_and]; rw [hbl]; omega) ?_
    conv => whnf
    rw [Int.toNat_natCast, ll_getD _ _ _ hip]
    conv => whnf
    generalize hP : pieces[i] = P at hmem
    have hPl := bl_length P
    have hw1 : IntKind.i64.wrap ((t : Int) + ((bl P).length : Int)) = ((t + P.length : Nat) : Int) := by rw [hPl, wrap_i64 (by omega) (by omega)]; rfl
    rw [hw1]
    by_cases h100 : 100000 < t + P.length
    · rw [show decide (((t + P.length : Nat) : Int) > 100000) = true from decide_eq_true (by omega)]
      conv => whnf
      refine ⟨(), ?_⟩
      conv => whnf
      refine And.intro (by simp only [allP, List.nil_append, List.cons_append, true_and]; skip) ?_
      conv => whnf
    rw [show decide (((t + P.length : Nat) : Int) > 100000) = false from decide_eq_false (by omega)]
    conv => whnf
    refine And.intro (by simp only [allP, List.nil_append, List.cons_append, true_and]; rw [hbl]; omega) ?_
    conv => whnf
    rw [Int.toNat_natCast, ll_getD _ _ _ hip]
    conv => whnf
    rw [hP]
    refine ⟨P, ?_⟩
    conv => whnf
    refine And.intro (by simp only [allP, List.nil_append, List.cons_append, true_and]; exact ⟨rfl, by omega⟩) ?_
    conv => whnf
    have hc : cutEls 0 P.length (bl (P ++ [77, 78, 79])) = bl P := by simp [cutEls, bl_take]
    have hfe : (o = true) ∨ (o = false ∧ feedV left P = none) ∨ (o = false ∧ ∃ fs r, feedV left P = some (fs, r)) := by
      cases o
      · rcases hv : feedV left P with _ | ⟨fs, r⟩
        · exact Or.inr (Or.inl ⟨rfl, rfl⟩)
        · exact Or.inr (Or.inr ⟨rfl, fs, r, rfl⟩)
      · exact Or.inl rfl
    rcases hfe with rfl | ⟨rfl, hfe⟩ | ⟨rfl, fs, r, hfe⟩
    · obtain rfl := ho rfl
      refine ⟨(.inl P), ?_⟩
      conv => whnf
      refine And.intro (by simp only [allP, List.nil_append, List.cons_append, true_and]; rw [hc]; exact ⟨rfl, rfl, rfl, rfl, trivial⟩) ?_
      conv => whnf
      refine And.intro (by simp only [allP, List.nil_append, List.cons_append, true_and]; simp only [List.length_cons, List.length_nil]; omega) ?_
      conv => whnf
      refine And.intro (by simp only [allP, List.nil_append, List.cons_append, true_and]; rw [hbl]; omega) ?_
      conv => whnf
      rw [Int.toNat_natCast, ll_getD _ _ _ hip]
      conv => whnf
      rw [hP]
      refine ⟨(0, true, [], P, [], []), ?_⟩
      conv => whnf
      refine And.intro (by simp only [allP, List.nil_append, List.cons_append, true_and]; exact ⟨rfl, rfl, rfl, trivial⟩) ?_
      conv => whnf
      refine And.intro (by first | exact Nat.le_of_ble_eq_true rfl | exact ⟨Nat.le_of_ble_eq_true rfl, rfl⟩ | exact rfl | decide | (simp [allP]; done)) ?_
      conv => whnf
      refine ⟨by rfl, ?_⟩
      (set_option smartUnfolding false in conv => whnf)
      refine And.intro (by first | exact Nat.le_of_ble_eq_true rfl | exact ⟨Nat.le_of_ble_eq_true rfl, rfl⟩ | exact rfl | decide | (simp [allP]; done)) ?_
      conv => whnf
      refine And.intro (by first | exact Nat.le_of_ble_eq_true rfl | exact ⟨Nat.le_of_ble_eq_true rfl, rfl⟩ | exact rfl | decide | (simp [allP]; done)) ?_
      conv => whnf
      refine And.intro (by simp only [allP, List.nil_append, List.cons_append, true_and]; rw [hbl]; omega) ?_
      conv => whnf
      rw [Int.toNat_natCast, ll_getD _ _ _ hip]
      conv => whnf
      rw [hP]
      refine ⟨P, ?_⟩
      conv => whnf
      refine And.intro (by simp only [allP, List.nil_append, List.cons_append, true_and]; and_intros <;> first | rfl | omega) ?_
      conv => whnf
      refine ⟨P, ?_⟩
      conv => whnf
      refine And.intro (by simp only [allP, List.nil_append, List.cons_append, true_and]; and_intros <;> first | rfl | omega) ?_
      conv => whnf
      refine ⟨([], []), ?_⟩
      conv => whnf
      refine And.intro (by simp only [allP, List.nil_append, List.cons_append, true_and]; exact ⟨rfl, rfl, by show List.length _ ≤ _; first | decide | omega⟩) ?_
      conv => whnf
      rw [decide_eq_true rfl]
      conv => whnf
      refine ⟨(.inl ()), ?_⟩
      conv => whnf
      refine And.intro (by simp only [allP, List.nil_append, List.cons_append, true_and]; exact ⟨rfl, rfl, rfl, trivial⟩) ?_
      conv => whnf
      refine ⟨by rfl, ?_⟩
      (set_option smartUnfolding false in conv => whnf)
      refine And.intro (by simp only [allP, List.nil_append, List.cons_append, true_and]; rw [hbl]; omega) ?_
      conv => whnf
      rw [Int.toNat_natCast, ll_getD _ _ _ hip]
      conv => whnf
      rw [hP]
      by_cases hfit : P.length ≤ 65536
      · refine ⟨(true, P), ?_⟩
        conv => whnf
        refine And.intro (by simp only [allP, List.nil_append, List.cons_append, true_and]; exact ⟨rfl, (decide_eq_true hfit).symm⟩) ?_
        conv => whnf
        refine And.intro (by simp only [allP, List.nil_append, List.cons_append, true_and]; rw [hbl]; omega) ?_
        conv => whnf
        rw [Int.toNat_natCast, ll_getD _ _ _ hip]
        conv => whnf
        rw [hP]
        refine ⟨(true, P), ?_⟩
        conv => whnf
        refine And.intro (by simp only [allP, List.nil_append, List.cons_append, true_and]; exact ⟨rfl, (decide_eq_true hfit).symm⟩) ?_
        conv => whnf
        refine ⟨(frB P, frB P), ?_⟩
        conv => whnf
        refine And.intro (by simp only [allP, List.nil_append, List.cons_append, true_and]; exact ⟨rfl, rfl, trivial⟩) ?_
        conv => whnf
        rw [decide_eq_true rfl]
        conv => whnf
        refine ⟨⟨(true, [], t + P.length, i + 1), by simp only; omega, by simp only; omega, by simp only [List.length_nil]; omega, fun _ => rfl⟩, by simp only; omega, ?_⟩
        conv => whnf
        exact ⟨rfl, by and_intros <;> first | rfl | (rw [wrap_i64 (by omega) (by omega)]; rfl)⟩
      · refine ⟨(false, P), ?_⟩
        conv => whnf
        refine And.intro (by simp only [allP, List.nil_append, List.cons_append, true_and]; exact ⟨rfl, (decide_eq_false hfit).symm⟩) ?_
        conv => whnf
        refine And.intro (by simp only [allP, List.nil_append, List.cons_append, true_and]; rw [hbl]; omega) ?_
        conv => whnf
        rw [Int.toNat_natCast, ll_getD _ _ _ hip]
        conv => whnf
        rw [hP]
        refine ⟨(false, P), ?_⟩
        conv => whnf
        refine And.intro (by simp only [allP, List.nil_append, List.cons_append, true_and]; exact ⟨rfl, (decide_eq_false hfit).symm⟩) ?_
        conv => whnf
        refine ⟨([], []), ?_⟩
        conv => whnf
        refine And.intro (by simp only [allP, List.nil_append, List.cons_append, true_and]; exact ⟨rfl, rfl, trivial⟩) ?_
        conv => whnf
        rw [decide_eq_true rfl]
        conv => whnf
        refine ⟨⟨(true, [], t + P.length, i + 1), by simp only; omega, by simp only; omega, by simp only [List.length_nil]; omega, fun _ => rfl⟩, by simp only; omega, ?_⟩
        conv => whnf
        exact ⟨rfl, by and_intros <;> first | rfl | (rw [wrap_i64 (by omega) (by omega)]; rfl)⟩
    · refine ⟨(.inr (1, false, left, P, [], [])), ?_⟩
      conv => whnf
      refine And.intro (by simp only [allP, List.nil_append, List.cons_append, true_and]; rw [hc]; exact ⟨rfl, rfl, rfl, rfl, by omega, hfe⟩) ?_
      conv => whnf
      refine And.intro (by simp only [allP, List.nil_append, List.cons_append, true_and]; simp only [List.length_cons, List.length_nil]; omega) ?_
      conv => whnf
      refine And.intro (by simp only [allP, List.nil_append, List.cons_append, true_and]; rw [hbl]; omega) ?_
      conv => whnf
      rw [Int.toNat_natCast, ll_getD _ _ _ hip]
      conv => whnf
      rw [hP]
      refine ⟨(1, false, left, P, [], []), ?_⟩
      conv => whnf
      refine And.intro (by simp only [allP, List.nil_append, List.cons_append, true_and]; exact ⟨rfl, rfl, rfl, by omega, hfe⟩) ?_
      conv => whnf
      refine And.intro (by first | exact Nat.le_of_ble_eq_true rfl | exact ⟨Nat.le_of_ble_eq_true rfl, rfl⟩ | exact rfl | decide | (simp [allP]; done)) ?_
      conv => whnf
      refine ⟨by rfl, ?_⟩
      (set_option smartUnfolding false in conv => whnf)
      refine And.intro (by first | exact Nat.le_of_ble_eq_true rfl | exact ⟨Nat.le_of_ble_eq_true rfl, rfl⟩ | exact rfl | decide | (simp [allP]; done)) ?_
      conv => whnf
      refine And.intro (by first | exact Nat.le_of_ble_eq_true rfl | exact ⟨Nat.le_of_ble_eq_true rfl, rfl⟩ | exact rfl | decide | (simp [allP]; done)) ?_
      conv => whnf
      refine And.intro (by simp only [allP, List.nil_append, List.cons_append, true_and]; rw [hbl]; omega) ?_
      conv => whnf
      rw [Int.toNat_natCast, ll_getD _ _ _ hip]
      conv => whnf
      rw [hP]
      refine ⟨P, ?_⟩
      conv => whnf
      refine And.intro (by simp only [allP, List.nil_append, List.cons_append, true_and]; and_intros <;> first | rfl | omega) ?_
      conv => whnf
      refine ⟨P, ?_⟩
      conv => whnf
      refine And.intro (by simp only [allP, List.nil_append, List.cons_append, true_and]; and_intros <;> first | rfl | omega) ?_
      conv => whnf
      refine ⟨([], []), ?_⟩
      conv => whnf
      refine And.intro (by simp only [allP, List.nil_append, List.cons_append, true_and]; exact ⟨rfl, rfl, by show List.length _ ≤ _; first | decide | omega⟩) ?_
      conv => whnf
      rw [decide_eq_true rfl]
      conv => whnf
      refine ⟨(.inl ()), ?_⟩
      conv => whnf
      refine And.intro (by simp only [allP, List.nil_append, List.cons_append, true_and]; exact ⟨rfl, rfl, rfl, trivial⟩) ?_
      conv => whnf
      refine ⟨by rfl, ?_⟩
      (set_option smartUnfolding false in conv => whnf)
      refine And.intro (by simp only [allP, List.nil_append, List.cons_append, true_and]; rw [hbl]; omega) ?_
      conv => whnf
      rw [Int.toNat_natCast, ll_getD _ _ _ hip]
      conv => whnf
      rw [hP]
      by_cases hfit : P.length ≤ 65536
      · refine ⟨(true, P), ?_⟩
        conv => whnf
        refine And.intro (by simp only [allP, List.nil_append, List.cons_append, true_and]; exact ⟨rfl, (decide_eq_true hfit).symm⟩) ?_
        conv => whnf
        refine And.intro (by simp only [allP, List.nil_append, List.cons_append, true_and]; rw [hbl]; omega) ?_
        conv => whnf
        rw [Int.toNat_natCast, ll_getD _ _ _ hip]
        conv => whnf
        rw [hP]
        refine ⟨(true, P), ?_⟩
        conv => whnf
        refine And.intro (by simp only [allP, List.nil_append, List.cons_append, true_and]; exact ⟨rfl, (decide_eq_true hfit).symm⟩) ?_
        conv => whnf
        refine ⟨(frB P, frB P), ?_⟩
        conv => whnf
        refine And.intro (by simp only [allP, List.nil_append, List.cons_append, true_and]; exact ⟨rfl, rfl, trivial⟩) ?_
        conv => whnf
        rw [decide_eq_true rfl]
        conv => whnf
        refine ⟨⟨(true, [], t + P.length, i + 1), by simp only; omega, by simp only; omega, by simp only [List.length_nil]; omega, fun _ => rfl⟩, by simp only; omega, ?_⟩
        conv => whnf
        exact ⟨rfl, by and_intros <;> first | rfl | (rw [wrap_i64 (by omega) (by omega)]; rfl)⟩
      · refine ⟨(false, P), ?_⟩
        conv => whnf
        refine And.intro (by simp only [allP, List.nil_append, List.cons_append, true_and]; exact ⟨rfl, (decide_eq_false hfit).symm⟩) ?_
        conv => whnf
        refine And.intro (by simp only [allP, List.nil_append, List.cons_append, true_and]; rw [hbl]; omega) ?_
        conv => whnf
        rw [Int.toNat_natCast, ll_getD _ _ _ hip]
        conv => whnf
        rw [hP]
        refine ⟨(false, P), ?_⟩
        conv => whnf
        refine And.intro (by simp only [allP, List.nil_append, List.cons_append, true_and]; exact ⟨rfl, (decide_eq_false hfit).symm⟩) ?_
        conv => whnf
        refine ⟨([], []), ?_⟩
        conv => whnf
        refine And.intro (by simp only [allP, List.nil_append, List.cons_append, true_and]; exact ⟨rfl, rfl, trivial⟩) ?_
        conv => whnf
        rw [decide_eq_true rfl]
        conv => whnf
        refine ⟨⟨(true, [], t + P.length, i + 1), by simp only; omega, by simp only; omega, by simp only [List.length_nil]; omega, fun _ => rfl⟩, by simp only; omega, ?_⟩
        conv => whnf
        exact ⟨rfl, by and_intros <;> first | rfl | (rw [wrap_i64 (by omega) (by omega)]; rfl)⟩
    · have hul := unfA_ln _ _ (Nat.le_refl _) _ _ hfe
      rw [List.length_append] at hul
      rcases fs with _ | ⟨f0, fs⟩
      · refine ⟨(.inr (2, false, left, P, [], r)), ?_⟩
        conv => whnf
        refine And.intro (by simp only [allP, List.nil_append, List.cons_append, true_and]; rw [hc]; exact ⟨rfl, rfl, rfl, rfl, by omega, hfe⟩) ?_
        conv => whnf
        refine And.intro (by simp only [allP, List.nil_append, List.cons_append, true_and]; simp only [List.length_cons, List.length_nil]; omega) ?_
        conv => whnf
        refine And.intro (by simp only [allP, List.nil_append, List.cons_append, true_and]; rw [hbl]; omega) ?_
        conv => whnf
        rw [Int.toNat_natCast, ll_getD _ _ _ hip]
        conv => whnf
        rw [hP]
        refine ⟨(2, false, left, P, [], r), ?_⟩
        conv => whnf
        refine And.intro (by simp only [allP, List.nil_append, List.cons_append, true_and]; exact ⟨rfl, rfl, rfl, by omega, hfe⟩) ?_
        conv => whnf
        refine And.intro (by first | exact Nat.le_of_ble_eq_true rfl | exact ⟨Nat.le_of_ble_eq_true rfl, rfl⟩ | exact rfl | decide | (simp [allP]; done)) ?_
        conv => whnf
        refine ⟨by rfl, ?_⟩
        (set_option smartUnfolding false in conv => whnf)
        refine And.intro (by first | exact Nat.le_of_ble_eq_true rfl | exact ⟨Nat.le_of_ble_eq_true rfl, rfl⟩ | exact rfl | decide | (simp [allP]; done)) ?_
        conv => whnf
        refine And.intro (by first | exact Nat.le_of_ble_eq_true rfl | exact ⟨Nat.le_of_ble_eq_true rfl, rfl⟩ | exact rfl | decide | (simp [allP]; done)) ?_
        conv => whnf
        refine And.intro (by simp only [allP, List.nil_append, List.cons_append, true_and]; rw [hbl]; omega) ?_
        conv => whnf
        rw [Int.toNat_natCast, ll_getD _ _ _ hip]
        conv => whnf
        rw [hP]
        refine ⟨P, ?_⟩
        conv => whnf
        refine And.intro (by simp only [allP, List.nil_append, List.cons_append, true_and]; and_intros <;> first | rfl | omega) ?_
        conv => whnf
        refine ⟨P, ?_⟩
        conv => whnf
        refine And.intro (by simp only [allP, List.nil_append, List.cons_append, true_and]; and_intros <;> first | rfl | omega) ?_
        conv => whnf
        refine ⟨([], []), ?_⟩
        conv => whnf
        refine And.intro (by simp only [allP, List.nil_append, List.cons_append, true_and]; exact ⟨rfl, rfl, by show List.length _ ≤ _; first | decide | omega⟩) ?_
        conv => whnf
        rw [decide_eq_true rfl]
        conv => whnf
        refine ⟨(.inr (false, r)), ?_⟩
        conv => whnf
        refine And.intro (by simp only [allP, List.nil_append, List.cons_append, true_and]; exact ⟨rfl, rfl, rfl, trivial⟩) ?_
        conv => whnf
        rw [show (((r.length : Nat) : Int) != ((bl r).length : Int)) = false from by rw [bl_length]; exact bne_self_eq_false _]
        conv => whnf
        refine ⟨by rfl, ?_⟩
        (set_option smartUnfolding false in conv => whnf)
        refine And.intro (by simp only [allP, List.nil_append, List.cons_append, true_and]; rw [hbl]; omega) ?_
        conv => whnf
        rw [Int.toNat_natCast, ll_getD _ _ _ hip]
        conv => whnf
        rw [hP]
        by_cases hfit : P.length ≤ 65536
        · refine ⟨(true, P), ?_⟩
          conv => whnf
          refine And.intro (by simp only [allP, List.nil_append, List.cons_append, true_and]; exact ⟨rfl, (decide_eq_true hfit).symm⟩) ?_
          conv => whnf
          refine And.intro (by simp only [allP, List.nil_append, List.cons_append, true_and]; rw [hbl]; omega) ?_
          conv => whnf
          rw [Int.toNat_natCast, ll_getD _ _ _ hip]
          conv => whnf
          rw [hP]
          refine ⟨(true, P), ?_⟩
          conv => whnf
          refine And.intro (by simp only [allP, List.nil_append, List.cons_append, true_and]; exact ⟨rfl, (decide_eq_true hfit).symm⟩) ?_
          conv => whnf
          refine ⟨(frB P, frB P), ?_⟩
          conv => whnf
          refine And.intro (by simp only [allP, List.nil_append, List.cons_append, true_and]; exact ⟨rfl, rfl, trivial⟩) ?_
          conv => whnf
          rw [decide_eq_true rfl]
          conv => whnf
          refine ⟨⟨(false, r, t + P.length, i + 1), by simp only; omega, by simp only; omega, by simp only at hul ⊢; omega, fun h => by cases h⟩, by simp only; omega, ?_⟩
          conv => whnf
          exact ⟨rfl, by and_intros <;> first | rfl | (rw [wrap_i64 (by omega) (by omega)]; rfl)⟩
        · refine ⟨(false, P), ?_⟩
          conv => whnf
          refine And.intro (by simp only [allP, List.nil_append, List.cons_append, true_and]; exact ⟨rfl, (decide_eq_false hfit).symm⟩) ?_
          conv => whnf
          refine And.intro (by simp only [allP, List.nil_append, List.cons_append, true_and]; rw [hbl]; omega) ?_
          conv => whnf
          rw [Int.toNat_natCast, ll_getD _ _ _ hip]
          conv => whnf
          rw [hP]
          refine ⟨(false, P), ?_⟩
          conv => whnf
          refine And.intro (by simp only [allP, List.nil_append, List.cons_append, true_and]; exact ⟨rfl, (decide_eq_false hfit).symm⟩) ?_
          conv => whnf
          refine ⟨([], []), ?_⟩
          conv => whnf
          refine And.intro (by simp only [allP, List.nil_append, List.cons_append, true_and]; exact ⟨rfl, rfl, trivial⟩) ?_
          conv => whnf
          rw [decide_eq_true rfl]
          conv => whnf
          refine ⟨⟨(false, r, t + P.length, i + 1), by simp only; omega, by simp only; omega, by simp only at hul ⊢; omega, fun h => by cases h⟩, by simp only; omega, ?_⟩
          conv => whnf
          exact ⟨rfl, by and_intros <;> first | rfl | (rw [wrap_i64 (by omega) (by omega)]; rfl)⟩
      · refine ⟨(.inr (3, false, left, P, f0 :: fs, r)), ?_⟩
        conv => whnf
        refine And.intro (by simp only [allP, List.nil_append, List.cons_append, true_and]; rw [hc]; exact ⟨rfl, rfl, rfl, rfl, by omega, hfe, by simp⟩) ?_
        conv => whnf
        refine And.intro (by simp only [allP, List.nil_append, List.cons_append, true_and]; simp only [List.length_cons, List.length_nil]; omega) ?_
        conv => whnf
        refine And.intro (by simp only [allP, List.nil_append, List.cons_append, true_and]; rw [hbl]; omega) ?_
        conv => whnf
        rw [Int.toNat_natCast, ll_getD _ _ _ hip]
        conv => whnf
        rw [hP]
        refine ⟨(2, false, left, P, f0 :: fs, r), ?_⟩
        conv => whnf
        refine And.intro (by simp only [allP, List.nil_append, List.cons_append, true_and]; exact ⟨rfl, rfl, rfl, by omega, hfe⟩) ?_
        conv => whnf
        refine And.intro (by first | exact Nat.le_of_ble_eq_true rfl | exact ⟨Nat.le_of_ble_eq_true rfl, rfl⟩ | exact rfl | decide | (simp [allP]; done)) ?_
        conv => whnf
        refine ⟨by rfl, ?_⟩
        (set_option smartUnfolding false in conv => whnf)
        refine And.intro (by first | exact Nat.le_of_ble_eq_true rfl | exact ⟨Nat.le_of_ble_eq_true rfl, rfl⟩ | exact rfl | decide | (simp [allP]; done)) ?_
        conv => whnf
        refine And.intro (by first | exact Nat.le_of_ble_eq_true rfl | exact ⟨Nat.le_of_ble_eq_true rfl, rfl⟩ | exact rfl | decide | (simp [allP]; done)) ?_
        conv => whnf
        refine And.intro (by simp only [allP, List.nil_append, List.cons_append, true_and]; rw [hbl]; omega) ?_
        conv => whnf
        rw [Int.toNat_natCast, ll_getD _ _ _ hip]
        conv => whnf
        rw [hP]
        refine ⟨P, ?_⟩
        conv => whnf
        refine And.intro (by simp only [allP, List.nil_append, List.cons_append, true_and]; and_intros <;> first | rfl | omega) ?_
        conv => whnf
        refine ⟨P, ?_⟩
        conv => whnf
        refine And.intro (by simp only [allP, List.nil_append, List.cons_append, true_and]; and_intros <;> first | rfl | omega) ?_
        conv => whnf
        refine ⟨(f0 :: fs, f0 :: fs), ?_⟩
        conv => whnf
        refine And.intro (by simp only [allP, List.nil_append, List.cons_append, true_and]; exact ⟨rfl, rfl, by show List.length _ ≤ _; first | decide | omega⟩) ?_
        conv => whnf
        rw [decide_eq_true rfl]
        conv => whnf
        refine ⟨(.inr (false, r)), ?_⟩
        conv => whnf
        refine And.intro (by simp only [allP, List.nil_append, List.cons_append, true_and]; exact ⟨rfl, rfl, rfl, trivial⟩) ?_
        conv => whnf
        rw [show (((r.length : Nat) : Int) != ((bl r).length : Int)) = false from by rw [bl_length]; exact bne_self_eq_false _]
        conv => whnf
        refine ⟨by rfl, ?_⟩
        (set_option smartUnfolding false in conv => whnf)
        refine And.intro (by simp only [allP, List.nil_append, List.cons_append, true_and]; rw [hbl]; omega) ?_
        conv => whnf
        rw [Int.toNat_natCast, ll_getD _ _ _ hip]
        conv => whnf
        rw [hP]
        by_cases hfit : P.length ≤ 65536
        · refine ⟨(true, P), ?_⟩
          conv => whnf
          refine And.intro (by simp only [allP, List.nil_append, List.cons_append, true_and]; exact ⟨rfl, (decide_eq_true hfit).symm⟩) ?_
          conv => whnf
          refine And.intro (by simp only [allP, List.nil_append, List.cons_append, true_and]; rw [hbl]; omega) ?_
          conv => whnf
          rw [Int.toNat_natCast, ll_getD _ _ _ hip]
          conv => whnf
          rw [hP]
          refine ⟨(true, P), ?_⟩
          conv => whnf
          refine And.intro (by simp only [allP, List.nil_append, List.cons_append, true_and]; exact ⟨rfl, (decide_eq_true hfit).symm⟩) ?_
          conv => whnf
          refine ⟨(frB P, frB P), ?_⟩
          conv => whnf
          refine And.intro (by simp only [allP, List.nil_append, List.cons_append, true_and]; exact ⟨rfl, rfl, trivial⟩) ?_
          conv => whnf
          rw [decide_eq_true rfl]
          conv => whnf
          refine ⟨⟨(false, r, t + P.length, i + 1), by simp only; omega, by simp only; omega, by simp only at hul ⊢; omega, fun h => by cases h⟩, by simp only; omega, ?_⟩
          conv => whnf
          exact ⟨rfl, by and_intros <;> first | rfl | (rw [wrap_i64 (by omega) (by omega)]; rfl)⟩
        · refine ⟨(false, P), ?_⟩
          conv => whnf
          refine And.intro (by simp only [allP, List.nil_append, List.cons_append, true_and]; exact ⟨rfl, (decide_eq_false hfit).symm⟩) ?_
          conv => whnf
          refine And.intro (by simp only [allP, List.nil_append, List.cons_append, true_and]; rw [hbl]; omega) ?_
          conv => whnf
          rw [Int.toNat_natCast, ll_getD _ _ _ hip]
          conv => whnf
          rw [hP]
          refine ⟨(false, P), ?_⟩
          conv => whnf
          refine And.intro (by simp only [allP, List.nil_append, List.cons_append, true_and]; exact ⟨rfl, (decide_eq_false hfit).symm⟩) ?_
          conv => whnf
          refine ⟨([], []), ?_⟩
          conv => whnf
          refine And.intro (by simp only [allP, List.nil_append, List.cons_append, true_and]; exact ⟨rfl, rfl, trivial⟩) ?_
          conv => whnf
          rw [decide_eq_true rfl]
          conv => whnf
          refine ⟨⟨(false, r, t + P.length, i + 1), by simp only; omega, by simp only; omega, by simp only at hul ⊢; omega, fun h => by cases h⟩, by simp only; omega, ?_⟩
          conv => whnf
          exact ⟨rfl, by and_intros <;> first | rfl | (rw [wrap_i64 (by omega) (by omega)]; rfl)⟩
  have hno : ¬ (i < pieces.length) ∨ (i < pieces.length ∧ ¬ i < 40) := by omega
  rcases hno with hno | ⟨hno, hno'⟩
  · rw [show decide ((i : Int) < ((pieces.length : Nat) : Int)) = false from decide_eq_false (by omega)]
    conv => whnf
    refine ⟨(), ?_⟩
    conv => whnf
    refine And.intro (by simp only [allP, List.nil_append, List.cons_append, true_and]; skip) ?_
    conv => whnf
  · rw [show decide ((i : Int) < ((pieces.length : Nat) : Int)) = true from decide_eq_true (by omega)]
    conv => whnf
    rw [show decide ((i : Int) < 40) = false from decide_eq_false (by omega)]
    conv => whnf
    refine ⟨(), ?_⟩
    conv => whnf
    refine And.intro (by simp only [allP, List.nil_append, List.cons_append, true_and]; skip) ?_
    conv => whnf
theorem FrameTells_sound : Sound Try.prog 4 lawFrameTells := does_sound mixed tabOk_prog gF5_ok Try.func4 FrameTells_does
end Go.Proofs.Ytjgmlkogppibfaa.Ev
