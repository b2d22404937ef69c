/- What is to be tried next in a log. No conditions. -/
import Derived.Test.YtdkclofgaiaclaaEvLog
namespace Go.Proofs.Ytdkclofgaiaclaa.Ev
open Go
set_option linter.unusedVariables false
set_option linter.unusedSimpArgs false
set_option maxRecDepth 100000
/-- From a place down to the base: the first of a lesser term. -/
def hintGo (b bt : Int) (l : List Ent) (t : Int) : Nat → Int
  | 0 => b
  | k + 1 => match decide ((termV b bt l (b + (k + 1 : Nat))).1 < t) with
    | true => b + (k + 1 : Nat)
    | false => hintGo b bt l t k
def hintV (b bt : Int) (l : List Ent) (i : Int) : Int := match decide (i > b + l.length) with
  | true => b + l.length
  | false => match decide (i ≤ b) with
    | true => b
    | false => hintGo b bt l (termV b bt l i).1 (i - 1 - b).toNat
abbrev cHint : Ctr := ⟨Int × Int × List Ent × Int, 0, fun (b, bt, l, i) => [isI .i64 b, isI .i64 bt, .p false (.sl 2 (eL l)), isI .i64 i], fun _ => [], fun (b, bt, l, i) => small b ∧ small i ∧ l.length ≤ 2000000000, fun (b, bt, l, i) => isI .i64 (hintV b bt l i), fun _ => []⟩
theorem hint_does : Does gA3 tab Try.f17 cHint := by
  rintro ⟨b, bt, l, i⟩ ⟨h1, h2, h3⟩
  conv => whnf
  refine ⟨(b, l), ?_⟩
  conv => whnf
  refine And.intro (by simp only [allP, List.nil_append, List.cons_append, true_and]; exact ⟨rfl, rfl, h1, h3⟩) ?_
  conv => whnf
  cases hgt : decide (i > b + l.length)
  · simp only [decide_eq_false_iff_not] at hgt
    conv => whnf
    cases hle : decide (i ≤ b)
    · simp only [decide_eq_false_iff_not] at hle
      conv => whnf
      refine ⟨(b, bt, l, i), ?_⟩
      conv => whnf
      refine And.intro (by simp only [allP, List.nil_append, List.cons_append, true_and]; exact ⟨rfl, rfl, rfl, rfl, h1, h2, h3⟩) ?_
      conv => whnf
      have hv : hintV b bt l i = hintGo b bt l (termV b bt l i).1 (i - 1 - b).toNat := by unfold hintV; rw [decide_eq_false hgt, decide_eq_false hle]
      obtain ⟨K, hK⟩ : ∃ K : Nat, i - 1 = b + (K : Int) := ⟨(i - 1 - b).toNat, by omega⟩
      have hK9 : (i - 1 - b).toNat = K := by omega
      rw [hK9] at hv
      have hw : IntKind.i64.wrap (i - 1) = b + (K : Int) := by rw [wrap_i64 (by omega) (by omega), hK]
      rw [hw]
      generalize (termV b bt l i).1 = t at hv ⊢
      refine ⟨{k : Nat // k ≤ K ∧ hintGo b bt l t k = hintGo b bt l t K}, fun k => ⟨[(0, isI .i64 b), (1, isI .i64 bt), (2, .p false (.sl 2 (eL l))), (9, isI .i64 t), (11, isI .i64 (b + (k.1 : Int)))], [], 99⟩, fun k => k.1, ⟨⟨K, Nat.le_refl _, rfl⟩, ?_⟩, ?_⟩
      · conv => whnf
        exact ⟨rfl, rfl, rfl, rfl, rfl⟩
      rintro ⟨k, hk, hg⟩
      show aw _ _ _ _ _ _ ⟨[(0, isI .i64 b), (1, isI .i64 bt), (2, .p false (.sl 2 (eL l))), (9, isI .i64 t), (11, isI .i64 (b + (k : Int)))], [], 99⟩
      conv => whnf
      split <;> rename_i hb <;> rw [hb] <;> conv => whnf
      · simp only [decide_eq_true_eq] at hb
        obtain ⟨m, rfl⟩ : ∃ m, k = m + 1 := ⟨k - 1, by omega⟩
        refine ⟨(b, bt, l, b + ((m + 1 : Nat) : Int)), ?_⟩
        conv => whnf
        refine And.intro (by simp only [allP, List.nil_append, List.cons_append, true_and]; exact ⟨rfl, rfl, rfl, rfl, h1, ⟨by omega, by omega⟩, h3⟩) ?_
        conv => whnf
        cases hx : decide ((termV b bt l (b + ((m + 1 : Nat) : Int))).1 < t)
        · have hg9 : hintGo b bt l t (m + 1) = hintGo b bt l t m := by rw [hintGo, hx]
          have hwm : IntKind.i64.wrap (b + ((m + 1 : Nat) : Int) - 1) = b + (m : Int) := by rw [wrap_i64 (by omega) (by omega)]; omega
          conv => whnf
          refine ⟨⟨m, by omega, by rw [← hg9, hg]⟩, Nat.lt_succ_self _, ?_⟩
          conv => whnf
          simp only [allP, pvle_refl, Int.natCast_zero, hwm, and_self, and_true, true_and] <;> (try simp only [pvle, hwm, and_self, and_true, true_and])
        · have hg9 : hintGo b bt l t (m + 1) = b + ((m + 1 : Nat) : Int) := by rw [hintGo, hx]
          conv => whnf
          rw [hv, ← hg, hg9]
      · simp only [decide_eq_false_iff_not] at hb
        obtain rfl : k = 0 := by omega
        rw [hv, ← hg, hintGo]
    · simp only [decide_eq_true_eq] at hle
      have hv : hintV b bt l i = b := by unfold hintV; rw [decide_eq_false hgt, decide_eq_true hle]
      conv => whnf
      rw [hv]
  · simp only [decide_eq_true_eq] at hgt
    have hv : hintV b bt l i = b + l.length := by unfold hintV; rw [decide_eq_true hgt]
    conv => whnf
    refine ⟨(b, l), ?_⟩
    conv => whnf
    refine And.intro (by simp only [allP, List.nil_append, List.cons_append, true_and]; exact ⟨rfl, rfl, h1, h3⟩) ?_
    conv => whnf
    rw [hv]
theorem hint_sound : Sound Try.prog 17 cHint := does_sound mixed tabOk_prog gA3_ok Try.func17 hint_does
def gA4 : List (FuncId × Ctr) := (17, cHint) :: (13, cMerge) :: gA3
theorem gA4_ok : GamOk Try.prog gA4 := GamOk.cons (GamOk.cons gA3_ok Try.func13 (by kernel_rfl) (by kernel_rfl) merge_sound) Try.func17 (by kernel_rfl) (by kernel_rfl) hint_sound
end Go.Proofs.Ytdkclofgaiaclaa.Ev
