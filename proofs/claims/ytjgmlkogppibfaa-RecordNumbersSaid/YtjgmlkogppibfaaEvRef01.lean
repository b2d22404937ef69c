/- The functions of conduitref01: they come to what octets' come to. No conditions. -/
import Derived.Test.YtjgmlkogppibfaaEvOctets
namespace Go.Proofs.Ytjgmlkogppibfaa.Ev
open Go
set_option linter.unusedVariables false
set_option linter.unusedSimpArgs false
set_option maxRecDepth 100000
theorem numN_mul {l : List UInt8} {a n : Nat} (hn : n < 8) :
    IntKind.u64.wrap (IntKind.u64.wrap (256 * (numN l a n : Int)) + IntKind.u64.wrap ((l.getD (a + n) 0).toNat : Int)) = (numN l a (n + 1) : Int) := by
  have h1 := numN_lt l a n
  have h2 := u8_lt (l.getD (a + n) 0)
  have h3 : (256 : Nat) ^ n ≤ 256 ^ 7 := Nat.pow_le_pow_right (by decide) (by omega)
  have h4 : (256 : Nat) ^ 7 = 72057594037927936 := by decide
  rw [wrap_u64 (x := 256 * (numN l a n : Int)) (by omega) (by omega), wrap_u64 (x := ((l.getD (a + n) 0).toNat : Int)) (by omega) (by omega), wrap_u64 (by omega) (by omega), numN]
  push_cast
  omega
theorem rnumber_does : Does [] tab Try.f44 cNumber := by
  rintro ⟨l, a, n⟩ ⟨h1, h2, h3, h4⟩
  have hlen := bl_length l
  have hw : IntKind.i64.wrap ((l.length : Int) - n) = l.length - n := wrap_i64 (by omega) (by omega)
  have hno : ¬ (0 ≤ a ∧ a + n ≤ l.length) → retOk tab cNumber (l, a, n) Try.f44 ⟨[(6, isI .u64 0), (7, isB false)], [], 99⟩ := by
    intro h
    conv => whnf
    rw [numV_no h]
    exact ⟨rfl, rfl⟩
  conv => whnf
  split <;> rename_i hb1 <;> rw [hb1] <;> conv => whnf
  · simp only [decide_eq_true_eq] at hb1
    exact hno (by omega)
  split <;> rename_i hb2 <;> rw [hb2] <;> conv => whnf
  · simp only [cond_false, hlen, decide_eq_true_eq] at hb2
    exact hno (by omega)
  split <;> rename_i hb3 <;> rw [hb3] <;> conv => whnf
  · simp only [cond_false, hlen, hw, decide_eq_true_eq] at hb3
    exact hno (by omega)
  simp only [cond_false, hlen, hw, decide_eq_false_iff_not] at hb1 hb2 hb3
  have hV := numV_ok (l := l) (a := a) (n := n) (by omega)
  refine ⟨{i : Nat // i ≤ n}, fun i => ⟨[(0, .p false (.sl 1 (bl l))), (1, isI .i64 a), (2, isI .i64 n), (8, isI .u64 (numN l a.toNat i.1)), (9, isI .i64 i.1)], [], 99⟩, fun i => n - i.1, ⟨⟨0, by omega⟩, ?_⟩, ?_⟩
  · conv => whnf
    simp [allP, pvle, numN]
  rintro ⟨i, hi⟩
  have hw2 : IntKind.i64.wrap (a + (i : Int)) = a + i := wrap_i64 (by omega) (by omega)
  conv => whnf
  split <;> rename_i hb <;> rw [hb] <;> conv => whnf
  · simp only [decide_eq_true_eq] at hb
    refine And.intro (by simp only [allP, List.nil_append, List.cons_append, true_and]; rw [hw2, hlen]; omega) ?_
    conv => whnf
    rw [bl_getD]
    conv => whnf
    refine ⟨⟨i + 1, by omega⟩, by simp only; omega, ?_⟩
    conv => whnf
    have hs := numN_mul (l := l) (a := a.toNat) (n := i) (by omega)
    have e1 : (IntKind.i64.wrap (a + (i : Int))).toNat = a.toNat + i := by rw [hw2]; omega
    have e2 : IntKind.i64.wrap ((i : Int) + 1) = ((i + 1 : Nat) : Int) := by rw [wrap_i64 (by omega) (by omega)]; rfl
    simp only [allP, pvle, e1, hs, e2, and_self]
  · simp only [decide_eq_false_iff_not] at hb
    have : i = n := by omega
    subst this
    rw [hV]
    simp [allP, pvle]
/-- A number's n bytes, the lowest one first. -/
def leB : Nat → Nat → List UInt8
  | 0, _ => []
  | n + 1, v => UInt8.ofNat v :: leB n (v / 256)
theorem leB_length : ∀ n v, (leB n v).length = n
  | 0, _ => rfl
  | n + 1, v => by rw [leB, List.length_cons, leB_length]
theorem leB_snoc : ∀ n v, leB (n + 1) v = leB n v ++ [UInt8.ofNat (v / 256 ^ n)]
  | 0, v => by simp [leB]
  | n + 1, v => by
    rw [leB, leB_snoc n, leB]
    simp [Nat.pow_succ, Nat.div_div_eq_div_mul, Nat.mul_comm]
theorem leB_get (n v j : Nat) (h : j < n) : (leB n v).getD j 0 = UInt8.ofNat (v / 256 ^ j) := by
  induction n generalizing v j with
  | zero => omega
  | succ n ih =>
    cases j with
    | zero => simp [leB]
    | succ j =>
      show (leB n (v / 256)).getD j 0 = _
      rw [ih _ _ (by omega), Nat.div_div_eq_div_mul, Nat.pow_succ, Nat.mul_comm]
theorem radd_does : Does [] tab Try.f46 cAdd := by
  rintro ⟨l, v, n⟩ ⟨h1, h2, h3⟩
  have hlen := bl_length l
  conv => whnf
  refine ⟨{i : Nat // i ≤ n}, fun i => ⟨[(0, .p false (.sl 1 (bl l))), (1, isI .u64 ((v / 256 ^ i.1 : Nat) : Int)), (2, isI .i64 n), (7, .rowf 0), (8, isI .i64 i.1)], [(0, .row 5 1 true false (bl (leB i.1 v)))], 99⟩, fun i => n - i.1, ⟨⟨0, by omega⟩, ?_⟩, ?_⟩
  · conv => whnf
    simp only [allP, pvle_refl, Int.natCast_zero, leB, Nat.pow_zero, Nat.div_one, bl_nil, and_self, and_true, true_and] <;> (try simp only [pvle, leB, Nat.pow_zero, Nat.div_one, bl_nil, and_self, and_true, true_and])
  · rintro ⟨i, hi⟩
    conv => whnf
    split <;> rename_i hb <;> rw [hb] <;> conv => whnf
    · simp only [decide_eq_true_eq] at hb
      have hv : v / 256 ^ i < 18446744073709551616 := Nat.lt_of_le_of_lt (Nat.div_le_self _ _) h2
      refine And.intro (by simp only [allP, List.nil_append, List.cons_append, true_and]; decide) ?_
      conv => whnf
      refine And.intro (by simp only [allP, List.nil_append, List.cons_append, true_and]; rw [bl_length, leB_length, List.length_singleton]; omega) ?_
      conv => whnf
      refine And.intro (by simp only [allP, List.nil_append, List.cons_append, true_and]; decide) ?_
      conv => whnf
      refine ⟨⟨i + 1, by omega⟩, by simp only; omega, ?_⟩
      conv => whnf
      have e1 : IntKind.u64.wrap (((v / 256 ^ i : Nat) : Int).tdiv 256) = ((v / 256 ^ (i + 1) : Nat) : Int) := by
        rw [show (256 : Int) = ((256 : Nat) : Int) from rfl, tdiv_nat, Nat.div_div_eq_div_mul, ← Nat.pow_succ]
        exact wrap_u64n (Nat.lt_of_le_of_lt (Nat.div_le_self _ _) h2)
      have e2 : IntKind.i64.wrap ((i : Int) + 1) = ((i + 1 : Nat) : Int) := by rw [wrap_i64 (by omega) (by omega)]; rfl
      simp only [allP, pvle_refl, Int.natCast_zero, e1, e2, leB_snoc, bl_append, byte_mod, bl_cons, bl_nil, and_self, and_true, true_and] <;> (try simp only [pvle, e1, e2, leB_snoc, bl_append, byte_mod, bl_cons, bl_nil, and_self, and_true, true_and])
    · simp only [decide_eq_false_iff_not] at hb
      have : i = n := by omega
      subst this
      have hw : IntKind.i64.wrap ((i : Int) - 1) = (i : Int) - 1 := wrap_i64 (by omega) (by omega)
      refine And.intro (by simp only [allP, List.nil_append, List.cons_append, true_and]; rw [bl_length, List.length_nil]; omega) ?_
      conv => whnf
      refine ⟨{j : Nat // j ≤ i}, fun j => ⟨[(2, isI .i64 i), (7, .rowf 1), (9, .rowf 0), (10, isI .i64 ((i : Int) - 1 - j.1))], [(0, .row 5 1 true false (bl (l ++ (beB i v).take j.1))), (1, .row 5 1 true false (bl (leB i v)))], 99⟩, fun j => i - j.1, ⟨⟨0, by omega⟩, ?_⟩, ?_⟩
      · conv => whnf
        refine ⟨?_, ?_⟩
        · rfl
        · simp only [allP, hw]
          simp
          exact ⟨rfl, bl_isFlat l⟩
      rintro ⟨j, hj⟩
      have hw1 : IntKind.i64.wrap ((i : Int) - 1 - (j : Int) - 1) = (i : Int) - 1 - ((j + 1 : Nat) : Int) := by rw [wrap_i64 (by omega) (by omega)]; omega
      conv => whnf
      split <;> rename_i hb2 <;> rw [hb2] <;> conv => whnf
      · simp only [decide_eq_true_eq] at hb2
        have hji : j < i := by omega
        refine And.intro (by simp only [allP, List.nil_append, List.cons_append, true_and]; rw [bl_length, leB_length]; omega) ?_
        conv => whnf
        rw [bl_getD, leB_get i v _ (by omega), show ((i : Int) - 1 - (j : Int)).toNat = i - 1 - j by omega]
        refine And.intro (by simp only [allP, List.nil_append, List.cons_append, true_and]; rfl) ?_
        conv => whnf
        refine And.intro (by simp only [allP, List.nil_append, List.cons_append, true_and]; simp only [bl_length, List.length_append, List.length_take, beB_length, List.length_singleton]; omega) ?_
        conv => whnf
        refine ⟨⟨j + 1, by omega⟩, by simp only; omega, ?_⟩
        conv => whnf
        rw [beB_take i v j hji, ← List.append_assoc, bl_append, bl_cons, bl_nil]
        simp only [allP, pvle_refl, Int.natCast_zero, hw1, and_self, and_true, true_and] <;> (try simp only [pvle, hw1, and_self, and_true, true_and])
      · simp only [decide_eq_false_iff_not] at hb2
        have : j = i := by omega
        subst this
        rw [List.take_of_length_le (by rw [beB_length]; exact Nat.le_refl _)]
theorem rnumber_sound : Sound Try.prog 44 cNumber := does_sound mixed tabOk_prog GamOk.nil Try.func44 rnumber_does
theorem radd_sound : Sound Try.prog 46 cAdd := does_sound mixed tabOk_prog GamOk.nil Try.func46 radd_does
def gRf1 : List (FuncId × Ctr) := (46, cAdd) :: (44, cNumber) :: []
theorem gRf1_ok : GamOk Try.prog gRf1 := GamOk.cons (GamOk.cons GamOk.nil Try.func44 (by kernel_rfl) (by kernel_rfl) rnumber_sound) Try.func46 (by kernel_rfl) (by kernel_rfl) radd_sound
def gRef01 : List (FuncId × Ctr) := gRf1
theorem gRef01_ok : GamOk Try.prog gRef01 := gRf1_ok
end Go.Proofs.Ytjgmlkogppibfaa.Ev
