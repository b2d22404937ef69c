/- The functions of conduitlow that the laws of bytes call: what they come to. No conditions. -/
import Derived.Test.YtonbbaimkpjcfaaEvBase
namespace Go.Proofs.Ytonbbaimkpjcfaa.Ev
open Go
set_option linter.unusedVariables false
set_option linter.unusedSimpArgs false
set_option maxRecDepth 100000
theorem strOf_toList (l : List UInt8) : (strOf l).toList = l := by
  rw [ByteArray.toList_eq]
  unfold strOf
  simp
theorem strOf_inj {a b : List UInt8} (h : strOf a = strOf b) : a = b := by
  rw [← strOf_toList a, ← strOf_toList b, h]
theorem str_toList (s : ByteArray) : s.toList = s.data.toList := by rw [ByteArray.toList_eq]
theorem str_eq {a b : ByteArray} (h : a.data.toList = b.data.toList) : a = b := by
  cases a; cases b
  simp only [ByteArray.mk.injEq] at *
  exact Array.toList_inj.1 h
theorem beqL (a b : List UInt8) : (a == b) = decide (a = b) := by
  by_cases h : a = b
  · subst h; simp
  · simp [h]
/-- Two lists of bytes: the same? -/
abbrev cSame : Ctr := ⟨List UInt8 × List UInt8, 0, fun (a, b) => [.p false (.sl 1 (bl a)), .p false (.sl 1 (bl b))], fun _ => [],
  fun _ => True, fun (a, b) => isB (decide (a = b)), fun _ => []⟩
theorem same_does : Does [] tab Try.f20 cSame := by
  rintro ⟨a, b⟩ -
  conv => whnf
  refine And.intro (bl_isByte a) ?_
  conv => whnf
  refine And.intro (bl_isByte b) ?_
  conv => whnf
  rw [elsStr_bl, elsStr_bl, show (strOf a).data.toList = a from rfl, show (strOf b).data.toList = b from rfl, beqL]
def gL1 : List (FuncId × Ctr) := (20, cSame) :: []
theorem gL1_ok : GamOk Try.prog gL1 := GamOk.step mixed tabOk_prog GamOk.nil Try.func20 (by kernel_rfl) (by kernel_rfl) same_does
/-- A copy. -/
abbrev cCopy : Ctr := ⟨List UInt8, 0, fun l => [.p false (.sl 1 (bl l))], fun _ => [], fun l => l.length ≤ 140737488355328, fun _ => .rowf 0, fun l => [(0, .row 5 1 true false (bl l))]⟩
theorem copy_does : Does gL1 tab Try.f47 cCopy := by
  rintro l (h1 : l.length ≤ 140737488355328)
  conv => whnf
  refine And.intro (by simp only [allP, List.nil_append, List.cons_append, true_and]; rw [bl_length]; simp only [List.length_nil, Nat.zero_add]; omega) ?_
  conv => whnf
  exact ⟨rfl, bl_isFlat l⟩
def gL2 : List (FuncId × Ctr) := (47, cCopy) :: gL1
theorem gL2_ok : GamOk Try.prog gL2 := GamOk.step mixed tabOk_prog gL1_ok Try.func47 (by kernel_rfl) (by kernel_rfl) copy_does
/-- A number from 0 to n - 1. -/
def pickV (x n : Int) : Int := if n ≤ 0 then 0 else x % n
theorem pickV_bd {x n : Int} (h : 0 < n) : 0 ≤ pickV x n ∧ pickV x n < n := by
  unfold pickV
  rw [if_neg (by omega)]
  exact ⟨Int.emod_nonneg _ (by omega), Int.emod_lt_of_pos _ h⟩
abbrev cPick : Ctr := ⟨Int × Int, 0, fun (x, n) => [isI .i64 x, isI .i64 n], fun _ => [], fun (x, n) => -9223372036854775808 ≤ x ∧ x ≤ 9223372036854775807 ∧ -9223372036854775808 ≤ n ∧ n ≤ 9223372036854775807,
  fun (x, n) => isI .i64 (pickV x n), fun _ => []⟩
theorem pick_does : Does [] tab Try.f22 cPick := by
  rintro ⟨x, n⟩ ⟨h1, h2, h3, h4⟩
  conv => whnf
  split <;> rename_i hb1 <;> rw [hb1] <;> conv => whnf
  · simp only [decide_eq_true_eq] at hb1
    have : pickV x n = 0 := by unfold pickV; rw [if_pos hb1]
    simp only [allP, pvle_refl, Int.natCast_zero, this, and_self, and_true, true_and] <;> (try simp only [pvle, this, and_self, and_true, true_and])
  simp only [decide_eq_false_iff_not] at hb1
  refine And.intro (by simp only [allP, List.nil_append, List.cons_append, true_and]; omega) ?_
  conv => whnf
  have hp := pickV_bd (x := x) (n := n) (by omega)
  have hpe : pickV x n = x % n := by unfold pickV; rw [if_neg hb1]
  have ht := Int.tmod_eq_emod (a := x) (b := n)
  have hna : n.natAbs = n := by omega
  split <;> rename_i hb2 <;> rw [hb2] <;> conv => whnf
  · simp only [decide_eq_true_eq] at hb2
    have hw : IntKind.i64.wrap (x.tmod n + n) = pickV x n := by
      split at ht
      · omega
      · rw [wrap_i64 (by omega) (by omega)]; omega
    simp only [allP, pvle_refl, Int.natCast_zero, hw, and_self, and_true, true_and] <;> (try simp only [pvle, hw, and_self, and_true, true_and])
  · simp only [decide_eq_false_iff_not] at hb2
    have hw : x.tmod n = pickV x n := by
      split at ht
      · omega
      · omega
    simp only [allP, pvle_refl, Int.natCast_zero, hw, and_self, and_true, true_and] <;> (try simp only [pvle, hw, and_self, and_true, true_and])
theorem pick_sound : Sound Try.prog 22 cPick := does_sound mixed tabOk_prog GamOk.nil Try.func22 pick_does
def gL4 : List (FuncId × Ctr) := (22, cPick) :: gL2
theorem gL4_ok : GamOk Try.prog gL4 := GamOk.cons gL2_ok Try.func22 (by kernel_rfl) (by kernel_rfl) pick_sound
/-- Bytes with room behind them, in which something stands. -/
abbrev cLent : Ctr := ⟨List UInt8, 0, fun l => [.p false (.sl 1 (bl l))], fun _ => [], fun l => l.length ≤ 140737488355000, fun l => .row 0 0 l.length, fun l => [(0, .row 5 1 true false (bl (l ++ [77, 78, 79])))]⟩
theorem lent_does : Does gL2 tab Try.f24 cLent := by
  rintro l (h1 : l.length ≤ 140737488355000)
  have hlen := bl_length l
  conv => whnf
  refine ⟨l, ?_⟩
  conv => whnf
  refine And.intro (by simp only [allP, List.nil_append, List.cons_append, true_and]; exact ⟨rfl, by show l.length ≤ _; omega⟩) ?_
  conv => whnf
  refine And.intro (by simp only [allP, List.nil_append, List.cons_append, true_and]; rw [bl_length]; simp only [List.length_cons, List.length_nil]; omega) ?_
  conv => whnf
  refine And.intro (by simp only [allP, List.nil_append, List.cons_append, true_and]; rw [List.length_append, hlen]; omega) ?_
  conv => whnf
  simp only [allP, hlen, bl_append]
  refine ⟨rfl, ?_, ?_⟩
  · simp
  · rfl
/-- Are they as they were? -/
abbrev cKept : Ctr := ⟨List UInt8, 1, fun l => [.row 0 0 l.length, .p false (.sl 1 (bl l))], fun l => [(0, .row 5 1 true false (bl (l ++ [77, 78, 79])))], fun l => l.length ≤ 140737488355000,
  fun _ => isB true, fun l => [(0, .row 5 1 true false (bl (l ++ [77, 78, 79])))]⟩
theorem kept_does : Does gL2 tab Try.f32 cKept := by
  rintro l (h1 : l.length ≤ 140737488355000)
  have hlen := bl_length l
  conv => whnf
  have hw : IntKind.i64.wrap ((l.length : Int) + 3) = ((l.length + 3 : Nat) : Int) := by rw [wrap_i64 (by omega) (by omega)]; omega
  refine And.intro (by simp only [allP, List.nil_append, List.cons_append, true_and]; rw [hw, bl_length]; simp only [List.length_append, List.length_cons, List.length_nil]; omega) ?_
  conv => whnf
  have hc : cutEls 0 l.length (bl (l ++ [77, 78, 79])) = bl l := by simp [cutEls, bl_take]
  refine ⟨(l, l), ?_⟩
  conv => whnf
  refine And.intro (by simp only [allP, List.nil_append, List.cons_append, true_and]; rw [hc]; exact ⟨rfl, rfl, trivial⟩) ?_
  conv => whnf
  rw [decide_eq_true rfl]
  conv => whnf
  have hg : ∀ j, j < 3 → (bl (l ++ [77, 78, 79])).getD (l.length + j) (PV.int IntKind.u8 0) = bv ([77, 78, 79].getD j 0) := by
    intro j hj
    rw [bl_getD, List.getD_eq_getElem?_getD, List.getElem?_append_right (by omega), show l.length + j - l.length = j by omega, List.getD_eq_getElem?_getD]
  have hg0 : (bl (l ++ [77, 78, 79])).getD (0 + Int.toNat 0 + ((bl l).length : Int).toNat) (PV.int IntKind.u8 0) = bv 77 := by
    rw [hlen]; exact (congrArg (fun i => (bl (l ++ [77, 78, 79])).getD i (PV.int IntKind.u8 0)) (by simp)).trans (hg 0 (by decide))
  have hg1 : (bl (l ++ [77, 78, 79])).getD (0 + Int.toNat 0 + (IntKind.i64.wrap (((bl l).length : Int) + 1)).toNat) (PV.int IntKind.u8 0) = bv 78 := by
    rw [hlen, wrap_i64 (by omega) (by omega)]; exact (congrArg (fun i => (bl (l ++ [77, 78, 79])).getD i (PV.int IntKind.u8 0)) (by simp <;> omega)).trans (hg 1 (by decide))
  have hg2 : (bl (l ++ [77, 78, 79])).getD (0 + Int.toNat 0 + (IntKind.i64.wrap (((bl l).length : Int) + 2)).toNat) (PV.int IntKind.u8 0) = bv 79 := by
    rw [hlen, wrap_i64 (by omega) (by omega)]; exact (congrArg (fun i => (bl (l ++ [77, 78, 79])).getD i (PV.int IntKind.u8 0)) (by simp <;> omega)).trans (hg 2 (by decide))
  refine And.intro (by simp only [allP, List.nil_append, List.cons_append, true_and]; rw [hw]; omega) ?_
  conv => whnf
  refine And.intro (by simp only [allP, List.nil_append, List.cons_append, true_and]; rw [hg0]; rfl) ?_
  conv => whnf
  rw [hg0]
  conv => whnf
  refine And.intro (by simp only [allP, List.nil_append, List.cons_append, true_and]; rw [hw, hlen, wrap_i64 (by omega) (by omega)]; omega) ?_
  conv => whnf
  refine And.intro (by simp only [allP, List.nil_append, List.cons_append, true_and]; rw [hg1]; rfl) ?_
  conv => whnf
  rw [hg1]
  conv => whnf
  refine And.intro (by simp only [allP, List.nil_append, List.cons_append, true_and]; rw [hw, hlen, wrap_i64 (by omega) (by omega)]; omega) ?_
  conv => whnf
  refine And.intro (by simp only [allP, List.nil_append, List.cons_append, true_and]; rw [hg2]; rfl) ?_
  conv => whnf
  rw [hg2]
  conv => whnf
  exact ⟨rfl, rfl⟩
theorem lent_sound : Sound Try.prog 24 cLent := does_sound mixed tabOk_prog gL2_ok Try.func24 lent_does
theorem kept_sound : Sound Try.prog 32 cKept := does_sound mixed tabOk_prog gL2_ok Try.func32 kept_does
def gLow : List (FuncId × Ctr) := (32, cKept) :: (24, cLent) :: gL4
theorem gLow_ok : GamOk Try.prog gLow := GamOk.cons (GamOk.cons gL4_ok Try.func24 (by kernel_rfl) (by kernel_rfl) lent_sound) Try.func32 (by kernel_rfl) (by kernel_rfl) kept_sound
end Go.Proofs.Ytonbbaimkpjcfaa.Ev
