/- The functions of conduitlow that the laws of bytes call: what they come to. No conditions. -/
import Derived.Test.YtingmlhhabaplaaEvBase
namespace Go.Proofs.Ytingmlhhabaplaa.Ev
open Go
set_option linter.unusedVariables false
set_option linter.unusedSimpArgs false
set_option maxRecDepth 100000
theorem strOf_toList (l : List UInt8) : (strOf l).toList = l := by
  rw [ByteArray.toList_eq]
  unfold strOf
  simp
theorem strOf_inj {a b : List UInt8} (h : strOf a = strOf b) : a = b := by
  rw [← strOf_toList a, ← strOf_toList b, h]
theorem str_toList (s : ByteArray) : s.toList = s.data.toList := by rw [ByteArray.toList_eq]
theorem str_eq {a b : ByteArray} (h : a.data.toList = b.data.toList) : a = b := by
  cases a; cases b
  simp only [ByteArray.mk.injEq] at *
  exact Array.toList_inj.1 h
theorem beqL (a b : List UInt8) : (a == b) = decide (a = b) := by
  by_cases h : a = b
  · subst h; simp
  · simp [h]
/-- Two lists of bytes: the same? -/
abbrev cSame : Ctr := ⟨List UInt8 × List UInt8, 0, fun (a, b) => [.p false (.sl 1 (bl a)), .p false (.sl 1 (bl b))], fun _ => [],
  fun _ => True, fun (a, b) => isB (decide (a = b)), fun _ => []⟩
theorem same_does : Does [] tab Try.f13 cSame := by
  rintro ⟨a, b⟩ -
  conv => whnf
  refine And.intro (bl_isByte a) ?_
  conv => whnf
  refine And.intro (bl_isByte b) ?_
  conv => whnf
  rw [elsStr_bl, elsStr_bl, show (strOf a).data.toList = a from rfl, show (strOf b).data.toList = b from rfl, beqL]
def gL1 : List (FuncId × Ctr) := (13, cSame) :: []
theorem gL1_ok : GamOk Try.prog gL1 := GamOk.step mixed tabOk_prog GamOk.nil Try.func13 (by kernel_rfl) (by kernel_rfl) same_does
/-- A copy. -/
abbrev cCopy : Ctr := ⟨List UInt8, 0, fun l => [.p false (.sl 1 (bl l))], fun _ => [], fun l => l.length ≤ 140737488355328, fun _ => .rowf 0, fun l => [(0, .row 5 1 true false (bl l))]⟩
theorem copy_does : Does gL1 tab Try.f123 cCopy := by
  rintro l (h1 : l.length ≤ 140737488355328)
  conv => whnf
  refine And.intro (by simp only [allP, List.nil_append, List.cons_append, true_and]; rw [bl_length]; simp only [List.length_nil, Nat.zero_add]; omega) ?_
  conv => whnf
  exact ⟨rfl, bl_isFlat l⟩
def gL2 : List (FuncId × Ctr) := (123, cCopy) :: gL1
theorem gL2_ok : GamOk Try.prog gL2 := GamOk.step mixed tabOk_prog gL1_ok Try.func123 (by kernel_rfl) (by kernel_rfl) copy_does
/-- A number from 0 to n - 1. -/
def pickV (x n : Int) : Int := if n ≤ 0 then 0 else x % n
theorem pickV_bd {x n : Int} (h : 0 < n) : 0 ≤ pickV x n ∧ pickV x n < n := by
  unfold pickV
  rw [if_neg (by omega)]
  exact ⟨Int.emod_nonneg _ (by omega), Int.emod_lt_of_pos _ h⟩
abbrev cPick : Ctr := ⟨Int × Int, 0, fun (x, n) => [isI .i64 x, isI .i64 n], fun _ => [], fun (x, n) => -9223372036854775808 ≤ x ∧ x ≤ 9223372036854775807 ∧ -9223372036854775808 ≤ n ∧ n ≤ 9223372036854775807,
  fun (x, n) => isI .i64 (pickV x n), fun _ => []⟩
def gL4 : List (FuncId × Ctr) := gL2
theorem gL4_ok : GamOk Try.prog gL4 := gL2_ok
def gLow : List (FuncId × Ctr) := gL4
theorem gLow_ok : GamOk Try.prog gLow := gL4_ok
end Go.Proofs.Ytingmlhhabaplaa.Ev
