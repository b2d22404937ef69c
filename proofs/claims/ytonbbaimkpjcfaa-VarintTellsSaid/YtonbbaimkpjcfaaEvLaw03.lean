/- What the laws of varint share: their fixed answers. No conditions. -/
import Derived.Test.YtonbbaimkpjcfaaEvVarint
import Derived.Test.YtonbbaimkpjcfaaEvLow
namespace Go.Proofs.Ytonbbaimkpjcfaa.Ev
open Go
set_option linter.unusedVariables false
set_option linter.unusedSimpArgs false
set_option maxRecDepth 100000
def gVL : List (FuncId × Ctr) := gVar ++ gLow
theorem gVL_ok : GamOk Try.prog gVL := GamOk.app gVar_ok gLow_ok
abbrev cAwake3 : Ctr := ⟨Unit, 0, fun _ => [], fun _ => [], fun _ => True, fun _ => isB true, fun _ => []⟩
theorem vE300 : vE 300 = [172, 2] := by rw [vE_big (by decide), vE_small (by decide)]; rfl
theorem awake03_does : Does gVL tab Try.f23 cAwake3 := by
  rintro x -
  conv => whnf
  refine ⟨([172, 2], 0), ?_⟩
  conv => whnf
  refine And.intro (by simp only [allP, List.nil_append, List.cons_append, true_and]; exact ⟨rfl, rfl, by decide⟩) ?_
  conv => whnf
  refine ⟨([1], 0), ?_⟩
  conv => whnf
  refine And.intro (by simp only [allP, List.nil_append, List.cons_append, true_and]; exact ⟨rfl, rfl, by decide⟩) ?_
  conv => whnf
  refine ⟨([], 300), ?_⟩
  conv => whnf
  refine And.intro (by simp only [allP, List.nil_append, List.cons_append, true_and]; exact ⟨rfl, rfl, by decide⟩) ?_
  conv => whnf
  rw [vE300]
  refine ⟨([172, 2], [172, 2]), ?_⟩
  conv => whnf
  refine And.intro (by simp only [allP, List.nil_append, List.cons_append, true_and]; exact ⟨rfl, rfl, trivial⟩) ?_
  conv => whnf
  rfl
abbrev cFull : Ctr := ⟨UInt8, 0, fun c => [.p true (bv c)], fun _ => [], fun _ => True, fun _ => .rowf 0, fun c => [(0, .row 5 1 true false (bl (List.replicate 9 255 ++ [c])))]⟩
theorem full_does : Does [] tab Try.f33 cFull := by
  rintro c -
  conv => whnf
  refine ⟨{i : Nat // i ≤ 9}, fun i => ⟨[(0, .p true (bv c)), (3, .rowf 0), (4, isI .i64 i.1)], [(0, .row 5 1 true false (bl (List.replicate i.1 255)))], 99⟩, fun i => 9 - i.1, ⟨⟨0, by omega⟩, ?_⟩, ?_⟩
  · conv => whnf
    simp only [allP, pvle_refl, Int.natCast_zero, List.replicate_zero, bl_nil, and_self, and_true, true_and] <;> (try simp only [pvle, List.replicate_zero, bl_nil, and_self, and_true, true_and])
  rintro ⟨i, hi⟩
  show aw _ _ _ _ _ _ ⟨[(0, .p true (bv c)), (3, .rowf 0), (4, isI .i64 i)], [(0, .row 5 1 true false (bl (List.replicate i 255)))], 99⟩
  conv => whnf
  split <;> rename_i hb <;> rw [hb] <;> conv => whnf
  · simp only [decide_eq_true_eq] at hb
    refine And.intro (by simp only [allP, List.nil_append, List.cons_append, true_and]; simp only [bl_length, List.length_replicate, List.length_cons, List.length_nil]; omega) ?_
    conv => whnf
    refine ⟨⟨i + 1, by omega⟩, by simp only; omega, ?_⟩
    conv => whnf
    have e2 : IntKind.i64.wrap ((i : Int) + 1) = ((i + 1 : Nat) : Int) := by rw [wrap_i64 (by omega) (by omega)]; rfl
    simp only [allP, pvle_refl, Int.natCast_zero, e2, List.replicate_succ', bl_append, and_self, and_true, true_and] <;> (try simp only [pvle, e2, List.replicate_succ', bl_append, and_self, and_true, true_and])
    rfl
  · simp only [decide_eq_false_iff_not] at hb
    have : i = 9 := by omega
    subst this
    refine And.intro (by simp only [allP, List.nil_append, List.cons_append, true_and]; simp only [bl_length, List.length_replicate, List.length_cons, List.length_nil]; omega) ?_
    conv => whnf
    rw [bl_append]
    rfl
theorem awake03_sound : Sound Try.prog 23 cAwake3 := does_sound mixed tabOk_prog gVL_ok Try.func23 awake03_does
theorem full_sound : Sound Try.prog 33 cFull := does_sound mixed tabOk_prog GamOk.nil Try.func33 full_does
def gAw3 : List (FuncId × Ctr) := (23, cAwake3) :: gVL
theorem gAw3_ok : GamOk Try.prog gAw3 := GamOk.cons gVL_ok Try.func23 (by kernel_rfl) (by kernel_rfl) awake03_sound
def gFull : List (FuncId × Ctr) := (33, cFull) :: gAw3
theorem gFull_ok : GamOk Try.prog gFull := GamOk.cons gAw3_ok Try.func33 (by kernel_rfl) (by kernel_rfl) full_sound
end Go.Proofs.Ytonbbaimkpjcfaa.Ev
