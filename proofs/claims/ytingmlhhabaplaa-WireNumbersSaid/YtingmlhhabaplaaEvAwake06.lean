/- Wire: the chapter's examples. No conditions. -/
import Derived.Test.YtingmlhhabaplaaEvWire8a
import Derived.Test.YtingmlhhabaplaaEvWire2
import Derived.Test.YtingmlhhabaplaaEvLow
namespace Go.Proofs.Ytingmlhhabaplaa.Ev
open Go
set_option linter.unusedVariables false
set_option linter.unusedSimpArgs false
set_option maxRecDepth 100000
set_option maxHeartbeats 4000000
/-- All that is put and got. -/
def gAll6 : List (FuncId × Ctr) := gL1 ++ (gGets5 ++ gThings5)
theorem gAll6_ok : GamOk Try.prog gAll6 := GamOk.app gL1_ok (GamOk.app gGets5_ok gThings5_ok)
theorem zig_2 : zig 2 = 4 := by decide
theorem zig_5 : zig 5 = 10 := by decide
theorem nuB0 : nuB 0 = [0] := by rw [nuB, zig0, vE_small (by decide)]; rfl
theorem nuB2 : nuB 2 = [4] := by rw [nuB, zig_2, vE_small (by decide)]; rfl
theorem nuB5 : nuB 5 = [10] := by rw [nuB, zig_5, vE_small (by decide)]; rfl
theorem lsB0 {α : Type} (f : α → List UInt8) : lsB f [] = [0] := by unfold lsB; rw [List.length_nil, vE_small (by decide)]; rfl
theorem recB0 : recB [] = [0] := by unfold recB; rw [List.length_nil, vE_small (by decide)]; rfl
theorem txB0 : txB ⟨#[]⟩ = [0] := by rw [txB_rec]; exact recB0
def one6 : S27 := (2, (0, 0, 0, []), 5)
theorem one6_en : en27 one6 = [4, 0, 0, 0, 0, 10] := by
  show nuB (2 : Int) ++ ((nuB 0 ++ (nuB 0 ++ (nuB 0 ++ lsB recB []))) ++ nuB 5) = _
  rw [nuB2, nuB5, nuB0, lsB0]; rfl
theorem one6_ok : ok27 one6 := by
  refine ⟨trivial, ⟨by decide, by decide, by decide, ?_, ?_, fun _ h => (List.not_mem_nil h).elim⟩, by decide⟩ <;> exact Nat.le_of_ble_eq_true rfl
def zero6 : S57 := (⟨#[]⟩, 0, 0, 0, 0, 0, 0, 0, 0, false, [], [])
theorem zero6_en : en57 zero6 = [0, 0, 0, 0, 0, 0, 0, 0, 0, 0, 0, 0] := by
  show txB ⟨#[]⟩ ++ (nuB 0 ++ (nuB 0 ++ (nuB 0 ++ (nuB 0 ++ (nuB 0 ++ (nuB 0 ++ (nuB 0 ++ (nuB 0 ++ (boB false ++ (lsB _ [] ++ recB [])))))))))) = _
  rw [txB0, nuB0, lsB0, recB0]; rfl
theorem zero6_ok : ok57 zero6 := by
  refine ⟨Nat.le_of_ble_eq_true rfl, trivial, by decide, by decide, by decide, by decide, by decide, by decide, by decide, trivial, ⟨?_, ?_, fun _ h => (List.not_mem_nil h).elim⟩, ?_, ?_, fun _ h => (List.not_mem_nil h).elim⟩ <;> exact Nat.le_of_ble_eq_true rfl
abbrev cAwake06 : Ctr := ⟨Unit, 0, fun _ => [], fun _ => [], fun _ => True, fun _ => isB true, fun _ => []⟩
theorem awake06_does : Does gAll6 tab Try.f14 cAwake06 := by
  rintro u -
  obtain ⟨x, hx⟩ : ∃ x, x = one6 := ⟨_, rfl⟩
  have hxe : en27 x = [4, 0, 0, 0, 0, 10] := by rw [hx, one6_en]
  have hxo : ok27 x := by rw [hx]; exact one6_ok
  obtain ⟨z, hz⟩ : ∃ z, z = zero6 := ⟨_, rfl⟩
  have hze : en57 z = [0, 0, 0, 0, 0, 0, 0, 0, 0, 0, 0, 0] := by rw [hz, zero6_en]
  have hzo : ok57 z := by rw [hz]; exact zero6_ok
  have hg := gGet_put rt27 1 60000 z27 x hxo (by rw [hxe]; exact Nat.le_of_ble_eq_true rfl)
  (set_option smartUnfolding false in conv => whnf)
  refine ⟨(true, x), ?_⟩
  conv => whnf
  refine And.intro (by simp only [allP, List.nil_append, List.cons_append, true_and]; repeat' (first | exact hxo | exact trivial | (rw [hxe]; exact Nat.le_of_ble_eq_true rfl) | (rw [hxe]; rfl) | (rw [hx]; rfl) | (rw [hx]; simp [pvle, one6]; done) | refine And.intro ?_ ?_)) ?_
  (set_option smartUnfolding false in conv => whnf)
  refine ⟨1 :: en27 x, ?_⟩
  conv => whnf
  refine And.intro (by simp only [allP, List.nil_append, List.cons_append, true_and]; and_intros <;> first | exact trivial | rfl) ?_
  (set_option smartUnfolding false in conv => whnf)
  rw [hg]
  refine And.intro (by first | exact Nat.le_of_ble_eq_true rfl | exact ⟨Nat.le_of_ble_eq_true rfl, rfl⟩ | exact rfl | decide | (simp [allP]; done)) ?_
  (set_option smartUnfolding false in conv => whnf)
  refine ⟨(true, z), ?_⟩
  conv => whnf
  refine And.intro (by simp only [allP, List.nil_append, List.cons_append, true_and]; repeat' (first | exact hzo | exact trivial | (rw [hze]; exact Nat.le_of_ble_eq_true rfl) | (rw [hze]; rfl) | (rw [hz]; rfl) | (rw [hz]; simp [pvle, zero6]; done) | refine And.intro ?_ ?_)) ?_
  (set_option smartUnfolding false in conv => whnf)
  refine ⟨(1 :: en27 x, [1, 4, 0, 0, 0, 0, 10]), ?_⟩
  conv => whnf
  refine And.intro (by simp only [allP, List.nil_append, List.cons_append, true_and]; and_intros <;> first | exact trivial | rfl) ?_
  (set_option smartUnfolding false in conv => whnf)
  rw [show decide (1 :: en27 x = [1, 4, 0, 0, 0, 0, 10]) = true from by rw [hxe]; rfl]
  (set_option smartUnfolding false in conv => whnf)
  rw [show ((x.1.toNat : Int) == 2) = true from by rw [hx]; rfl]
  (set_option smartUnfolding false in conv => whnf)
  rw [show (x.2.2 == (5 : Int)) = true from by rw [hx]; rfl]
  (set_option smartUnfolding false in conv => whnf)
  refine And.intro (by simp only [allP, List.nil_append, List.cons_append, true_and]; simp [allP]) ?_
  (set_option smartUnfolding false in conv => whnf)
  refine ⟨(7 :: en57 z, [7, 0, 0, 0, 0, 0, 0, 0, 0, 0, 0, 0, 0]), ?_⟩
  conv => whnf
  refine And.intro (by simp only [allP, List.nil_append, List.cons_append, true_and]; and_intros <;> first | exact trivial | rfl) ?_
  (set_option smartUnfolding false in conv => whnf)
  rw [show decide (7 :: en57 z = [7, 0, 0, 0, 0, 0, 0, 0, 0, 0, 0, 0, 0]) = true from by rw [hze]; rfl]
  (set_option smartUnfolding false in conv => whnf)
  and_intros <;> first | rfl | exact trivial
theorem awake06_sound : Sound Try.prog 14 cAwake06 := does_sound mixed tabOk_prog gAll6_ok Try.func14 awake06_does
def gAwake : List (FuncId × Ctr) := (14, cAwake06) :: gAll6
theorem gAwake_ok : GamOk Try.prog gAwake := GamOk.cons gAll6_ok Try.func14 (by kernel_rfl) (by kernel_rfl) awake06_sound

end Go.Proofs.Ytingmlhhabaplaa.Ev
