/- Wire: the chapter's examples. No conditions. -/
import Derived.Test.YtingmlhhabaplaaGreatEvWire8a
import Derived.Test.YtingmlhhabaplaaGreatEvWire2
import Derived.Test.YtingmlhhabaplaaGreatEvLow
namespace Go.Proofs.YtingmlhhabaplaaGreat.Ev
open Go
set_option linter.unusedVariables false
set_option linter.unusedSimpArgs false
set_option maxRecDepth 100000
set_option maxHeartbeats 4000000
/-- All that is put and got. -/
def gAll6 : List (FuncId × Ctr) := gL1 ++ (gGets1 ++ gThings1)
theorem gAll6_ok : GamOk Tryz.prog gAll6 := GamOk.app gL1_ok (GamOk.app gGets1_ok gThings1_ok)
theorem zig_2 : zig 2 = 4 := by decide
theorem zig_5 : zig 5 = 10 := by decide
theorem nuB0 : nuB 0 = [0] := by rw [nuB, zig0, vE_small (by decide)]; rfl
theorem nuB2 : nuB 2 = [4] := by rw [nuB, zig_2, vE_small (by decide)]; rfl
theorem nuB5 : nuB 5 = [10] := by rw [nuB, zig_5, vE_small (by decide)]; rfl
theorem lsB0 {α : Type} (f : α → List UInt8) : lsB f [] = [0] := by unfold lsB; rw [List.length_nil, vE_small (by decide)]; rfl
theorem recB0 : recB [] = [0] := by unfold recB; rw [List.length_nil, vE_small (by decide)]; rfl
theorem txB0 : txB ⟨#[]⟩ = [0] := by rw [txB_rec]; exact recB0
def one6 : S48 := (2, (0, 0, 0, []), 5)
theorem one6_en : en48 one6 = [4, 0, 0, 0, 0, 10] := by
  show nuB (2 : Int) ++ ((nuB 0 ++ (nuB 0 ++ (nuB 0 ++ lsB recB []))) ++ nuB 5) = _
  rw [nuB2, nuB5, nuB0, lsB0]; rfl
theorem one6_ok : ok48 one6 := by
  refine ⟨trivial, ⟨by decide, by decide, by decide, ?_, ?_, fun _ h => (List.not_mem_nil h).elim⟩, by decide⟩ <;> exact Nat.le_of_ble_eq_true rfl
def zero6 : S79 := (⟨#[]⟩, 0, 0, 0, 0, 0, 0, 0, 0, false, [], [])
theorem zero6_en : en79 zero6 = [0, 0, 0, 0, 0, 0, 0, 0, 0, 0, 0, 0] := by
  show txB ⟨#[]⟩ ++ (nuB 0 ++ (nuB 0 ++ (nuB 0 ++ (nuB 0 ++ (nuB 0 ++ (nuB 0 ++ (nuB 0 ++ (nuB 0 ++ (boB false ++ (lsB _ [] ++ recB [])))))))))) = _
  rw [txB0, nuB0, lsB0, recB0]; rfl
theorem zero6_ok : ok79 zero6 := by
  refine ⟨Nat.le_of_ble_eq_true rfl, trivial, by decide, by decide, by decide, by decide, by decide, by decide, by decide, trivial, ⟨?_, ?_, fun _ h => (List.not_mem_nil h).elim⟩, ?_, ?_, fun _ h => (List.not_mem_nil h).elim⟩ <;> exact Nat.le_of_ble_eq_true rfl
abbrev cAwake06 : Ctr := ⟨Unit, 0, fun _ => [], fun _ => [], fun _ => True, fun _ => isB true, fun _ => []⟩
theorem awake06_does : Does gAll6 tab Tryz.f7 cAwake06 := by
  rintro u -
  obtain ⟨x, hx⟩ : ∃ x, x = one6 := ⟨_, rfl⟩
  have hxe : en48 x = [4, 0, 0, 0, 0, 10] := by rw [hx, one6_en]
  have hxo : ok48 x := by rw [hx]; exact one6_ok
  obtain ⟨z, hz⟩ : ∃ z, z = zero6 := ⟨_, rfl⟩
  have hze : en79 z = [0, 0, 0, 0, 0, 0, 0, 0, 0, 0, 0, 0] := by rw [hz, zero6_en]
  have hzo : ok79 z := by rw [hz]; exact zero6_ok
  have hg := gGet_put rt48 1 60000 z48 x hxo (by rw [hxe]; exact Nat.le_of_ble_eq_true rfl)
  (set_option smartUnfolding false in conv => whnf)
  refine ⟨(true, x), ?_⟩
  conv => whnf
  refine And.intro (by simp only [allP, List.nil_append, List.cons_append, true_and]; repeat' (first | exact hxo | exact trivial | (rw [hxe]; exact Nat.le_of_ble_eq_true rfl) | (rw [hxe]; rfl) | (rw [hx]; rfl) | (rw [hx]; simp [pvle, one6]; done) | refine And.intro ?_ ?_)) ?_
  (set_option smartUnfolding false in conv => whnf)
  refine ⟨1 :: en48 x, ?_⟩
  conv => whnf
  refine And.intro (by simp only [allP, List.nil_append, List.cons_append, true_and]; and_intros <;> first | exact trivial | rfl) ?_
  (set_option smartUnfolding false in conv => whnf)
  rw [hg]
  refine dI (k := ?_)
  (set_option smartUnfolding false in conv => whnf)
  refine ⟨(true, z), ?_⟩
  conv => whnf
  refine And.intro (by simp only [allP, List.nil_append, List.cons_append, true_and]; repeat' (first | exact hzo | exact trivial | (rw [hze]; exact Nat.le_of_ble_eq_true rfl) | (rw [hze]; rfl) | (rw [hz]; rfl) | (rw [hz]; simp [pvle, zero6]; done) | refine And.intro ?_ ?_)) ?_
  (set_option smartUnfolding false in conv => whnf)
  refine ⟨(1 :: en48 x, [1, 4, 0, 0, 0, 0, 10]), ?_⟩
  conv => whnf
  refine And.intro (by simp only [allP, List.nil_append, List.cons_append, true_and]; and_intros <;> first | exact trivial | rfl) ?_
  (set_option smartUnfolding false in conv => whnf)
  rw [show decide (1 :: en48 x = [1, 4, 0, 0, 0, 0, 10]) = true from by rw [hxe]; rfl]
  (set_option smartUnfolding false in conv => whnf)
  rw [show ((x.1.toNat : Int) == 2) = true from by rw [hx]; rfl]
  (set_option smartUnfolding false in conv => whnf)
  rw [show (x.2.2 == (5 : Int)) = true from by rw [hx]; rfl]
  (set_option smartUnfolding false in conv => whnf)
  refine And.intro (by simp only [allP, List.nil_append, List.cons_append, true_and]; simp [allP]) ?_
  (set_option smartUnfolding false in conv => whnf)
  refine ⟨(7 :: en79 z, [7, 0, 0, 0, 0, 0, 0, 0, 0, 0, 0, 0, 0]), ?_⟩
  conv => whnf
  refine And.intro (by simp only [allP, List.nil_append, List.cons_append, true_and]; and_intros <;> first | exact trivial | rfl) ?_
  (set_option smartUnfolding false in conv => whnf)
  rw [show decide (7 :: en79 z = [7, 0, 0, 0, 0, 0, 0, 0, 0, 0, 0, 0, 0]) = true from by rw [hze]; rfl]
  (set_option smartUnfolding false in conv => whnf)
  and_intros <;> first | rfl | exact trivial
theorem awake06_sound : Sound Tryz.prog 7 cAwake06 := does_sound mixed tabOk_prog gAll6_ok Tryz.func7 awake06_does
def gAwake : List (FuncId × Ctr) := (7, cAwake06) :: gAll6
theorem gAwake_ok : GamOk Tryz.prog gAwake := GamOk.cons gAll6_ok Tryz.func7 (by kernel_rfl) (by kernel_rfl) awake06_sound

end Go.Proofs.YtingmlhhabaplaaGreat.Ev
