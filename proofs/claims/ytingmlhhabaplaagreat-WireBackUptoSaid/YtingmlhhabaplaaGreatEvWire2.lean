/- Wire: things as bytes. No conditions. -/
import Derived.Test.YtingmlhhabaplaaGreatEvWire1c
namespace Go.Proofs.YtingmlhhabaplaaGreat.Ev
open Go
set_option linter.unusedVariables false
set_option linter.unusedSimpArgs false
set_option maxRecDepth 100000
set_option maxHeartbeats 4000000
abbrev cTold : Ctr := ⟨Bool × List UInt8 × Nat, 2, fun (g, b, m) => [.ptr 0 0, isI .i64 m], fun (g, b, m) => [(0, .box [.rowf 1]), (1, .row 5 1 true false (bl b))],
  fun (g, b, m) => g = decide (b.length ≤ m), fun (g, b, m) => match g with | true => .tuple [.rowf 1, isI .i64 0] | false => .tuple [.p true .nilsl, isI .i64 3],
  fun (g, b, m) => [(0, .box [.rowf 1]), (1, .row 5 1 true false (bl b))]⟩
theorem told_does : Does [] tab Tryz.f84 cTold := by
  rintro ⟨g, b, m⟩ (h : g = decide (b.length ≤ m))
  have hbl := bl_length b
  conv => whnf
  rw [hbl]
  cases g
  · have h2 := of_decide_eq_false h.symm
    rw [decide_eq_true (show ((b.length : Nat) : Int) > (m : Int) by omega)]
    conv => whnf
    and_intros <;> rfl
  · have h2 := of_decide_eq_true h.symm
    rw [decide_eq_false (show ¬ ((b.length : Nat) : Int) > (m : Int) by omega)]
    conv => whnf
    and_intros <;> rfl
theorem told_sound : Sound Tryz.prog 84 cTold := does_sound mixed tabOk_prog GamOk.nil Tryz.func84 told_does
def gToldR : List (FuncId × Ctr) := (84, cTold) :: gPutsR
theorem gToldR_ok : GamOk Tryz.prog gToldR := GamOk.cons gPutsR_ok Tryz.func84 (by kernel_rfl) (by kernel_rfl) told_sound
/-- A thing as bytes, if they are not too many. -/
abbrev cThing {X : Type} (kd : UInt8) (most : Nat) (enc : X → List UInt8) (av : X → AV) (ok : X → Prop) : Ctr := ⟨Bool × X, 0, fun (g, x) => [av x], fun _ => [],
  fun (g, x) => ok x ∧ (enc x).length ≤ 900000000000 ∧ g = decide (1 + (enc x).length ≤ most),
  fun (g, x) => match g with | true => .tuple [.rowf 0, isI .i64 0] | false => .tuple [.p true .nilsl, isI .i64 3],
  fun (g, x) => match g with | true => [(0, .row 5 1 true false (bl (kd :: enc x)))] | false => []⟩
abbrev cPutPart : Ctr := cThing 1 60000 en48 (fun x : S48 => .agg ((pv48 x).map avOf)) ok48
theorem PutPart_does : Does gToldR tab Tryz.f37 cPutPart := by
  rintro ⟨g, x⟩ ⟨h1, h2, h3⟩
  (set_option smartUnfolding false in conv => whnf)
  refine dI (k := ?_)
  (set_option smartUnfolding false in conv => whnf)
  refine ⟨([1], x), ?_⟩
  conv => whnf
  refine And.intro (by simp only [allP, List.nil_append, List.cons_append, true_and]; repeat' (first | assumption | rfl | refine And.intro ?_ ?_ | (simp only [List.length_cons, List.length_nil]; omega))) ?_
  (set_option smartUnfolding false in conv => whnf)
  have hlen : (1 :: en48 x).length = 1 + (en48 x).length := by rw [List.length_cons]; omega
  cases g
  · have h4 := of_decide_eq_false h3.symm
    refine ⟨(false, [1] ++ en48 x, 60000), ?_⟩
    conv => whnf
    refine And.intro (by simp only [allP, List.nil_append, List.cons_append, true_and]; repeat' (first | rfl | refine And.intro ?_ ?_ | exact (decide_eq_false (by rw [hlen]; omega)).symm | omega)) ?_
    (set_option smartUnfolding false in conv => whnf)
    and_intros <;> rfl
  · have h4 := of_decide_eq_true h3.symm
    refine ⟨(true, [1] ++ en48 x, 60000), ?_⟩
    conv => whnf
    refine And.intro (by simp only [allP, List.nil_append, List.cons_append, true_and]; repeat' (first | rfl | refine And.intro ?_ ?_ | exact (decide_eq_true (by rw [hlen]; omega)).symm | omega)) ?_
    (set_option smartUnfolding false in conv => whnf)
    and_intros <;> rfl
theorem PutPart_sound : Sound Tryz.prog 37 cPutPart := does_sound mixed tabOk_prog gToldR_ok Tryz.func37 PutPart_does
abbrev cPutRaft : Ctr := cThing 7 65545 en79 (fun x : S79 => .agg ((pv79 x).map avOf)) ok79
theorem PutRaft_does : Does gToldR tab Tryz.f38 cPutRaft := by
  rintro ⟨g, x⟩ ⟨h1, h2, h3⟩
  (set_option smartUnfolding false in conv => whnf)
  refine dI (k := ?_)
  (set_option smartUnfolding false in conv => whnf)
  refine ⟨([7], x), ?_⟩
  conv => whnf
  refine And.intro (by simp only [allP, List.nil_append, List.cons_append, true_and]; repeat' (first | assumption | rfl | refine And.intro ?_ ?_ | (simp only [List.length_cons, List.length_nil]; omega))) ?_
  (set_option smartUnfolding false in conv => whnf)
  have hlen : (7 :: en79 x).length = 1 + (en79 x).length := by rw [List.length_cons]; omega
  cases g
  · have h4 := of_decide_eq_false h3.symm
    refine ⟨(false, [7] ++ en79 x, 65545), ?_⟩
    conv => whnf
    refine And.intro (by simp only [allP, List.nil_append, List.cons_append, true_and]; repeat' (first | rfl | refine And.intro ?_ ?_ | exact (decide_eq_false (by rw [hlen]; omega)).symm | omega)) ?_
    (set_option smartUnfolding false in conv => whnf)
    and_intros <;> rfl
  · have h4 := of_decide_eq_true h3.symm
    refine ⟨(true, [7] ++ en79 x, 65545), ?_⟩
    conv => whnf
    refine And.intro (by simp only [allP, List.nil_append, List.cons_append, true_and]; repeat' (first | rfl | refine And.intro ?_ ?_ | exact (decide_eq_true (by rw [hlen]; omega)).symm | omega)) ?_
    (set_option smartUnfolding false in conv => whnf)
    and_intros <;> rfl
theorem PutRaft_sound : Sound Tryz.prog 38 cPutRaft := does_sound mixed tabOk_prog gToldR_ok Tryz.func38 PutRaft_does
def gT0 : List (FuncId × Ctr) := (37, cPutPart) :: gPutsR
theorem gT0_ok : GamOk Tryz.prog gT0 := GamOk.cons gPutsR_ok Tryz.func37 (by kernel_rfl) (by kernel_rfl) PutPart_sound
def gT1 : List (FuncId × Ctr) := (38, cPutRaft) :: gT0
theorem gT1_ok : GamOk Tryz.prog gT1 := GamOk.cons gT0_ok Tryz.func38 (by kernel_rfl) (by kernel_rfl) PutRaft_sound
def gThings1 : List (FuncId × Ctr) := gT1
theorem gThings1_ok : GamOk Tryz.prog gThings1 := gT1_ok
end Go.Proofs.YtingmlhhabaplaaGreat.Ev
