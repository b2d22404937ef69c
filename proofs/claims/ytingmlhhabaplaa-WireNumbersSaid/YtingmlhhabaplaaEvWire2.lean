/- Wire: things as bytes. No conditions. -/
import Derived.Test.YtingmlhhabaplaaEvWire1d
namespace Go.Proofs.Ytingmlhhabaplaa.Ev
open Go
set_option linter.unusedVariables false
set_option linter.unusedSimpArgs false
set_option maxRecDepth 100000
set_option maxHeartbeats 4000000
abbrev cTold : Ctr := ⟨Bool × List UInt8 × Nat, 2, fun (g, b, m) => [.ptr 0 0, isI .i64 m], fun (g, b, m) => [(0, .box [.rowf 1]), (1, .row 5 1 true false (bl b))],
  fun (g, b, m) => g = decide (b.length ≤ m), fun (g, b, m) => match g with | true => .tuple [.rowf 1, isI .i64 0] | false => .tuple [.p true .nilsl, isI .i64 3],
  fun (g, b, m) => [(0, .box [.rowf 1]), (1, .row 5 1 true false (bl b))]⟩
theorem told_does : Does [] tab Try.f32 cTold := by
  rintro ⟨g, b, m⟩ (h : g = decide (b.length ≤ m))
  have hbl := bl_length b
  conv => whnf
  rw [hbl]
  cases g
  · have h2 := of_decide_eq_false h.symm
    rw [decide_eq_true (show ((b.length : Nat) : Int) > (m : Int) by omega)]
    conv => whnf
    and_intros <;> rfl
  · have h2 := of_decide_eq_true h.symm
    rw [decide_eq_false (show ¬ ((b.length : Nat) : Int) > (m : Int) by omega)]
    conv => whnf
    and_intros <;> rfl
theorem told_sound : Sound Try.prog 32 cTold := does_sound mixed tabOk_prog GamOk.nil Try.func32 told_does
def gTold5 : List (FuncId × Ctr) := (32, cTold) :: gPuts5
theorem gTold5_ok : GamOk Try.prog gTold5 := GamOk.cons gPuts5_ok Try.func32 (by kernel_rfl) (by kernel_rfl) told_sound
/-- A thing as bytes, if they are not too many. -/
abbrev cThing {X : Type} (kd : UInt8) (most : Nat) (enc : X → List UInt8) (av : X → AV) (ok : X → Prop) : Ctr := ⟨Bool × X, 0, fun (g, x) => [av x], fun _ => [],
  fun (g, x) => ok x ∧ (enc x).length ≤ 900000000000 ∧ g = decide (1 + (enc x).length ≤ most),
  fun (g, x) => match g with | true => .tuple [.rowf 0, isI .i64 0] | false => .tuple [.p true .nilsl, isI .i64 3],
  fun (g, x) => match g with | true => [(0, .row 5 1 true false (bl (kd :: enc x)))] | false => []⟩
abbrev cPutPart : Ctr := cThing 1 60000 en27 (fun x : S27 => .agg ((pv27 x).map avOf)) ok27
theorem PutPart_does : Does gTold5 tab Try.f8 cPutPart := by
  rintro ⟨g, x⟩ ⟨h1, h2, h3⟩
  (set_option smartUnfolding false in conv => whnf)
  refine And.intro (by first | exact Nat.le_of_ble_eq_true rfl | exact ⟨Nat.le_of_ble_eq_true rfl, rfl⟩ | exact rfl | decide | (simp [allP]; done)) ?_
  (set_option smartUnfolding false in conv => whnf)
  refine ⟨([1], x), ?_⟩
  conv => whnf
  refine And.intro (by simp only [allP, List.nil_append, List.cons_append, true_and]; repeat' (first | assumption | rfl | refine And.intro ?_ ?_ | (simp only [List.length_cons, List.length_nil]; omega))) ?_
  (set_option smartUnfolding false in conv => whnf)
  have hlen : (1 :: en27 x).length = 1 + (en27 x).length := by rw [List.length_cons]; omega
  cases g
  · have h4 := of_decide_eq_false h3.symm
    refine ⟨(false, [1] ++ en27 x, 60000), ?_⟩
    conv => whnf
    refine And.intro (by simp only [allP, List.nil_append, List.cons_append, true_and]; repeat' (first | rfl | refine And.intro ?_ ?_ | exact (decide_eq_false (by rw [hlen]; omega)).symm | omega)) ?_
    (set_option smartUnfolding false in conv => whnf)
    and_intros <;> rfl
  · have h4 := of_decide_eq_true h3.symm
    refine ⟨(true, [1] ++ en27 x, 60000), ?_⟩
    conv => whnf
    refine And.intro (by simp only [allP, List.nil_append, List.cons_append, true_and]; repeat' (first | rfl | refine And.intro ?_ ?_ | exact (decide_eq_true (by rw [hlen]; omega)).symm | omega)) ?_
    (set_option smartUnfolding false in conv => whnf)
    and_intros <;> rfl
theorem PutPart_sound : Sound Try.prog 8 cPutPart := does_sound mixed tabOk_prog gTold5_ok Try.func8 PutPart_does
abbrev cPutMeta : Ctr := cThing 2 60000 en33 (fun x : S33 => .agg ((pv33 x).map avOf)) ok33
theorem PutMeta_does : Does gTold5 tab Try.f11 cPutMeta := by
  rintro ⟨g, x⟩ ⟨h1, h2, h3⟩
  (set_option smartUnfolding false in conv => whnf)
  refine And.intro (by first | exact Nat.le_of_ble_eq_true rfl | exact ⟨Nat.le_of_ble_eq_true rfl, rfl⟩ | exact rfl | decide | (simp [allP]; done)) ?_
  (set_option smartUnfolding false in conv => whnf)
  refine ⟨([2], x), ?_⟩
  conv => whnf
  refine And.intro (by simp only [allP, List.nil_append, List.cons_append, true_and]; repeat' (first | assumption | rfl | refine And.intro ?_ ?_ | (simp only [List.length_cons, List.length_nil]; omega))) ?_
  (set_option smartUnfolding false in conv => whnf)
  have hlen : (2 :: en33 x).length = 1 + (en33 x).length := by rw [List.length_cons]; omega
  cases g
  · have h4 := of_decide_eq_false h3.symm
    refine ⟨(false, [2] ++ en33 x, 60000), ?_⟩
    conv => whnf
    refine And.intro (by simp only [allP, List.nil_append, List.cons_append, true_and]; repeat' (first | rfl | refine And.intro ?_ ?_ | exact (decide_eq_false (by rw [hlen]; omega)).symm | omega)) ?_
    (set_option smartUnfolding false in conv => whnf)
    and_intros <;> rfl
  · have h4 := of_decide_eq_true h3.symm
    refine ⟨(true, [2] ++ en33 x, 60000), ?_⟩
    conv => whnf
    refine And.intro (by simp only [allP, List.nil_append, List.cons_append, true_and]; repeat' (first | rfl | refine And.intro ?_ ?_ | exact (decide_eq_true (by rw [hlen]; omega)).symm | omega)) ?_
    (set_option smartUnfolding false in conv => whnf)
    and_intros <;> rfl
theorem PutMeta_sound : Sound Try.prog 11 cPutMeta := does_sound mixed tabOk_prog gTold5_ok Try.func11 PutMeta_does
abbrev cPutRequest : Ctr := cThing 5 60000 en47 (fun x : S47 => .agg ((pv47 x).map avOf)) ok47
theorem PutRequest_does : Does gTold5 tab Try.f15 cPutRequest := by
  rintro ⟨g, x⟩ ⟨h1, h2, h3⟩
  (set_option smartUnfolding false in conv => whnf)
  refine And.intro (by first | exact Nat.le_of_ble_eq_true rfl | exact ⟨Nat.le_of_ble_eq_true rfl, rfl⟩ | exact rfl | decide | (simp [allP]; done)) ?_
  (set_option smartUnfolding false in conv => whnf)
  refine ⟨([5], x), ?_⟩
  conv => whnf
  refine And.intro (by simp only [allP, List.nil_append, List.cons_append, true_and]; repeat' (first | assumption | rfl | refine And.intro ?_ ?_ | (simp only [List.length_cons, List.length_nil]; omega))) ?_
  (set_option smartUnfolding false in conv => whnf)
  have hlen : (5 :: en47 x).length = 1 + (en47 x).length := by rw [List.length_cons]; omega
  cases g
  · have h4 := of_decide_eq_false h3.symm
    refine ⟨(false, [5] ++ en47 x, 60000), ?_⟩
    conv => whnf
    refine And.intro (by simp only [allP, List.nil_append, List.cons_append, true_and]; repeat' (first | rfl | refine And.intro ?_ ?_ | exact (decide_eq_false (by rw [hlen]; omega)).symm | omega)) ?_
    (set_option smartUnfolding false in conv => whnf)
    and_intros <;> rfl
  · have h4 := of_decide_eq_true h3.symm
    refine ⟨(true, [5] ++ en47 x, 60000), ?_⟩
    conv => whnf
    refine And.intro (by simp only [allP, List.nil_append, List.cons_append, true_and]; repeat' (first | rfl | refine And.intro ?_ ?_ | exact (decide_eq_true (by rw [hlen]; omega)).symm | omega)) ?_
    (set_option smartUnfolding false in conv => whnf)
    and_intros <;> rfl
theorem PutRequest_sound : Sound Try.prog 15 cPutRequest := does_sound mixed tabOk_prog gTold5_ok Try.func15 PutRequest_does
abbrev cPutResponse : Ctr := cThing 6 60000 en53 (fun x : S53 => .agg ((pv53 x).map avOf)) ok53
theorem PutResponse_does : Does gTold5 tab Try.f17 cPutResponse := by
  rintro ⟨g, x⟩ ⟨h1, h2, h3⟩
  (set_option smartUnfolding false in conv => whnf)
  refine And.intro (by first | exact Nat.le_of_ble_eq_true rfl | exact ⟨Nat.le_of_ble_eq_true rfl, rfl⟩ | exact rfl | decide | (simp [allP]; done)) ?_
  (set_option smartUnfolding false in conv => whnf)
  refine ⟨([6], x), ?_⟩
  conv => whnf
  refine And.intro (by simp only [allP, List.nil_append, List.cons_append, true_and]; repeat' (first | assumption | rfl | refine And.intro ?_ ?_ | (simp only [List.length_cons, List.length_nil]; omega))) ?_
  (set_option smartUnfolding false in conv => whnf)
  have hlen : (6 :: en53 x).length = 1 + (en53 x).length := by rw [List.length_cons]; omega
  cases g
  · have h4 := of_decide_eq_false h3.symm
    refine ⟨(false, [6] ++ en53 x, 60000), ?_⟩
    conv => whnf
    refine And.intro (by simp only [allP, List.nil_append, List.cons_append, true_and]; repeat' (first | rfl | refine And.intro ?_ ?_ | exact (decide_eq_false (by rw [hlen]; omega)).symm | omega)) ?_
    (set_option smartUnfolding false in conv => whnf)
    and_intros <;> rfl
  · have h4 := of_decide_eq_true h3.symm
    refine ⟨(true, [6] ++ en53 x, 60000), ?_⟩
    conv => whnf
    refine And.intro (by simp only [allP, List.nil_append, List.cons_append, true_and]; repeat' (first | rfl | refine And.intro ?_ ?_ | exact (decide_eq_true (by rw [hlen]; omega)).symm | omega)) ?_
    (set_option smartUnfolding false in conv => whnf)
    and_intros <;> rfl
theorem PutResponse_sound : Sound Try.prog 17 cPutResponse := does_sound mixed tabOk_prog gTold5_ok Try.func17 PutResponse_does
abbrev cPutRaft : Ctr := cThing 7 65545 en57 (fun x : S57 => .agg ((pv57 x).map avOf)) ok57
theorem PutRaft_does : Does gTold5 tab Try.f19 cPutRaft := by
  rintro ⟨g, x⟩ ⟨h1, h2, h3⟩
  (set_option smartUnfolding false in conv => whnf)
  refine And.intro (by first | exact Nat.le_of_ble_eq_true rfl | exact ⟨Nat.le_of_ble_eq_true rfl, rfl⟩ | exact rfl | decide | (simp [allP]; done)) ?_
  (set_option smartUnfolding false in conv => whnf)
  refine ⟨([7], x), ?_⟩
  conv => whnf
  refine And.intro (by simp only [allP, List.nil_append, List.cons_append, true_and]; repeat' (first | assumption | rfl | refine And.intro ?_ ?_ | (simp only [List.length_cons, List.length_nil]; omega))) ?_
  (set_option smartUnfolding false in conv => whnf)
  have hlen : (7 :: en57 x).length = 1 + (en57 x).length := by rw [List.length_cons]; omega
  cases g
  · have h4 := of_decide_eq_false h3.symm
    refine ⟨(false, [7] ++ en57 x, 65545), ?_⟩
    conv => whnf
    refine And.intro (by simp only [allP, List.nil_append, List.cons_append, true_and]; repeat' (first | rfl | refine And.intro ?_ ?_ | exact (decide_eq_false (by rw [hlen]; omega)).symm | omega)) ?_
    (set_option smartUnfolding false in conv => whnf)
    and_intros <;> rfl
  · have h4 := of_decide_eq_true h3.symm
    refine ⟨(true, [7] ++ en57 x, 65545), ?_⟩
    conv => whnf
    refine And.intro (by simp only [allP, List.nil_append, List.cons_append, true_and]; repeat' (first | rfl | refine And.intro ?_ ?_ | exact (decide_eq_true (by rw [hlen]; omega)).symm | omega)) ?_
    (set_option smartUnfolding false in conv => whnf)
    and_intros <;> rfl
theorem PutRaft_sound : Sound Try.prog 19 cPutRaft := does_sound mixed tabOk_prog gTold5_ok Try.func19 PutRaft_does
def gT0 : List (FuncId × Ctr) := (8, cPutPart) :: gPuts5
theorem gT0_ok : GamOk Try.prog gT0 := GamOk.cons gPuts5_ok Try.func8 (by kernel_rfl) (by kernel_rfl) PutPart_sound
def gT1 : List (FuncId × Ctr) := (11, cPutMeta) :: gT0
theorem gT1_ok : GamOk Try.prog gT1 := GamOk.cons gT0_ok Try.func11 (by kernel_rfl) (by kernel_rfl) PutMeta_sound
def gT2 : List (FuncId × Ctr) := (15, cPutRequest) :: gT1
theorem gT2_ok : GamOk Try.prog gT2 := GamOk.cons gT1_ok Try.func15 (by kernel_rfl) (by kernel_rfl) PutRequest_sound
def gT3 : List (FuncId × Ctr) := (17, cPutResponse) :: gT2
theorem gT3_ok : GamOk Try.prog gT3 := GamOk.cons gT2_ok Try.func17 (by kernel_rfl) (by kernel_rfl) PutResponse_sound
def gT4 : List (FuncId × Ctr) := (19, cPutRaft) :: gT3
theorem gT4_ok : GamOk Try.prog gT4 := GamOk.cons gT3_ok Try.func19 (by kernel_rfl) (by kernel_rfl) PutRaft_sound
def gThings5 : List (FuncId × Ctr) := gT4
theorem gThings5_ok : GamOk Try.prog gThings5 := gT4_ok
end Go.Proofs.Ytingmlhhabaplaa.Ev
