/- Wire: things as bytes. No conditions. -/
import Derived.Test.YtingmlhhabaplaaGreatEvWire2b
namespace Go.Proofs.YtingmlhhabaplaaGreat.Ev
open Go
set_option linter.unusedVariables false
set_option linter.unusedSimpArgs false
set_option maxRecDepth 100000
set_option maxHeartbeats 4000000
/-- A thing's bytes, or none. -/
def oT {X : Type} (kd : UInt8) (enc : X → List UInt8) (g : Bool) (x : X) : List UInt8 := match g with
  | true => kd :: enc x
  | false => []
def eT : Bool → Int
  | true => 0
  | false => 3
abbrev cThing2 {X : Type} (kd : UInt8) (most : Nat) (enc : X → List UInt8) (av : X → AV) (ok : X → Prop) : Ctr := ⟨Bool × X, 0, fun (g, x) => [av x], fun _ => [],
  fun (g, x) => ok x ∧ (enc x).length ≤ 900000000000 ∧ g = decide (1 + (enc x).length ≤ most),
  fun (g, x) => .tuple [.p true (.sl 1 (bl (oT kd enc g x))), isI .i64 (eT g)], fun _ => []⟩
abbrev dPutPart : Ctr := cThing2 1 60000 en48 (fun x : S48 => .agg ((pv48 x).map avOf)) ok48
theorem PutPart_does2 : Does gTold tab Tryz.f37 dPutPart := by
  rintro ⟨g, x⟩ ⟨h1, h2, h3⟩
  (set_option smartUnfolding false in conv => whnf)
  refine dI (k := ?_)
  (set_option smartUnfolding false in conv => whnf)
  refine ⟨([1], x), ?_⟩
  conv => whnf
  refine And.intro (by simp only [allP, List.nil_append, List.cons_append, true_and]; repeat' (first | assumption | rfl | refine And.intro ?_ ?_ | (simp only [List.length_cons, List.length_nil]; omega))) ?_
  (set_option smartUnfolding false in conv => whnf)
  have hlen : (1 :: en48 x).length = 1 + (en48 x).length := by rw [List.length_cons]; omega
  cases g
  · have h4 := of_decide_eq_false h3.symm
    refine ⟨(false, [1] ++ en48 x, 60000), ?_⟩
    conv => whnf
    refine And.intro (by simp only [allP, List.nil_append, List.cons_append, true_and]; repeat' (first | rfl | refine And.intro ?_ ?_ | exact (decide_eq_false (by rw [hlen]; omega)).symm | omega)) ?_
    (set_option smartUnfolding false in conv => whnf)
    and_intros <;> rfl
  · have h4 := of_decide_eq_true h3.symm
    refine ⟨(true, [1] ++ en48 x, 60000), ?_⟩
    conv => whnf
    refine And.intro (by simp only [allP, List.nil_append, List.cons_append, true_and]; repeat' (first | rfl | refine And.intro ?_ ?_ | exact (decide_eq_true (by rw [hlen]; omega)).symm | omega)) ?_
    (set_option smartUnfolding false in conv => whnf)
    and_intros <;> rfl
theorem PutPart_sound2 : Sound Tryz.prog 37 dPutPart := does_sound mixed tabOk_prog gTold_ok Tryz.func37 PutPart_does2
abbrev dPutRaft : Ctr := cThing2 7 65545 en79 (fun x : S79 => .agg ((pv79 x).map avOf)) ok79
theorem PutRaft_does2 : Does gTold tab Tryz.f38 dPutRaft := by
  rintro ⟨g, x⟩ ⟨h1, h2, h3⟩
  (set_option smartUnfolding false in conv => whnf)
  refine dI (k := ?_)
  (set_option smartUnfolding false in conv => whnf)
  refine ⟨([7], x), ?_⟩
  conv => whnf
  refine And.intro (by simp only [allP, List.nil_append, List.cons_append, true_and]; repeat' (first | assumption | rfl | refine And.intro ?_ ?_ | (simp only [List.length_cons, List.length_nil]; omega))) ?_
  (set_option smartUnfolding false in conv => whnf)
  have hlen : (7 :: en79 x).length = 1 + (en79 x).length := by rw [List.length_cons]; omega
  cases g
  · have h4 := of_decide_eq_false h3.symm
    refine ⟨(false, [7] ++ en79 x, 65545), ?_⟩
    conv => whnf
    refine And.intro (by simp only [allP, List.nil_append, List.cons_append, true_and]; repeat' (first | rfl | refine And.intro ?_ ?_ | exact (decide_eq_false (by rw [hlen]; omega)).symm | omega)) ?_
    (set_option smartUnfolding false in conv => whnf)
    and_intros <;> rfl
  · have h4 := of_decide_eq_true h3.symm
    refine ⟨(true, [7] ++ en79 x, 65545), ?_⟩
    conv => whnf
    refine And.intro (by simp only [allP, List.nil_append, List.cons_append, true_and]; repeat' (first | rfl | refine And.intro ?_ ?_ | exact (decide_eq_true (by rw [hlen]; omega)).symm | omega)) ?_
    (set_option smartUnfolding false in conv => whnf)
    and_intros <;> rfl
theorem PutRaft_sound2 : Sound Tryz.prog 38 dPutRaft := does_sound mixed tabOk_prog gTold_ok Tryz.func38 PutRaft_does2
abbrev dPutMeta : Ctr := cThing2 2 60000 en57 (fun x : S57 => .agg ((pv57 x).map avOf)) ok57
theorem PutMeta_does2 : Does gTold tab Tryz.f78 dPutMeta := by
  rintro ⟨g, x⟩ ⟨h1, h2, h3⟩
  (set_option smartUnfolding false in conv => whnf)
  refine dI (k := ?_)
  (set_option smartUnfolding false in conv => whnf)
  refine ⟨([2], x), ?_⟩
  conv => whnf
  refine And.intro (by simp only [allP, List.nil_append, List.cons_append, true_and]; repeat' (first | assumption | rfl | refine And.intro ?_ ?_ | (simp only [List.length_cons, List.length_nil]; omega))) ?_
  (set_option smartUnfolding false in conv => whnf)
  have hlen : (2 :: en57 x).length = 1 + (en57 x).length := by rw [List.length_cons]; omega
  cases g
  · have h4 := of_decide_eq_false h3.symm
    refine ⟨(false, [2] ++ en57 x, 60000), ?_⟩
    conv => whnf
    refine And.intro (by simp only [allP, List.nil_append, List.cons_append, true_and]; repeat' (first | rfl | refine And.intro ?_ ?_ | exact (decide_eq_false (by rw [hlen]; omega)).symm | omega)) ?_
    (set_option smartUnfolding false in conv => whnf)
    and_intros <;> rfl
  · have h4 := of_decide_eq_true h3.symm
    refine ⟨(true, [2] ++ en57 x, 60000), ?_⟩
    conv => whnf
    refine And.intro (by simp only [allP, List.nil_append, List.cons_append, true_and]; repeat' (first | rfl | refine And.intro ?_ ?_ | exact (decide_eq_true (by rw [hlen]; omega)).symm | omega)) ?_
    (set_option smartUnfolding false in conv => whnf)
    and_intros <;> rfl
theorem PutMeta_sound2 : Sound Tryz.prog 78 dPutMeta := does_sound mixed tabOk_prog gTold_ok Tryz.func78 PutMeta_does2
abbrev dPutRequest : Ctr := cThing2 5 60000 en63 (fun x : S63 => .agg ((pv63 x).map avOf)) ok63
theorem PutRequest_does2 : Does gTold tab Tryz.f81 dPutRequest := by
  rintro ⟨g, x⟩ ⟨h1, h2, h3⟩
  (set_option smartUnfolding false in conv => whnf)
  refine dI (k := ?_)
  (set_option smartUnfolding false in conv => whnf)
  refine ⟨([5], x), ?_⟩
  conv => whnf
  refine And.intro (by simp only [allP, List.nil_append, List.cons_append, true_and]; repeat' (first | assumption | rfl | refine And.intro ?_ ?_ | (simp only [List.length_cons, List.length_nil]; omega))) ?_
  (set_option smartUnfolding false in conv => whnf)
  have hlen : (5 :: en63 x).length = 1 + (en63 x).length := by rw [List.length_cons]; omega
  cases g
  · have h4 := of_decide_eq_false h3.symm
    refine ⟨(false, [5] ++ en63 x, 60000), ?_⟩
    conv => whnf
    refine And.intro (by simp only [allP, List.nil_append, List.cons_append, true_and]; repeat' (first | rfl | refine And.intro ?_ ?_ | exact (decide_eq_false (by rw [hlen]; omega)).symm | omega)) ?_
    (set_option smartUnfolding false in conv => whnf)
    and_intros <;> rfl
  · have h4 := of_decide_eq_true h3.symm
    refine ⟨(true, [5] ++ en63 x, 60000), ?_⟩
    conv => whnf
    refine And.intro (by simp only [allP, List.nil_append, List.cons_append, true_and]; repeat' (first | rfl | refine And.intro ?_ ?_ | exact (decide_eq_true (by rw [hlen]; omega)).symm | omega)) ?_
    (set_option smartUnfolding false in conv => whnf)
    and_intros <;> rfl
theorem PutRequest_sound2 : Sound Tryz.prog 81 dPutRequest := does_sound mixed tabOk_prog gTold_ok Tryz.func81 PutRequest_does2
abbrev dPutResponse : Ctr := cThing2 6 60000 en72 (fun x : S72 => .agg ((pv72 x).map avOf)) ok72
theorem PutResponse_does2 : Does gTold tab Tryz.f82 dPutResponse := by
  rintro ⟨g, x⟩ ⟨h1, h2, h3⟩
  (set_option smartUnfolding false in conv => whnf)
  refine dI (k := ?_)
  (set_option smartUnfolding false in conv => whnf)
  refine ⟨([6], x), ?_⟩
  conv => whnf
  refine And.intro (by simp only [allP, List.nil_append, List.cons_append, true_and]; repeat' (first | assumption | rfl | refine And.intro ?_ ?_ | (simp only [List.length_cons, List.length_nil]; omega))) ?_
  (set_option smartUnfolding false in conv => whnf)
  have hlen : (6 :: en72 x).length = 1 + (en72 x).length := by rw [List.length_cons]; omega
  cases g
  · have h4 := of_decide_eq_false h3.symm
    refine ⟨(false, [6] ++ en72 x, 60000), ?_⟩
    conv => whnf
    refine And.intro (by simp only [allP, List.nil_append, List.cons_append, true_and]; repeat' (first | rfl | refine And.intro ?_ ?_ | exact (decide_eq_false (by rw [hlen]; omega)).symm | omega)) ?_
    (set_option smartUnfolding false in conv => whnf)
    and_intros <;> rfl
  · have h4 := of_decide_eq_true h3.symm
    refine ⟨(true, [6] ++ en72 x, 60000), ?_⟩
    conv => whnf
    refine And.intro (by simp only [allP, List.nil_append, List.cons_append, true_and]; repeat' (first | rfl | refine And.intro ?_ ?_ | exact (decide_eq_true (by rw [hlen]; omega)).symm | omega)) ?_
    (set_option smartUnfolding false in conv => whnf)
    and_intros <;> rfl
theorem PutResponse_sound2 : Sound Tryz.prog 82 dPutResponse := does_sound mixed tabOk_prog gTold_ok Tryz.func82 PutResponse_does2
abbrev dPutParts : Ctr := cThing2 3 60000 en28 (fun x : S28 => .agg ((pv28 x).map avOf)) ok28
theorem PutParts_does2 : Does gTold tab Tryz.f79 dPutParts := by
  rintro ⟨g, x⟩ ⟨h1, h2, h3⟩
  (set_option smartUnfolding false in conv => whnf)
  refine dI (k := ?_)
  (set_option smartUnfolding false in conv => whnf)
  refine ⟨([3], x), ?_⟩
  conv => whnf
  refine And.intro (by simp only [allP, List.nil_append, List.cons_append, true_and]; repeat' (first | assumption | rfl | refine And.intro ?_ ?_ | (simp only [List.length_cons, List.length_nil]; omega))) ?_
  (set_option smartUnfolding false in conv => whnf)
  have hlen : (3 :: en28 x).length = 1 + (en28 x).length := by rw [List.length_cons]; omega
  cases g
  · have h4 := of_decide_eq_false h3.symm
    refine ⟨(false, [3] ++ en28 x, 60000), ?_⟩
    conv => whnf
    refine And.intro (by simp only [allP, List.nil_append, List.cons_append, true_and]; repeat' (first | rfl | refine And.intro ?_ ?_ | exact (decide_eq_false (by rw [hlen]; omega)).symm | omega)) ?_
    (set_option smartUnfolding false in conv => whnf)
    and_intros <;> rfl
  · have h4 := of_decide_eq_true h3.symm
    refine ⟨(true, [3] ++ en28 x, 60000), ?_⟩
    conv => whnf
    refine And.intro (by simp only [allP, List.nil_append, List.cons_append, true_and]; repeat' (first | rfl | refine And.intro ?_ ?_ | exact (decide_eq_true (by rw [hlen]; omega)).symm | omega)) ?_
    (set_option smartUnfolding false in conv => whnf)
    and_intros <;> rfl
theorem PutParts_sound2 : Sound Tryz.prog 79 dPutParts := does_sound mixed tabOk_prog gTold_ok Tryz.func79 PutParts_does2
abbrev dPutMetas : Ctr := cThing2 4 60000 en37 (fun x : S37 => .agg ((pv37 x).map avOf)) ok37
theorem PutMetas_does2 : Does gTold tab Tryz.f80 dPutMetas := by
  rintro ⟨g, x⟩ ⟨h1, h2, h3⟩
  (set_option smartUnfolding false in conv => whnf)
  refine dI (k := ?_)
  (set_option smartUnfolding false in conv => whnf)
  refine ⟨([4], x), ?_⟩
  conv => whnf
  refine And.intro (by simp only [allP, List.nil_append, List.cons_append, true_and]; repeat' (first | assumption | rfl | refine And.intro ?_ ?_ | (simp only [List.length_cons, List.length_nil]; omega))) ?_
  (set_option smartUnfolding false in conv => whnf)
  have hlen : (4 :: en37 x).length = 1 + (en37 x).length := by rw [List.length_cons]; omega
  cases g
  · have h4 := of_decide_eq_false h3.symm
    refine ⟨(false, [4] ++ en37 x, 60000), ?_⟩
    conv => whnf
    refine And.intro (by simp only [allP, List.nil_append, List.cons_append, true_and]; repeat' (first | rfl | refine And.intro ?_ ?_ | exact (decide_eq_false (by rw [hlen]; omega)).symm | omega)) ?_
    (set_option smartUnfolding false in conv => whnf)
    and_intros <;> rfl
  · have h4 := of_decide_eq_true h3.symm
    refine ⟨(true, [4] ++ en37 x, 60000), ?_⟩
    conv => whnf
    refine And.intro (by simp only [allP, List.nil_append, List.cons_append, true_and]; repeat' (first | rfl | refine And.intro ?_ ?_ | exact (decide_eq_true (by rw [hlen]; omega)).symm | omega)) ?_
    (set_option smartUnfolding false in conv => whnf)
    and_intros <;> rfl
theorem PutMetas_sound2 : Sound Tryz.prog 80 dPutMetas := does_sound mixed tabOk_prog gTold_ok Tryz.func80 PutMetas_does2
def gU0 : List (FuncId × Ctr) := (37, dPutPart) :: gTold
theorem gU0_ok : GamOk Tryz.prog gU0 := GamOk.cons gTold_ok Tryz.func37 (by kernel_rfl) (by kernel_rfl) PutPart_sound2
def gU1 : List (FuncId × Ctr) := (38, dPutRaft) :: gU0
theorem gU1_ok : GamOk Tryz.prog gU1 := GamOk.cons gU0_ok Tryz.func38 (by kernel_rfl) (by kernel_rfl) PutRaft_sound2
def gU2 : List (FuncId × Ctr) := (78, dPutMeta) :: gU1
theorem gU2_ok : GamOk Tryz.prog gU2 := GamOk.cons gU1_ok Tryz.func78 (by kernel_rfl) (by kernel_rfl) PutMeta_sound2
def gU3 : List (FuncId × Ctr) := (81, dPutRequest) :: gU2
theorem gU3_ok : GamOk Tryz.prog gU3 := GamOk.cons gU2_ok Tryz.func81 (by kernel_rfl) (by kernel_rfl) PutRequest_sound2
def gU4 : List (FuncId × Ctr) := (82, dPutResponse) :: gU3
theorem gU4_ok : GamOk Tryz.prog gU4 := GamOk.cons gU3_ok Tryz.func82 (by kernel_rfl) (by kernel_rfl) PutResponse_sound2
def gU5 : List (FuncId × Ctr) := (79, dPutParts) :: gU4
theorem gU5_ok : GamOk Tryz.prog gU5 := GamOk.cons gU4_ok Tryz.func79 (by kernel_rfl) (by kernel_rfl) PutParts_sound2
def gU6 : List (FuncId × Ctr) := (80, dPutMetas) :: gU5
theorem gU6_ok : GamOk Tryz.prog gU6 := GamOk.cons gU5_ok Tryz.func80 (by kernel_rfl) (by kernel_rfl) PutMetas_sound2
def gPutsU : List (FuncId × Ctr) := gU6
theorem gPutsU_ok : GamOk Tryz.prog gPutsU := gU6_ok
end Go.Proofs.YtingmlhhabaplaaGreat.Ev
