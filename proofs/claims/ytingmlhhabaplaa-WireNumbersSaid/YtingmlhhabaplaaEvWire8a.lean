/- Wire: what the program reads: things got. No conditions. -/
import Derived.Test.YtingmlhhabaplaaEvWire8
namespace Go.Proofs.Ytingmlhhabaplaa.Ev
open Go
set_option linter.unusedVariables false
set_option linter.unusedSimpArgs false
set_option maxRecDepth 100000
set_option maxHeartbeats 4000000
def z27 : S27 := (0, (0, 0, 0, []), 0)
abbrev cGetPart : Ctr := cGet2 gt27 1 60000 z27 (fun x : S27 => .agg ((pv27 x).map (AV.p true)))
theorem GetPart_does : Does gBW tab Try.f21 cGetPart := by
  rintro l -
  have hl := gBg_len 1 60000 l
  (set_option smartUnfolding false in conv => whnf)
  refine ⟨(l, 1, 60000), ?_⟩
  conv => whnf
  refine And.intro (by simp only [allP, List.nil_append, List.cons_append, true_and]; and_intros <;> first | exact trivial | rfl) ?_
  (set_option smartUnfolding false in conv => whnf)
  refine ⟨(gBg 1 60000 l), ?_⟩
  conv => whnf
  refine And.intro (by simp only [allP, List.nil_append, List.cons_append, true_and]; and_intros <;> first | (show (gBg 1 60000 l).1.length ≤ 1000000; omega) | rfl) ?_
  (set_option smartUnfolding false in conv => whnf)
  have hg : gGet gt27 1 60000 z27 l = gEnd z27 (gt27 (gBg 1 60000 l)) := rfl
  generalize gt27 (gBg 1 60000 l) = q at hg ⊢
  obtain ⟨x, r, bad⟩ := q
  refine And.intro (by first | exact Nat.le_of_ble_eq_true rfl | exact ⟨Nat.le_of_ble_eq_true rfl, rfl⟩ | exact rfl | decide | (simp [allP]; done)) ?_
  (set_option smartUnfolding false in conv => whnf)
  refine ⟨(r, bad), ?_⟩
  conv => whnf
  refine And.intro (by simp only [allP, List.nil_append, List.cons_append, true_and]; and_intros <;> first | exact trivial | rfl) ?_
  (set_option smartUnfolding false in conv => whnf)
  rcases bad with _ | _ <;> rcases r with _ | ⟨y, r⟩
  · (set_option smartUnfolding false in conv => whnf)
    refine And.intro (by first | exact Nat.le_of_ble_eq_true rfl | exact ⟨Nat.le_of_ble_eq_true rfl, rfl⟩ | exact rfl | decide | (simp [allP]; done)) ?_
    (set_option smartUnfolding false in conv => whnf)
    refine And.intro (by first | exact Nat.le_of_ble_eq_true rfl | exact ⟨Nat.le_of_ble_eq_true rfl, rfl⟩ | exact rfl | decide | (simp [allP]; done)) ?_
    (set_option smartUnfolding false in conv => whnf)
    refine And.intro (by first | exact Nat.le_of_ble_eq_true rfl | exact ⟨Nat.le_of_ble_eq_true rfl, rfl⟩ | exact rfl | decide | (simp [allP]; done)) ?_
    (set_option smartUnfolding false in conv => whnf)
    rw [hg]
    and_intros <;> first | rfl | exact trivial | (simp [pvle]; done)
  all_goals
    (set_option smartUnfolding false in conv => whnf)
    refine And.intro (by first | exact Nat.le_of_ble_eq_true rfl | exact ⟨Nat.le_of_ble_eq_true rfl, rfl⟩ | exact rfl | decide | (simp [allP]; done)) ?_
    (set_option smartUnfolding false in conv => whnf)
    refine And.intro (by first | exact Nat.le_of_ble_eq_true rfl | exact ⟨Nat.le_of_ble_eq_true rfl, rfl⟩ | exact rfl | decide | (simp [allP]; done)) ?_
    (set_option smartUnfolding false in conv => whnf)
    rw [hg]
    and_intros <;> first | rfl | exact trivial | (simp [pvle, z27]; done)
theorem GetPart_sound : Sound Try.prog 21 cGetPart := does_sound mixed tabOk_prog gBW_ok Try.func21 GetPart_does
def gY1 : List (FuncId × Ctr) := (21, cGetPart) :: gBW
theorem gY1_ok : GamOk Try.prog gY1 := GamOk.cons gBW_ok Try.func21 (by kernel_rfl) (by kernel_rfl) GetPart_sound
def z33 : S33 := (0, ⟨#[]⟩, ⟨#[]⟩, 0, [], (⟨#[]⟩, 0), 0, 0, 0, 0)
abbrev cGetMeta : Ctr := cGet2 gt33 2 60000 z33 (fun x : S33 => .agg ((pv33 x).map (AV.p true)))
theorem GetMeta_does : Does gY1 tab Try.f22 cGetMeta := by
  rintro l -
  have hl := gBg_len 2 60000 l
  (set_option smartUnfolding false in conv => whnf)
  refine ⟨(l, 2, 60000), ?_⟩
  conv => whnf
  refine And.intro (by simp only [allP, List.nil_append, List.cons_append, true_and]; and_intros <;> first | exact trivial | rfl) ?_
  (set_option smartUnfolding false in conv => whnf)
  refine ⟨(gBg 2 60000 l), ?_⟩
  conv => whnf
  refine And.intro (by simp only [allP, List.nil_append, List.cons_append, true_and]; and_intros <;> first | (show (gBg 2 60000 l).1.length ≤ 1000000; omega) | rfl) ?_
  (set_option smartUnfolding false in conv => whnf)
  have hg : gGet gt33 2 60000 z33 l = gEnd z33 (gt33 (gBg 2 60000 l)) := rfl
  generalize gt33 (gBg 2 60000 l) = q at hg ⊢
  obtain ⟨x, r, bad⟩ := q
  refine And.intro (by first | exact Nat.le_of_ble_eq_true rfl | exact ⟨Nat.le_of_ble_eq_true rfl, rfl⟩ | exact rfl | decide | (simp [allP]; done)) ?_
  (set_option smartUnfolding false in conv => whnf)
  refine ⟨(r, bad), ?_⟩
  conv => whnf
  refine And.intro (by simp only [allP, List.nil_append, List.cons_append, true_and]; and_intros <;> first | exact trivial | rfl) ?_
  (set_option smartUnfolding false in conv => whnf)
  rcases bad with _ | _ <;> rcases r with _ | ⟨y, r⟩
  · (set_option smartUnfolding false in conv => whnf)
    refine And.intro (by first | exact Nat.le_of_ble_eq_true rfl | exact ⟨Nat.le_of_ble_eq_true rfl, rfl⟩ | exact rfl | decide | (simp [allP]; done)) ?_
    (set_option smartUnfolding false in conv => whnf)
    refine And.intro (by first | exact Nat.le_of_ble_eq_true rfl | exact ⟨Nat.le_of_ble_eq_true rfl, rfl⟩ | exact rfl | decide | (simp [allP]; done)) ?_
    (set_option smartUnfolding false in conv => whnf)
    refine And.intro (by first | exact Nat.le_of_ble_eq_true rfl | exact ⟨Nat.le_of_ble_eq_true rfl, rfl⟩ | exact rfl | decide | (simp [allP]; done)) ?_
    (set_option smartUnfolding false in conv => whnf)
    rw [hg]
    and_intros <;> first | rfl | exact trivial | (simp [pvle]; done)
  all_goals
    (set_option smartUnfolding false in conv => whnf)
    refine And.intro (by first | exact Nat.le_of_ble_eq_true rfl | exact ⟨Nat.le_of_ble_eq_true rfl, rfl⟩ | exact rfl | decide | (simp [allP]; done)) ?_
    (set_option smartUnfolding false in conv => whnf)
    refine And.intro (by first | exact Nat.le_of_ble_eq_true rfl | exact ⟨Nat.le_of_ble_eq_true rfl, rfl⟩ | exact rfl | decide | (simp [allP]; done)) ?_
    (set_option smartUnfolding false in conv => whnf)
    rw [hg]
    and_intros <;> first | rfl | exact trivial | (simp [pvle, z33]; done)
theorem GetMeta_sound : Sound Try.prog 22 cGetMeta := does_sound mixed tabOk_prog gY1_ok Try.func22 GetMeta_does
def gY2 : List (FuncId × Ctr) := (22, cGetMeta) :: gY1
theorem gY2_ok : GamOk Try.prog gY2 := GamOk.cons gY1_ok Try.func22 (by kernel_rfl) (by kernel_rfl) GetMeta_sound
def z53 : S53 := (0, 0, 0, 0, 0, 0, 0, 0, false, [], (0, 0, 0, 0, 0, []))
abbrev cGetResponse : Ctr := cGet2 gt53 6 60000 z53 (fun x : S53 => .agg ((pv53 x).map (AV.p true)))
theorem GetResponse_does : Does gY2 tab Try.f25 cGetResponse := by
  rintro l -
  have hl := gBg_len 6 60000 l
  (set_option smartUnfolding false in conv => whnf)
  refine ⟨(l, 6, 60000), ?_⟩
  conv => whnf
  refine And.intro (by simp only [allP, List.nil_append, List.cons_append, true_and]; and_intros <;> first | exact trivial | rfl) ?_
  (set_option smartUnfolding false in conv => whnf)
  refine ⟨(gBg 6 60000 l), ?_⟩
  conv => whnf
  refine And.intro (by simp only [allP, List.nil_append, List.cons_append, true_and]; and_intros <;> first | (show (gBg 6 60000 l).1.length ≤ 1000000; omega) | rfl) ?_
  (set_option smartUnfolding false in conv => whnf)
  have hg : gGet gt53 6 60000 z53 l = gEnd z53 (gt53 (gBg 6 60000 l)) := rfl
  generalize gt53 (gBg 6 60000 l) = q at hg ⊢
  obtain ⟨x, r, bad⟩ := q
  refine And.intro (by first | exact Nat.le_of_ble_eq_true rfl | exact ⟨Nat.le_of_ble_eq_true rfl, rfl⟩ | exact rfl | decide | (simp [allP]; done)) ?_
  (set_option smartUnfolding false in conv => whnf)
  refine ⟨(r, bad), ?_⟩
  conv => whnf
  refine And.intro (by simp only [allP, List.nil_append, List.cons_append, true_and]; and_intros <;> first | exact trivial | rfl) ?_
  (set_option smartUnfolding false in conv => whnf)
  rcases bad with _ | _ <;> rcases r with _ | ⟨y, r⟩
  · (set_option smartUnfolding false in conv => whnf)
    refine And.intro (by first | exact Nat.le_of_ble_eq_true rfl | exact ⟨Nat.le_of_ble_eq_true rfl, rfl⟩ | exact rfl | decide | (simp [allP]; done)) ?_
    (set_option smartUnfolding false in conv => whnf)
    refine And.intro (by first | exact Nat.le_of_ble_eq_true rfl | exact ⟨Nat.le_of_ble_eq_true rfl, rfl⟩ | exact rfl | decide | (simp [allP]; done)) ?_
    (set_option smartUnfolding false in conv => whnf)
    refine And.intro (by first | exact Nat.le_of_ble_eq_true rfl | exact ⟨Nat.le_of_ble_eq_true rfl, rfl⟩ | exact rfl | decide | (simp [allP]; done)) ?_
    (set_option smartUnfolding false in conv => whnf)
    rw [hg]
    and_intros <;> first | rfl | exact trivial | (simp [pvle]; done)
  all_goals
    (set_option smartUnfolding false in conv => whnf)
    refine And.intro (by first | exact Nat.le_of_ble_eq_true rfl | exact ⟨Nat.le_of_ble_eq_true rfl, rfl⟩ | exact rfl | decide | (simp [allP]; done)) ?_
    (set_option smartUnfolding false in conv => whnf)
    refine And.intro (by first | exact Nat.le_of_ble_eq_true rfl | exact ⟨Nat.le_of_ble_eq_true rfl, rfl⟩ | exact rfl | decide | (simp [allP]; done)) ?_
    (set_option smartUnfolding false in conv => whnf)
    rw [hg]
    and_intros <;> first | rfl | exact trivial | (simp [pvle, z53]; done)
theorem GetResponse_sound : Sound Try.prog 25 cGetResponse := does_sound mixed tabOk_prog gY2_ok Try.func25 GetResponse_does
def gY3 : List (FuncId × Ctr) := (25, cGetResponse) :: gY2
theorem gY3_ok : GamOk Try.prog gY3 := GamOk.cons gY2_ok Try.func25 (by kernel_rfl) (by kernel_rfl) GetResponse_sound
def z57 : S57 := (⟨#[]⟩, 0, 0, 0, 0, 0, 0, 0, 0, false, [], [])
abbrev cGetRaft : Ctr := cGet2 gt57 7 65545 z57 (fun x : S57 => .agg ((pv57 x).map (AV.p true)))
theorem GetRaft_does : Does gY3 tab Try.f23 cGetRaft := by
  rintro l -
  have hl := gBg_len 7 65545 l
  (set_option smartUnfolding false in conv => whnf)
  refine ⟨(l, 7, 65545), ?_⟩
  conv => whnf
  refine And.intro (by simp only [allP, List.nil_append, List.cons_append, true_and]; and_intros <;> first | exact trivial | rfl) ?_
  (set_option smartUnfolding false in conv => whnf)
  refine ⟨(gBg 7 65545 l), ?_⟩
  conv => whnf
  refine And.intro (by simp only [allP, List.nil_append, List.cons_append, true_and]; and_intros <;> first | (show (gBg 7 65545 l).1.length ≤ 1000000; omega) | rfl) ?_
  (set_option smartUnfolding false in conv => whnf)
  have hg : gGet gt57 7 65545 z57 l = gEnd z57 (gt57 (gBg 7 65545 l)) := rfl
  generalize gt57 (gBg 7 65545 l) = q at hg ⊢
  obtain ⟨x, r, bad⟩ := q
  refine And.intro (by first | exact Nat.le_of_ble_eq_true rfl | exact ⟨Nat.le_of_ble_eq_true rfl, rfl⟩ | exact rfl | decide | (simp [allP]; done)) ?_
  (set_option smartUnfolding false in conv => whnf)
  refine ⟨(r, bad), ?_⟩
  conv => whnf
  refine And.intro (by simp only [allP, List.nil_append, List.cons_append, true_and]; and_intros <;> first | exact trivial | rfl) ?_
  (set_option smartUnfolding false in conv => whnf)
  rcases bad with _ | _ <;> rcases r with _ | ⟨y, r⟩
  · (set_option smartUnfolding false in conv => whnf)
    refine And.intro (by first | exact Nat.le_of_ble_eq_true rfl | exact ⟨Nat.le_of_ble_eq_true rfl, rfl⟩ | exact rfl | decide | (simp [allP]; done)) ?_
    (set_option smartUnfolding false in conv => whnf)
    refine And.intro (by first | exact Nat.le_of_ble_eq_true rfl | exact ⟨Nat.le_of_ble_eq_true rfl, rfl⟩ | exact rfl | decide | (simp [allP]; done)) ?_
    (set_option smartUnfolding false in conv => whnf)
    refine And.intro (by first | exact Nat.le_of_ble_eq_true rfl | exact ⟨Nat.le_of_ble_eq_true rfl, rfl⟩ | exact rfl | decide | (simp [allP]; done)) ?_
    (set_option smartUnfolding false in conv => whnf)
    rw [hg]
    and_intros <;> first | rfl | exact trivial | (simp [pvle]; done)
  all_goals
    (set_option smartUnfolding false in conv => whnf)
    refine And.intro (by first | exact Nat.le_of_ble_eq_true rfl | exact ⟨Nat.le_of_ble_eq_true rfl, rfl⟩ | exact rfl | decide | (simp [allP]; done)) ?_
    (set_option smartUnfolding false in conv => whnf)
    refine And.intro (by first | exact Nat.le_of_ble_eq_true rfl | exact ⟨Nat.le_of_ble_eq_true rfl, rfl⟩ | exact rfl | decide | (simp [allP]; done)) ?_
    (set_option smartUnfolding false in conv => whnf)
    rw [hg]
    and_intros <;> first | rfl | exact trivial | (simp [pvle, z57]; done)
theorem GetRaft_sound : Sound Try.prog 23 cGetRaft := does_sound mixed tabOk_prog gY3_ok Try.func23 GetRaft_does
def gY4 : List (FuncId × Ctr) := (23, cGetRaft) :: gY3
theorem gY4_ok : GamOk Try.prog gY4 := GamOk.cons gY3_ok Try.func23 (by kernel_rfl) (by kernel_rfl) GetRaft_sound
def gGets5 : List (FuncId × Ctr) := gY4
theorem gGets5_ok : GamOk Try.prog gGets5 := gY4_ok
end Go.Proofs.Ytingmlhhabaplaa.Ev
