/- Wire: what the program reads: things got. No conditions. -/
import Derived.Test.YtingmlhhabaplaaGreatEvWire8a
import Derived.Test.YtingmlhhabaplaaGreatEvWire7d
namespace Go.Proofs.YtingmlhhabaplaaGreat.Ev
open Go
set_option linter.unusedVariables false
set_option linter.unusedSimpArgs false
set_option maxRecDepth 100000
set_option maxHeartbeats 4000000
def gYc0 : List (FuncId × Ctr) := (39, cBegun) :: (41, cWhole) :: gXa16
theorem gYc0_ok : GamOk Tryz.prog gYc0 := GamOk.cons (GamOk.cons gXa16_ok Tryz.func41 (by kernel_rfl) (by kernel_rfl) whole_sound) Tryz.func39 (by kernel_rfl) (by kernel_rfl) begun_sound
def z57 : S57 := (0, ⟨#[]⟩, ⟨#[]⟩, 0, [], (⟨#[]⟩, 0), 0, 0, 0, 0)
abbrev cGetMeta : Ctr := cGet2 gt57 2 60000 z57 (fun x : S57 => .agg ((pv57 x).map (AV.p true)))
theorem GetMeta_does : Does gYc0 tab Tryz.f19 cGetMeta := by
  rintro l -
  have hl := gBg_len 2 60000 l
  (set_option smartUnfolding false in conv => whnf)
  refine ⟨(l, 2, 60000), ?_⟩
  conv => whnf
  refine And.intro (by simp only [allP, List.nil_append, List.cons_append, true_and]; and_intros <;> first | exact trivial | rfl) ?_
  (set_option smartUnfolding false in conv => whnf)
  refine ⟨(gBg 2 60000 l), ?_⟩
  conv => whnf
  refine And.intro (by simp only [allP, List.nil_append, List.cons_append, true_and]; and_intros <;> first | (show (gBg 2 60000 l).1.length ≤ 1000000; omega) | rfl) ?_
  (set_option smartUnfolding false in conv => whnf)
  have hg : gGet gt57 2 60000 z57 l = gEnd z57 (gt57 (gBg 2 60000 l)) := rfl
  generalize gt57 (gBg 2 60000 l) = q at hg ⊢
  obtain ⟨x, r, bad⟩ := q
  refine dI (k := ?_)
  (set_option smartUnfolding false in conv => whnf)
  refine ⟨(r, bad), ?_⟩
  conv => whnf
  refine And.intro (by simp only [allP, List.nil_append, List.cons_append, true_and]; and_intros <;> first | exact trivial | rfl) ?_
  (set_option smartUnfolding false in conv => whnf)
  rcases bad with _ | _ <;> rcases r with _ | ⟨y, r⟩
  · (set_option smartUnfolding false in conv => whnf)
    refine dI (k := ?_)
    (set_option smartUnfolding false in conv => whnf)
    refine dI (k := ?_)
    (set_option smartUnfolding false in conv => whnf)
    refine dI (k := ?_)
    (set_option smartUnfolding false in conv => whnf)
    rw [hg]
    and_intros <;> first | rfl | exact trivial | (simp [pvle]; done)
  all_goals
    (set_option smartUnfolding false in conv => whnf)
    refine dI (k := ?_)
    (set_option smartUnfolding false in conv => whnf)
    refine dI (k := ?_)
    (set_option smartUnfolding false in conv => whnf)
    rw [hg]
    and_intros <;> first | rfl | exact trivial | (simp [pvle, z57]; done)
theorem GetMeta_sound : Sound Tryz.prog 19 cGetMeta := does_sound mixed tabOk_prog gYc0_ok Tryz.func19 GetMeta_does
def gYc1 : List (FuncId × Ctr) := (19, cGetMeta) :: gYc0
theorem gYc1_ok : GamOk Tryz.prog gYc1 := GamOk.cons gYc0_ok Tryz.func19 (by kernel_rfl) (by kernel_rfl) GetMeta_sound
def z63 : S63 := (0, 0, 0, ⟨#[]⟩, 0, (0, 0, 0, []), 0, 0, 0, (0, ⟨#[]⟩, ⟨#[]⟩, 0, [], (⟨#[]⟩, 0), 0, 0, 0, 0))
abbrev cGetRequest : Ctr := cGet2 gt63 5 60000 z63 (fun x : S63 => .agg ((pv63 x).map (AV.p true)))
theorem GetRequest_does : Does gYc1 tab Tryz.f22 cGetRequest := by
  rintro l -
  have hl := gBg_len 5 60000 l
  (set_option smartUnfolding false in conv => whnf)
  refine ⟨(l, 5, 60000), ?_⟩
  conv => whnf
  refine And.intro (by simp only [allP, List.nil_append, List.cons_append, true_and]; and_intros <;> first | exact trivial | rfl) ?_
  (set_option smartUnfolding false in conv => whnf)
  refine ⟨(gBg 5 60000 l), ?_⟩
  conv => whnf
  refine And.intro (by simp only [allP, List.nil_append, List.cons_append, true_and]; and_intros <;> first | (show (gBg 5 60000 l).1.length ≤ 1000000; omega) | rfl) ?_
  (set_option smartUnfolding false in conv => whnf)
  have hg : gGet gt63 5 60000 z63 l = gEnd z63 (gt63 (gBg 5 60000 l)) := rfl
  generalize gt63 (gBg 5 60000 l) = q at hg ⊢
  obtain ⟨x, r, bad⟩ := q
  refine dI (k := ?_)
  (set_option smartUnfolding false in conv => whnf)
  refine ⟨(r, bad), ?_⟩
  conv => whnf
  refine And.intro (by simp only [allP, List.nil_append, List.cons_append, true_and]; and_intros <;> first | exact trivial | rfl) ?_
  (set_option smartUnfolding false in conv => whnf)
  rcases bad with _ | _ <;> rcases r with _ | ⟨y, r⟩
  · (set_option smartUnfolding false in conv => whnf)
    refine dI (k := ?_)
    (set_option smartUnfolding false in conv => whnf)
    refine dI (k := ?_)
    (set_option smartUnfolding false in conv => whnf)
    refine dI (k := ?_)
    (set_option smartUnfolding false in conv => whnf)
    rw [hg]
    and_intros <;> first | rfl | exact trivial | (simp [pvle]; done)
  all_goals
    (set_option smartUnfolding false in conv => whnf)
    refine dI (k := ?_)
    (set_option smartUnfolding false in conv => whnf)
    refine dI (k := ?_)
    (set_option smartUnfolding false in conv => whnf)
    rw [hg]
    and_intros <;> first | rfl | exact trivial | (simp [pvle, z63]; done)
theorem GetRequest_sound : Sound Tryz.prog 22 cGetRequest := does_sound mixed tabOk_prog gYc1_ok Tryz.func22 GetRequest_does
def gYc2 : List (FuncId × Ctr) := (22, cGetRequest) :: gYc1
theorem gYc2_ok : GamOk Tryz.prog gYc2 := GamOk.cons gYc1_ok Tryz.func22 (by kernel_rfl) (by kernel_rfl) GetRequest_sound
def z72 : S72 := (0, 0, 0, 0, 0, 0, 0, 0, false, [], (0, 0, 0, 0, 0, []))
abbrev cGetResponse : Ctr := cGet2 gt72 6 60000 z72 (fun x : S72 => .agg ((pv72 x).map (AV.p true)))
theorem GetResponse_does : Does gYc2 tab Tryz.f25 cGetResponse := by
  rintro l -
  have hl := gBg_len 6 60000 l
  (set_option smartUnfolding false in conv => whnf)
  refine ⟨(l, 6, 60000), ?_⟩
  conv => whnf
  refine And.intro (by simp only [allP, List.nil_append, List.cons_append, true_and]; and_intros <;> first | exact trivial | rfl) ?_
  (set_option smartUnfolding false in conv => whnf)
  refine ⟨(gBg 6 60000 l), ?_⟩
  conv => whnf
  refine And.intro (by simp only [allP, List.nil_append, List.cons_append, true_and]; and_intros <;> first | (show (gBg 6 60000 l).1.length ≤ 1000000; omega) | rfl) ?_
  (set_option smartUnfolding false in conv => whnf)
  have hg : gGet gt72 6 60000 z72 l = gEnd z72 (gt72 (gBg 6 60000 l)) := rfl
  generalize gt72 (gBg 6 60000 l) = q at hg ⊢
  obtain ⟨x, r, bad⟩ := q
  refine dI (k := ?_)
  (set_option smartUnfolding false in conv => whnf)
  refine ⟨(r, bad), ?_⟩
  conv => whnf
  refine And.intro (by simp only [allP, List.nil_append, List.cons_append, true_and]; and_intros <;> first | exact trivial | rfl) ?_
  (set_option smartUnfolding false in conv => whnf)
  rcases bad with _ | _ <;> rcases r with _ | ⟨y, r⟩
  · (set_option smartUnfolding false in conv => whnf)
    refine dI (k := ?_)
    (set_option smartUnfolding false in conv => whnf)
    refine dI (k := ?_)
    (set_option smartUnfolding false in conv => whnf)
    refine dI (k := ?_)
    (set_option smartUnfolding false in conv => whnf)
    rw [hg]
    and_intros <;> first | rfl | exact trivial | (simp [pvle]; done)
  all_goals
    (set_option smartUnfolding false in conv => whnf)
    refine dI (k := ?_)
    (set_option smartUnfolding false in conv => whnf)
    refine dI (k := ?_)
    (set_option smartUnfolding false in conv => whnf)
    rw [hg]
    and_intros <;> first | rfl | exact trivial | (simp [pvle, z72]; done)
theorem GetResponse_sound : Sound Tryz.prog 25 cGetResponse := does_sound mixed tabOk_prog gYc2_ok Tryz.func25 GetResponse_does
def gYc3 : List (FuncId × Ctr) := (25, cGetResponse) :: gYc2
theorem gYc3_ok : GamOk Tryz.prog gYc3 := GamOk.cons gYc2_ok Tryz.func25 (by kernel_rfl) (by kernel_rfl) GetResponse_sound
def z79 : S79 := (⟨#[]⟩, 0, 0, 0, 0, 0, 0, 0, 0, false, [], [])
abbrev cGetRaft : Ctr := cGet2 gt79 7 65545 z79 (fun x : S79 => .agg ((pv79 x).map (AV.p true)))
theorem GetRaft_does : Does gYc3 tab Tryz.f28 cGetRaft := by
  rintro l -
  have hl := gBg_len 7 65545 l
  (set_option smartUnfolding false in conv => whnf)
  refine ⟨(l, 7, 65545), ?_⟩
  conv => whnf
  refine And.intro (by simp only [allP, List.nil_append, List.cons_append, true_and]; and_intros <;> first | exact trivial | rfl) ?_
  (set_option smartUnfolding false in conv => whnf)
  refine ⟨(gBg 7 65545 l), ?_⟩
  conv => whnf
  refine And.intro (by simp only [allP, List.nil_append, List.cons_append, true_and]; and_intros <;> first | (show (gBg 7 65545 l).1.length ≤ 1000000; omega) | rfl) ?_
  (set_option smartUnfolding false in conv => whnf)
  have hg : gGet gt79 7 65545 z79 l = gEnd z79 (gt79 (gBg 7 65545 l)) := rfl
  generalize gt79 (gBg 7 65545 l) = q at hg ⊢
  obtain ⟨x, r, bad⟩ := q
  refine dI (k := ?_)
  (set_option smartUnfolding false in conv => whnf)
  refine ⟨(r, bad), ?_⟩
  conv => whnf
  refine And.intro (by simp only [allP, List.nil_append, List.cons_append, true_and]; and_intros <;> first | exact trivial | rfl) ?_
  (set_option smartUnfolding false in conv => whnf)
  rcases bad with _ | _ <;> rcases r with _ | ⟨y, r⟩
  · (set_option smartUnfolding false in conv => whnf)
    refine dI (k := ?_)
    (set_option smartUnfolding false in conv => whnf)
    refine dI (k := ?_)
    (set_option smartUnfolding false in conv => whnf)
    refine dI (k := ?_)
    (set_option smartUnfolding false in conv => whnf)
    rw [hg]
    and_intros <;> first | rfl | exact trivial | (simp [pvle]; done)
  all_goals
    (set_option smartUnfolding false in conv => whnf)
    refine dI (k := ?_)
    (set_option smartUnfolding false in conv => whnf)
    refine dI (k := ?_)
    (set_option smartUnfolding false in conv => whnf)
    rw [hg]
    and_intros <;> first | rfl | exact trivial | (simp [pvle, z79]; done)
theorem GetRaft_sound : Sound Tryz.prog 28 cGetRaft := does_sound mixed tabOk_prog gYc3_ok Tryz.func28 GetRaft_does
def gYc4 : List (FuncId × Ctr) := (28, cGetRaft) :: gYc3
theorem gYc4_ok : GamOk Tryz.prog gYc4 := GamOk.cons gYc3_ok Tryz.func28 (by kernel_rfl) (by kernel_rfl) GetRaft_sound
def gGets5 : List (FuncId × Ctr) := gGets1 ++ gYc4
theorem gGets5_ok : GamOk Tryz.prog gGets5 := GamOk.app gGets1_ok gYc4_ok
end Go.Proofs.YtingmlhhabaplaaGreat.Ev
