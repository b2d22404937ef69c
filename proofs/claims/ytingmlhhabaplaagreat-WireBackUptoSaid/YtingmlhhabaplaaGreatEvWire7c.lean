/- Wire: what the program reads: responses. No conditions. -/
import Derived.Test.YtingmlhhabaplaaGreatEvWire7b
namespace Go.Proofs.YtingmlhhabaplaaGreat.Ev
open Go
set_option linter.unusedVariables false
set_option linter.unusedSimpArgs false
set_option maxRecDepth 100000
set_option maxHeartbeats 4000000
def gt72 : In → S72 × In := (gP gBy (gP gNu (gP gNu (gP gNu (gP gNu (gP gNu (gP gNu (gP gNu (gP gBo (gP (gLs gRc) gt70))))))))))
theorem rt72 : RL gt72 en72 ok72 := (rBy.pair (rNu.pair (rNu.pair (rNu.pair (rNu.pair (rNu.pair (rNu.pair (rNu.pair (rBo.pair ((rRc.list 24 (by decide) (by decide)).pair rt70))))))))))
abbrev cIresponse : Ctr := cI6 gt72 (fun x : S72 => .agg ((pv72 x).map (AV.p true)))
theorem Iresponse_does : Does gXa14 tab Tryz.f69 cIresponse := by
  rintro s (h : s.1.length ≤ 1000000)
  have h0 : (gBy s).2.1.length ≤ 1000000 := Nat.le_trans (rBy.len _) h
  have h1 : (gNu (gBy s).2).2.1.length ≤ 1000000 := Nat.le_trans (rNu.len _) h0
  have h2 : (gNu (gNu (gBy s).2).2).2.1.length ≤ 1000000 := Nat.le_trans (rNu.len _) h1
  have h3 : (gNu (gNu (gNu (gBy s).2).2).2).2.1.length ≤ 1000000 := Nat.le_trans (rNu.len _) h2
  have h4 : (gNu (gNu (gNu (gNu (gBy s).2).2).2).2).2.1.length ≤ 1000000 := Nat.le_trans (rNu.len _) h3
  have h5 : (gNu (gNu (gNu (gNu (gNu (gBy s).2).2).2).2).2).2.1.length ≤ 1000000 := Nat.le_trans (rNu.len _) h4
  have h6 : (gNu (gNu (gNu (gNu (gNu (gNu (gBy s).2).2).2).2).2).2).2.1.length ≤ 1000000 := Nat.le_trans (rNu.len _) h5
  have h7 : (gNu (gNu (gNu (gNu (gNu (gNu (gNu (gBy s).2).2).2).2).2).2).2).2.1.length ≤ 1000000 := Nat.le_trans (rNu.len _) h6
  have h8 : (gBo (gNu (gNu (gNu (gNu (gNu (gNu (gNu (gBy s).2).2).2).2).2).2).2).2).2.1.length ≤ 1000000 := Nat.le_trans (rBo.len _) h7
  have h9 : ((gLs gRc) (gBo (gNu (gNu (gNu (gNu (gNu (gNu (gNu (gBy s).2).2).2).2).2).2).2).2).2).2.1.length ≤ 1000000 := Nat.le_trans ((rRc.list 24 (by decide) (by decide)).len _) h8
  have h10 : (gt70 ((gLs gRc) (gBo (gNu (gNu (gNu (gNu (gNu (gNu (gNu (gBy s).2).2).2).2).2).2).2).2).2).2).2.1.length ≤ 1000000 := Nat.le_trans (rt70.len _) h9
  have hE : gt72 s = (((gBy s).1, (gNu (gBy s).2).1, (gNu (gNu (gBy s).2).2).1, (gNu (gNu (gNu (gBy s).2).2).2).1, (gNu (gNu (gNu (gNu (gBy s).2).2).2).2).1, (gNu (gNu (gNu (gNu (gNu (gBy s).2).2).2).2).2).1, (gNu (gNu (gNu (gNu (gNu (gNu (gBy s).2).2).2).2).2).2).1, (gNu (gNu (gNu (gNu (gNu (gNu (gNu (gBy s).2).2).2).2).2).2).2).1, (gBo (gNu (gNu (gNu (gNu (gNu (gNu (gNu (gBy s).2).2).2).2).2).2).2).2).1, ((gLs gRc) (gBo (gNu (gNu (gNu (gNu (gNu (gNu (gNu (gBy s).2).2).2).2).2).2).2).2).2).1, (gt70 ((gLs gRc) (gBo (gNu (gNu (gNu (gNu (gNu (gNu (gNu (gBy s).2).2).2).2).2).2).2).2).2).2).1), (gt70 ((gLs gRc) (gBo (gNu (gNu (gNu (gNu (gNu (gNu (gNu (gBy s).2).2).2).2).2).2).2).2).2).2).2) := by simp only [gt72, gP]
  (set_option smartUnfolding false in conv => whnf)
  refine ⟨s, ?_⟩
  conv => whnf
  refine And.intro (by simp only [allP, List.nil_append, List.cons_append, true_and]; and_intros <;> first | exact h | exact Nat.le_trans h (by decide) | rfl) ?_
  (set_option smartUnfolding false in conv => whnf)
  have w0 := gBy_w s
  generalize gBy s = r0 at hE h0 h1 h2 h3 h4 h5 h6 h7 h8 h9 h10 w0 ⊢
  try rw [w0]
  refine ⟨r0.2, ?_⟩
  conv => whnf
  refine And.intro (by simp only [allP, List.nil_append, List.cons_append, true_and]; and_intros <;> first | exact h0 | exact Nat.le_trans h0 (by decide) | rfl) ?_
  (set_option smartUnfolding false in conv => whnf)
  have w1 := gNu_w r0.2
  generalize gNu r0.2 = r1 at hE h1 h2 h3 h4 h5 h6 h7 h8 h9 h10 w1 ⊢
  try rw [w1]
  refine ⟨r1.2, ?_⟩
  conv => whnf
  refine And.intro (by simp only [allP, List.nil_append, List.cons_append, true_and]; and_intros <;> first | exact h1 | exact Nat.le_trans h1 (by decide) | rfl) ?_
  (set_option smartUnfolding false in conv => whnf)
  have w2 := gNu_w r1.2
  generalize gNu r1.2 = r2 at hE h2 h3 h4 h5 h6 h7 h8 h9 h10 w2 ⊢
  try rw [w2]
  refine ⟨r2.2, ?_⟩
  conv => whnf
  refine And.intro (by simp only [allP, List.nil_append, List.cons_append, true_and]; and_intros <;> first | exact h2 | exact Nat.le_trans h2 (by decide) | rfl) ?_
  (set_option smartUnfolding false in conv => whnf)
  have w3 := gNu_w r2.2
  generalize gNu r2.2 = r3 at hE h3 h4 h5 h6 h7 h8 h9 h10 w3 ⊢
  try rw [w3]
  refine ⟨r3.2, ?_⟩
  conv => whnf
  refine And.intro (by simp only [allP, List.nil_append, List.cons_append, true_and]; and_intros <;> first | exact h3 | exact Nat.le_trans h3 (by decide) | rfl) ?_
  (set_option smartUnfolding false in conv => whnf)
  have w4 := gNu_w r3.2
  generalize gNu r3.2 = r4 at hE h4 h5 h6 h7 h8 h9 h10 w4 ⊢
  try rw [w4]
  refine ⟨r4.2, ?_⟩
  conv => whnf
  refine And.intro (by simp only [allP, List.nil_append, List.cons_append, true_and]; and_intros <;> first | exact h4 | exact Nat.le_trans h4 (by decide) | rfl) ?_
  (set_option smartUnfolding false in conv => whnf)
  have w5 := gNu_w r4.2
  generalize gNu r4.2 = r5 at hE h5 h6 h7 h8 h9 h10 w5 ⊢
  try rw [w5]
  refine ⟨r5.2, ?_⟩
  conv => whnf
  refine And.intro (by simp only [allP, List.nil_append, List.cons_append, true_and]; and_intros <;> first | exact h5 | exact Nat.le_trans h5 (by decide) | rfl) ?_
  (set_option smartUnfolding false in conv => whnf)
  have w6 := gNu_w r5.2
  generalize gNu r5.2 = r6 at hE h6 h7 h8 h9 h10 w6 ⊢
  try rw [w6]
  refine ⟨r6.2, ?_⟩
  conv => whnf
  refine And.intro (by simp only [allP, List.nil_append, List.cons_append, true_and]; and_intros <;> first | exact h6 | exact Nat.le_trans h6 (by decide) | rfl) ?_
  (set_option smartUnfolding false in conv => whnf)
  have w7 := gNu_w r6.2
  generalize gNu r6.2 = r7 at hE h7 h8 h9 h10 w7 ⊢
  try rw [w7]
  refine ⟨r7.2, ?_⟩
  conv => whnf
  refine And.intro (by simp only [allP, List.nil_append, List.cons_append, true_and]; and_intros <;> first | exact h7 | exact Nat.le_trans h7 (by decide) | rfl) ?_
  (set_option smartUnfolding false in conv => whnf)
  generalize gBo r7.2 = r8 at hE h8 h9 h10 ⊢
  refine ⟨r8.2, ?_⟩
  conv => whnf
  refine And.intro (by simp only [allP, List.nil_append, List.cons_append, true_and]; and_intros <;> first | exact h8 | exact Nat.le_trans h8 (by decide) | rfl) ?_
  (set_option smartUnfolding false in conv => whnf)
  generalize (gLs gRc) r8.2 = r9 at hE h9 h10 ⊢
  refine ⟨r9.2, ?_⟩
  conv => whnf
  refine And.intro (by simp only [allP, List.nil_append, List.cons_append, true_and]; and_intros <;> first | exact h9 | exact Nat.le_trans h9 (by decide) | rfl) ?_
  (set_option smartUnfolding false in conv => whnf)
  generalize gt70 r9.2 = r10 at hE h10 ⊢
  refine dI (k := ?_)
  (set_option smartUnfolding false in conv => whnf)
  refine dI (k := ?_)
  (set_option smartUnfolding false in conv => whnf)
  rw [hE]
  and_intros <;> first | rfl | exact trivial | (simp [pvle]; done)
theorem Iresponse_sound : Sound Tryz.prog 69 cIresponse := does_sound mixed tabOk_prog gXa14_ok Tryz.func69 Iresponse_does
def gXa15 : List (FuncId × Ctr) := (69, cIresponse) :: gXa14
theorem gXa15_ok : GamOk Tryz.prog gXa15 := GamOk.cons gXa14_ok Tryz.func69 (by kernel_rfl) (by kernel_rfl) Iresponse_sound
end Go.Proofs.YtingmlhhabaplaaGreat.Ev
