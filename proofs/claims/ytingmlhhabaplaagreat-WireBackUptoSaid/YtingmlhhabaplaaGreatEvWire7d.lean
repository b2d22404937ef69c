/- Wire: what the program reads: requests. No conditions. -/
import Derived.Test.YtingmlhhabaplaaGreatEvWire7c
namespace Go.Proofs.YtingmlhhabaplaaGreat.Ev
open Go
set_option linter.unusedVariables false
set_option linter.unusedSimpArgs false
set_option maxRecDepth 100000
set_option maxHeartbeats 4000000
def gt63 : In → S63 × In := (gP gBy (gP gNu (gP gNu (gP gTx (gP gNu (gP gt46 (gP gNu (gP gNu (gP gNu gt57)))))))))
theorem rt63 : RL gt63 en63 ok63 := (rBy.pair (rNu.pair (rNu.pair (rTx.pair (rNu.pair (rt46.pair (rNu.pair (rNu.pair (rNu.pair rt57)))))))))
abbrev cIrequest : Ctr := cI6 gt63 (fun x : S63 => .agg ((pv63 x).map (AV.p true)))
theorem Irequest_does : Does gXa15 tab Tryz.f67 cIrequest := by
  rintro s (h : s.1.length ≤ 1000000)
  have h0 : (gBy s).2.1.length ≤ 1000000 := Nat.le_trans (rBy.len _) h
  have h1 : (gNu (gBy s).2).2.1.length ≤ 1000000 := Nat.le_trans (rNu.len _) h0
  have h2 : (gNu (gNu (gBy s).2).2).2.1.length ≤ 1000000 := Nat.le_trans (rNu.len _) h1
  have h3 : (gTx (gNu (gNu (gBy s).2).2).2).2.1.length ≤ 1000000 := Nat.le_trans (rTx.len _) h2
  have h4 : (gNu (gTx (gNu (gNu (gBy s).2).2).2).2).2.1.length ≤ 1000000 := Nat.le_trans (rNu.len _) h3
  have h5 : (gt46 (gNu (gTx (gNu (gNu (gBy s).2).2).2).2).2).2.1.length ≤ 1000000 := Nat.le_trans (rt46.len _) h4
  have h6 : (gNu (gt46 (gNu (gTx (gNu (gNu (gBy s).2).2).2).2).2).2).2.1.length ≤ 1000000 := Nat.le_trans (rNu.len _) h5
  have h7 : (gNu (gNu (gt46 (gNu (gTx (gNu (gNu (gBy s).2).2).2).2).2).2).2).2.1.length ≤ 1000000 := Nat.le_trans (rNu.len _) h6
  have h8 : (gNu (gNu (gNu (gt46 (gNu (gTx (gNu (gNu (gBy s).2).2).2).2).2).2).2).2).2.1.length ≤ 1000000 := Nat.le_trans (rNu.len _) h7
  have h9 : (gt57 (gNu (gNu (gNu (gt46 (gNu (gTx (gNu (gNu (gBy s).2).2).2).2).2).2).2).2).2).2.1.length ≤ 1000000 := Nat.le_trans (rt57.len _) h8
  have hE : gt63 s = (((gBy s).1, (gNu (gBy s).2).1, (gNu (gNu (gBy s).2).2).1, (gTx (gNu (gNu (gBy s).2).2).2).1, (gNu (gTx (gNu (gNu (gBy s).2).2).2).2).1, (gt46 (gNu (gTx (gNu (gNu (gBy s).2).2).2).2).2).1, (gNu (gt46 (gNu (gTx (gNu (gNu (gBy s).2).2).2).2).2).2).1, (gNu (gNu (gt46 (gNu (gTx (gNu (gNu (gBy s).2).2).2).2).2).2).2).1, (gNu (gNu (gNu (gt46 (gNu (gTx (gNu (gNu (gBy s).2).2).2).2).2).2).2).2).1, (gt57 (gNu (gNu (gNu (gt46 (gNu (gTx (gNu (gNu (gBy s).2).2).2).2).2).2).2).2).2).1), (gt57 (gNu (gNu (gNu (gt46 (gNu (gTx (gNu (gNu (gBy s).2).2).2).2).2).2).2).2).2).2) := by simp only [gt63, gP]
  (set_option smartUnfolding false in conv => whnf)
  refine ⟨s, ?_⟩
  conv => whnf
  refine And.intro (by simp only [allP, List.nil_append, List.cons_append, true_and]; and_intros <;> first | exact h | exact Nat.le_trans h (by decide) | rfl) ?_
  (set_option smartUnfolding false in conv => whnf)
  have w0 := gBy_w s
  generalize gBy s = r0 at hE h0 h1 h2 h3 h4 h5 h6 h7 h8 h9 w0 ⊢
  try rw [w0]
  refine ⟨r0.2, ?_⟩
  conv => whnf
  refine And.intro (by simp only [allP, List.nil_append, List.cons_append, true_and]; and_intros <;> first | exact h0 | exact Nat.le_trans h0 (by decide) | rfl) ?_
  (set_option smartUnfolding false in conv => whnf)
  have w1 := gNu_w r0.2
  generalize gNu r0.2 = r1 at hE h1 h2 h3 h4 h5 h6 h7 h8 h9 w1 ⊢
  try rw [w1]
  refine ⟨r1.2, ?_⟩
  conv => whnf
  refine And.intro (by simp only [allP, List.nil_append, List.cons_append, true_and]; and_intros <;> first | exact h1 | exact Nat.le_trans h1 (by decide) | rfl) ?_
  (set_option smartUnfolding false in conv => whnf)
  have w2 := gNu_w r1.2
  generalize gNu r1.2 = r2 at hE h2 h3 h4 h5 h6 h7 h8 h9 w2 ⊢
  try rw [w2]
  refine ⟨r2.2, ?_⟩
  conv => whnf
  refine And.intro (by simp only [allP, List.nil_append, List.cons_append, true_and]; and_intros <;> first | exact h2 | exact Nat.le_trans h2 (by decide) | rfl) ?_
  (set_option smartUnfolding false in conv => whnf)
  generalize gTx r2.2 = r3 at hE h3 h4 h5 h6 h7 h8 h9 ⊢
  refine ⟨r3.2, ?_⟩
  conv => whnf
  refine And.intro (by simp only [allP, List.nil_append, List.cons_append, true_and]; and_intros <;> first | exact h3 | exact Nat.le_trans h3 (by decide) | rfl) ?_
  (set_option smartUnfolding false in conv => whnf)
  have w4 := gNu_w r3.2
  generalize gNu r3.2 = r4 at hE h4 h5 h6 h7 h8 h9 w4 ⊢
  try rw [w4]
  refine ⟨r4.2, ?_⟩
  conv => whnf
  refine And.intro (by simp only [allP, List.nil_append, List.cons_append, true_and]; and_intros <;> first | exact h4 | exact Nat.le_trans h4 (by decide) | rfl) ?_
  (set_option smartUnfolding false in conv => whnf)
  generalize gt46 r4.2 = r5 at hE h5 h6 h7 h8 h9 ⊢
  refine ⟨r5.2, ?_⟩
  conv => whnf
  refine And.intro (by simp only [allP, List.nil_append, List.cons_append, true_and]; and_intros <;> first | exact h5 | exact Nat.le_trans h5 (by decide) | rfl) ?_
  (set_option smartUnfolding false in conv => whnf)
  have w6 := gNu_w r5.2
  generalize gNu r5.2 = r6 at hE h6 h7 h8 h9 w6 ⊢
  try rw [w6]
  refine ⟨r6.2, ?_⟩
  conv => whnf
  refine And.intro (by simp only [allP, List.nil_append, List.cons_append, true_and]; and_intros <;> first | exact h6 | exact Nat.le_trans h6 (by decide) | rfl) ?_
  (set_option smartUnfolding false in conv => whnf)
  have w7 := gNu_w r6.2
  generalize gNu r6.2 = r7 at hE h7 h8 h9 w7 ⊢
  try rw [w7]
  refine ⟨r7.2, ?_⟩
  conv => whnf
  refine And.intro (by simp only [allP, List.nil_append, List.cons_append, true_and]; and_intros <;> first | exact h7 | exact Nat.le_trans h7 (by decide) | rfl) ?_
  (set_option smartUnfolding false in conv => whnf)
  have w8 := gNu_w r7.2
  generalize gNu r7.2 = r8 at hE h8 h9 w8 ⊢
  try rw [w8]
  refine ⟨r8.2, ?_⟩
  conv => whnf
  refine And.intro (by simp only [allP, List.nil_append, List.cons_append, true_and]; and_intros <;> first | exact h8 | exact Nat.le_trans h8 (by decide) | rfl) ?_
  (set_option smartUnfolding false in conv => whnf)
  generalize gt57 r8.2 = r9 at hE h9 ⊢
  refine dI (k := ?_)
  (set_option smartUnfolding false in conv => whnf)
  refine dI (k := ?_)
  (set_option smartUnfolding false in conv => whnf)
  rw [hE]
  and_intros <;> first | rfl | exact trivial | (simp [pvle]; done)
theorem Irequest_sound : Sound Tryz.prog 67 cIrequest := does_sound mixed tabOk_prog gXa15_ok Tryz.func67 Irequest_does
def gXa16 : List (FuncId × Ctr) := (67, cIrequest) :: gXa15
theorem gXa16_ok : GamOk Tryz.prog gXa16 := GamOk.cons gXa15_ok Tryz.func67 (by kernel_rfl) (by kernel_rfl) Irequest_sound
end Go.Proofs.YtingmlhhabaplaaGreat.Ev
