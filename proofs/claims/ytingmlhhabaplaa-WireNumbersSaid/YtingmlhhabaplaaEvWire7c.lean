/- Wire: what the program reads: responses. No conditions. -/
import Derived.Test.YtingmlhhabaplaaEvWire7b
namespace Go.Proofs.Ytingmlhhabaplaa.Ev
open Go
set_option linter.unusedVariables false
set_option linter.unusedSimpArgs false
set_option maxRecDepth 100000
set_option maxHeartbeats 4000000
def gt51 : In → S51 × In := (gP gNu (gP gNu (gP gNu (gP gNu (gP gBy (gLs gt31))))))
theorem rt51 : RL gt51 en51 ok51 := (rNu.pair (rNu.pair (rNu.pair (rNu.pair (rBy.pair (rt31.list 24 (by decide) (by decide)))))))
abbrev cIanswer : Ctr := cI6 gt51 (fun x : S51 => .agg ((pv51 x).map (AV.p true)))
theorem Ianswer_does : Does gX13 tab Try.f90 cIanswer := by
  rintro s (h : s.1.length ≤ 1000000)
  have h0 : (gNu s).2.1.length ≤ 1000000 := Nat.le_trans (rNu.len _) h
  have h1 : (gNu (gNu s).2).2.1.length ≤ 1000000 := Nat.le_trans (rNu.len _) h0
  have h2 : (gNu (gNu (gNu s).2).2).2.1.length ≤ 1000000 := Nat.le_trans (rNu.len _) h1
  have h3 : (gNu (gNu (gNu (gNu s).2).2).2).2.1.length ≤ 1000000 := Nat.le_trans (rNu.len _) h2
  have h4 : (gBy (gNu (gNu (gNu (gNu s).2).2).2).2).2.1.length ≤ 1000000 := Nat.le_trans (rBy.len _) h3
  have h5 : ((gLs gt31) (gBy (gNu (gNu (gNu (gNu s).2).2).2).2).2).2.1.length ≤ 1000000 := Nat.le_trans ((rt31.list 24 (by decide) (by decide)).len _) h4
  have hE : gt51 s = (((gNu s).1, (gNu (gNu s).2).1, (gNu (gNu (gNu s).2).2).1, (gNu (gNu (gNu (gNu s).2).2).2).1, (gBy (gNu (gNu (gNu (gNu s).2).2).2).2).1, ((gLs gt31) (gBy (gNu (gNu (gNu (gNu s).2).2).2).2).2).1), ((gLs gt31) (gBy (gNu (gNu (gNu (gNu s).2).2).2).2).2).2) := by simp only [gt51, gP]
  (set_option smartUnfolding false in conv => whnf)
  refine ⟨s, ?_⟩
  conv => whnf
  refine And.intro (by simp only [allP, List.nil_append, List.cons_append, true_and]; and_intros <;> first | exact h | exact Nat.le_trans h (by decide) | rfl) ?_
  (set_option smartUnfolding false in conv => whnf)
  have w0 := gNu_w s
  generalize gNu s = r0 at hE h0 h1 h2 h3 h4 h5 w0 ⊢
  try rw [w0]
  refine ⟨r0.2, ?_⟩
  conv => whnf
  refine And.intro (by simp only [allP, List.nil_append, List.cons_append, true_and]; and_intros <;> first | exact h0 | exact Nat.le_trans h0 (by decide) | rfl) ?_
  (set_option smartUnfolding false in conv => whnf)
  have w1 := gNu_w r0.2
  generalize gNu r0.2 = r1 at hE h1 h2 h3 h4 h5 w1 ⊢
  try rw [w1]
  refine ⟨r1.2, ?_⟩
  conv => whnf
  refine And.intro (by simp only [allP, List.nil_append, List.cons_append, true_and]; and_intros <;> first | exact h1 | exact Nat.le_trans h1 (by decide) | rfl) ?_
  (set_option smartUnfolding false in conv => whnf)
  have w2 := gNu_w r1.2
  generalize gNu r1.2 = r2 at hE h2 h3 h4 h5 w2 ⊢
  try rw [w2]
  refine ⟨r2.2, ?_⟩
  conv => whnf
  refine And.intro (by simp only [allP, List.nil_append, List.cons_append, true_and]; and_intros <;> first | exact h2 | exact Nat.le_trans h2 (by decide) | rfl) ?_
  (set_option smartUnfolding false in conv => whnf)
  have w3 := gNu_w r2.2
  generalize gNu r2.2 = r3 at hE h3 h4 h5 w3 ⊢
  try rw [w3]
  refine ⟨r3.2, ?_⟩
  conv => whnf
  refine And.intro (by simp only [allP, List.nil_append, List.cons_append, true_and]; and_intros <;> first | exact h3 | exact Nat.le_trans h3 (by decide) | rfl) ?_
  (set_option smartUnfolding false in conv => whnf)
  have w4 := gBy_w r3.2
  generalize gBy r3.2 = r4 at hE h4 h5 w4 ⊢
  try rw [w4]
  refine ⟨r4.2, ?_⟩
  conv => whnf
  refine And.intro (by simp only [allP, List.nil_append, List.cons_append, true_and]; and_intros <;> first | exact h4 | exact Nat.le_trans h4 (by decide) | rfl) ?_
  (set_option smartUnfolding false in conv => whnf)
  generalize (gLs gt31) r4.2 = r5 at hE h5 ⊢
  refine And.intro (by first | exact Nat.le_of_ble_eq_true rfl | exact ⟨Nat.le_of_ble_eq_true rfl, rfl⟩ | exact rfl | decide | (simp [allP]; done)) ?_
  (set_option smartUnfolding false in conv => whnf)
  refine And.intro (by first | exact Nat.le_of_ble_eq_true rfl | exact ⟨Nat.le_of_ble_eq_true rfl, rfl⟩ | exact rfl | decide | (simp [allP]; done)) ?_
  (set_option smartUnfolding false in conv => whnf)
  rw [hE]
  and_intros <;> first | rfl | exact trivial | (simp [pvle]; done)
theorem Ianswer_sound : Sound Try.prog 90 cIanswer := does_sound mixed tabOk_prog gX13_ok Try.func90 Ianswer_does
def gX14 : List (FuncId × Ctr) := (90, cIanswer) :: gX13
theorem gX14_ok : GamOk Try.prog gX14 := GamOk.cons gX13_ok Try.func90 (by kernel_rfl) (by kernel_rfl) Ianswer_sound
def gt53 : In → S53 × In := (gP gBy (gP gNu (gP gNu (gP gNu (gP gNu (gP gNu (gP gNu (gP gNu (gP gBo (gP (gLs gRc) gt51))))))))))
theorem rt53 : RL gt53 en53 ok53 := (rBy.pair (rNu.pair (rNu.pair (rNu.pair (rNu.pair (rNu.pair (rNu.pair (rNu.pair (rBo.pair ((rRc.list 24 (by decide) (by decide)).pair rt51))))))))))
abbrev cIresponse : Ctr := cI6 gt53 (fun x : S53 => .agg ((pv53 x).map (AV.p true)))
theorem Iresponse_does : Does gX14 tab Try.f52 cIresponse := by
  rintro s (h : s.1.length ≤ 1000000)
  have h0 : (gBy s).2.1.length ≤ 1000000 := Nat.le_trans (rBy.len _) h
  have h1 : (gNu (gBy s).2).2.1.length ≤ 1000000 := Nat.le_trans (rNu.len _) h0
  have h2 : (gNu (gNu (gBy s).2).2).2.1.length ≤ 1000000 := Nat.le_trans (rNu.len _) h1
  have h3 : (gNu (gNu (gNu (gBy s).2).2).2).2.1.length ≤ 1000000 := Nat.le_trans (rNu.len _) h2
  have h4 : (gNu (gNu (gNu (gNu (gBy s).2).2).2).2).2.1.length ≤ 1000000 := Nat.le_trans (rNu.len _) h3
  have h5 : (gNu (gNu (gNu (gNu (gNu (gBy s).2).2).2).2).2).2.1.length ≤ 1000000 := Nat.le_trans (rNu.len _) h4
  have h6 : (gNu (gNu (gNu (gNu (gNu (gNu (gBy s).2).2).2).2).2).2).2.1.length ≤ 1000000 := Nat.le_trans (rNu.len _) h5
  have h7 : (gNu (gNu (gNu (gNu (gNu (gNu (gNu (gBy s).2).2).2).2).2).2).2).2.1.length ≤ 1000000 := Nat.le_trans (rNu.len _) h6
  have h8 : (gBo (gNu (gNu (gNu (gNu (gNu (gNu (gNu (gBy s).2).2).2).2).2).2).2).2).2.1.length ≤ 1000000 := Nat.le_trans (rBo.len _) h7
  have h9 : ((gLs gRc) (gBo (gNu (gNu (gNu (gNu (gNu (gNu (gNu (gBy s).2).2).2).2).2).2).2).2).2).2.1.length ≤ 1000000 := Nat.le_trans ((rRc.list 24 (by decide) (by decide)).len _) h8
  have h10 : (gt51 ((gLs gRc) (gBo (gNu (gNu (gNu (gNu (gNu (gNu (gNu (gBy s).2).2).2).2).2).2).2).2).2).2).2.1.length ≤ 1000000 := Nat.le_trans (rt51.len _) h9
  have hE : gt53 s = (((gBy s).1, (gNu (gBy s).2).1, (gNu (gNu (gBy s).2).2).1, (gNu (gNu (gNu (gBy s).2).2).2).1, (gNu (gNu (gNu (gNu (gBy s).2).2).2).2).1, (gNu (gNu (gNu (gNu (gNu (gBy s).2).2).2).2).2).1, (gNu (gNu (gNu (gNu (gNu (gNu (gBy s).2).2).2).2).2).2).1, (gNu (gNu (gNu (gNu (gNu (gNu (gNu (gBy s).2).2).2).2).2).2).2).1, (gBo (gNu (gNu (gNu (gNu (gNu (gNu (gNu (gBy s).2).2).2).2).2).2).2).2).1, ((gLs gRc) (gBo (gNu (gNu (gNu (gNu (gNu (gNu (gNu (gBy s).2).2).2).2).2).2).2).2).2).1, (gt51 ((gLs gRc) (gBo (gNu (gNu (gNu (gNu (gNu (gNu (gNu (gBy s).2).2).2).2).2).2).2).2).2).2).1), (gt51 ((gLs gRc) (gBo (gNu (gNu (gNu (gNu (gNu (gNu (gNu (gBy s).2).2).2).2).2).2).2).2).2).2).2) := by simp only [gt53, gP]
  (set_option smartUnfolding false in conv => whnf)
  refine ⟨s, ?_⟩
  conv => whnf
  refine And.intro (by simp only [allP, List.nil_append, List.cons_append, true_and]; and_intros <;> first | exact h | exact Nat.le_trans h (by decide) | rfl) ?_
  (set_option smartUnfolding false in conv => whnf)
  have w0 := gBy_w s
  generalize gBy s = r0 at hE h0 h1 h2 h3 h4 h5 h6 h7 h8 h9 h10 w0 ⊢
  try rw [w0]
  refine ⟨r0.2, ?_⟩
  conv => whnf
  refine And.intro (by simp only [allP, List.nil_append, List.cons_append, true_and]; and_intros <;> first | exact h0 | exact Nat.le_trans h0 (by decide) | rfl) ?_
  (set_option smartUnfolding false in conv => whnf)
  have w1 := gNu_w r0.2
  generalize gNu r0.2 = r1 at hE h1 h2 h3 h4 h5 h6 h7 h8 h9 h10 w1 ⊢
  try rw [w1]
  refine ⟨r1.2, ?_⟩
  conv => whnf
  refine And.intro (by simp only [allP, List.nil_append, List.cons_append, true_and]; and_intros <;> first | exact h1 | exact Nat.le_trans h1 (by decide) | rfl) ?_
  (set_option smartUnfolding false in conv => whnf)
  have w2 := gNu_w r1.2
  generalize gNu r1.2 = r2 at hE h2 h3 h4 h5 h6 h7 h8 h9 h10 w2 ⊢
  try rw [w2]
  refine ⟨r2.2, ?_⟩
  conv => whnf
  refine And.intro (by simp only [allP, List.nil_append, List.cons_append, true_and]; and_intros <;> first | exact h2 | exact Nat.le_trans h2 (by decide) | rfl) ?_
  (set_option smartUnfolding false in conv => whnf)
  have w3 := gNu_w r2.2
  generalize gNu r2.2 = r3 at hE h3 h4 h5 h6 h7 h8 h9 h10 w3 ⊢
  try rw [w3]
  refine ⟨r3.2, ?_⟩
  conv => whnf
  refine And.intro (by simp only [allP, List.nil_append, List.cons_append, true_and]; and_intros <;> first | exact h3 | exact Nat.le_trans h3 (by decide) | rfl) ?_
  (set_option smartUnfolding false in conv => whnf)
  have w4 := gNu_w r3.2
  generalize gNu r3.2 = r4 at hE h4 h5 h6 h7 h8 h9 h10 w4 ⊢
  try rw [w4]
  refine ⟨r4.2, ?_⟩
  conv => whnf
  refine And.intro (by simp only [allP, List.nil_append, List.cons_append, true_and]; and_intros <;> first | exact h4 | exact Nat.le_trans h4 (by decide) | rfl) ?_
  (set_option smartUnfolding false in conv => whnf)
  have w5 := gNu_w r4.2
  generalize gNu r4.2 = r5 at hE h5 h6 h7 h8 h9 h10 w5 ⊢
  try rw [w5]
  refine ⟨r5.2, ?_⟩
  conv => whnf
  refine And.intro (by simp only [allP, List.nil_append, List.cons_append, true_and]; and_intros <;> first | exact h5 | exact Nat.le_trans h5 (by decide) | rfl) ?_
  (set_option smartUnfolding false in conv => whnf)
  have w6 := gNu_w r5.2
  generalize gNu r5.2 = r6 at hE h6 h7 h8 h9 h10 w6 ⊢
  try rw [w6]
  refine ⟨r6.2, ?_⟩
  conv => whnf
  refine And.intro (by simp only [allP, List.nil_append, List.cons_append, true_and]; and_intros <;> first | exact h6 | exact Nat.le_trans h6 (by decide) | rfl) ?_
  (set_option smartUnfolding false in conv => whnf)
  have w7 := gNu_w r6.2
  generalize gNu r6.2 = r7 at hE h7 h8 h9 h10 w7 ⊢
  try rw [w7]
  refine ⟨r7.2, ?_⟩
  conv => whnf
  refine And.intro (by simp only [allP, List.nil_append, List.cons_append, true_and]; and_intros <;> first | exact h7 | exact Nat.le_trans h7 (by decide) | rfl) ?_
  (set_option smartUnfolding false in conv => whnf)
  generalize gBo r7.2 = r8 at hE h8 h9 h10 ⊢
  refine ⟨r8.2, ?_⟩
  conv => whnf
  refine And.intro (by simp only [allP, List.nil_append, List.cons_append, true_and]; and_intros <;> first | exact h8 | exact Nat.le_trans h8 (by decide) | rfl) ?_
  (set_option smartUnfolding false in conv => whnf)
  generalize (gLs gRc) r8.2 = r9 at hE h9 h10 ⊢
  refine ⟨r9.2, ?_⟩
  conv => whnf
  refine And.intro (by simp only [allP, List.nil_append, List.cons_append, true_and]; and_intros <;> first | exact h9 | exact Nat.le_trans h9 (by decide) | rfl) ?_
  (set_option smartUnfolding false in conv => whnf)
  generalize gt51 r9.2 = r10 at hE h10 ⊢
  refine And.intro (by first | exact Nat.le_of_ble_eq_true rfl | exact ⟨Nat.le_of_ble_eq_true rfl, rfl⟩ | exact rfl | decide | (simp [allP]; done)) ?_
  (set_option smartUnfolding false in conv => whnf)
  refine And.intro (by first | exact Nat.le_of_ble_eq_true rfl | exact ⟨Nat.le_of_ble_eq_true rfl, rfl⟩ | exact rfl | decide | (simp [allP]; done)) ?_
  (set_option smartUnfolding false in conv => whnf)
  rw [hE]
  and_intros <;> first | rfl | exact trivial | (simp [pvle]; done)
theorem Iresponse_sound : Sound Try.prog 52 cIresponse := does_sound mixed tabOk_prog gX14_ok Try.func52 Iresponse_does
def gX15 : List (FuncId × Ctr) := (52, cIresponse) :: gX14
theorem gX15_ok : GamOk Try.prog gX15 := GamOk.cons gX14_ok Try.func52 (by kernel_rfl) (by kernel_rfl) Iresponse_sound
end Go.Proofs.Ytingmlhhabaplaa.Ev
