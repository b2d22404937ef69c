/- Wire: what the program reads: batches, commands. No conditions. -/
import Derived.Test.YtingmlhhabaplaaEvWire7
namespace Go.Proofs.Ytingmlhhabaplaa.Ev
open Go
set_option linter.unusedVariables false
set_option linter.unusedSimpArgs false
set_option maxRecDepth 100000
set_option maxHeartbeats 4000000
def gt25 : In → S25 × In := (gP gNu (gP gNu (gP gNu (gLs gRc))))
theorem rt25 : RL gt25 en25 ok25 := (rNu.pair (rNu.pair (rNu.pair (rRc.list 24 (by decide) (by decide)))))
abbrev cIbatch : Ctr := cI6 gt25 (fun x : S25 => .agg ((pv25 x).map (AV.p true)))
theorem Ibatch_does : Does gX7 tab Try.f75 cIbatch := by
  rintro s (h : s.1.length ≤ 1000000)
  have h0 : (gNu s).2.1.length ≤ 1000000 := Nat.le_trans (rNu.len _) h
  have h1 : (gNu (gNu s).2).2.1.length ≤ 1000000 := Nat.le_trans (rNu.len _) h0
  have h2 : (gNu (gNu (gNu s).2).2).2.1.length ≤ 1000000 := Nat.le_trans (rNu.len _) h1
  have h3 : ((gLs gRc) (gNu (gNu (gNu s).2).2).2).2.1.length ≤ 1000000 := Nat.le_trans ((rRc.list 24 (by decide) (by decide)).len _) h2
  have hE : gt25 s = (((gNu s).1, (gNu (gNu s).2).1, (gNu (gNu (gNu s).2).2).1, ((gLs gRc) (gNu (gNu (gNu s).2).2).2).1), ((gLs gRc) (gNu (gNu (gNu s).2).2).2).2) := by simp only [gt25, gP]
  (set_option smartUnfolding false in conv => whnf)
  refine ⟨s, ?_⟩
  conv => whnf
  refine And.intro (by simp only [allP, List.nil_append, List.cons_append, true_and]; and_intros <;> first | exact h | exact Nat.le_trans h (by decide) | rfl) ?_
  (set_option smartUnfolding false in conv => whnf)
  have w0 := gNu_w s
  generalize gNu s = r0 at hE h0 h1 h2 h3 w0 ⊢
  try rw [w0]
  refine ⟨r0.2, ?_⟩
  conv => whnf
  refine And.intro (by simp only [allP, List.nil_append, List.cons_append, true_and]; and_intros <;> first | exact h0 | exact Nat.le_trans h0 (by decide) | rfl) ?_
  (set_option smartUnfolding false in conv => whnf)
  have w1 := gNu_w r0.2
  generalize gNu r0.2 = r1 at hE h1 h2 h3 w1 ⊢
  try rw [w1]
  refine ⟨r1.2, ?_⟩
  conv => whnf
  refine And.intro (by simp only [allP, List.nil_append, List.cons_append, true_and]; and_intros <;> first | exact h1 | exact Nat.le_trans h1 (by decide) | rfl) ?_
  (set_option smartUnfolding false in conv => whnf)
  have w2 := gNu_w r1.2
  generalize gNu r1.2 = r2 at hE h2 h3 w2 ⊢
  try rw [w2]
  refine ⟨r2.2, ?_⟩
  conv => whnf
  refine And.intro (by simp only [allP, List.nil_append, List.cons_append, true_and]; and_intros <;> first | exact h2 | exact Nat.le_trans h2 (by decide) | rfl) ?_
  (set_option smartUnfolding false in conv => whnf)
  generalize (gLs gRc) r2.2 = r3 at hE h3 ⊢
  refine And.intro (by first | exact Nat.le_of_ble_eq_true rfl | exact ⟨Nat.le_of_ble_eq_true rfl, rfl⟩ | exact rfl | decide | (simp [allP]; done)) ?_
  (set_option smartUnfolding false in conv => whnf)
  refine And.intro (by first | exact Nat.le_of_ble_eq_true rfl | exact ⟨Nat.le_of_ble_eq_true rfl, rfl⟩ | exact rfl | decide | (simp [allP]; done)) ?_
  (set_option smartUnfolding false in conv => whnf)
  rw [hE]
  and_intros <;> first | rfl | exact trivial | (simp [pvle]; done)
theorem Ibatch_sound : Sound Try.prog 75 cIbatch := does_sound mixed tabOk_prog gX7_ok Try.func75 Ibatch_does
def gX8 : List (FuncId × Ctr) := (75, cIbatch) :: gX7
theorem gX8_ok : GamOk Try.prog gX8 := GamOk.cons gX7_ok Try.func75 (by kernel_rfl) (by kernel_rfl) Ibatch_sound
def gt27 : In → S27 × In := (gP gBy (gP gt25 gNu))
theorem rt27 : RL gt27 en27 ok27 := (rBy.pair (rt25.pair rNu))
abbrev cIpart : Ctr := cI6 gt27 (fun x : S27 => .agg ((pv27 x).map (AV.p true)))
theorem Ipart_does : Does gX8 tab Try.f47 cIpart := by
  rintro s (h : s.1.length ≤ 1000000)
  have h0 : (gBy s).2.1.length ≤ 1000000 := Nat.le_trans (rBy.len _) h
  have h1 : (gt25 (gBy s).2).2.1.length ≤ 1000000 := Nat.le_trans (rt25.len _) h0
  have h2 : (gNu (gt25 (gBy s).2).2).2.1.length ≤ 1000000 := Nat.le_trans (rNu.len _) h1
  have hE : gt27 s = (((gBy s).1, (gt25 (gBy s).2).1, (gNu (gt25 (gBy s).2).2).1), (gNu (gt25 (gBy s).2).2).2) := by simp only [gt27, gP]
  (set_option smartUnfolding false in conv => whnf)
  refine ⟨s, ?_⟩
  conv => whnf
  refine And.intro (by simp only [allP, List.nil_append, List.cons_append, true_and]; and_intros <;> first | exact h | exact Nat.le_trans h (by decide) | rfl) ?_
  (set_option smartUnfolding false in conv => whnf)
  have w0 := gBy_w s
  generalize gBy s = r0 at hE h0 h1 h2 w0 ⊢
  try rw [w0]
  refine ⟨r0.2, ?_⟩
  conv => whnf
  refine And.intro (by simp only [allP, List.nil_append, List.cons_append, true_and]; and_intros <;> first | exact h0 | exact Nat.le_trans h0 (by decide) | rfl) ?_
  (set_option smartUnfolding false in conv => whnf)
  generalize gt25 r0.2 = r1 at hE h1 h2 ⊢
  refine ⟨r1.2, ?_⟩
  conv => whnf
  refine And.intro (by simp only [allP, List.nil_append, List.cons_append, true_and]; and_intros <;> first | exact h1 | exact Nat.le_trans h1 (by decide) | rfl) ?_
  (set_option smartUnfolding false in conv => whnf)
  have w2 := gNu_w r1.2
  generalize gNu r1.2 = r2 at hE h2 w2 ⊢
  try rw [w2]
  refine And.intro (by first | exact Nat.le_of_ble_eq_true rfl | exact ⟨Nat.le_of_ble_eq_true rfl, rfl⟩ | exact rfl | decide | (simp [allP]; done)) ?_
  (set_option smartUnfolding false in conv => whnf)
  refine And.intro (by first | exact Nat.le_of_ble_eq_true rfl | exact ⟨Nat.le_of_ble_eq_true rfl, rfl⟩ | exact rfl | decide | (simp [allP]; done)) ?_
  (set_option smartUnfolding false in conv => whnf)
  rw [hE]
  and_intros <;> first | rfl | exact trivial | (simp [pvle]; done)
theorem Ipart_sound : Sound Try.prog 47 cIpart := does_sound mixed tabOk_prog gX8_ok Try.func47 Ipart_does
def gX9 : List (FuncId × Ctr) := (47, cIpart) :: gX8
theorem gX9_ok : GamOk Try.prog gX9 := GamOk.cons gX8_ok Try.func47 (by kernel_rfl) (by kernel_rfl) Ipart_sound
def gt33 : In → S33 × In := (gP gBy (gP gTx (gP gTx (gP gNu (gP (gLs gTx) (gP gt31 (gP gNu (gP gNu (gP gNu gNu)))))))))
theorem rt33 : RL gt33 en33 ok33 := (rBy.pair (rTx.pair (rTx.pair (rNu.pair ((rTx.list 16 (by decide) (by decide)).pair (rt31.pair (rNu.pair (rNu.pair (rNu.pair rNu)))))))))
abbrev cImeta : Ctr := cI6 gt33 (fun x : S33 => .agg ((pv33 x).map (AV.p true)))
theorem Imeta_does : Does gX9 tab Try.f49 cImeta := by
  rintro s (h : s.1.length ≤ 1000000)
  have h0 : (gBy s).2.1.length ≤ 1000000 := Nat.le_trans (rBy.len _) h
  have h1 : (gTx (gBy s).2).2.1.length ≤ 1000000 := Nat.le_trans (rTx.len _) h0
  have h2 : (gTx (gTx (gBy s).2).2).2.1.length ≤ 1000000 := Nat.le_trans (rTx.len _) h1
  have h3 : (gNu (gTx (gTx (gBy s).2).2).2).2.1.length ≤ 1000000 := Nat.le_trans (rNu.len _) h2
  have h4 : ((gLs gTx) (gNu (gTx (gTx (gBy s).2).2).2).2).2.1.length ≤ 1000000 := Nat.le_trans ((rTx.list 16 (by decide) (by decide)).len _) h3
  have h5 : (gt31 ((gLs gTx) (gNu (gTx (gTx (gBy s).2).2).2).2).2).2.1.length ≤ 1000000 := Nat.le_trans (rt31.len _) h4
  have h6 : (gNu (gt31 ((gLs gTx) (gNu (gTx (gTx (gBy s).2).2).2).2).2).2).2.1.length ≤ 1000000 := Nat.le_trans (rNu.len _) h5
  have h7 : (gNu (gNu (gt31 ((gLs gTx) (gNu (gTx (gTx (gBy s).2).2).2).2).2).2).2).2.1.length ≤ 1000000 := Nat.le_trans (rNu.len _) h6
  have h8 : (gNu (gNu (gNu (gt31 ((gLs gTx) (gNu (gTx (gTx (gBy s).2).2).2).2).2).2).2).2).2.1.length ≤ 1000000 := Nat.le_trans (rNu.len _) h7
  have h9 : (gNu (gNu (gNu (gNu (gt31 ((gLs gTx) (gNu (gTx (gTx (gBy s).2).2).2).2).2).2).2).2).2).2.1.length ≤ 1000000 := Nat.le_trans (rNu.len _) h8
  have hE : gt33 s = (((gBy s).1, (gTx (gBy s).2).1, (gTx (gTx (gBy s).2).2).1, (gNu (gTx (gTx (gBy s).2).2).2).1, ((gLs gTx) (gNu (gTx (gTx (gBy s).2).2).2).2).1, (gt31 ((gLs gTx) (gNu (gTx (gTx (gBy s).2).2).2).2).2).1, (gNu (gt31 ((gLs gTx) (gNu (gTx (gTx (gBy s).2).2).2).2).2).2).1, (gNu (gNu (gt31 ((gLs gTx) (gNu (gTx (gTx (gBy s).2).2).2).2).2).2).2).1, (gNu (gNu (gNu (gt31 ((gLs gTx) (gNu (gTx (gTx (gBy s).2).2).2).2).2).2).2).2).1, (gNu (gNu (gNu (gNu (gt31 ((gLs gTx) (gNu (gTx (gTx (gBy s).2).2).2).2).2).2).2).2).2).1), (gNu (gNu (gNu (gNu (gt31 ((gLs gTx) (gNu (gTx (gTx (gBy s).2).2).2).2).2).2).2).2).2).2) := by simp only [gt33, gP]
  (set_option smartUnfolding false in conv => whnf)
  refine ⟨s, ?_⟩
  conv => whnf
  refine And.intro (by simp only [allP, List.nil_append, List.cons_append, true_and]; and_intros <;> first | exact h | exact Nat.le_trans h (by decide) | rfl) ?_
  (set_option smartUnfolding false in conv => whnf)
  have w0 := gBy_w s
  generalize gBy s = r0 at hE h0 h1 h2 h3 h4 h5 h6 h7 h8 h9 w0 ⊢
  try rw [w0]
  refine ⟨r0.2, ?_⟩
  conv => whnf
  refine And.intro (by simp only [allP, List.nil_append, List.cons_append, true_and]; and_intros <;> first | exact h0 | exact Nat.le_trans h0 (by decide) | rfl) ?_
  (set_option smartUnfolding false in conv => whnf)
  generalize gTx r0.2 = r1 at hE h1 h2 h3 h4 h5 h6 h7 h8 h9 ⊢
  refine ⟨r1.2, ?_⟩
  conv => whnf
  refine And.intro (by simp only [allP, List.nil_append, List.cons_append, true_and]; and_intros <;> first | exact h1 | exact Nat.le_trans h1 (by decide) | rfl) ?_
  (set_option smartUnfolding false in conv => whnf)
  generalize gTx r1.2 = r2 at hE h2 h3 h4 h5 h6 h7 h8 h9 ⊢
  refine ⟨r2.2, ?_⟩
  conv => whnf
  refine And.intro (by simp only [allP, List.nil_append, List.cons_append, true_and]; and_intros <;> first | exact h2 | exact Nat.le_trans h2 (by decide) | rfl) ?_
  (set_option smartUnfolding false in conv => whnf)
  have w3 := gNu_w r2.2
  generalize gNu r2.2 = r3 at hE h3 h4 h5 h6 h7 h8 h9 w3 ⊢
  try rw [w3]
  refine ⟨r3.2, ?_⟩
  conv => whnf
  refine And.intro (by simp only [allP, List.nil_append, List.cons_append, true_and]; and_intros <;> first | exact h3 | exact Nat.le_trans h3 (by decide) | rfl) ?_
  (set_option smartUnfolding false in conv => whnf)
  generalize (gLs gTx) r3.2 = r4 at hE h4 h5 h6 h7 h8 h9 ⊢
  refine ⟨r4.2, ?_⟩
  conv => whnf
  refine And.intro (by simp only [allP, List.nil_append, List.cons_append, true_and]; and_intros <;> first | exact h4 | exact Nat.le_trans h4 (by decide) | rfl) ?_
  (set_option smartUnfolding false in conv => whnf)
  generalize gt31 r4.2 = r5 at hE h5 h6 h7 h8 h9 ⊢
  refine ⟨r5.2, ?_⟩
  conv => whnf
  refine And.intro (by simp only [allP, List.nil_append, List.cons_append, true_and]; and_intros <;> first | exact h5 | exact Nat.le_trans h5 (by decide) | rfl) ?_
  (set_option smartUnfolding false in conv => whnf)
  have w6 := gNu_w r5.2
  generalize gNu r5.2 = r6 at hE h6 h7 h8 h9 w6 ⊢
  try rw [w6]
  refine ⟨r6.2, ?_⟩
  conv => whnf
  refine And.intro (by simp only [allP, List.nil_append, List.cons_append, true_and]; and_intros <;> first | exact h6 | exact Nat.le_trans h6 (by decide) | rfl) ?_
  (set_option smartUnfolding false in conv => whnf)
  have w7 := gNu_w r6.2
  generalize gNu r6.2 = r7 at hE h7 h8 h9 w7 ⊢
  try rw [w7]
  refine ⟨r7.2, ?_⟩
  conv => whnf
  refine And.intro (by simp only [allP, List.nil_append, List.cons_append, true_and]; and_intros <;> first | exact h7 | exact Nat.le_trans h7 (by decide) | rfl) ?_
  (set_option smartUnfolding false in conv => whnf)
  have w8 := gNu_w r7.2
  generalize gNu r7.2 = r8 at hE h8 h9 w8 ⊢
  try rw [w8]
  refine ⟨r8.2, ?_⟩
  conv => whnf
  refine And.intro (by simp only [allP, List.nil_append, List.cons_append, true_and]; and_intros <;> first | exact h8 | exact Nat.le_trans h8 (by decide) | rfl) ?_
  (set_option smartUnfolding false in conv => whnf)
  have w9 := gNu_w r8.2
  generalize gNu r8.2 = r9 at hE h9 w9 ⊢
  try rw [w9]
  refine And.intro (by first | exact Nat.le_of_ble_eq_true rfl | exact ⟨Nat.le_of_ble_eq_true rfl, rfl⟩ | exact rfl | decide | (simp [allP]; done)) ?_
  (set_option smartUnfolding false in conv => whnf)
  refine And.intro (by first | exact Nat.le_of_ble_eq_true rfl | exact ⟨Nat.le_of_ble_eq_true rfl, rfl⟩ | exact rfl | decide | (simp [allP]; done)) ?_
  (set_option smartUnfolding false in conv => whnf)
  rw [hE]
  and_intros <;> first | rfl | exact trivial | (simp [pvle]; done)
theorem Imeta_sound : Sound Try.prog 49 cImeta := does_sound mixed tabOk_prog gX9_ok Try.func49 Imeta_does
def gX10 : List (FuncId × Ctr) := (49, cImeta) :: gX9
theorem gX10_ok : GamOk Try.prog gX10 := GamOk.cons gX9_ok Try.func49 (by kernel_rfl) (by kernel_rfl) Imeta_sound
end Go.Proofs.Ytingmlhhabaplaa.Ev
