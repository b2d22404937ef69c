/- Wire: what the document reads: commands got. No conditions. -/
import Derived.Test.YtingmlhhabaplaaGreatEvWire10
namespace Go.Proofs.YtingmlhhabaplaaGreat.Ev
open Go
set_option linter.unusedVariables false
set_option linter.unusedSimpArgs false
set_option maxRecDepth 100000
set_option maxHeartbeats 4000000
def dt48 : In → S48 × In := (gP dBy (gP dt46 dNu))
theorem qt48 : DL dt48 en48 ok48 8 := ((qBy.pair (qt46.pair qNu)) : DL ((gP dBy (gP dt46 dNu))) _ _ _).mono (by decide)
abbrev cDGetPart : Ctr := cGet2 gt48 1 60000 z48 (fun x : S48 => .agg ((pv48 x).map (AV.p true)))
theorem DGetPart_does : Does gE0 tab Tryz.f17 cDGetPart := by
  rintro l -
  have hl : (dBg l).1.length ≤ 1000000 := Nat.le_trans (dBg_len l) (by decide)
  have h0 : (dBy (dBg l)).2.1.length ≤ 1000000 := Nat.le_trans (qBy.len _) hl
  have h1 : (dt46 (dBy (dBg l)).2).2.1.length ≤ 1000000 := Nat.le_trans (qt46.len _) h0
  have h2 : (dNu (dt46 (dBy (dBg l)).2).2).2.1.length ≤ 1000000 := Nat.le_trans (qNu.len _) h1
  have hE : dt48 (dBg l) = (((dBy (dBg l)).1, (dt46 (dBy (dBg l)).2).1, (dNu (dt46 (dBy (dBg l)).2).2).1), (dNu (dt46 (dBy (dBg l)).2).2).2) := by simp only [dt48, gP]
  obtain ⟨hok, hlen, -⟩ := qt48.bnd (dBg l) hl
  have hB : ok48 (dt48 (dBg l)).1 ∧ (en48 (dt48 (dBg l)).1).length ≤ 900000000000 := ⟨hok, by omega⟩
  have hG := dGet_eq rt48 qt48 1 60000 (by decide) z48 l
  clear hok hlen
  rw [hE] at hB hG
  simp only at hB hG
  (set_option smartUnfolding false in conv => whnf)
  refine ⟨l, ?_⟩
  conv => whnf
  refine And.intro (by simp only [allP, List.nil_append, List.cons_append, true_and]; and_intros <;> first | exact trivial | rfl) ?_
  (set_option smartUnfolding false in conv => whnf)
  refine ⟨(dBg l), ?_⟩
  conv => whnf
  refine And.intro (by simp only [allP, List.nil_append, List.cons_append, true_and]; and_intros <;> first | exact hl | rfl) ?_
  (set_option smartUnfolding false in conv => whnf)
  rw [show (dNu (dBg l)).2 = (dBy (dBg l)).2 from rfl]
  try rw [dBy_val (dBg l)]
  generalize dBy (dBg l) = r0 at hE hB hG h0 h1 h2 ⊢
  refine And.intro (by first | exact Nat.le_of_ble_eq_true rfl | exact ⟨Nat.le_of_ble_eq_true rfl, rfl⟩ | exact rfl | decide | (simp [allP]; done)) ?_
  (set_option smartUnfolding false in conv => whnf)
  refine ⟨r0.2, ?_⟩
  conv => whnf
  refine And.intro (by simp only [allP, List.nil_append, List.cons_append, true_and]; and_intros <;> first | exact h0 | rfl) ?_
  (set_option smartUnfolding false in conv => whnf)
  generalize dt46 r0.2 = r1 at hE hB hG h1 h2 ⊢
  refine And.intro (by first | exact Nat.le_of_ble_eq_true rfl | exact ⟨Nat.le_of_ble_eq_true rfl, rfl⟩ | exact rfl | decide | (simp [allP]; done)) ?_
  (set_option smartUnfolding false in conv => whnf)
  refine ⟨r1.2, ?_⟩
  conv => whnf
  refine And.intro (by simp only [allP, List.nil_append, List.cons_append, true_and]; and_intros <;> first | exact h1 | rfl) ?_
  (set_option smartUnfolding false in conv => whnf)
  have w2 := dNu_w r1.2
  generalize dNu r1.2 = r2 at hE hB hG h2 w2 ⊢
  try rw [w2]
  refine And.intro (by first | exact Nat.le_of_ble_eq_true rfl | exact ⟨Nat.le_of_ble_eq_true rfl, rfl⟩ | exact rfl | decide | (simp [allP]; done)) ?_
  (set_option smartUnfolding false in conv => whnf)
  refine And.intro (by first | exact Nat.le_of_ble_eq_true rfl | exact ⟨Nat.le_of_ble_eq_true rfl, rfl⟩ | exact rfl | decide | (simp [allP]; done)) ?_
  (set_option smartUnfolding false in conv => whnf)
  refine ⟨(r0.1, r1.1, r2.1), ?_⟩
  conv => whnf
  refine And.intro (by simp only [allP, List.nil_append, List.cons_append, true_and]; repeat' (first | exact hB.1 | exact hB.2 | rfl | refine And.intro ?_ ?_)) ?_
  (set_option smartUnfolding false in conv => whnf)
  refine ⟨(r2.2, 1 :: en48 (r0.1, r1.1, r2.1), l, 60000), ?_⟩
  conv => whnf
  refine And.intro (by simp only [allP, List.nil_append, List.cons_append, true_and]; and_intros <;> first | exact trivial | rfl) ?_
  (set_option smartUnfolding false in conv => whnf)
  generalize hc : (!r2.2.2 && decide (l.length ≤ 60000) && decide (1 :: en48 (r0.1, r1.1, r2.1) = l)) = c at hG ⊢
  cases c
  · (set_option smartUnfolding false in conv => whnf)
    refine And.intro (by first | exact Nat.le_of_ble_eq_true rfl | exact ⟨Nat.le_of_ble_eq_true rfl, rfl⟩ | exact rfl | decide | (simp [allP]; done)) ?_
    (set_option smartUnfolding false in conv => whnf)
    refine And.intro (by first | exact Nat.le_of_ble_eq_true rfl | exact ⟨Nat.le_of_ble_eq_true rfl, rfl⟩ | exact rfl | decide | (simp [allP]; done)) ?_
    (set_option smartUnfolding false in conv => whnf)
    rw [hG]
    and_intros <;> first | rfl | exact trivial | (simp [pvle, z48, gSel]; done)
  · (set_option smartUnfolding false in conv => whnf)
    refine And.intro (by first | exact Nat.le_of_ble_eq_true rfl | exact ⟨Nat.le_of_ble_eq_true rfl, rfl⟩ | exact rfl | decide | (simp [allP]; done)) ?_
    (set_option smartUnfolding false in conv => whnf)
    refine And.intro (by first | exact Nat.le_of_ble_eq_true rfl | exact ⟨Nat.le_of_ble_eq_true rfl, rfl⟩ | exact rfl | decide | (simp [allP]; done)) ?_
    (set_option smartUnfolding false in conv => whnf)
    refine And.intro (by first | exact Nat.le_of_ble_eq_true rfl | exact ⟨Nat.le_of_ble_eq_true rfl, rfl⟩ | exact rfl | decide | (simp [allP]; done)) ?_
    (set_option smartUnfolding false in conv => whnf)
    rw [hG]
    and_intros <;> first | rfl | exact trivial | (simp [pvle]; done)
theorem DGetPart_sound : Sound Tryz.prog 17 cDGetPart := does_sound mixed tabOk_prog gE0_ok Tryz.func17 DGetPart_does
def gE1 : List (FuncId × Ctr) := (17, cDGetPart) :: gE0
theorem gE1_ok : GamOk Tryz.prog gE1 := GamOk.cons gE0_ok Tryz.func17 (by kernel_rfl) (by kernel_rfl) DGetPart_sound
abbrev cDGetMeta : Ctr := cGet2 gt57 2 60000 z57 (fun x : S57 => .agg ((pv57 x).map (AV.p true)))
theorem DGetMeta_does : Does gE1 tab Tryz.f20 cDGetMeta := by
  rintro l -
  have hl : (dBg l).1.length ≤ 1000000 := Nat.le_trans (dBg_len l) (by decide)
  have h0 : (dt57 (dBg l)).2.1.length ≤ 1000000 := Nat.le_trans (qt57.len _) hl
  have hE : dt57 (dBg l) = dt57 (dBg l) := rfl
  obtain ⟨hok, hlen, -⟩ := qt57.bnd (dBg l) hl
  have hB : ok57 (dt57 (dBg l)).1 ∧ (en57 (dt57 (dBg l)).1).length ≤ 900000000000 := ⟨hok, by omega⟩
  have hG := dGet_eq rt57 qt57 2 60000 (by decide) z57 l
  clear hok hlen
  (set_option smartUnfolding false in conv => whnf)
  refine ⟨l, ?_⟩
  conv => whnf
  refine And.intro (by simp only [allP, List.nil_append, List.cons_append, true_and]; and_intros <;> first | exact trivial | rfl) ?_
  (set_option smartUnfolding false in conv => whnf)
  refine ⟨dBg l, ?_⟩
  conv => whnf
  refine And.intro (by simp only [allP, List.nil_append, List.cons_append, true_and]; and_intros <;> first | exact hl | rfl) ?_
  (set_option smartUnfolding false in conv => whnf)
  generalize dt57 (dBg l) = r0 at hB hG hE ⊢
  refine And.intro (by first | exact Nat.le_of_ble_eq_true rfl | exact ⟨Nat.le_of_ble_eq_true rfl, rfl⟩ | exact rfl | decide | (simp [allP]; done)) ?_
  (set_option smartUnfolding false in conv => whnf)
  refine And.intro (by first | exact Nat.le_of_ble_eq_true rfl | exact ⟨Nat.le_of_ble_eq_true rfl, rfl⟩ | exact rfl | decide | (simp [allP]; done)) ?_
  (set_option smartUnfolding false in conv => whnf)
  refine ⟨r0.1, ?_⟩
  conv => whnf
  refine And.intro (by simp only [allP, List.nil_append, List.cons_append, true_and]; repeat' (first | exact hB.1 | exact hB.2 | rfl | refine And.intro ?_ ?_)) ?_
  (set_option smartUnfolding false in conv => whnf)
  refine ⟨(r0.2, 2 :: en57 r0.1, l, 60000), ?_⟩
  conv => whnf
  refine And.intro (by simp only [allP, List.nil_append, List.cons_append, true_and]; and_intros <;> first | exact trivial | rfl) ?_
  (set_option smartUnfolding false in conv => whnf)
  generalize hc : (!r0.2.2 && decide (l.length ≤ 60000) && decide (2 :: en57 r0.1 = l)) = c at hG ⊢
  cases c
  · (set_option smartUnfolding false in conv => whnf)
    refine And.intro (by first | exact Nat.le_of_ble_eq_true rfl | exact ⟨Nat.le_of_ble_eq_true rfl, rfl⟩ | exact rfl | decide | (simp [allP]; done)) ?_
    (set_option smartUnfolding false in conv => whnf)
    refine And.intro (by first | exact Nat.le_of_ble_eq_true rfl | exact ⟨Nat.le_of_ble_eq_true rfl, rfl⟩ | exact rfl | decide | (simp [allP]; done)) ?_
    (set_option smartUnfolding false in conv => whnf)
    rw [hG]
    and_intros <;> first | rfl | exact trivial | (simp [pvle, z57, gSel]; done)
  · (set_option smartUnfolding false in conv => whnf)
    refine And.intro (by first | exact Nat.le_of_ble_eq_true rfl | exact ⟨Nat.le_of_ble_eq_true rfl, rfl⟩ | exact rfl | decide | (simp [allP]; done)) ?_
    (set_option smartUnfolding false in conv => whnf)
    refine And.intro (by first | exact Nat.le_of_ble_eq_true rfl | exact ⟨Nat.le_of_ble_eq_true rfl, rfl⟩ | exact rfl | decide | (simp [allP]; done)) ?_
    (set_option smartUnfolding false in conv => whnf)
    refine And.intro (by first | exact Nat.le_of_ble_eq_true rfl | exact ⟨Nat.le_of_ble_eq_true rfl, rfl⟩ | exact rfl | decide | (simp [allP]; done)) ?_
    (set_option smartUnfolding false in conv => whnf)
    rw [hG]
    and_intros <;> first | rfl | exact trivial | (simp [pvle]; done)
theorem DGetMeta_sound : Sound Tryz.prog 20 cDGetMeta := does_sound mixed tabOk_prog gE1_ok Tryz.func20 DGetMeta_does
def gE2 : List (FuncId × Ctr) := (20, cDGetMeta) :: gE1
theorem gE2_ok : GamOk Tryz.prog gE2 := GamOk.cons gE1_ok Tryz.func20 (by kernel_rfl) (by kernel_rfl) DGetMeta_sound
end Go.Proofs.YtingmlhhabaplaaGreat.Ev
