/- Wire: what the document reads: requests, responses got. No conditions. -/
import Derived.Test.YtingmlhhabaplaaGreatEvWire10a
namespace Go.Proofs.YtingmlhhabaplaaGreat.Ev
open Go
set_option linter.unusedVariables false
set_option linter.unusedSimpArgs false
set_option maxRecDepth 100000
set_option maxHeartbeats 4000000
def dt63 : In → S63 × In := (gP dBy (gP dNu (gP dNu (gP dTx (gP dNu (gP dt46 (gP dNu (gP dNu (gP dNu dt57)))))))))
theorem qt63 : DL dt63 en63 ok63 27 := ((qBy.pair (qNu.pair (qNu.pair (qTx.pair (qNu.pair (qt46.pair (qNu.pair (qNu.pair (qNu.pair qt57))))))))) : DL ((gP dBy (gP dNu (gP dNu (gP dTx (gP dNu (gP dt46 (gP dNu (gP dNu (gP dNu dt57)))))))))) _ _ _).mono (by decide)
abbrev cDGetRequest : Ctr := cGet2 gt63 5 60000 z63 (fun x : S63 => .agg ((pv63 x).map (AV.p true)))
theorem DGetRequest_does : Does gE2 tab Tryz.f23 cDGetRequest := by
  rintro l -
  have hl : (dBg l).1.length ≤ 1000000 := Nat.le_trans (dBg_len l) (by decide)
  have h0 : (dBy (dBg l)).2.1.length ≤ 1000000 := Nat.le_trans (qBy.len _) hl
  have h1 : (dNu (dBy (dBg l)).2).2.1.length ≤ 1000000 := Nat.le_trans (qNu.len _) h0
  have h2 : (dNu (dNu (dBy (dBg l)).2).2).2.1.length ≤ 1000000 := Nat.le_trans (qNu.len _) h1
  have h3 : (dTx (dNu (dNu (dBy (dBg l)).2).2).2).2.1.length ≤ 1000000 := Nat.le_trans (qTx.len _) h2
  have h4 : (dNu (dTx (dNu (dNu (dBy (dBg l)).2).2).2).2).2.1.length ≤ 1000000 := Nat.le_trans (qNu.len _) h3
  have h5 : (dt46 (dNu (dTx (dNu (dNu (dBy (dBg l)).2).2).2).2).2).2.1.length ≤ 1000000 := Nat.le_trans (qt46.len _) h4
  have h6 : (dNu (dt46 (dNu (dTx (dNu (dNu (dBy (dBg l)).2).2).2).2).2).2).2.1.length ≤ 1000000 := Nat.le_trans (qNu.len _) h5
  have h7 : (dNu (dNu (dt46 (dNu (dTx (dNu (dNu (dBy (dBg l)).2).2).2).2).2).2).2).2.1.length ≤ 1000000 := Nat.le_trans (qNu.len _) h6
  have h8 : (dNu (dNu (dNu (dt46 (dNu (dTx (dNu (dNu (dBy (dBg l)).2).2).2).2).2).2).2).2).2.1.length ≤ 1000000 := Nat.le_trans (qNu.len _) h7
  have h9 : (dt57 (dNu (dNu (dNu (dt46 (dNu (dTx (dNu (dNu (dBy (dBg l)).2).2).2).2).2).2).2).2).2).2.1.length ≤ 1000000 := Nat.le_trans (qt57.len _) h8
  have hE : dt63 (dBg l) = (((dBy (dBg l)).1, (dNu (dBy (dBg l)).2).1, (dNu (dNu (dBy (dBg l)).2).2).1, (dTx (dNu (dNu (dBy (dBg l)).2).2).2).1, (dNu (dTx (dNu (dNu (dBy (dBg l)).2).2).2).2).1, (dt46 (dNu (dTx (dNu (dNu (dBy (dBg l)).2).2).2).2).2).1, (dNu (dt46 (dNu (dTx (dNu (dNu (dBy (dBg l)).2).2).2).2).2).2).1, (dNu (dNu (dt46 (dNu (dTx (dNu (dNu (dBy (dBg l)).2).2).2).2).2).2).2).1, (dNu (dNu (dNu (dt46 (dNu (dTx (dNu (dNu (dBy (dBg l)).2).2).2).2).2).2).2).2).1, (dt57 (dNu (dNu (dNu (dt46 (dNu (dTx (dNu (dNu (dBy (dBg l)).2).2).2).2).2).2).2).2).2).1), (dt57 (dNu (dNu (dNu (dt46 (dNu (dTx (dNu (dNu (dBy (dBg l)).2).2).2).2).2).2).2).2).2).2) := by simp only [dt63, gP]
  obtain ⟨hok, hlen, -⟩ := qt63.bnd (dBg l) hl
  have hB : ok63 (dt63 (dBg l)).1 ∧ (en63 (dt63 (dBg l)).1).length ≤ 900000000000 := ⟨hok, by omega⟩
  have hG := dGet_eq rt63 qt63 5 60000 (by decide) z63 l
  clear hok hlen
  rw [hE] at hB hG
  simp only at hB hG
  (set_option smartUnfolding false in conv => whnf)
  refine ⟨l, ?_⟩
  conv => whnf
  refine And.intro (by simp only [allP, List.nil_append, List.cons_append, true_and]; and_intros <;> first | exact trivial | rfl) ?_
  (set_option smartUnfolding false in conv => whnf)
  refine ⟨(dBg l), ?_⟩
  conv => whnf
  refine And.intro (by simp only [allP, List.nil_append, List.cons_append, true_and]; and_intros <;> first | exact hl | rfl) ?_
  (set_option smartUnfolding false in conv => whnf)
  rw [show (dNu (dBg l)).2 = (dBy (dBg l)).2 from rfl]
  try rw [dBy_val (dBg l)]
  generalize dBy (dBg l) = r0 at hE hB hG h0 h1 h2 h3 h4 h5 h6 h7 h8 h9 ⊢
  refine And.intro (by first | exact Nat.le_of_ble_eq_true rfl | exact ⟨Nat.le_of_ble_eq_true rfl, rfl⟩ | exact rfl | decide | (simp [allP]; done)) ?_
  (set_option smartUnfolding false in conv => whnf)
  refine ⟨r0.2, ?_⟩
  conv => whnf
  refine And.intro (by simp only [allP, List.nil_append, List.cons_append, true_and]; and_intros <;> first | exact h0 | rfl) ?_
  (set_option smartUnfolding false in conv => whnf)
  have w1 := dNu_w r0.2
  generalize dNu r0.2 = r1 at hE hB hG h1 h2 h3 h4 h5 h6 h7 h8 h9 w1 ⊢
  try rw [w1]
  refine And.intro (by first | exact Nat.le_of_ble_eq_true rfl | exact ⟨Nat.le_of_ble_eq_true rfl, rfl⟩ | exact rfl | decide | (simp [allP]; done)) ?_
  (set_option smartUnfolding false in conv => whnf)
  refine ⟨r1.2, ?_⟩
  conv => whnf
  refine And.intro (by simp only [allP, List.nil_append, List.cons_append, true_and]; and_intros <;> first | exact h1 | rfl) ?_
  (set_option smartUnfolding false in conv => whnf)
  have w2 := dNu_w r1.2
  generalize dNu r1.2 = r2 at hE hB hG h2 h3 h4 h5 h6 h7 h8 h9 w2 ⊢
  try rw [w2]
  refine And.intro (by first | exact Nat.le_of_ble_eq_true rfl | exact ⟨Nat.le_of_ble_eq_true rfl, rfl⟩ | exact rfl | decide | (simp [allP]; done)) ?_
  (set_option smartUnfolding false in conv => whnf)
  refine ⟨r2.2, ?_⟩
  conv => whnf
  refine And.intro (by simp only [allP, List.nil_append, List.cons_append, true_and]; and_intros <;> first | exact h2 | rfl) ?_
  (set_option smartUnfolding false in conv => whnf)
  generalize dTx r2.2 = r3 at hE hB hG h3 h4 h5 h6 h7 h8 h9 ⊢
  refine And.intro (by first | exact Nat.le_of_ble_eq_true rfl | exact ⟨Nat.le_of_ble_eq_true rfl, rfl⟩ | exact rfl | decide | (simp [allP]; done)) ?_
  (set_option smartUnfolding false in conv => whnf)
  refine ⟨r3.2, ?_⟩
  conv => whnf
  refine And.intro (by simp only [allP, List.nil_append, List.cons_append, true_and]; and_intros <;> first | exact h3 | rfl) ?_
  (set_option smartUnfolding false in conv => whnf)
  have w4 := dNu_w r3.2
  generalize dNu r3.2 = r4 at hE hB hG h4 h5 h6 h7 h8 h9 w4 ⊢
  try rw [w4]
  refine And.intro (by first | exact Nat.le_of_ble_eq_true rfl | exact ⟨Nat.le_of_ble_eq_true rfl, rfl⟩ | exact rfl | decide | (simp [allP]; done)) ?_
  (set_option smartUnfolding false in conv => whnf)
  refine ⟨r4.2, ?_⟩
  conv => whnf
  refine And.intro (by simp only [allP, List.nil_append, List.cons_append, true_and]; and_intros <;> first | exact h4 | rfl) ?_
  (set_option smartUnfolding false in conv => whnf)
  generalize dt46 r4.2 = r5 at hE hB hG h5 h6 h7 h8 h9 ⊢
  refine And.intro (by first | exact Nat.le_of_ble_eq_true rfl | exact ⟨Nat.le_of_ble_eq_true rfl, rfl⟩ | exact rfl | decide | (simp [allP]; done)) ?_
  (set_option smartUnfolding false in conv => whnf)
  refine ⟨r5.2, ?_⟩
  conv => whnf
  refine And.intro (by simp only [allP, List.nil_append, List.cons_append, true_and]; and_intros <;> first | exact h5 | rfl) ?_
  (set_option smartUnfolding false in conv => whnf)
  have w6 := dNu_w r5.2
  generalize dNu r5.2 = r6 at hE hB hG h6 h7 h8 h9 w6 ⊢
  try rw [w6]
  refine And.intro (by first | exact Nat.le_of_ble_eq_true rfl | exact ⟨Nat.le_of_ble_eq_true rfl, rfl⟩ | exact rfl | decide | (simp [allP]; done)) ?_
  (set_option smartUnfolding false in conv => whnf)
  refine ⟨r6.2, ?_⟩
  conv => whnf
  refine And.intro (by simp only [allP, List.nil_append, List.cons_append, true_and]; and_intros <;> first | exact h6 | rfl) ?_
  (set_option smartUnfolding false in conv => whnf)
  have w7 := dNu_w r6.2
  generalize dNu r6.2 = r7 at hE hB hG h7 h8 h9 w7 ⊢
  try rw [w7]
  refine And.intro (by first | exact Nat.le_of_ble_eq_true rfl | exact ⟨Nat.le_of_ble_eq_true rfl, rfl⟩ | exact rfl | decide | (simp [allP]; done)) ?_
  (set_option smartUnfolding false in conv => whnf)
  refine ⟨r7.2, ?_⟩
  conv => whnf
  refine And.intro (by simp only [allP, List.nil_append, List.cons_append, true_and]; and_intros <;> first | exact h7 | rfl) ?_
  (set_option smartUnfolding false in conv => whnf)
  have w8 := dNu_w r7.2
  generalize dNu r7.2 = r8 at hE hB hG h8 h9 w8 ⊢
  try rw [w8]
  refine And.intro (by first | exact Nat.le_of_ble_eq_true rfl | exact ⟨Nat.le_of_ble_eq_true rfl, rfl⟩ | exact rfl | decide | (simp [allP]; done)) ?_
  (set_option smartUnfolding false in conv => whnf)
  refine ⟨r8.2, ?_⟩
  conv => whnf
  refine And.intro (by simp only [allP, List.nil_append, List.cons_append, true_and]; and_intros <;> first | exact h8 | rfl) ?_
  (set_option smartUnfolding false in conv => whnf)
  generalize dt57 r8.2 = r9 at hE hB hG h9 ⊢
  refine And.intro (by first | exact Nat.le_of_ble_eq_true rfl | exact ⟨Nat.le_of_ble_eq_true rfl, rfl⟩ | exact rfl | decide | (simp [allP]; done)) ?_
  (set_option smartUnfolding false in conv => whnf)
  refine And.intro (by first | exact Nat.le_of_ble_eq_true rfl | exact ⟨Nat.le_of_ble_eq_true rfl, rfl⟩ | exact rfl | decide | (simp [allP]; done)) ?_
  (set_option smartUnfolding false in conv => whnf)
  refine ⟨(r0.1, r1.1, r2.1, r3.1, r4.1, r5.1, r6.1, r7.1, r8.1, r9.1), ?_⟩
  conv => whnf
  refine And.intro (by simp only [allP, List.nil_append, List.cons_append, true_and]; repeat' (first | exact hB.1 | exact hB.2 | rfl | refine And.intro ?_ ?_)) ?_
  (set_option smartUnfolding false in conv => whnf)
  refine ⟨(r9.2, 5 :: en63 (r0.1, r1.1, r2.1, r3.1, r4.1, r5.1, r6.1, r7.1, r8.1, r9.1), l, 60000), ?_⟩
  conv => whnf
  refine And.intro (by simp only [allP, List.nil_append, List.cons_append, true_and]; and_intros <;> first | exact trivial | rfl) ?_
  (set_option smartUnfolding false in conv => whnf)
  generalize hc : (!r9.2.2 && decide (l.length ≤ 60000) && decide (5 :: en63 (r0.1, r1.1, r2.1, r3.1, r4.1, r5.1, r6.1, r7.1, r8.1, r9.1) = l)) = c at hG ⊢
  cases c
  · (set_option smartUnfolding false in conv => whnf)
    refine And.intro (by first | exact Nat.le_of_ble_eq_true rfl | exact ⟨Nat.le_of_ble_eq_true rfl, rfl⟩ | exact rfl | decide | (simp [allP]; done)) ?_
    (set_option smartUnfolding false in conv => whnf)
    refine And.intro (by first | exact Nat.le_of_ble_eq_true rfl | exact ⟨Nat.le_of_ble_eq_true rfl, rfl⟩ | exact rfl | decide | (simp [allP]; done)) ?_
    (set_option smartUnfolding false in conv => whnf)
    rw [hG]
    and_intros <;> first | rfl | exact trivial | (simp [pvle, z63, gSel]; done)
  · (set_option smartUnfolding false in conv => whnf)
    refine And.intro (by first | exact Nat.le_of_ble_eq_true rfl | exact ⟨Nat.le_of_ble_eq_true rfl, rfl⟩ | exact rfl | decide | (simp [allP]; done)) ?_
    (set_option smartUnfolding false in conv => whnf)
    refine And.intro (by first | exact Nat.le_of_ble_eq_true rfl | exact ⟨Nat.le_of_ble_eq_true rfl, rfl⟩ | exact rfl | decide | (simp [allP]; done)) ?_
    (set_option smartUnfolding false in conv => whnf)
    refine And.intro (by first | exact Nat.le_of_ble_eq_true rfl | exact ⟨Nat.le_of_ble_eq_true rfl, rfl⟩ | exact rfl | decide | (simp [allP]; done)) ?_
    (set_option smartUnfolding false in conv => whnf)
    rw [hG]
    and_intros <;> first | rfl | exact trivial | (simp [pvle]; done)
theorem DGetRequest_sound : Sound Tryz.prog 23 cDGetRequest := does_sound mixed tabOk_prog gE2_ok Tryz.func23 DGetRequest_does
def gE3 : List (FuncId × Ctr) := (23, cDGetRequest) :: gE2
theorem gE3_ok : GamOk Tryz.prog gE3 := GamOk.cons gE2_ok Tryz.func23 (by kernel_rfl) (by kernel_rfl) DGetRequest_sound
def dt72 : In → S72 × In := (gP dBy (gP dNu (gP dNu (gP dNu (gP dNu (gP dNu (gP dNu (gP dNu (gP dBo (gP (dLs dRc) dt70))))))))))
theorem qt72 : DL dt72 en72 ok72 21 := ((qBy.pair (qNu.pair (qNu.pair (qNu.pair (qNu.pair (qNu.pair (qNu.pair (qNu.pair (qBo.pair ((qRc.list 24 (by decide) (by decide)).pair qt70)))))))))) : DL ((gP dBy (gP dNu (gP dNu (gP dNu (gP dNu (gP dNu (gP dNu (gP dNu (gP dBo (gP (dLs dRc) dt70))))))))))) _ _ _).mono (by decide)
abbrev cDGetResponse : Ctr := cGet2 gt72 6 60000 z72 (fun x : S72 => .agg ((pv72 x).map (AV.p true)))
theorem DGetResponse_does : Does gE3 tab Tryz.f26 cDGetResponse := by
  rintro l -
  have hl : (dBg l).1.length ≤ 1000000 := Nat.le_trans (dBg_len l) (by decide)
  have h0 : (dBy (dBg l)).2.1.length ≤ 1000000 := Nat.le_trans (qBy.len _) hl
  have h1 : (dNu (dBy (dBg l)).2).2.1.length ≤ 1000000 := Nat.le_trans (qNu.len _) h0
  have h2 : (dNu (dNu (dBy (dBg l)).2).2).2.1.length ≤ 1000000 := Nat.le_trans (qNu.len _) h1
  have h3 : (dNu (dNu (dNu (dBy (dBg l)).2).2).2).2.1.length ≤ 1000000 := Nat.le_trans (qNu.len _) h2
  have h4 : (dNu (dNu (dNu (dNu (dBy (dBg l)).2).2).2).2).2.1.length ≤ 1000000 := Nat.le_trans (qNu.len _) h3
  have h5 : (dNu (dNu (dNu (dNu (dNu (dBy (dBg l)).2).2).2).2).2).2.1.length ≤ 1000000 := Nat.le_trans (qNu.len _) h4
  have h6 : (dNu (dNu (dNu (dNu (dNu (dNu (dBy (dBg l)).2).2).2).2).2).2).2.1.length ≤ 1000000 := Nat.le_trans (qNu.len _) h5
  have h7 : (dNu (dNu (dNu (dNu (dNu (dNu (dNu (dBy (dBg l)).2).2).2).2).2).2).2).2.1.length ≤ 1000000 := Nat.le_trans (qNu.len _) h6
  have h8 : (dBo (dNu (dNu (dNu (dNu (dNu (dNu (dNu (dBy (dBg l)).2).2).2).2).2).2).2).2).2.1.length ≤ 1000000 := Nat.le_trans (qBo.len _) h7
  have h9 : ((dLs dRc) (dBo (dNu (dNu (dNu (dNu (dNu (dNu (dNu (dBy (dBg l)).2).2).2).2).2).2).2).2).2).2.1.length ≤ 1000000 := Nat.le_trans ((qRc.list 24 (by decide) (by decide)).len _) h8
  have h10 : (dt70 ((dLs dRc) (dBo (dNu (dNu (dNu (dNu (dNu (dNu (dNu (dBy (dBg l)).2).2).2).2).2).2).2).2).2).2).2.1.length ≤ 1000000 := Nat.le_trans (qt70.len _) h9
  have hE : dt72 (dBg l) = (((dBy (dBg l)).1, (dNu (dBy (dBg l)).2).1, (dNu (dNu (dBy (dBg l)).2).2).1, (dNu (dNu (dNu (dBy (dBg l)).2).2).2).1, (dNu (dNu (dNu (dNu (dBy (dBg l)).2).2).2).2).1, (dNu (dNu (dNu (dNu (dNu (dBy (dBg l)).2).2).2).2).2).1, (dNu (dNu (dNu (dNu (dNu (dNu (dBy (dBg l)).2).2).2).2).2).2).1, (dNu (dNu (dNu (dNu (dNu (dNu (dNu (dBy (dBg l)).2).2).2).2).2).2).2).1, (dBo (dNu (dNu (dNu (dNu (dNu (dNu (dNu (dBy (dBg l)).2).2).2).2).2).2).2).2).1, ((dLs dRc) (dBo (dNu (dNu (dNu (dNu (dNu (dNu (dNu (dBy (dBg l)).2).2).2).2).2).2).2).2).2).1, (dt70 ((dLs dRc) (dBo (dNu (dNu (dNu (dNu (dNu (dNu (dNu (dBy (dBg l)).2).2).2).2).2).2).2).2).2).2).1), (dt70 ((dLs dRc) (dBo (dNu (dNu (dNu (dNu (dNu (dNu (dNu (dBy (dBg l)).2).2).2).2).2).2).2).2).2).2).2) := by simp only [dt72, gP]
  obtain ⟨hok, hlen, -⟩ := qt72.bnd (dBg l) hl
  have hB : ok72 (dt72 (dBg l)).1 ∧ (en72 (dt72 (dBg l)).1).length ≤ 900000000000 := ⟨hok, by omega⟩
  have hG := dGet_eq rt72 qt72 6 60000 (by decide) z72 l
  clear hok hlen
  rw [hE] at hB hG
  simp only at hB hG
  (set_option smartUnfolding false in conv => whnf)
  refine ⟨l, ?_⟩
  conv => whnf
  refine And.intro (by simp only [allP, List.nil_append, List.cons_append, true_and]; and_intros <;> first | exact trivial | rfl) ?_
  (set_option smartUnfolding false in conv => whnf)
  refine ⟨(dBg l), ?_⟩
  conv => whnf
  refine And.intro (by simp only [allP, List.nil_append, List.cons_append, true_and]; and_intros <;> first | exact hl | rfl) ?_
  (set_option smartUnfolding false in conv => whnf)
  rw [show (dNu (dBg l)).2 = (dBy (dBg l)).2 from rfl]
  try rw [dBy_val (dBg l)]
  generalize dBy (dBg l) = r0 at hE hB hG h0 h1 h2 h3 h4 h5 h6 h7 h8 h9 h10 ⊢
  refine And.intro (by first | exact Nat.le_of_ble_eq_true rfl | exact ⟨Nat.le_of_ble_eq_true rfl, rfl⟩ | exact rfl | decide | (simp [allP]; done)) ?_
  (set_option smartUnfolding false in conv => whnf)
  refine ⟨r0.2, ?_⟩
  conv => whnf
  refine And.intro (by simp only [allP, List.nil_append, List.cons_append, true_and]; and_intros <;> first | exact h0 | rfl) ?_
  (set_option smartUnfolding false in conv => whnf)
  have w1 := dNu_w r0.2
  generalize dNu r0.2 = r1 at hE hB hG h1 h2 h3 h4 h5 h6 h7 h8 h9 h10 w1 ⊢
  try rw [w1]
  refine And.intro (by first | exact Nat.le_of_ble_eq_true rfl | exact ⟨Nat.le_of_ble_eq_true rfl, rfl⟩ | exact rfl | decide | (simp [allP]; done)) ?_
  (set_option smartUnfolding false in conv => whnf)
  refine ⟨r1.2, ?_⟩
  conv => whnf
  refine And.intro (by simp only [allP, List.nil_append, List.cons_append, true_and]; and_intros <;> first | exact h1 | rfl) ?_
  (set_option smartUnfolding false in conv => whnf)
  have w2 := dNu_w r1.2
  generalize dNu r1.2 = r2 at hE hB hG h2 h3 h4 h5 h6 h7 h8 h9 h10 w2 ⊢
  try rw [w2]
  refine And.intro (by first | exact Nat.le_of_ble_eq_true rfl | exact ⟨Nat.le_of_ble_eq_true rfl, rfl⟩ | exact rfl | decide | (simp [allP]; done)) ?_
  (set_option smartUnfolding false in conv => whnf)
  refine ⟨r2.2, ?_⟩
  conv => whnf
  refine And.intro (by simp only [allP, List.nil_append, List.cons_append, true_and]; and_intros <;> first | exact h2 | rfl) ?_
  (set_option smartUnfolding false in conv => whnf)
  have w3 := dNu_w r2.2
  generalize dNu r2.2 = r3 at hE hB hG h3 h4 h5 h6 h7 h8 h9 h10 w3 ⊢
  try rw [w3]
  refine And.intro (by first | exact Nat.le_of_ble_eq_true rfl | exact ⟨Nat.le_of_ble_eq_true rfl, rfl⟩ | exact rfl | decide | (simp [allP]; done)) ?_
  (set_option smartUnfolding false in conv => whnf)
  refine ⟨r3.2, ?_⟩
  conv => whnf
  refine And.intro (by simp only [allP, List.nil_append, List.cons_append, true_and]; and_intros <;> first | exact h3 | rfl) ?_
  (set_option smartUnfolding false in conv => whnf)
  have w4 := dNu_w r3.2
  generalize dNu r3.2 = r4 at hE hB hG h4 h5 h6 h7 h8 h9 h10 w4 ⊢
  try rw [w4]
  refine And.intro (by first | exact Nat.le_of_ble_eq_true rfl | exact ⟨Nat.le_of_ble_eq_true rfl, rfl⟩ | exact rfl | decide | (simp [allP]; done)) ?_
  (set_option smartUnfolding false in conv => whnf)
  refine ⟨r4.2, ?_⟩
  conv => whnf
  refine And.intro (by simp only [allP, List.nil_append, List.cons_append, true_and]; and_intros <;> first | exact h4 | rfl) ?_
  (set_option smartUnfolding false in conv => whnf)
  have w5 := dNu_w r4.2
  generalize dNu r4.2 = r5 at hE hB hG h5 h6 h7 h8 h9 h10 w5 ⊢
  try rw [w5]
  refine And.intro (by first | exact Nat.le_of_ble_eq_true rfl | exact ⟨Nat.le_of_ble_eq_true rfl, rfl⟩ | exact rfl | decide | (simp [allP]; done)) ?_
  (set_option smartUnfolding false in conv => whnf)
  refine ⟨r5.2, ?_⟩
  conv => whnf
  refine And.intro (by simp only [allP, List.nil_append, List.cons_append, true_and]; and_intros <;> first | exact h5 | rfl) ?_
  (set_option smartUnfolding false in conv => whnf)
  have w6 := dNu_w r5.2
  generalize dNu r5.2 = r6 at hE hB hG h6 h7 h8 h9 h10 w6 ⊢
  try rw [w6]
  refine And.intro (by first | exact Nat.le_of_ble_eq_true rfl | exact ⟨Nat.le_of_ble_eq_true rfl, rfl⟩ | exact rfl | decide | (simp [allP]; done)) ?_
  (set_option smartUnfolding false in conv => whnf)
  refine ⟨r6.2, ?_⟩
  conv => whnf
  refine And.intro (by simp only [allP, List.nil_append, List.cons_append, true_and]; and_intros <;> first | exact h6 | rfl) ?_
  (set_option smartUnfolding false in conv => whnf)
  have w7 := dNu_w r6.2
  generalize dNu r6.2 = r7 at hE hB hG h7 h8 h9 h10 w7 ⊢
  try rw [w7]
  refine And.intro (by first | exact Nat.le_of_ble_eq_true rfl | exact ⟨Nat.le_of_ble_eq_true rfl, rfl⟩ | exact rfl | decide | (simp [allP]; done)) ?_
  (set_option smartUnfolding false in conv => whnf)
  refine ⟨r7.2, ?_⟩
  conv => whnf
  refine And.intro (by simp only [allP, List.nil_append, List.cons_append, true_and]; and_intros <;> first | exact h7 | rfl) ?_
  (set_option smartUnfolding false in conv => whnf)
  generalize dBo r7.2 = r8 at hE hB hG h8 h9 h10 ⊢
  refine And.intro (by first | exact Nat.le_of_ble_eq_true rfl | exact ⟨Nat.le_of_ble_eq_true rfl, rfl⟩ | exact rfl | decide | (simp [allP]; done)) ?_
  (set_option smartUnfolding false in conv => whnf)
  refine ⟨r8.2, ?_⟩
  conv => whnf
  refine And.intro (by simp only [allP, List.nil_append, List.cons_append, true_and]; and_intros <;> first | exact h8 | rfl) ?_
  (set_option smartUnfolding false in conv => whnf)
  generalize (dLs dRc) r8.2 = r9 at hE hB hG h9 h10 ⊢
  refine And.intro (by first | exact Nat.le_of_ble_eq_true rfl | exact ⟨Nat.le_of_ble_eq_true rfl, rfl⟩ | exact rfl | decide | (simp [allP]; done)) ?_
  (set_option smartUnfolding false in conv => whnf)
  refine ⟨r9.2, ?_⟩
  conv => whnf
  refine And.intro (by simp only [allP, List.nil_append, List.cons_append, true_and]; and_intros <;> first | exact h9 | rfl) ?_
  (set_option smartUnfolding false in conv => whnf)
  generalize dt70 r9.2 = r10 at hE hB hG h10 ⊢
  refine And.intro (by first | exact Nat.le_of_ble_eq_true rfl | exact ⟨Nat.le_of_ble_eq_true rfl, rfl⟩ | exact rfl | decide | (simp [allP]; done)) ?_
  (set_option smartUnfolding false in conv => whnf)
  refine And.intro (by first | exact Nat.le_of_ble_eq_true rfl | exact ⟨Nat.le_of_ble_eq_true rfl, rfl⟩ | exact rfl | decide | (simp [allP]; done)) ?_
  (set_option smartUnfolding false in conv => whnf)
  refine ⟨(r0.1, r1.1, r2.1, r3.1, r4.1, r5.1, r6.1, r7.1, r8.1, r9.1, r10.1), ?_⟩
  conv => whnf
  refine And.intro (by simp only [allP, List.nil_append, List.cons_append, true_and]; repeat' (first | exact hB.1 | exact hB.2 | rfl | refine And.intro ?_ ?_)) ?_
  (set_option smartUnfolding false in conv => whnf)
  refine ⟨(r10.2, 6 :: en72 (r0.1, r1.1, r2.1, r3.1, r4.1, r5.1, r6.1, r7.1, r8.1, r9.1, r10.1), l, 60000), ?_⟩
  conv => whnf
  refine And.intro (by simp only [allP, List.nil_append, List.cons_append, true_and]; and_intros <;> first | exact trivial | rfl) ?_
  (set_option smartUnfolding false in conv => whnf)
  generalize hc : (!r10.2.2 && decide (l.length ≤ 60000) && decide (6 :: en72 (r0.1, r1.1, r2.1, r3.1, r4.1, r5.1, r6.1, r7.1, r8.1, r9.1, r10.1) = l)) = c at hG ⊢
  cases c
  · (set_option smartUnfolding false in conv => whnf)
    refine And.intro (by first | exact Nat.le_of_ble_eq_true rfl | exact ⟨Nat.le_of_ble_eq_true rfl, rfl⟩ | exact rfl | decide | (simp [allP]; done)) ?_
    (set_option smartUnfolding false in conv => whnf)
    refine And.intro (by first | exact Nat.le_of_ble_eq_true rfl | exact ⟨Nat.le_of_ble_eq_true rfl, rfl⟩ | exact rfl | decide | (simp [allP]; done)) ?_
    (set_option smartUnfolding false in conv => whnf)
    rw [hG]
    and_intros <;> first | rfl | exact trivial | (simp [pvle, z72, gSel]; done)
  · (set_option smartUnfolding false in conv => whnf)
    refine And.intro (by first | exact Nat.le_of_ble_eq_true rfl | exact ⟨Nat.le_of_ble_eq_true rfl, rfl⟩ | exact rfl | decide | (simp [allP]; done)) ?_
    (set_option smartUnfolding false in conv => whnf)
    refine And.intro (by first | exact Nat.le_of_ble_eq_true rfl | exact ⟨Nat.le_of_ble_eq_true rfl, rfl⟩ | exact rfl | decide | (simp [allP]; done)) ?_
    (set_option smartUnfolding false in conv => whnf)
    refine And.intro (by first | exact Nat.le_of_ble_eq_true rfl | exact ⟨Nat.le_of_ble_eq_true rfl, rfl⟩ | exact rfl | decide | (simp [allP]; done)) ?_
    (set_option smartUnfolding false in conv => whnf)
    rw [hG]
    and_intros <;> first | rfl | exact trivial | (simp [pvle]; done)
theorem DGetResponse_sound : Sound Tryz.prog 26 cDGetResponse := does_sound mixed tabOk_prog gE3_ok Tryz.func26 DGetResponse_does
def gE4 : List (FuncId × Ctr) := (26, cDGetResponse) :: gE3
theorem gE4_ok : GamOk Tryz.prog gE4 := GamOk.cons gE3_ok Tryz.func26 (by kernel_rfl) (by kernel_rfl) DGetResponse_sound
end Go.Proofs.YtingmlhhabaplaaGreat.Ev
