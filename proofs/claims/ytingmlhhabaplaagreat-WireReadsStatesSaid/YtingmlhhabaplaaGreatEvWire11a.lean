/- Wire: what the document reads: groups. No conditions. -/
import Derived.Test.YtingmlhhabaplaaGreatEvWire11
namespace Go.Proofs.YtingmlhhabaplaaGreat.Ev
open Go
set_option linter.unusedVariables false
set_option linter.unusedSimpArgs false
set_option maxRecDepth 100000
set_option maxHeartbeats 4000000
def dt190 : In → S190 × In := (gP dTx (dLs dTx))
theorem qt190 : DL dt190 en190 ok190 3 := ((qTx.pair (qTx.list 16 (by decide) (by decide))) : DL ((gP dTx (dLs dTx))) _ _ _).mono (by decide)
def dt192 : In → S192 × In := (gP dt190 (gP dNu dBo))
theorem qt192 : DL dt192 en192 ok192 5 := ((qt190.pair (qNu.pair qBo)) : DL ((gP dt190 (gP dNu dBo))) _ _ _).mono (by decide)
def dt195 : In → S195 × In := (gP dTx (dLs dt55))
theorem qt195 : DL dt195 en195 ok195 4 := ((qTx.pair (qt55.list 24 (by decide) (by decide))) : DL ((gP dTx (dLs dt55))) _ _ _).mono (by decide)
def dt199 : In → S199 × In := (gP dt55 dNu)
theorem qt199 : DL dt199 en199 ok199 3 := ((qt55.pair qNu) : DL ((gP dt55 dNu)) _ _ _).mono (by decide)
def dt124 : In → S124 × In := (gP dTx (gP dNu (gP dBy (gP dNu (gP (dLs dt192) (gP (dLs dt195) (dLs dt199)))))))
theorem qt124 : DL dt124 en124 ok124 20 := ((qTx.pair (qNu.pair (qBy.pair (qNu.pair ((qt192.list 56 (by decide) (by decide)).pair ((qt195.list 40 (by decide) (by decide)).pair (qt199.list 32 (by decide) (by decide)))))))) : DL ((gP dTx (gP dNu (gP dBy (gP dNu (gP (dLs dt192) (gP (dLs dt195) (dLs dt199)))))))) _ _ _).mono (by decide)
abbrev cTgroup : Ctr := cI6 dt124 (fun x : S124 => .agg ((pv124 x).map (AV.p true)))
theorem Tgroup_does : Does gF1 tab Tryz.f50 cTgroup := by
  rintro s (h : s.1.length ≤ 1000000)
  have h0 : (dTx s).2.1.length ≤ 1000000 := Nat.le_trans (qTx.len _) h
  have h1 : (dNu (dTx s).2).2.1.length ≤ 1000000 := Nat.le_trans (qNu.len _) h0
  have h2 : (dBy (dNu (dTx s).2).2).2.1.length ≤ 1000000 := Nat.le_trans (qBy.len _) h1
  have h3 : (dNu (dBy (dNu (dTx s).2).2).2).2.1.length ≤ 1000000 := Nat.le_trans (qNu.len _) h2
  have h4 : ((dLs dt192) (dNu (dBy (dNu (dTx s).2).2).2).2).2.1.length ≤ 1000000 := Nat.le_trans ((qt192.list 56 (by decide) (by decide)).len _) h3
  have h5 : ((dLs dt195) ((dLs dt192) (dNu (dBy (dNu (dTx s).2).2).2).2).2).2.1.length ≤ 1000000 := Nat.le_trans ((qt195.list 40 (by decide) (by decide)).len _) h4
  have h6 : ((dLs dt199) ((dLs dt195) ((dLs dt192) (dNu (dBy (dNu (dTx s).2).2).2).2).2).2).2.1.length ≤ 1000000 := Nat.le_trans ((qt199.list 32 (by decide) (by decide)).len _) h5
  have hE : dt124 s = (((dTx s).1, (dNu (dTx s).2).1, (dBy (dNu (dTx s).2).2).1, (dNu (dBy (dNu (dTx s).2).2).2).1, ((dLs dt192) (dNu (dBy (dNu (dTx s).2).2).2).2).1, ((dLs dt195) ((dLs dt192) (dNu (dBy (dNu (dTx s).2).2).2).2).2).1, ((dLs dt199) ((dLs dt195) ((dLs dt192) (dNu (dBy (dNu (dTx s).2).2).2).2).2).2).1), ((dLs dt199) ((dLs dt195) ((dLs dt192) (dNu (dBy (dNu (dTx s).2).2).2).2).2).2).2) := by simp only [dt124, gP]
  conv => whnf
  refine ⟨s, ?_⟩
  conv => whnf
  refine And.intro (by simp only [allP, List.nil_append, List.cons_append, true_and]; and_intros <;> first | exact h | (show List.length _ ≤ _; exact h) | rfl) ?_
  (set_option smartUnfolding false in conv => whnf)
  generalize dTx s = r0 at hE h0 h1 h2 h3 h4 h5 h6 ⊢
  refine dI (k := ?_)
  conv => whnf
  refine ⟨r0.2, ?_⟩
  conv => whnf
  refine And.intro (by simp only [allP, List.nil_append, List.cons_append, true_and]; and_intros <;> first | exact h0 | (show List.length _ ≤ _; exact h0) | rfl) ?_
  (set_option smartUnfolding false in conv => whnf)
  have wr1 := dNu_w r0.2
  generalize dNu r0.2 = r1 at hE h1 h2 h3 h4 h5 h6 wr1 ⊢
  try rw [wr1]
  refine dI (k := ?_)
  conv => whnf
  refine ⟨r1.2, ?_⟩
  conv => whnf
  refine And.intro (by simp only [allP, List.nil_append, List.cons_append, true_and]; and_intros <;> first | exact h1 | (show List.length _ ≤ _; exact h1) | rfl) ?_
  (set_option smartUnfolding false in conv => whnf)
  rw [show (dNu r1.2).2 = (dBy r1.2).2 from rfl]
  try rw [dBy_val r1.2]
  generalize dBy r1.2 = r2 at hE h2 h3 h4 h5 h6 ⊢
  refine dI (k := ?_)
  conv => whnf
  refine ⟨r2.2, ?_⟩
  conv => whnf
  refine And.intro (by simp only [allP, List.nil_append, List.cons_append, true_and]; and_intros <;> first | exact h2 | (show List.length _ ≤ _; exact h2) | rfl) ?_
  (set_option smartUnfolding false in conv => whnf)
  have wr3 := dNu_w r2.2
  generalize dNu r2.2 = r3 at hE h3 h4 h5 h6 wr3 ⊢
  try rw [wr3]
  refine dI (k := ?_)
  conv => whnf
  have hsl4 := dSz_le (r3.2)
  have hln4 : (dSz (r3.2)).2.1.length ≤ 1000000 := Nat.le_trans (dSz_len (r3.2)) h3
  refine ⟨r3.2, ?_⟩
  conv => whnf
  refine And.intro (by simp only [allP, List.nil_append, List.cons_append, true_and]; and_intros <;> first | exact h3 | rfl) ?_
  conv => whnf
  refine ⟨{i : Nat × List S192 × In // i.2.1 ++ (gLp dt192 i.1 i.2.2).1 = (dLs dt192 (r3.2)).1 ∧ (gLp dt192 i.1 i.2.2).2 = (dLs dt192 (r3.2)).2 ∧ i.2.2.1.length ≤ 1000000 ∧ i.2.1.length + i.1 ≤ 1000000}, fun i => ⟨[(0, .ptr 0 0), (2, .ptr 1 0), (3, .ptr 2 0), (4, isI .i64 (i.1.1 : Nat))], [(0, .box [.p false (.sl 1 (bl i.1.2.2.1)), isB i.1.2.2.2]), (1, .box [.p true (.str ⟨#[]⟩), .p true (.int .i64 0), .p true (.int .u8 0), .p true (.int .i64 0), .p true .nilsl, .p true .nilsl, .p true .nilsl]), (2, .box [.p true (.str r0.1), .p true (.int .i64 r1.1), .p true (bv r2.1), .p true (.int .i64 r3.1), .rowf 3, .p true .nilsl, .p true .nilsl]), (3, .row 192 4 true false ((i.1.2.1).map fun x => elOf (pv192 x)))], 99⟩, fun i => i.1.1, ⟨⟨((dSz (r3.2)).1, [], (dSz (r3.2)).2), rfl, rfl, hln4, by simp only [List.length_nil]; omega⟩, ?_⟩, ?_⟩
  · conv => whnf
    and_intros <;> first | rfl | exact trivial | (simp [pvle]; done)
  rintro ⟨⟨n4, out4, s4⟩, e14, e24, g14, g24⟩
  show aw _ _ _ _ _ _ ⟨[(0, .ptr 0 0), (2, .ptr 1 0), (3, .ptr 2 0), (4, isI .i64 (n4 : Nat))], [(0, .box [.p false (.sl 1 (bl s4.1)), isB s4.2]), (1, .box [.p true (.str ⟨#[]⟩), .p true (.int .i64 0), .p true (.int .u8 0), .p true (.int .i64 0), .p true .nilsl, .p true .nilsl, .p true .nilsl]), (2, .box [.p true (.str r0.1), .p true (.int .i64 r1.1), .p true (bv r2.1), .p true (.int .i64 r3.1), .rowf 3, .p true .nilsl, .p true .nilsl]), (3, .row 192 4 true false ((out4).map fun x => elOf (pv192 x)))], 99⟩
  simp only at e14 e24 g14 g24
  by_cases hgo4 : 0 < n4 ∧ s4.2 = false
  · obtain ⟨t4, bad4⟩ := s4
    obtain ⟨hn04, hbad4⟩ := hgo4
    simp only at hbad4
    subst hbad4
    cases n4 with
    | zero => omega
    | succ n4 =>
      conv => whnf
      rw [goL]
      conv => whnf
      have e1'4 : out4 ++ (dt192 (t4, false)).1 :: (gLp dt192 n4 (dt192 (t4, false)).2).1 = (dLs dt192 (r3.2)).1 := e14
      have e2'4 : (gLp dt192 n4 (dt192 (t4, false)).2).2 = (dLs dt192 (r3.2)).2 := e24
      have q4_0 : (dTx (t4, false)).2.1.length ≤ 1000000 := Nat.le_trans (qTx.len _) g14
      have q4_1 : ((dLs dTx) (dTx (t4, false)).2).2.1.length ≤ 1000000 := Nat.le_trans ((qTx.list 16 (by decide) (by decide)).len _) q4_0
      have q4_2 : (dNu ((dLs dTx) (dTx (t4, false)).2).2).2.1.length ≤ 1000000 := Nat.le_trans (qNu.len _) q4_1
      have q4_3 : (dBo (dNu ((dLs dTx) (dTx (t4, false)).2).2).2).2.1.length ≤ 1000000 := Nat.le_trans (qBo.len _) q4_2
      have qE4 : dt192 (t4, false) = ((((dTx (t4, false)).1, ((dLs dTx) (dTx (t4, false)).2).1), (dNu ((dLs dTx) (dTx (t4, false)).2).2).1, (dBo (dNu ((dLs dTx) (dTx (t4, false)).2).2).2).1), (dBo (dNu ((dLs dTx) (dTx (t4, false)).2).2).2).2) := by simp only [dt192, dt190, gP]
      rw [qE4] at e1'4 e2'4
      refine ⟨(t4, false), ?_⟩
      conv => whnf
      refine And.intro (by simp only [allP, List.nil_append, List.cons_append, true_and]; and_intros <;> first | exact g14 | (show List.length _ ≤ _; exact g14) | rfl) ?_
      (set_option smartUnfolding false in conv => whnf)
      generalize dTx (t4, false) = u4_0 at qE4 e1'4 e2'4 q4_0 q4_1 q4_2 q4_3 ⊢
      refine dI (k := ?_)
      conv => whnf
      refine ⟨u4_0.2, ?_⟩
      conv => whnf
      refine And.intro (by simp only [allP, List.nil_append, List.cons_append, true_and]; and_intros <;> first | exact q4_0 | (show List.length _ ≤ _; exact q4_0) | rfl) ?_
      (set_option smartUnfolding false in conv => whnf)
      generalize (dLs dTx) u4_0.2 = u4_1 at qE4 e1'4 e2'4 q4_1 q4_2 q4_3 ⊢
      refine dI (k := ?_)
      conv => whnf
      refine ⟨u4_1.2, ?_⟩
      conv => whnf
      refine And.intro (by simp only [allP, List.nil_append, List.cons_append, true_and]; and_intros <;> first | exact q4_1 | (show List.length _ ≤ _; exact q4_1) | rfl) ?_
      (set_option smartUnfolding false in conv => whnf)
      have wu4_2 := dNu_w u4_1.2
      generalize dNu u4_1.2 = u4_2 at qE4 e1'4 e2'4 q4_2 q4_3 wu4_2 ⊢
      try rw [wu4_2]
      refine dI (k := ?_)
      conv => whnf
      refine ⟨u4_2.2, ?_⟩
      conv => whnf
      refine And.intro (by simp only [allP, List.nil_append, List.cons_append, true_and]; and_intros <;> first | exact q4_2 | (show List.length _ ≤ _; exact q4_2) | rfl) ?_
      (set_option smartUnfolding false in conv => whnf)
      generalize dBo u4_2.2 = u4_3 at qE4 e1'4 e2'4 q4_3 ⊢
      refine dI (k := ?_)
      conv => whnf
      refine dI (k := ?_)
      (set_option smartUnfolding false in conv => whnf)
      refine And.intro (by simp only [allP, List.nil_append, List.cons_append, true_and]; rw [List.length_map]; simp only [List.length_cons, List.length_nil]; omega) ?_
      (set_option smartUnfolding false in conv => whnf)
      refine dI (k := ?_)
      conv => whnf
      refine ⟨⟨(n4, out4 ++ [((u4_0.1, u4_1.1), u4_2.1, u4_3.1)], u4_3.2), nextL e1'4, e2'4, q4_3, cntL g24⟩, Nat.lt_succ_self n4, ?_⟩
      conv => whnf
      rw [List.map_append, List.map_cons, List.map_nil]
      and_intros <;> first | rfl | exact trivial | (simp [pvle]; done) | exact wrL (n := n4) (by omega)
  obtain ⟨ho14, ho24⟩ := exitL e14 e24 hgo4
  rcases stopL hgo4 with hd4 | ⟨hd4, hbd4⟩
  · conv => whnf
    rw [hd4]
    conv => whnf
    rw [ho14, ho24]
    generalize dLs dt192 (r3.2) = r4 at hE h4 h5 h6 ⊢
    have hsl5 := dSz_le (r4.2)
    have hln5 : (dSz (r4.2)).2.1.length ≤ 1000000 := Nat.le_trans (dSz_len (r4.2)) h4
    refine ⟨r4.2, ?_⟩
    conv => whnf
    refine And.intro (by simp only [allP, List.nil_append, List.cons_append, true_and]; and_intros <;> first | exact h4 | rfl) ?_
    conv => whnf
    refine ⟨{i : Nat × List S195 × In // i.2.1 ++ (gLp dt195 i.1 i.2.2).1 = (dLs dt195 (r4.2)).1 ∧ (gLp dt195 i.1 i.2.2).2 = (dLs dt195 (r4.2)).2 ∧ i.2.2.1.length ≤ 1000000 ∧ i.2.1.length + i.1 ≤ 1000000}, fun i => ⟨[(0, .ptr 0 0), (2, .ptr 1 0), (3, .ptr 2 0), (6, isI .i64 (i.1.1 : Nat))], [(0, .box [.p false (.sl 1 (bl i.1.2.2.1)), isB i.1.2.2.2]), (1, .box [.p true (.str ⟨#[]⟩), .p true (.int .i64 0), .p true (.int .u8 0), .p true (.int .i64 0), .p true .nilsl, .p true .nilsl, .p true .nilsl]), (2, .box [.p true (.str r0.1), .p true (.int .i64 r1.1), .p true (bv r2.1), .p true (.int .i64 r3.1), .p true (.sl 4 (r4.1.map fun x => elOf (pv192 x))), .rowf 3, .p true .nilsl]), (3, .row 195 2 true false ((i.1.2.1).map fun x => elOf (pv195 x)))], 99⟩, fun i => i.1.1, ⟨⟨((dSz (r4.2)).1, [], (dSz (r4.2)).2), rfl, rfl, hln5, by simp only [List.length_nil]; omega⟩, ?_⟩, ?_⟩
    · conv => whnf
      and_intros <;> first | rfl | exact trivial | (simp [pvle]; done)
    rintro ⟨⟨n5, out5, s5⟩, e15, e25, g15, g25⟩
    show aw _ _ _ _ _ _ ⟨[(0, .ptr 0 0), (2, .ptr 1 0), (3, .ptr 2 0), (6, isI .i64 (n5 : Nat))], [(0, .box [.p false (.sl 1 (bl s5.1)), isB s5.2]), (1, .box [.p true (.str ⟨#[]⟩), .p true (.int .i64 0), .p true (.int .u8 0), .p true (.int .i64 0), .p true .nilsl, .p true .nilsl, .p true .nilsl]), (2, .box [.p true (.str r0.1), .p true (.int .i64 r1.1), .p true (bv r2.1), .p true (.int .i64 r3.1), .p true (.sl 4 (r4.1.map fun x => elOf (pv192 x))), .rowf 3, .p true .nilsl]), (3, .row 195 2 true false ((out5).map fun x => elOf (pv195 x)))], 99⟩
    simp only at e15 e25 g15 g25
    by_cases hgo5 : 0 < n5 ∧ s5.2 = false
    · obtain ⟨t5, bad5⟩ := s5
      obtain ⟨hn05, hbad5⟩ := hgo5
      simp only at hbad5
      subst hbad5
      cases n5 with
      | zero => omega
      | succ n5 =>
        conv => whnf
        rw [goL]
        conv => whnf
        have e1'5 : out5 ++ (dt195 (t5, false)).1 :: (gLp dt195 n5 (dt195 (t5, false)).2).1 = (dLs dt195 (r4.2)).1 := e15
        have e2'5 : (gLp dt195 n5 (dt195 (t5, false)).2).2 = (dLs dt195 (r4.2)).2 := e25
        have q5_0 : (dTx (t5, false)).2.1.length ≤ 1000000 := Nat.le_trans (qTx.len _) g15
        have q5_1 : ((dLs dt55) (dTx (t5, false)).2).2.1.length ≤ 1000000 := Nat.le_trans ((qt55.list 24 (by decide) (by decide)).len _) q5_0
        have qE5 : dt195 (t5, false) = (((dTx (t5, false)).1, ((dLs dt55) (dTx (t5, false)).2).1), ((dLs dt55) (dTx (t5, false)).2).2) := by simp only [dt195, gP]
        rw [qE5] at e1'5 e2'5
        refine ⟨(t5, false), ?_⟩
        conv => whnf
        refine And.intro (by simp only [allP, List.nil_append, List.cons_append, true_and]; and_intros <;> first | exact g15 | (show List.length _ ≤ _; exact g15) | rfl) ?_
        (set_option smartUnfolding false in conv => whnf)
        generalize dTx (t5, false) = u5_0 at qE5 e1'5 e2'5 q5_0 q5_1 ⊢
        refine dI (k := ?_)
        conv => whnf
        refine ⟨u5_0.2, ?_⟩
        conv => whnf
        refine And.intro (by simp only [allP, List.nil_append, List.cons_append, true_and]; and_intros <;> first | exact q5_0 | (show List.length _ ≤ _; exact q5_0) | rfl) ?_
        (set_option smartUnfolding false in conv => whnf)
        generalize (dLs dt55) u5_0.2 = u5_1 at qE5 e1'5 e2'5 q5_1 ⊢
        refine dI (k := ?_)
        conv => whnf
        refine dI (k := ?_)
        (set_option smartUnfolding false in conv => whnf)
        refine And.intro (by simp only [allP, List.nil_append, List.cons_append, true_and]; rw [List.length_map]; simp only [List.length_cons, List.length_nil]; omega) ?_
        (set_option smartUnfolding false in conv => whnf)
        refine dI (k := ?_)
        conv => whnf
        refine ⟨⟨(n5, out5 ++ [(u5_0.1, u5_1.1)], u5_1.2), nextL e1'5, e2'5, q5_1, cntL g25⟩, Nat.lt_succ_self n5, ?_⟩
        conv => whnf
        rw [List.map_append, List.map_cons, List.map_nil]
        and_intros <;> first | rfl | exact trivial | (simp [pvle]; done) | exact wrL (n := n5) (by omega)
    obtain ⟨ho15, ho25⟩ := exitL e15 e25 hgo5
    rcases stopL hgo5 with hd5 | ⟨hd5, hbd5⟩
    · conv => whnf
      rw [hd5]
      conv => whnf
      rw [ho15, ho25]
      generalize dLs dt195 (r4.2) = r5 at hE h5 h6 ⊢
      have hsl6 := dSz_le (r5.2)
      have hln6 : (dSz (r5.2)).2.1.length ≤ 1000000 := Nat.le_trans (dSz_len (r5.2)) h5
      refine ⟨r5.2, ?_⟩
      conv => whnf
      refine And.intro (by simp only [allP, List.nil_append, List.cons_append, true_and]; and_intros <;> first | exact h5 | rfl) ?_
      conv => whnf
      refine ⟨{i : Nat × List S199 × In // i.2.1 ++ (gLp dt199 i.1 i.2.2).1 = (dLs dt199 (r5.2)).1 ∧ (gLp dt199 i.1 i.2.2).2 = (dLs dt199 (r5.2)).2 ∧ i.2.2.1.length ≤ 1000000 ∧ i.2.1.length + i.1 ≤ 1000000}, fun i => ⟨[(0, .ptr 0 0), (2, .ptr 1 0), (3, .ptr 2 0), (8, isI .i64 (i.1.1 : Nat))], [(0, .box [.p false (.sl 1 (bl i.1.2.2.1)), isB i.1.2.2.2]), (1, .box [.p true (.str ⟨#[]⟩), .p true (.int .i64 0), .p true (.int .u8 0), .p true (.int .i64 0), .p true .nilsl, .p true .nilsl, .p true .nilsl]), (2, .box [.p true (.str r0.1), .p true (.int .i64 r1.1), .p true (bv r2.1), .p true (.int .i64 r3.1), .p true (.sl 4 (r4.1.map fun x => elOf (pv192 x))), .p true (.sl 2 (r5.1.map fun x => elOf (pv195 x))), .rowf 3]), (3, .row 199 3 true false ((i.1.2.1).map fun x => elOf (pv199 x)))], 99⟩, fun i => i.1.1, ⟨⟨((dSz (r5.2)).1, [], (dSz (r5.2)).2), rfl, rfl, hln6, by simp only [List.length_nil]; omega⟩, ?_⟩, ?_⟩
      · conv => whnf
        and_intros <;> first | rfl | exact trivial | (simp [pvle]; done)
      rintro ⟨⟨n6, out6, s6⟩, e16, e26, g16, g26⟩
      show aw _ _ _ _ _ _ ⟨[(0, .ptr 0 0), (2, .ptr 1 0), (3, .ptr 2 0), (8, isI .i64 (n6 : Nat))], [(0, .box [.p false (.sl 1 (bl s6.1)), isB s6.2]), (1, .box [.p true (.str ⟨#[]⟩), .p true (.int .i64 0), .p true (.int .u8 0), .p true (.int .i64 0), .p true .nilsl, .p true .nilsl, .p true .nilsl]), (2, .box [.p true (.str r0.1), .p true (.int .i64 r1.1), .p true (bv r2.1), .p true (.int .i64 r3.1), .p true (.sl 4 (r4.1.map fun x => elOf (pv192 x))), .p true (.sl 2 (r5.1.map fun x => elOf (pv195 x))), .rowf 3]), (3, .row 199 3 true false ((out6).map fun x => elOf (pv199 x)))], 99⟩
      simp only at e16 e26 g16 g26
      by_cases hgo6 : 0 < n6 ∧ s6.2 = false
      · obtain ⟨t6, bad6⟩ := s6
        obtain ⟨hn06, hbad6⟩ := hgo6
        simp only at hbad6
        subst hbad6
        cases n6 with
        | zero => omega
        | succ n6 =>
          conv => whnf
          rw [goL]
          conv => whnf
          have e1'6 : out6 ++ (dt199 (t6, false)).1 :: (gLp dt199 n6 (dt199 (t6, false)).2).1 = (dLs dt199 (r5.2)).1 := e16
          have e2'6 : (gLp dt199 n6 (dt199 (t6, false)).2).2 = (dLs dt199 (r5.2)).2 := e26
          have q6_0 : (dt55 (t6, false)).2.1.length ≤ 1000000 := Nat.le_trans (qt55.len _) g16
          have q6_1 : (dNu (dt55 (t6, false)).2).2.1.length ≤ 1000000 := Nat.le_trans (qNu.len _) q6_0
          have qE6 : dt199 (t6, false) = (((dt55 (t6, false)).1, (dNu (dt55 (t6, false)).2).1), (dNu (dt55 (t6, false)).2).2) := by simp only [dt199, gP]
          rw [qE6] at e1'6 e2'6
          refine ⟨(t6, false), ?_⟩
          conv => whnf
          refine And.intro (by simp only [allP, List.nil_append, List.cons_append, true_and]; and_intros <;> first | exact g16 | (show List.length _ ≤ _; exact g16) | rfl) ?_
          (set_option smartUnfolding false in conv => whnf)
          generalize dt55 (t6, false) = u6_0 at qE6 e1'6 e2'6 q6_0 q6_1 ⊢
          refine dI (k := ?_)
          conv => whnf
          refine ⟨u6_0.2, ?_⟩
          conv => whnf
          refine And.intro (by simp only [allP, List.nil_append, List.cons_append, true_and]; and_intros <;> first | exact q6_0 | (show List.length _ ≤ _; exact q6_0) | rfl) ?_
          (set_option smartUnfolding false in conv => whnf)
          have wu6_1 := dNu_w u6_0.2
          generalize dNu u6_0.2 = u6_1 at qE6 e1'6 e2'6 q6_1 wu6_1 ⊢
          try rw [wu6_1]
          refine dI (k := ?_)
          conv => whnf
          refine dI (k := ?_)
          (set_option smartUnfolding false in conv => whnf)
          refine And.intro (by simp only [allP, List.nil_append, List.cons_append, true_and]; rw [List.length_map]; simp only [List.length_cons, List.length_nil]; omega) ?_
          (set_option smartUnfolding false in conv => whnf)
          refine dI (k := ?_)
          conv => whnf
          refine ⟨⟨(n6, out6 ++ [(u6_0.1, u6_1.1)], u6_1.2), nextL e1'6, e2'6, q6_1, cntL g26⟩, Nat.lt_succ_self n6, ?_⟩
          conv => whnf
          rw [List.map_append, List.map_cons, List.map_nil]
          and_intros <;> first | rfl | exact trivial | (simp [pvle]; done) | exact wrL (n := n6) (by omega)
      obtain ⟨ho16, ho26⟩ := exitL e16 e26 hgo6
      rcases stopL hgo6 with hd6 | ⟨hd6, hbd6⟩
      · conv => whnf
        rw [hd6]
        conv => whnf
        rw [ho16, ho26]
        generalize dLs dt199 (r5.2) = r6 at hE h6 ⊢
        refine dI (k := ?_)
        (set_option smartUnfolding false in conv => whnf)
        refine dI (k := ?_)
        (set_option smartUnfolding false in conv => whnf)
        refine dI (k := ?_)
        (set_option smartUnfolding false in conv => whnf)
        rw [hE]
        and_intros <;> first | rfl | exact trivial | (simp [pvle]; done)
      · obtain ⟨t6, bad6⟩ := s6
        simp only at hbd6
        subst hbd6
        conv => whnf
        rw [hd6]
        conv => whnf
        rw [ho16, ho26]
        generalize dLs dt199 (r5.2) = r6 at hE h6 ⊢
        refine dI (k := ?_)
        (set_option smartUnfolding false in conv => whnf)
        refine dI (k := ?_)
        (set_option smartUnfolding false in conv => whnf)
        refine dI (k := ?_)
        (set_option smartUnfolding false in conv => whnf)
        rw [hE]
        and_intros <;> first | rfl | exact trivial | (simp [pvle]; done)
    · obtain ⟨t5, bad5⟩ := s5
      simp only at hbd5
      subst hbd5
      conv => whnf
      rw [hd5]
      conv => whnf
      rw [ho15, ho25]
      generalize dLs dt195 (r4.2) = r5 at hE h5 h6 ⊢
      have hsl6 := dSz_le (r5.2)
      have hln6 : (dSz (r5.2)).2.1.length ≤ 1000000 := Nat.le_trans (dSz_len (r5.2)) h5
      refine ⟨r5.2, ?_⟩
      conv => whnf
      refine And.intro (by simp only [allP, List.nil_append, List.cons_append, true_and]; and_intros <;> first | exact h5 | rfl) ?_
      conv => whnf
      refine ⟨{i : Nat × List S199 × In // i.2.1 ++ (gLp dt199 i.1 i.2.2).1 = (dLs dt199 (r5.2)).1 ∧ (gLp dt199 i.1 i.2.2).2 = (dLs dt199 (r5.2)).2 ∧ i.2.2.1.length ≤ 1000000 ∧ i.2.1.length + i.1 ≤ 1000000}, fun i => ⟨[(0, .ptr 0 0), (2, .ptr 1 0), (3, .ptr 2 0), (8, isI .i64 (i.1.1 : Nat))], [(0, .box [.p false (.sl 1 (bl i.1.2.2.1)), isB i.1.2.2.2]), (1, .box [.p true (.str ⟨#[]⟩), .p true (.int .i64 0), .p true (.int .u8 0), .p true (.int .i64 0), .p true .nilsl, .p true .nilsl, .p true .nilsl]), (2, .box [.p true (.str r0.1), .p true (.int .i64 r1.1), .p true (bv r2.1), .p true (.int .i64 r3.1), .p true (.sl 4 (r4.1.map fun x => elOf (pv192 x))), .p true (.sl 2 (r5.1.map fun x => elOf (pv195 x))), .rowf 3]), (3, .row 199 3 true false ((i.1.2.1).map fun x => elOf (pv199 x)))], 99⟩, fun i => i.1.1, ⟨⟨((dSz (r5.2)).1, [], (dSz (r5.2)).2), rfl, rfl, hln6, by simp only [List.length_nil]; omega⟩, ?_⟩, ?_⟩
      · conv => whnf
        and_intros <;> first | rfl | exact trivial | (simp [pvle]; done)
      rintro ⟨⟨n6, out6, s6⟩, e16, e26, g16, g26⟩
      show aw _ _ _ _ _ _ ⟨[(0, .ptr 0 0), (2, .ptr 1 0), (3, .ptr 2 0), (8, isI .i64 (n6 : Nat))], [(0, .box [.p false (.sl 1 (bl s6.1)), isB s6.2]), (1, .box [.p true (.str ⟨#[]⟩), .p true (.int .i64 0), .p true (.int .u8 0), .p true (.int .i64 0), .p true .nilsl, .p true .nilsl, .p true .nilsl]), (2, .box [.p true (.str r0.1), .p true (.int .i64 r1.1), .p true (bv r2.1), .p true (.int .i64 r3.1), .p true (.sl 4 (r4.1.map fun x => elOf (pv192 x))), .p true (.sl 2 (r5.1.map fun x => elOf (pv195 x))), .rowf 3]), (3, .row 199 3 true false ((out6).map fun x => elOf (pv199 x)))], 99⟩
      simp only at e16 e26 g16 g26
      by_cases hgo6 : 0 < n6 ∧ s6.2 = false
      · obtain ⟨t6, bad6⟩ := s6
        obtain ⟨hn06, hbad6⟩ := hgo6
        simp only at hbad6
        subst hbad6
        cases n6 with
        | zero => omega
        | succ n6 =>
          conv => whnf
          rw [goL]
          conv => whnf
          have e1'6 : out6 ++ (dt199 (t6, false)).1 :: (gLp dt199 n6 (dt199 (t6, false)).2).1 = (dLs dt199 (r5.2)).1 := e16
          have e2'6 : (gLp dt199 n6 (dt199 (t6, false)).2).2 = (dLs dt199 (r5.2)).2 := e26
          have q6_0 : (dt55 (t6, false)).2.1.length ≤ 1000000 := Nat.le_trans (qt55.len _) g16
          have q6_1 : (dNu (dt55 (t6, false)).2).2.1.length ≤ 1000000 := Nat.le_trans (qNu.len _) q6_0
          have qE6 : dt199 (t6, false) = (((dt55 (t6, false)).1, (dNu (dt55 (t6, false)).2).1), (dNu (dt55 (t6, false)).2).2) := by simp only [dt199, gP]
          rw [qE6] at e1'6 e2'6
          refine ⟨(t6, false), ?_⟩
          conv => whnf
          refine And.intro (by simp only [allP, List.nil_append, List.cons_append, true_and]; and_intros <;> first | exact g16 | (show List.length _ ≤ _; exact g16) | rfl) ?_
          (set_option smartUnfolding false in conv => whnf)
          generalize dt55 (t6, false) = u6_0 at qE6 e1'6 e2'6 q6_0 q6_1 ⊢
          refine dI (k := ?_)
          conv => whnf
          refine ⟨u6_0.2, ?_⟩
          conv => whnf
          refine And.intro (by simp only [allP, List.nil_append, List.cons_append, true_and]; and_intros <;> first | exact q6_0 | (show List.length _ ≤ _; exact q6_0) | rfl) ?_
          (set_option smartUnfolding false in conv => whnf)
          have wu6_1 := dNu_w u6_0.2
          generalize dNu u6_0.2 = u6_1 at qE6 e1'6 e2'6 q6_1 wu6_1 ⊢
          try rw [wu6_1]
          refine dI (k := ?_)
          conv => whnf
          refine dI (k := ?_)
          (set_option smartUnfolding false in conv => whnf)
          refine And.intro (by simp only [allP, List.nil_append, List.cons_append, true_and]; rw [List.length_map]; simp only [List.length_cons, List.length_nil]; omega) ?_
          (set_option smartUnfolding false in conv => whnf)
          refine dI (k := ?_)
          conv => whnf
          refine ⟨⟨(n6, out6 ++ [(u6_0.1, u6_1.1)], u6_1.2), nextL e1'6, e2'6, q6_1, cntL g26⟩, Nat.lt_succ_self n6, ?_⟩
          conv => whnf
          rw [List.map_append, List.map_cons, List.map_nil]
          and_intros <;> first | rfl | exact trivial | (simp [pvle]; done) | exact wrL (n := n6) (by omega)
      obtain ⟨ho16, ho26⟩ := exitL e16 e26 hgo6
      rcases stopL hgo6 with hd6 | ⟨hd6, hbd6⟩
      · conv => whnf
        rw [hd6]
        conv => whnf
        rw [ho16, ho26]
        generalize dLs dt199 (r5.2) = r6 at hE h6 ⊢
        refine dI (k := ?_)
        (set_option smartUnfolding false in conv => whnf)
        refine dI (k := ?_)
        (set_option smartUnfolding false in conv => whnf)
        refine dI (k := ?_)
        (set_option smartUnfolding false in conv => whnf)
        rw [hE]
        and_intros <;> first | rfl | exact trivial | (simp [pvle]; done)
      · obtain ⟨t6, bad6⟩ := s6
        simp only at hbd6
        subst hbd6
        conv => whnf
        rw [hd6]
        conv => whnf
        rw [ho16, ho26]
        generalize dLs dt199 (r5.2) = r6 at hE h6 ⊢
        refine dI (k := ?_)
        (set_option smartUnfolding false in conv => whnf)
        refine dI (k := ?_)
        (set_option smartUnfolding false in conv => whnf)
        refine dI (k := ?_)
        (set_option smartUnfolding false in conv => whnf)
        rw [hE]
        and_intros <;> first | rfl | exact trivial | (simp [pvle]; done)
  · obtain ⟨t4, bad4⟩ := s4
    simp only at hbd4
    subst hbd4
    conv => whnf
    rw [hd4]
    conv => whnf
    rw [ho14, ho24]
    generalize dLs dt192 (r3.2) = r4 at hE h4 h5 h6 ⊢
    have hsl5 := dSz_le (r4.2)
    have hln5 : (dSz (r4.2)).2.1.length ≤ 1000000 := Nat.le_trans (dSz_len (r4.2)) h4
    refine ⟨r4.2, ?_⟩
    conv => whnf
    refine And.intro (by simp only [allP, List.nil_append, List.cons_append, true_and]; and_intros <;> first | exact h4 | rfl) ?_
    conv => whnf
    refine ⟨{i : Nat × List S195 × In // i.2.1 ++ (gLp dt195 i.1 i.2.2).1 = (dLs dt195 (r4.2)).1 ∧ (gLp dt195 i.1 i.2.2).2 = (dLs dt195 (r4.2)).2 ∧ i.2.2.1.length ≤ 1000000 ∧ i.2.1.length + i.1 ≤ 1000000}, fun i => ⟨[(0, .ptr 0 0), (2, .ptr 1 0), (3, .ptr 2 0), (6, isI .i64 (i.1.1 : Nat))], [(0, .box [.p false (.sl 1 (bl i.1.2.2.1)), isB i.1.2.2.2]), (1, .box [.p true (.str ⟨#[]⟩), .p true (.int .i64 0), .p true (.int .u8 0), .p true (.int .i64 0), .p true .nilsl, .p true .nilsl, .p true .nilsl]), (2, .box [.p true (.str r0.1), .p true (.int .i64 r1.1), .p true (bv r2.1), .p true (.int .i64 r3.1), .p true (.sl 4 (r4.1.map fun x => elOf (pv192 x))), .rowf 3, .p true .nilsl]), (3, .row 195 2 true false ((i.1.2.1).map fun x => elOf (pv195 x)))], 99⟩, fun i => i.1.1, ⟨⟨((dSz (r4.2)).1, [], (dSz (r4.2)).2), rfl, rfl, hln5, by simp only [List.length_nil]; omega⟩, ?_⟩, ?_⟩
    · conv => whnf
      and_intros <;> first | rfl | exact trivial | (simp [pvle]; done)
    rintro ⟨⟨n5, out5, s5⟩, e15, e25, g15, g25⟩
    show aw _ _ _ _ _ _ ⟨[(0, .ptr 0 0), (2, .ptr 1 0), (3, .ptr 2 0), (6, isI .i64 (n5 : Nat))], [(0, .box [.p false (.sl 1 (bl s5.1)), isB s5.2]), (1, .box [.p true (.str ⟨#[]⟩), .p true (.int .i64 0), .p true (.int .u8 0), .p true (.int .i64 0), .p true .nilsl, .p true .nilsl, .p true .nilsl]), (2, .box [.p true (.str r0.1), .p true (.int .i64 r1.1), .p true (bv r2.1), .p true (.int .i64 r3.1), .p true (.sl 4 (r4.1.map fun x => elOf (pv192 x))), .rowf 3, .p true .nilsl]), (3, .row 195 2 true false ((out5).map fun x => elOf (pv195 x)))], 99⟩
    simp only at e15 e25 g15 g25
    by_cases hgo5 : 0 < n5 ∧ s5.2 = false
    · obtain ⟨t5, bad5⟩ := s5
      obtain ⟨hn05, hbad5⟩ := hgo5
      simp only at hbad5
      subst hbad5
      cases n5 with
      | zero => omega
      | succ n5 =>
        conv => whnf
        rw [goL]
        conv => whnf
        have e1'5 : out5 ++ (dt195 (t5, false)).1 :: (gLp dt195 n5 (dt195 (t5, false)).2).1 = (dLs dt195 (r4.2)).1 := e15
        have e2'5 : (gLp dt195 n5 (dt195 (t5, false)).2).2 = (dLs dt195 (r4.2)).2 := e25
        have q5_0 : (dTx (t5, false)).2.1.length ≤ 1000000 := Nat.le_trans (qTx.len _) g15
        have q5_1 : ((dLs dt55) (dTx (t5, false)).2).2.1.length ≤ 1000000 := Nat.le_trans ((qt55.list 24 (by decide) (by decide)).len _) q5_0
        have qE5 : dt195 (t5, false) = (((dTx (t5, false)).1, ((dLs dt55) (dTx (t5, false)).2).1), ((dLs dt55) (dTx (t5, false)).2).2) := by simp only [dt195, gP]
        rw [qE5] at e1'5 e2'5
        refine ⟨(t5, false), ?_⟩
        conv => whnf
        refine And.intro (by simp only [allP, List.nil_append, List.cons_append, true_and]; and_intros <;> first | exact g15 | (show List.length _ ≤ _; exact g15) | rfl) ?_
        (set_option smartUnfolding false in conv => whnf)
        generalize dTx (t5, false) = u5_0 at qE5 e1'5 e2'5 q5_0 q5_1 ⊢
        refine dI (k := ?_)
        conv => whnf
        refine ⟨u5_0.2, ?_⟩
        conv => whnf
        refine And.intro (by simp only [allP, List.nil_append, List.cons_append, true_and]; and_intros <;> first | exact q5_0 | (show List.length _ ≤ _; exact q5_0) | rfl) ?_
        (set_option smartUnfolding false in conv => whnf)
        generalize (dLs dt55) u5_0.2 = u5_1 at qE5 e1'5 e2'5 q5_1 ⊢
        refine dI (k := ?_)
        conv => whnf
        refine dI (k := ?_)
        (set_option smartUnfolding false in conv => whnf)
        refine And.intro (by simp only [allP, List.nil_append, List.cons_append, true_and]; rw [List.length_map]; simp only [List.length_cons, List.length_nil]; omega) ?_
        (set_option smartUnfolding false in conv => whnf)
        refine dI (k := ?_)
        conv => whnf
        refine ⟨⟨(n5, out5 ++ [(u5_0.1, u5_1.1)], u5_1.2), nextL e1'5, e2'5, q5_1, cntL g25⟩, Nat.lt_succ_self n5, ?_⟩
        conv => whnf
        rw [List.map_append, List.map_cons, List.map_nil]
        and_intros <;> first | rfl | exact trivial | (simp [pvle]; done) | exact wrL (n := n5) (by omega)
    obtain ⟨ho15, ho25⟩ := exitL e15 e25 hgo5
    rcases stopL hgo5 with hd5 | ⟨hd5, hbd5⟩
    · conv => whnf
      rw [hd5]
      conv => whnf
      rw [ho15, ho25]
      generalize dLs dt195 (r4.2) = r5 at hE h5 h6 ⊢
      have hsl6 := dSz_le (r5.2)
      have hln6 : (dSz (r5.2)).2.1.length ≤ 1000000 := Nat.le_trans (dSz_len (r5.2)) h5
      refine ⟨r5.2, ?_⟩
      conv => whnf
      refine And.intro (by simp only [allP, List.nil_append, List.cons_append, true_and]; and_intros <;> first | exact h5 | rfl) ?_
      conv => whnf
      refine ⟨{i : Nat × List S199 × In // i.2.1 ++ (gLp dt199 i.1 i.2.2).1 = (dLs dt199 (r5.2)).1 ∧ (gLp dt199 i.1 i.2.2).2 = (dLs dt199 (r5.2)).2 ∧ i.2.2.1.length ≤ 1000000 ∧ i.2.1.length + i.1 ≤ 1000000}, fun i => ⟨[(0, .ptr 0 0), (2, .ptr 1 0), (3, .ptr 2 0), (8, isI .i64 (i.1.1 : Nat))], [(0, .box [.p false (.sl 1 (bl i.1.2.2.1)), isB i.1.2.2.2]), (1, .box [.p true (.str ⟨#[]⟩), .p true (.int .i64 0), .p true (.int .u8 0), .p true (.int .i64 0), .p true .nilsl, .p true .nilsl, .p true .nilsl]), (2, .box [.p true (.str r0.1), .p true (.int .i64 r1.1), .p true (bv r2.1), .p true (.int .i64 r3.1), .p true (.sl 4 (r4.1.map fun x => elOf (pv192 x))), .p true (.sl 2 (r5.1.map fun x => elOf (pv195 x))), .rowf 3]), (3, .row 199 3 true false ((i.1.2.1).map fun x => elOf (pv199 x)))], 99⟩, fun i => i.1.1, ⟨⟨((dSz (r5.2)).1, [], (dSz (r5.2)).2), rfl, rfl, hln6, by simp only [List.length_nil]; omega⟩, ?_⟩, ?_⟩
      · conv => whnf
        and_intros <;> first | rfl | exact trivial | (simp [pvle]; done)
      rintro ⟨⟨n6, out6, s6⟩, e16, e26, g16, g26⟩
      show aw _ _ _ _ _ _ ⟨[(0, .ptr 0 0), (2, .ptr 1 0), (3, .ptr 2 0), (8, isI .i64 (n6 : Nat))], [(0, .box [.p false (.sl 1 (bl s6.1)), isB s6.2]), (1, .box [.p true (.str ⟨#[]⟩), .p true (.int .i64 0), .p true (.int .u8 0), .p true (.int .i64 0), .p true .nilsl, .p true .nilsl, .p true .nilsl]), (2, .box [.p true (.str r0.1), .p true (.int .i64 r1.1), .p true (bv r2.1), .p true (.int .i64 r3.1), .p true (.sl 4 (r4.1.map fun x => elOf (pv192 x))), .p true (.sl 2 (r5.1.map fun x => elOf (pv195 x))), .rowf 3]), (3, .row 199 3 true false ((out6).map fun x => elOf (pv199 x)))], 99⟩
      simp only at e16 e26 g16 g26
      by_cases hgo6 : 0 < n6 ∧ s6.2 = false
      · obtain ⟨t6, bad6⟩ := s6
        obtain ⟨hn06, hbad6⟩ := hgo6
        simp only at hbad6
        subst hbad6
        cases n6 with
        | zero => omega
        | succ n6 =>
          conv => whnf
          rw [goL]
          conv => whnf
          have e1'6 : out6 ++ (dt199 (t6, false)).1 :: (gLp dt199 n6 (dt199 (t6, false)).2).1 = (dLs dt199 (r5.2)).1 := e16
          have e2'6 : (gLp dt199 n6 (dt199 (t6, false)).2).2 = (dLs dt199 (r5.2)).2 := e26
          have q6_0 : (dt55 (t6, false)).2.1.length ≤ 1000000 := Nat.le_trans (qt55.len _) g16
          have q6_1 : (dNu (dt55 (t6, false)).2).2.1.length ≤ 1000000 := Nat.le_trans (qNu.len _) q6_0
          have qE6 : dt199 (t6, false) = (((dt55 (t6, false)).1, (dNu (dt55 (t6, false)).2).1), (dNu (dt55 (t6, false)).2).2) := by simp only [dt199, gP]
          rw [qE6] at e1'6 e2'6
          refine ⟨(t6, false), ?_⟩
          conv => whnf
          refine And.intro (by simp only [allP, List.nil_append, List.cons_append, true_and]; and_intros <;> first | exact g16 | (show List.length _ ≤ _; exact g16) | rfl) ?_
          (set_option smartUnfolding false in conv => whnf)
          generalize dt55 (t6, false) = u6_0 at qE6 e1'6 e2'6 q6_0 q6_1 ⊢
          refine dI (k := ?_)
          conv => whnf
          refine ⟨u6_0.2, ?_⟩
          conv => whnf
          refine And.intro (by simp only [allP, List.nil_append, List.cons_append, true_and]; and_intros <;> first | exact q6_0 | (show List.length _ ≤ _; exact q6_0) | rfl) ?_
          (set_option smartUnfolding false in conv => whnf)
          have wu6_1 := dNu_w u6_0.2
          generalize dNu u6_0.2 = u6_1 at qE6 e1'6 e2'6 q6_1 wu6_1 ⊢
          try rw [wu6_1]
          refine dI (k := ?_)
          conv => whnf
          refine dI (k := ?_)
          (set_option smartUnfolding false in conv => whnf)
          refine And.intro (by simp only [allP, List.nil_append, List.cons_append, true_and]; rw [List.length_map]; simp only [List.length_cons, List.length_nil]; omega) ?_
          (set_option smartUnfolding false in conv => whnf)
          refine dI (k := ?_)
          conv => whnf
          refine ⟨⟨(n6, out6 ++ [(u6_0.1, u6_1.1)], u6_1.2), nextL e1'6, e2'6, q6_1, cntL g26⟩, Nat.lt_succ_self n6, ?_⟩
          conv => whnf
          rw [List.map_append, List.map_cons, List.map_nil]
          and_intros <;> first | rfl | exact trivial | (simp [pvle]; done) | exact wrL (n := n6) (by omega)
      obtain ⟨ho16, ho26⟩ := exitL e16 e26 hgo6
      rcases stopL hgo6 with hd6 | ⟨hd6, hbd6⟩
      · conv => whnf
        rw [hd6]
        conv => whnf
        rw [ho16, ho26]
        generalize dLs dt199 (r5.2) = r6 at hE h6 ⊢
        refine dI (k := ?_)
        (set_option smartUnfolding false in conv => whnf)
        refine dI (k := ?_)
        (set_option smartUnfolding false in conv => whnf)
        refine dI (k := ?_)
        (set_option smartUnfolding false in conv => whnf)
        rw [hE]
        and_intros <;> first | rfl | exact trivial | (simp [pvle]; done)
      · obtain ⟨t6, bad6⟩ := s6
        simp only at hbd6
        subst hbd6
        conv => whnf
        rw [hd6]
        conv => whnf
        rw [ho16, ho26]
        generalize dLs dt199 (r5.2) = r6 at hE h6 ⊢
        refine dI (k := ?_)
        (set_option smartUnfolding false in conv => whnf)
        refine dI (k := ?_)
        (set_option smartUnfolding false in conv => whnf)
        refine dI (k := ?_)
        (set_option smartUnfolding false in conv => whnf)
        rw [hE]
        and_intros <;> first | rfl | exact trivial | (simp [pvle]; done)
    · obtain ⟨t5, bad5⟩ := s5
      simp only at hbd5
      subst hbd5
      conv => whnf
      rw [hd5]
      conv => whnf
      rw [ho15, ho25]
      generalize dLs dt195 (r4.2) = r5 at hE h5 h6 ⊢
      have hsl6 := dSz_le (r5.2)
      have hln6 : (dSz (r5.2)).2.1.length ≤ 1000000 := Nat.le_trans (dSz_len (r5.2)) h5
      refine ⟨r5.2, ?_⟩
      conv => whnf
      refine And.intro (by simp only [allP, List.nil_append, List.cons_append, true_and]; and_intros <;> first | exact h5 | rfl) ?_
      conv => whnf
      refine ⟨{i : Nat × List S199 × In // i.2.1 ++ (gLp dt199 i.1 i.2.2).1 = (dLs dt199 (r5.2)).1 ∧ (gLp dt199 i.1 i.2.2).2 = (dLs dt199 (r5.2)).2 ∧ i.2.2.1.length ≤ 1000000 ∧ i.2.1.length + i.1 ≤ 1000000}, fun i => ⟨[(0, .ptr 0 0), (2, .ptr 1 0), (3, .ptr 2 0), (8, isI .i64 (i.1.1 : Nat))], [(0, .box [.p false (.sl 1 (bl i.1.2.2.1)), isB i.1.2.2.2]), (1, .box [.p true (.str ⟨#[]⟩), .p true (.int .i64 0), .p true (.int .u8 0), .p true (.int .i64 0), .p true .nilsl, .p true .nilsl, .p true .nilsl]), (2, .box [.p true (.str r0.1), .p true (.int .i64 r1.1), .p true (bv r2.1), .p true (.int .i64 r3.1), .p true (.sl 4 (r4.1.map fun x => elOf (pv192 x))), .p true (.sl 2 (r5.1.map fun x => elOf (pv195 x))), .rowf 3]), (3, .row 199 3 true false ((i.1.2.1).map fun x => elOf (pv199 x)))], 99⟩, fun i => i.1.1, ⟨⟨((dSz (r5.2)).1, [], (dSz (r5.2)).2), rfl, rfl, hln6, by simp only [List.length_nil]; omega⟩, ?_⟩, ?_⟩
      · conv => whnf
        and_intros <;> first | rfl | exact trivial | (simp [pvle]; done)
      rintro ⟨⟨n6, out6, s6⟩, e16, e26, g16, g26⟩
      show aw _ _ _ _ _ _ ⟨[(0, .ptr 0 0), (2, .ptr 1 0), (3, .ptr 2 0), (8, isI .i64 (n6 : Nat))], [(0, .box [.p false (.sl 1 (bl s6.1)), isB s6.2]), (1, .box [.p true (.str ⟨#[]⟩), .p true (.int .i64 0), .p true (.int .u8 0), .p true (.int .i64 0), .p true .nilsl, .p true .nilsl, .p true .nilsl]), (2, .box [.p true (.str r0.1), .p true (.int .i64 r1.1), .p true (bv r2.1), .p true (.int .i64 r3.1), .p true (.sl 4 (r4.1.map fun x => elOf (pv192 x))), .p true (.sl 2 (r5.1.map fun x => elOf (pv195 x))), .rowf 3]), (3, .row 199 3 true false ((out6).map fun x => elOf (pv199 x)))], 99⟩
      simp only at e16 e26 g16 g26
      by_cases hgo6 : 0 < n6 ∧ s6.2 = false
      · obtain ⟨t6, bad6⟩ := s6
        obtain ⟨hn06, hbad6⟩ := hgo6
        simp only at hbad6
        subst hbad6
        cases n6 with
        | zero => omega
        | succ n6 =>
          conv => whnf
          rw [goL]
          conv => whnf
          have e1'6 : out6 ++ (dt199 (t6, false)).1 :: (gLp dt199 n6 (dt199 (t6, false)).2).1 = (dLs dt199 (r5.2)).1 := e16
          have e2'6 : (gLp dt199 n6 (dt199 (t6, false)).2).2 = (dLs dt199 (r5.2)).2 := e26
          have q6_0 : (dt55 (t6, false)).2.1.length ≤ 1000000 := Nat.le_trans (qt55.len _) g16
          have q6_1 : (dNu (dt55 (t6, false)).2).2.1.length ≤ 1000000 := Nat.le_trans (qNu.len _) q6_0
          have qE6 : dt199 (t6, false) = (((dt55 (t6, false)).1, (dNu (dt55 (t6, false)).2).1), (dNu (dt55 (t6, false)).2).2) := by simp only [dt199, gP]
          rw [qE6] at e1'6 e2'6
          refine ⟨(t6, false), ?_⟩
          conv => whnf
          refine And.intro (by simp only [allP, List.nil_append, List.cons_append, true_and]; and_intros <;> first | exact g16 | (show List.length _ ≤ _; exact g16) | rfl) ?_
          (set_option smartUnfolding false in conv => whnf)
          generalize dt55 (t6, false) = u6_0 at qE6 e1'6 e2'6 q6_0 q6_1 ⊢
          refine dI (k := ?_)
          conv => whnf
          refine ⟨u6_0.2, ?_⟩
          conv => whnf
          refine And.intro (by simp only [allP, List.nil_append, List.cons_append, true_and]; and_intros <;> first | exact q6_0 | (show List.length _ ≤ _; exact q6_0) | rfl) ?_
          (set_option smartUnfolding false in conv => whnf)
          have wu6_1 := dNu_w u6_0.2
          generalize dNu u6_0.2 = u6_1 at qE6 e1'6 e2'6 q6_1 wu6_1 ⊢
          try rw [wu6_1]
          refine dI (k := ?_)
          conv => whnf
          refine dI (k := ?_)
          (set_option smartUnfolding false in conv => whnf)
          refine And.intro (by simp only [allP, List.nil_append, List.cons_append, true_and]; rw [List.length_map]; simp only [List.length_cons, List.length_nil]; omega) ?_
          (set_option smartUnfolding false in conv => whnf)
          refine dI (k := ?_)
          conv => whnf
          refine ⟨⟨(n6, out6 ++ [(u6_0.1, u6_1.1)], u6_1.2), nextL e1'6, e2'6, q6_1, cntL g26⟩, Nat.lt_succ_self n6, ?_⟩
          conv => whnf
          rw [List.map_append, List.map_cons, List.map_nil]
          and_intros <;> first | rfl | exact trivial | (simp [pvle]; done) | exact wrL (n := n6) (by omega)
      obtain ⟨ho16, ho26⟩ := exitL e16 e26 hgo6
      rcases stopL hgo6 with hd6 | ⟨hd6, hbd6⟩
      · conv => whnf
        rw [hd6]
        conv => whnf
        rw [ho16, ho26]
        generalize dLs dt199 (r5.2) = r6 at hE h6 ⊢
        refine dI (k := ?_)
        (set_option smartUnfolding false in conv => whnf)
        refine dI (k := ?_)
        (set_option smartUnfolding false in conv => whnf)
        refine dI (k := ?_)
        (set_option smartUnfolding false in conv => whnf)
        rw [hE]
        and_intros <;> first | rfl | exact trivial | (simp [pvle]; done)
      · obtain ⟨t6, bad6⟩ := s6
        simp only at hbd6
        subst hbd6
        conv => whnf
        rw [hd6]
        conv => whnf
        rw [ho16, ho26]
        generalize dLs dt199 (r5.2) = r6 at hE h6 ⊢
        refine dI (k := ?_)
        (set_option smartUnfolding false in conv => whnf)
        refine dI (k := ?_)
        (set_option smartUnfolding false in conv => whnf)
        refine dI (k := ?_)
        (set_option smartUnfolding false in conv => whnf)
        rw [hE]
        and_intros <;> first | rfl | exact trivial | (simp [pvle]; done)
theorem Tgroup_sound : Sound Tryz.prog 50 cTgroup := does_sound mixed tabOk_prog gF1_ok Tryz.func50 Tgroup_does
def gF2 : List (FuncId × Ctr) := (50, cTgroup) :: gF1
theorem gF2_ok : GamOk Tryz.prog gF2 := GamOk.cons gF1_ok Tryz.func50 (by kernel_rfl) (by kernel_rfl) Tgroup_sound
end Go.Proofs.YtingmlhhabaplaaGreat.Ev
