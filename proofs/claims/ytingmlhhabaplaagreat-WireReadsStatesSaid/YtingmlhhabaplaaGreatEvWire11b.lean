/- Wire: what the document reads: all got. No conditions. -/
import Derived.Test.YtingmlhhabaplaaGreatEvWire11a
namespace Go.Proofs.YtingmlhhabaplaaGreat.Ev
open Go
set_option linter.unusedVariables false
set_option linter.unusedSimpArgs false
set_option maxRecDepth 100000
set_option maxHeartbeats 4000000
def dt117 : In → S117 × In := (gP dTx dNu)
theorem qt117 : DL dt117 en117 ok117 2 := ((qTx.pair qNu) : DL ((gP dTx dNu)) _ _ _).mono (by decide)
def dt119 : In → S119 × In := (gP dTx (gP dNu dNu))
theorem qt119 : DL dt119 en119 ok119 3 := ((qTx.pair (qNu.pair qNu)) : DL ((gP dTx (gP dNu dNu))) _ _ _).mono (by decide)
def dt130 : In → S130 × In := (gP dNu dt70)
theorem qt130 : DL dt130 en130 ok130 10 := ((qNu.pair qt70) : DL ((gP dNu dt70)) _ _ _).mono (by decide)
def dt128 : In → S128 × In := (gP dNu (gP dNu (dLs dt130)))
theorem qt128 : DL dt128 en128 ok128 13 := ((qNu.pair (qNu.pair (qt130.list 72 (by decide) (by decide)))) : DL ((gP dNu (gP dNu (dLs dt130)))) _ _ _).mono (by decide)
def dt37 : In → S37 × In := (gP dNu (gP (dLs dt117) (gP (dLs dt119) (gP (dLs dt124) (dLs dt128)))))
theorem qt37 : DL dt37 en37 ok37 43 := ((qNu.pair ((qt117.list 24 (by decide) (by decide)).pair ((qt119.list 32 (by decide) (by decide)).pair ((qt124.list 112 (by decide) (by decide)).pair (qt128.list 40 (by decide) (by decide)))))) : DL ((gP dNu (gP (dLs dt117) (gP (dLs dt119) (gP (dLs dt124) (dLs dt128)))))) _ _ _).mono (by decide)
abbrev cDGetMetas : Ctr := cGet2 gt37 4 60000 z37 (fun x : S37 => .agg ((pv37 x).map (AV.p true)))
theorem DGetMetas_does : Does gF2 tab Tryz.f12 cDGetMetas := by
  rintro l -
  have hl : (dBg l).1.length ≤ 1000000 := Nat.le_trans (dBg_len l) (by decide)
  have h0 : (dNu (dBg l)).2.1.length ≤ 1000000 := Nat.le_trans (qNu.len _) hl
  have h1 : ((dLs dt117) (dNu (dBg l)).2).2.1.length ≤ 1000000 := Nat.le_trans ((qt117.list 24 (by decide) (by decide)).len _) h0
  have h2 : ((dLs dt119) ((dLs dt117) (dNu (dBg l)).2).2).2.1.length ≤ 1000000 := Nat.le_trans ((qt119.list 32 (by decide) (by decide)).len _) h1
  have h3 : ((dLs dt124) ((dLs dt119) ((dLs dt117) (dNu (dBg l)).2).2).2).2.1.length ≤ 1000000 := Nat.le_trans ((qt124.list 112 (by decide) (by decide)).len _) h2
  have h4 : ((dLs dt128) ((dLs dt124) ((dLs dt119) ((dLs dt117) (dNu (dBg l)).2).2).2).2).2.1.length ≤ 1000000 := Nat.le_trans ((qt128.list 40 (by decide) (by decide)).len _) h3
  have hE : dt37 (dBg l) = (((dNu (dBg l)).1, ((dLs dt117) (dNu (dBg l)).2).1, ((dLs dt119) ((dLs dt117) (dNu (dBg l)).2).2).1, ((dLs dt124) ((dLs dt119) ((dLs dt117) (dNu (dBg l)).2).2).2).1, ((dLs dt128) ((dLs dt124) ((dLs dt119) ((dLs dt117) (dNu (dBg l)).2).2).2).2).1), ((dLs dt128) ((dLs dt124) ((dLs dt119) ((dLs dt117) (dNu (dBg l)).2).2).2).2).2) := by simp only [dt37, gP]
  obtain ⟨hok, hlen, -⟩ := qt37.bnd (dBg l) hl
  have hB : ok37 (dt37 (dBg l)).1 ∧ (en37 (dt37 (dBg l)).1).length ≤ 900000000000 := ⟨hok, by omega⟩
  have hG := dGet_eq rt37 qt37 4 60000 (by decide) z37 l
  clear hok hlen
  rw [hE] at hB hG
  simp only at hB hG
  conv => whnf
  refine ⟨l, ?_⟩
  conv => whnf
  refine And.intro (by simp only [allP, List.nil_append, List.cons_append, true_and]; and_intros <;> first | exact trivial | rfl) ?_
  conv => whnf
  refine ⟨(dBg l), ?_⟩
  conv => whnf
  refine And.intro (by simp only [allP, List.nil_append, List.cons_append, true_and]; and_intros <;> first | exact hl | (show List.length _ ≤ _; exact hl) | rfl) ?_
  (set_option smartUnfolding false in conv => whnf)
  have wr0 := dNu_w (dBg l)
  generalize dNu (dBg l) = r0 at hE hB hG h0 h1 h2 h3 h4 wr0 ⊢
  try rw [wr0]
  refine dI (k := ?_)
  conv => whnf
  have hsl1 := dSz_le (r0.2)
  have hln1 : (dSz (r0.2)).2.1.length ≤ 1000000 := Nat.le_trans (dSz_len (r0.2)) h0
  refine ⟨r0.2, ?_⟩
  conv => whnf
  refine And.intro (by simp only [allP, List.nil_append, List.cons_append, true_and]; and_intros <;> first | exact h0 | rfl) ?_
  conv => whnf
  refine ⟨{i : Nat × List S117 × In // i.2.1 ++ (gLp dt117 i.1 i.2.2).1 = (dLs dt117 (r0.2)).1 ∧ (gLp dt117 i.1 i.2.2).2 = (dLs dt117 (r0.2)).2 ∧ i.2.2.1.length ≤ 1000000 ∧ i.2.1.length + i.1 ≤ 1000000}, fun i => ⟨[(0, .p false (.sl 1 (bl l))), (2, .ptr 0 0), (3, isI .i64 0), (4, .ptr 1 0), (5, .ptr 2 0), (6, isI .i64 (i.1.1 : Nat))], [(0, .box [.p true (.int .i64 0), .p true .nilsl, .p true .nilsl, .p true .nilsl, .p true .nilsl]), (1, .box [.p false (.sl 1 (bl i.1.2.2.1)), isB i.1.2.2.2]), (2, .box [.p true (.int .i64 r0.1), .rowf 3, .p true .nilsl, .p true .nilsl, .p true .nilsl]), (3, .row 117 2 true false ((i.1.2.1).map fun x => elOf (pv117 x)))], 99⟩, fun i => i.1.1, ⟨⟨((dSz (r0.2)).1, [], (dSz (r0.2)).2), rfl, rfl, hln1, by simp only [List.length_nil]; omega⟩, ?_⟩, ?_⟩
  · conv => whnf
    and_intros <;> first | rfl | exact trivial | (simp [pvle]; done)
  rintro ⟨⟨n1, out1, s1⟩, e11, e21, g11, g21⟩
  show aw _ _ _ _ _ _ ⟨[(0, .p false (.sl 1 (bl l))), (2, .ptr 0 0), (3, isI .i64 0), (4, .ptr 1 0), (5, .ptr 2 0), (6, isI .i64 (n1 : Nat))], [(0, .box [.p true (.int .i64 0), .p true .nilsl, .p true .nilsl, .p true .nilsl, .p true .nilsl]), (1, .box [.p false (.sl 1 (bl s1.1)), isB s1.2]), (2, .box [.p true (.int .i64 r0.1), .rowf 3, .p true .nilsl, .p true .nilsl, .p true .nilsl]), (3, .row 117 2 true false ((out1).map fun x => elOf (pv117 x)))], 99⟩
  simp only at e11 e21 g11 g21
  by_cases hgo1 : 0 < n1 ∧ s1.2 = false
  · obtain ⟨t1, bad1⟩ := s1
    obtain ⟨hn01, hbad1⟩ := hgo1
    simp only at hbad1
    subst hbad1
    cases n1 with
    | zero => omega
    | succ n1 =>
      conv => whnf
      rw [goL]
      conv => whnf
      have e1'1 : out1 ++ (dt117 (t1, false)).1 :: (gLp dt117 n1 (dt117 (t1, false)).2).1 = (dLs dt117 (r0.2)).1 := e11
      have e2'1 : (gLp dt117 n1 (dt117 (t1, false)).2).2 = (dLs dt117 (r0.2)).2 := e21
      have q1_0 : (dTx (t1, false)).2.1.length ≤ 1000000 := Nat.le_trans (qTx.len _) g11
      have q1_1 : (dNu (dTx (t1, false)).2).2.1.length ≤ 1000000 := Nat.le_trans (qNu.len _) q1_0
      have qE1 : dt117 (t1, false) = (((dTx (t1, false)).1, (dNu (dTx (t1, false)).2).1), (dNu (dTx (t1, false)).2).2) := by simp only [dt117, gP]
      rw [qE1] at e1'1 e2'1
      refine ⟨(t1, false), ?_⟩
      conv => whnf
      refine And.intro (by simp only [allP, List.nil_append, List.cons_append, true_and]; and_intros <;> first | exact g11 | (show List.length _ ≤ _; exact g11) | rfl) ?_
      (set_option smartUnfolding false in conv => whnf)
      generalize dTx (t1, false) = u1_0 at qE1 e1'1 e2'1 q1_0 q1_1 ⊢
      refine dI (k := ?_)
      conv => whnf
      refine ⟨u1_0.2, ?_⟩
      conv => whnf
      refine And.intro (by simp only [allP, List.nil_append, List.cons_append, true_and]; and_intros <;> first | exact q1_0 | (show List.length _ ≤ _; exact q1_0) | rfl) ?_
      (set_option smartUnfolding false in conv => whnf)
      have wu1_1 := dNu_w u1_0.2
      generalize dNu u1_0.2 = u1_1 at qE1 e1'1 e2'1 q1_1 wu1_1 ⊢
      try rw [wu1_1]
      refine dI (k := ?_)
      conv => whnf
      refine dI (k := ?_)
      (set_option smartUnfolding false in conv => whnf)
      refine And.intro (by simp only [allP, List.nil_append, List.cons_append, true_and]; rw [List.length_map]; simp only [List.length_cons, List.length_nil]; omega) ?_
      (set_option smartUnfolding false in conv => whnf)
      refine dI (k := ?_)
      conv => whnf
      refine ⟨⟨(n1, out1 ++ [(u1_0.1, u1_1.1)], u1_1.2), nextL e1'1, e2'1, q1_1, cntL g21⟩, Nat.lt_succ_self n1, ?_⟩
      conv => whnf
      rw [List.map_append, List.map_cons, List.map_nil]
      and_intros <;> first | rfl | exact trivial | (simp [pvle]; done) | exact wrL (n := n1) (by omega)
  obtain ⟨ho11, ho21⟩ := exitL e11 e21 hgo1
  rcases stopL hgo1 with hd1 | ⟨hd1, hbd1⟩
  · conv => whnf
    rw [hd1]
    conv => whnf
    rw [ho11, ho21]
    generalize dLs dt117 (r0.2) = r1 at hE hB hG h1 h2 h3 h4 ⊢
    have hsl2 := dSz_le (r1.2)
    have hln2 : (dSz (r1.2)).2.1.length ≤ 1000000 := Nat.le_trans (dSz_len (r1.2)) h1
    refine ⟨r1.2, ?_⟩
    conv => whnf
    refine And.intro (by simp only [allP, List.nil_append, List.cons_append, true_and]; and_intros <;> first | exact h1 | rfl) ?_
    conv => whnf
    refine ⟨{i : Nat × List S119 × In // i.2.1 ++ (gLp dt119 i.1 i.2.2).1 = (dLs dt119 (r1.2)).1 ∧ (gLp dt119 i.1 i.2.2).2 = (dLs dt119 (r1.2)).2 ∧ i.2.2.1.length ≤ 1000000 ∧ i.2.1.length + i.1 ≤ 1000000}, fun i => ⟨[(0, .p false (.sl 1 (bl l))), (2, .ptr 0 0), (3, isI .i64 0), (4, .ptr 1 0), (5, .ptr 2 0), (8, isI .i64 (i.1.1 : Nat))], [(0, .box [.p true (.int .i64 0), .p true .nilsl, .p true .nilsl, .p true .nilsl, .p true .nilsl]), (1, .box [.p false (.sl 1 (bl i.1.2.2.1)), isB i.1.2.2.2]), (2, .box [.p true (.int .i64 r0.1), .p true (.sl 2 (r1.1.map fun x => elOf (pv117 x))), .rowf 3, .p true .nilsl, .p true .nilsl]), (3, .row 119 3 true false ((i.1.2.1).map fun x => elOf (pv119 x)))], 99⟩, fun i => i.1.1, ⟨⟨((dSz (r1.2)).1, [], (dSz (r1.2)).2), rfl, rfl, hln2, by simp only [List.length_nil]; omega⟩, ?_⟩, ?_⟩
    · conv => whnf
      and_intros <;> first | rfl | exact trivial | (simp [pvle]; done)
    rintro ⟨⟨n2, out2, s2⟩, e12, e22, g12, g22⟩
    show aw _ _ _ _ _ _ ⟨[(0, .p false (.sl 1 (bl l))), (2, .ptr 0 0), (3, isI .i64 0), (4, .ptr 1 0), (5, .ptr 2 0), (8, isI .i64 (n2 : Nat))], [(0, .box [.p true (.int .i64 0), .p true .nilsl, .p true .nilsl, .p true .nilsl, .p true .nilsl]), (1, .box [.p false (.sl 1 (bl s2.1)), isB s2.2]), (2, .box [.p true (.int .i64 r0.1), .p true (.sl 2 (r1.1.map fun x => elOf (pv117 x))), .rowf 3, .p true .nilsl, .p true .nilsl]), (3, .row 119 3 true false ((out2).map fun x => elOf (pv119 x)))], 99⟩
    simp only at e12 e22 g12 g22
    by_cases hgo2 : 0 < n2 ∧ s2.2 = false
    · obtain ⟨t2, bad2⟩ := s2
      obtain ⟨hn02, hbad2⟩ := hgo2
      simp only at hbad2
      subst hbad2
      cases n2 with
      | zero => omega
      | succ n2 =>
        conv => whnf
        rw [goL]
        conv => whnf
        have e1'2 : out2 ++ (dt119 (t2, false)).1 :: (gLp dt119 n2 (dt119 (t2, false)).2).1 = (dLs dt119 (r1.2)).1 := e12
        have e2'2 : (gLp dt119 n2 (dt119 (t2, false)).2).2 = (dLs dt119 (r1.2)).2 := e22
        have q2_0 : (dTx (t2, false)).2.1.length ≤ 1000000 := Nat.le_trans (qTx.len _) g12
        have q2_1 : (dNu (dTx (t2, false)).2).2.1.length ≤ 1000000 := Nat.le_trans (qNu.len _) q2_0
        have q2_2 : (dNu (dNu (dTx (t2, false)).2).2).2.1.length ≤ 1000000 := Nat.le_trans (qNu.len _) q2_1
        have qE2 : dt119 (t2, false) = (((dTx (t2, false)).1, (dNu (dTx (t2, false)).2).1, (dNu (dNu (dTx (t2, false)).2).2).1), (dNu (dNu (dTx (t2, false)).2).2).2) := by simp only [dt119, gP]
        rw [qE2] at e1'2 e2'2
        refine ⟨(t2, false), ?_⟩
        conv => whnf
        refine And.intro (by simp only [allP, List.nil_append, List.cons_append, true_and]; and_intros <;> first | exact g12 | (show List.length _ ≤ _; exact g12) | rfl) ?_
        (set_option smartUnfolding false in conv => whnf)
        generalize dTx (t2, false) = u2_0 at qE2 e1'2 e2'2 q2_0 q2_1 q2_2 ⊢
        refine dI (k := ?_)
        conv => whnf
        refine ⟨u2_0.2, ?_⟩
        conv => whnf
        refine And.intro (by simp only [allP, List.nil_append, List.cons_append, true_and]; and_intros <;> first | exact q2_0 | (show List.length _ ≤ _; exact q2_0) | rfl) ?_
        (set_option smartUnfolding false in conv => whnf)
        have wu2_1 := dNu_w u2_0.2
        generalize dNu u2_0.2 = u2_1 at qE2 e1'2 e2'2 q2_1 q2_2 wu2_1 ⊢
        try rw [wu2_1]
        refine dI (k := ?_)
        conv => whnf
        refine ⟨u2_1.2, ?_⟩
        conv => whnf
        refine And.intro (by simp only [allP, List.nil_append, List.cons_append, true_and]; and_intros <;> first | exact q2_1 | (show List.length _ ≤ _; exact q2_1) | rfl) ?_
        (set_option smartUnfolding false in conv => whnf)
        have wu2_2 := dNu_w u2_1.2
        generalize dNu u2_1.2 = u2_2 at qE2 e1'2 e2'2 q2_2 wu2_2 ⊢
        try rw [wu2_2]
        refine dI (k := ?_)
        conv => whnf
        refine dI (k := ?_)
        (set_option smartUnfolding false in conv => whnf)
        refine And.intro (by simp only [allP, List.nil_append, List.cons_append, true_and]; rw [List.length_map]; simp only [List.length_cons, List.length_nil]; omega) ?_
        (set_option smartUnfolding false in conv => whnf)
        refine dI (k := ?_)
        conv => whnf
        refine ⟨⟨(n2, out2 ++ [(u2_0.1, u2_1.1, u2_2.1)], u2_2.2), nextL e1'2, e2'2, q2_2, cntL g22⟩, Nat.lt_succ_self n2, ?_⟩
        conv => whnf
        rw [List.map_append, List.map_cons, List.map_nil]
        and_intros <;> first | rfl | exact trivial | (simp [pvle]; done) | exact wrL (n := n2) (by omega)
    obtain ⟨ho12, ho22⟩ := exitL e12 e22 hgo2
    rcases stopL hgo2 with hd2 | ⟨hd2, hbd2⟩
    · conv => whnf
      rw [hd2]
      conv => whnf
      rw [ho12, ho22]
      generalize dLs dt119 (r1.2) = r2 at hE hB hG h2 h3 h4 ⊢
      have hsl3 := dSz_le (r2.2)
      have hln3 : (dSz (r2.2)).2.1.length ≤ 1000000 := Nat.le_trans (dSz_len (r2.2)) h2
      refine ⟨r2.2, ?_⟩
      conv => whnf
      refine And.intro (by simp only [allP, List.nil_append, List.cons_append, true_and]; and_intros <;> first | exact h2 | rfl) ?_
      conv => whnf
      refine ⟨{i : Nat × List S124 × In // i.2.1 ++ (gLp dt124 i.1 i.2.2).1 = (dLs dt124 (r2.2)).1 ∧ (gLp dt124 i.1 i.2.2).2 = (dLs dt124 (r2.2)).2 ∧ i.2.2.1.length ≤ 1000000 ∧ i.2.1.length + i.1 ≤ 1000000}, fun i => ⟨[(0, .p false (.sl 1 (bl l))), (2, .ptr 0 0), (3, isI .i64 0), (4, .ptr 1 0), (5, .ptr 2 0), (10, isI .i64 (i.1.1 : Nat))], [(0, .box [.p true (.int .i64 0), .p true .nilsl, .p true .nilsl, .p true .nilsl, .p true .nilsl]), (1, .box [.p false (.sl 1 (bl i.1.2.2.1)), isB i.1.2.2.2]), (2, .box [.p true (.int .i64 r0.1), .p true (.sl 2 (r1.1.map fun x => elOf (pv117 x))), .p true (.sl 3 (r2.1.map fun x => elOf (pv119 x))), .rowf 3, .p true .nilsl]), (3, .row 124 7 true false ((i.1.2.1).map fun x => elOf (pv124 x)))], 99⟩, fun i => i.1.1, ⟨⟨((dSz (r2.2)).1, [], (dSz (r2.2)).2), rfl, rfl, hln3, by simp only [List.length_nil]; omega⟩, ?_⟩, ?_⟩
      · conv => whnf
        and_intros <;> first | rfl | exact trivial | (simp [pvle]; done)
      rintro ⟨⟨n3, out3, s3⟩, e13, e23, g13, g23⟩
      show aw _ _ _ _ _ _ ⟨[(0, .p false (.sl 1 (bl l))), (2, .ptr 0 0), (3, isI .i64 0), (4, .ptr 1 0), (5, .ptr 2 0), (10, isI .i64 (n3 : Nat))], [(0, .box [.p true (.int .i64 0), .p true .nilsl, .p true .nilsl, .p true .nilsl, .p true .nilsl]), (1, .box [.p false (.sl 1 (bl s3.1)), isB s3.2]), (2, .box [.p true (.int .i64 r0.1), .p true (.sl 2 (r1.1.map fun x => elOf (pv117 x))), .p true (.sl 3 (r2.1.map fun x => elOf (pv119 x))), .rowf 3, .p true .nilsl]), (3, .row 124 7 true false ((out3).map fun x => elOf (pv124 x)))], 99⟩
      simp only at e13 e23 g13 g23
      by_cases hgo3 : 0 < n3 ∧ s3.2 = false
      · obtain ⟨t3, bad3⟩ := s3
        obtain ⟨hn03, hbad3⟩ := hgo3
        simp only at hbad3
        subst hbad3
        cases n3 with
        | zero => omega
        | succ n3 =>
          conv => whnf
          rw [goL]
          conv => whnf
          have e1'3 : out3 ++ (dt124 (t3, false)).1 :: (gLp dt124 n3 (dt124 (t3, false)).2).1 = (dLs dt124 (r2.2)).1 := e13
          have e2'3 : (gLp dt124 n3 (dt124 (t3, false)).2).2 = (dLs dt124 (r2.2)).2 := e23
          have q3 : (dt124 (t3, false)).2.1.length ≤ 1000000 := Nat.le_trans (qt124.len _) g13
          refine ⟨(t3, false), ?_⟩
          conv => whnf
          refine And.intro (by simp only [allP, List.nil_append, List.cons_append, true_and]; and_intros <;> first | exact g13 | (show t3.length ≤ _; exact g13) | rfl) ?_
          (set_option smartUnfolding false in conv => whnf)
          generalize dt124 (t3, false) = u3 at e1'3 e2'3 q3 ⊢
          refine And.intro (by simp only [allP, List.nil_append, List.cons_append, true_and]; rw [List.length_map]; simp only [List.length_cons, List.length_nil]; omega) ?_
          (set_option smartUnfolding false in conv => whnf)
          refine dI (k := ?_)
          (set_option smartUnfolding false in conv => whnf)
          refine ⟨by rfl, ?_⟩
          (set_option smartUnfolding false in conv => whnf)
          refine ⟨⟨(n3, out3 ++ [u3.1], u3.2), nextL e1'3, e2'3, q3, cntL g23⟩, Nat.lt_succ_self n3, ?_⟩
          conv => whnf
          rw [List.map_append, List.map_cons, List.map_nil]
          and_intros <;> first | rfl | exact trivial | (simp [pvle]; done) | exact wrL (n := n3) (by omega)
      obtain ⟨ho13, ho23⟩ := exitL e13 e23 hgo3
      rcases stopL hgo3 with hd3 | ⟨hd3, hbd3⟩
      · conv => whnf
        rw [hd3]
        conv => whnf
        rw [ho13, ho23]
        generalize dLs dt124 (r2.2) = r3 at hE hB hG h3 h4 ⊢
        have hsl4 := dSz_le (r3.2)
        have hln4 : (dSz (r3.2)).2.1.length ≤ 1000000 := Nat.le_trans (dSz_len (r3.2)) h3
        refine ⟨r3.2, ?_⟩
        conv => whnf
        refine And.intro (by simp only [allP, List.nil_append, List.cons_append, true_and]; and_intros <;> first | exact h3 | rfl) ?_
        conv => whnf
        refine ⟨{i : Nat × List S128 × In // i.2.1 ++ (gLp dt128 i.1 i.2.2).1 = (dLs dt128 (r3.2)).1 ∧ (gLp dt128 i.1 i.2.2).2 = (dLs dt128 (r3.2)).2 ∧ i.2.2.1.length ≤ 1000000 ∧ i.2.1.length + i.1 ≤ 1000000}, fun i => ⟨[(0, .p false (.sl 1 (bl l))), (2, .ptr 0 0), (3, isI .i64 0), (4, .ptr 1 0), (5, .ptr 2 0), (11, isI .i64 (i.1.1 : Nat))], [(0, .box [.p true (.int .i64 0), .p true .nilsl, .p true .nilsl, .p true .nilsl, .p true .nilsl]), (1, .box [.p false (.sl 1 (bl i.1.2.2.1)), isB i.1.2.2.2]), (2, .box [.p true (.int .i64 r0.1), .p true (.sl 2 (r1.1.map fun x => elOf (pv117 x))), .p true (.sl 3 (r2.1.map fun x => elOf (pv119 x))), .p true (.sl 7 (r3.1.map fun x => elOf (pv124 x))), .rowf 3]), (3, .row 128 3 true false ((i.1.2.1).map fun x => elOf (pv128 x)))], 99⟩, fun i => i.1.1, ⟨⟨((dSz (r3.2)).1, [], (dSz (r3.2)).2), rfl, rfl, hln4, by simp only [List.length_nil]; omega⟩, ?_⟩, ?_⟩
        · conv => whnf
          and_intros <;> first | rfl | exact trivial | (simp [pvle]; done)
        rintro ⟨⟨n4, out4, s4⟩, e14, e24, g14, g24⟩
        show aw _ _ _ _ _ _ ⟨[(0, .p false (.sl 1 (bl l))), (2, .ptr 0 0), (3, isI .i64 0), (4, .ptr 1 0), (5, .ptr 2 0), (11, isI .i64 (n4 : Nat))], [(0, .box [.p true (.int .i64 0), .p true .nilsl, .p true .nilsl, .p true .nilsl, .p true .nilsl]), (1, .box [.p false (.sl 1 (bl s4.1)), isB s4.2]), (2, .box [.p true (.int .i64 r0.1), .p true (.sl 2 (r1.1.map fun x => elOf (pv117 x))), .p true (.sl 3 (r2.1.map fun x => elOf (pv119 x))), .p true (.sl 7 (r3.1.map fun x => elOf (pv124 x))), .rowf 3]), (3, .row 128 3 true false ((out4).map fun x => elOf (pv128 x)))], 99⟩
        simp only at e14 e24 g14 g24
        by_cases hgo4 : 0 < n4 ∧ s4.2 = false
        · obtain ⟨t4, bad4⟩ := s4
          obtain ⟨hn04, hbad4⟩ := hgo4
          simp only at hbad4
          subst hbad4
          cases n4 with
          | zero => omega
          | succ n4 =>
            conv => whnf
            rw [goL]
            conv => whnf
            have e1'4 : out4 ++ (dt128 (t4, false)).1 :: (gLp dt128 n4 (dt128 (t4, false)).2).1 = (dLs dt128 (r3.2)).1 := e14
            have e2'4 : (gLp dt128 n4 (dt128 (t4, false)).2).2 = (dLs dt128 (r3.2)).2 := e24
            have q4_0 : (dNu (t4, false)).2.1.length ≤ 1000000 := Nat.le_trans (qNu.len _) g14
            have q4_1 : (dNu (dNu (t4, false)).2).2.1.length ≤ 1000000 := Nat.le_trans (qNu.len _) q4_0
            have q4_2 : ((dLs dt130) (dNu (dNu (t4, false)).2).2).2.1.length ≤ 1000000 := Nat.le_trans ((qt130.list 72 (by decide) (by decide)).len _) q4_1
            have qE4 : dt128 (t4, false) = (((dNu (t4, false)).1, (dNu (dNu (t4, false)).2).1, ((dLs dt130) (dNu (dNu (t4, false)).2).2).1), ((dLs dt130) (dNu (dNu (t4, false)).2).2).2) := by simp only [dt128, gP]
            rw [qE4] at e1'4 e2'4
            refine ⟨(t4, false), ?_⟩
            conv => whnf
            refine And.intro (by simp only [allP, List.nil_append, List.cons_append, true_and]; and_intros <;> first | exact g14 | (show List.length _ ≤ _; exact g14) | rfl) ?_
            (set_option smartUnfolding false in conv => whnf)
            have wu4_0 := dNu_w (t4, false)
            generalize dNu (t4, false) = u4_0 at qE4 e1'4 e2'4 q4_0 q4_1 q4_2 wu4_0 ⊢
            try rw [wu4_0]
            refine dI (k := ?_)
            conv => whnf
            refine ⟨u4_0.2, ?_⟩
            conv => whnf
            refine And.intro (by simp only [allP, List.nil_append, List.cons_append, true_and]; and_intros <;> first | exact q4_0 | (show List.length _ ≤ _; exact q4_0) | rfl) ?_
            (set_option smartUnfolding false in conv => whnf)
            have wu4_1 := dNu_w u4_0.2
            generalize dNu u4_0.2 = u4_1 at qE4 e1'4 e2'4 q4_1 q4_2 wu4_1 ⊢
            try rw [wu4_1]
            refine dI (k := ?_)
            conv => whnf
            have hsl4_2 := dSz_le (u4_1.2)
            have hln4_2 : (dSz (u4_1.2)).2.1.length ≤ 1000000 := Nat.le_trans (dSz_len (u4_1.2)) q4_1
            refine ⟨u4_1.2, ?_⟩
            conv => whnf
            refine And.intro (by simp only [allP, List.nil_append, List.cons_append, true_and]; and_intros <;> first | exact q4_1 | rfl) ?_
            conv => whnf
            refine ⟨{i : Nat × List S130 × In // i.2.1 ++ (gLp dt130 i.1 i.2.2).1 = (dLs dt130 (u4_1.2)).1 ∧ (gLp dt130 i.1 i.2.2).2 = (dLs dt130 (u4_1.2)).2 ∧ i.2.2.1.length ≤ 1000000 ∧ i.2.1.length + i.1 ≤ 1000000}, fun i => ⟨[(0, .p false (.sl 1 (bl l))), (2, .ptr 0 0), (3, isI .i64 0), (4, .ptr 1 0), (5, .ptr 2 0), (11, isI .i64 (n4 + 1 : Nat)), (12, .ptr 4 0), (13, isI .i64 (i.1.1 : Nat))], [(0, .box [.p true (.int .i64 0), .p true .nilsl, .p true .nilsl, .p true .nilsl, .p true .nilsl]), (1, .box [.p false (.sl 1 (bl i.1.2.2.1)), isB i.1.2.2.2]), (2, .box [.p true (.int .i64 r0.1), .p true (.sl 2 (r1.1.map fun x => elOf (pv117 x))), .p true (.sl 3 (r2.1.map fun x => elOf (pv119 x))), .p true (.sl 7 (r3.1.map fun x => elOf (pv124 x))), .rowf 3]), (3, .row 128 3 true false ((out4).map fun x => elOf (pv128 x))), (4, .box [.p true (.int .i64 u4_0.1), .p true (.int .i64 u4_1.1), .rowf 5]), (5, .row 130 7 true false ((i.1.2.1).map fun x => elOf (pv130 x)))], 99⟩, fun i => i.1.1, ⟨⟨((dSz (u4_1.2)).1, [], (dSz (u4_1.2)).2), rfl, rfl, hln4_2, by simp only [List.length_nil]; omega⟩, ?_⟩, ?_⟩
            · conv => whnf
              and_intros <;> first | rfl | exact trivial | (simp [pvle]; done)
            rintro ⟨⟨n4_2, out4_2, s4_2⟩, e14_2, e24_2, g14_2, g24_2⟩
            show aw _ _ _ _ _ _ ⟨[(0, .p false (.sl 1 (bl l))), (2, .ptr 0 0), (3, isI .i64 0), (4, .ptr 1 0), (5, .ptr 2 0), (11, isI .i64 (n4 + 1 : Nat)), (12, .ptr 4 0), (13, isI .i64 (n4_2 : Nat))], [(0, .box [.p true (.int .i64 0), .p true .nilsl, .p true .nilsl, .p true .nilsl, .p true .nilsl]), (1, .box [.p false (.sl 1 (bl s4_2.1)), isB s4_2.2]), (2, .box [.p true (.int .i64 r0.1), .p true (.sl 2 (r1.1.map fun x => elOf (pv117 x))), .p true (.sl 3 (r2.1.map fun x => elOf (pv119 x))), .p true (.sl 7 (r3.1.map fun x => elOf (pv124 x))), .rowf 3]), (3, .row 128 3 true false ((out4).map fun x => elOf (pv128 x))), (4, .box [.p true (.int .i64 u4_0.1), .p true (.int .i64 u4_1.1), .rowf 5]), (5, .row 130 7 true false ((out4_2).map fun x => elOf (pv130 x)))], 99⟩
            simp only at e14_2 e24_2 g14_2 g24_2
            by_cases hgo4_2 : 0 < n4_2 ∧ s4_2.2 = false
            · obtain ⟨t4_2, bad4_2⟩ := s4_2
              obtain ⟨hn04_2, hbad4_2⟩ := hgo4_2
              simp only at hbad4_2
              subst hbad4_2
              cases n4_2 with
              | zero => omega
              | succ n4_2 =>
                conv => whnf
                rw [goL]
                conv => whnf
                have e1'4_2 : out4_2 ++ (dt130 (t4_2, false)).1 :: (gLp dt130 n4_2 (dt130 (t4_2, false)).2).1 = (dLs dt130 (u4_1.2)).1 := e14_2
                have e2'4_2 : (gLp dt130 n4_2 (dt130 (t4_2, false)).2).2 = (dLs dt130 (u4_1.2)).2 := e24_2
                have q4_2_0 : (dNu (t4_2, false)).2.1.length ≤ 1000000 := Nat.le_trans (qNu.len _) g14_2
                have q4_2_1 : (dt70 (dNu (t4_2, false)).2).2.1.length ≤ 1000000 := Nat.le_trans (qt70.len _) q4_2_0
                have qE4_2 : dt130 (t4_2, false) = (((dNu (t4_2, false)).1, (dt70 (dNu (t4_2, false)).2).1), (dt70 (dNu (t4_2, false)).2).2) := by simp only [dt130, gP]
                rw [qE4_2] at e1'4_2 e2'4_2
                refine ⟨(t4_2, false), ?_⟩
                conv => whnf
                refine And.intro (by simp only [allP, List.nil_append, List.cons_append, true_and]; and_intros <;> first | exact g14_2 | (show List.length _ ≤ _; exact g14_2) | rfl) ?_
                (set_option smartUnfolding false in conv => whnf)
                have wu4_2_0 := dNu_w (t4_2, false)
                generalize dNu (t4_2, false) = u4_2_0 at qE4_2 e1'4_2 e2'4_2 q4_2_0 q4_2_1 wu4_2_0 ⊢
                try rw [wu4_2_0]
                refine dI (k := ?_)
                conv => whnf
                refine ⟨u4_2_0.2, ?_⟩
                conv => whnf
                refine And.intro (by simp only [allP, List.nil_append, List.cons_append, true_and]; and_intros <;> first | exact q4_2_0 | (show List.length _ ≤ _; exact q4_2_0) | rfl) ?_
                (set_option smartUnfolding false in conv => whnf)
                generalize dt70 u4_2_0.2 = u4_2_1 at qE4_2 e1'4_2 e2'4_2 q4_2_1 ⊢
                refine dI (k := ?_)
                conv => whnf
                refine dI (k := ?_)
                (set_option smartUnfolding false in conv => whnf)
                refine And.intro (by simp only [allP, List.nil_append, List.cons_append, true_and]; rw [List.length_map]; simp only [List.length_cons, List.length_nil]; omega) ?_
                (set_option smartUnfolding false in conv => whnf)
                refine dI (k := ?_)
                conv => whnf
                refine ⟨⟨(n4_2, out4_2 ++ [(u4_2_0.1, u4_2_1.1)], u4_2_1.2), nextL e1'4_2, e2'4_2, q4_2_1, cntL g24_2⟩, Nat.lt_succ_self n4_2, ?_⟩
                conv => whnf
                rw [List.map_append, List.map_cons, List.map_nil]
                and_intros <;> first | rfl | exact trivial | (simp [pvle]; done) | exact wrL (n := n4_2) (by omega)
            obtain ⟨ho14_2, ho24_2⟩ := exitL e14_2 e24_2 hgo4_2
            rcases stopL hgo4_2 with hd4_2 | ⟨hd4_2, hbd4_2⟩
            · conv => whnf
              rw [hd4_2]
              conv => whnf
              rw [ho14_2, ho24_2]
              generalize dLs dt130 (u4_1.2) = u4_2 at qE4 e1'4 e2'4 q4_2 ⊢
              refine dI (k := ?_)
              (set_option smartUnfolding false in conv => whnf)
              refine And.intro (by simp only [allP, List.nil_append, List.cons_append, true_and]; rw [List.length_map]; simp only [List.length_cons, List.length_nil]; omega) ?_
              (set_option smartUnfolding false in conv => whnf)
              refine dI (k := ?_)
              conv => whnf
              refine ⟨⟨(n4, out4 ++ [(u4_0.1, u4_1.1, u4_2.1)], u4_2.2), nextL e1'4, e2'4, q4_2, cntL g24⟩, Nat.lt_succ_self n4, ?_⟩
              conv => whnf
              rw [List.map_append, List.map_cons, List.map_nil]
              and_intros <;> first | rfl | exact trivial | (simp [pvle]; done) | exact wrL (n := n4) (by omega)
            · obtain ⟨t4_2, bad4_2⟩ := s4_2
              simp only at hbd4_2
              subst hbd4_2
              conv => whnf
              rw [hd4_2]
              conv => whnf
              rw [ho14_2, ho24_2]
              generalize dLs dt130 (u4_1.2) = u4_2 at qE4 e1'4 e2'4 q4_2 ⊢
              refine dI (k := ?_)
              (set_option smartUnfolding false in conv => whnf)
              refine And.intro (by simp only [allP, List.nil_append, List.cons_append, true_and]; rw [List.length_map]; simp only [List.length_cons, List.length_nil]; omega) ?_
              (set_option smartUnfolding false in conv => whnf)
              refine dI (k := ?_)
              conv => whnf
              refine ⟨⟨(n4, out4 ++ [(u4_0.1, u4_1.1, u4_2.1)], u4_2.2), nextL e1'4, e2'4, q4_2, cntL g24⟩, Nat.lt_succ_self n4, ?_⟩
              conv => whnf
              rw [List.map_append, List.map_cons, List.map_nil]
              and_intros <;> first | rfl | exact trivial | (simp [pvle]; done) | exact wrL (n := n4) (by omega)
        obtain ⟨ho14, ho24⟩ := exitL e14 e24 hgo4
        rcases stopL hgo4 with hd4 | ⟨hd4, hbd4⟩
        · conv => whnf
          rw [hd4]
          conv => whnf
          rw [ho14, ho24]
          generalize dLs dt128 (r3.2) = r4 at hE hB hG h4 ⊢
          refine dI (k := ?_)
          (set_option smartUnfolding false in conv => whnf)
          refine ⟨(r0.1, r1.1, r2.1, r3.1, r4.1), ?_⟩
          conv => whnf
          refine And.intro (by simp only [allP, List.nil_append, List.cons_append, true_and]; repeat' (first | exact hB.1 | exact hB.2 | rfl | refine And.intro ?_ ?_)) ?_
          (set_option smartUnfolding false in conv => whnf)
          refine ⟨(r4.2, 4 :: en37 (r0.1, r1.1, r2.1, r3.1, r4.1), l, 60000), ?_⟩
          conv => whnf
          refine And.intro (by simp only [allP, List.nil_append, List.cons_append, true_and]; and_intros <;> first | exact trivial | rfl) ?_
          (set_option smartUnfolding false in conv => whnf)
          generalize hc : (!r4.2.2 && decide (l.length ≤ 60000) && decide (4 :: en37 (r0.1, r1.1, r2.1, r3.1, r4.1) = l)) = c at hG ⊢
          cases c
          · (set_option smartUnfolding false in conv => whnf)
            refine dI (k := ?_)
            (set_option smartUnfolding false in conv => whnf)
            refine dI (k := ?_)
            (set_option smartUnfolding false in conv => whnf)
            rw [hG]
            and_intros <;> first | rfl | exact trivial | (simp [pvle, z37, gSel]; done)
          · (set_option smartUnfolding false in conv => whnf)
            refine dI (k := ?_)
            (set_option smartUnfolding false in conv => whnf)
            refine dI (k := ?_)
            (set_option smartUnfolding false in conv => whnf)
            refine dI (k := ?_)
            (set_option smartUnfolding false in conv => whnf)
            rw [hG]
            and_intros <;> first | rfl | exact trivial | (simp [pvle]; done)
        · obtain ⟨t4, bad4⟩ := s4
          simp only at hbd4
          subst hbd4
          conv => whnf
          rw [hd4]
          conv => whnf
          rw [ho14, ho24]
          generalize dLs dt128 (r3.2) = r4 at hE hB hG h4 ⊢
          refine dI (k := ?_)
          (set_option smartUnfolding false in conv => whnf)
          refine ⟨(r0.1, r1.1, r2.1, r3.1, r4.1), ?_⟩
          conv => whnf
          refine And.intro (by simp only [allP, List.nil_append, List.cons_append, true_and]; repeat' (first | exact hB.1 | exact hB.2 | rfl | refine And.intro ?_ ?_)) ?_
          (set_option smartUnfolding false in conv => whnf)
          refine ⟨(r4.2, 4 :: en37 (r0.1, r1.1, r2.1, r3.1, r4.1), l, 60000), ?_⟩
          conv => whnf
          refine And.intro (by simp only [allP, List.nil_append, List.cons_append, true_and]; and_intros <;> first | exact trivial | rfl) ?_
          (set_option smartUnfolding false in conv => whnf)
          generalize hc : (!r4.2.2 && decide (l.length ≤ 60000) && decide (4 :: en37 (r0.1, r1.1, r2.1, r3.1, r4.1) = l)) = c at hG ⊢
          cases c
          · (set_option smartUnfolding false in conv => whnf)
            refine dI (k := ?_)
            (set_option smartUnfolding false in conv => whnf)
            refine dI (k := ?_)
            (set_option smartUnfolding false in conv => whnf)
            rw [hG]
            and_intros <;> first | rfl | exact trivial | (simp [pvle, z37, gSel]; done)
          · (set_option smartUnfolding false in conv => whnf)
            refine dI (k := ?_)
            (set_option smartUnfolding false in conv => whnf)
            refine dI (k := ?_)
            (set_option smartUnfolding false in conv => whnf)
            refine dI (k := ?_)
            (set_option smartUnfolding false in conv => whnf)
            rw [hG]
            and_intros <;> first | rfl | exact trivial | (simp [pvle]; done)
      · obtain ⟨t3, bad3⟩ := s3
        simp only at hbd3
        subst hbd3
        conv => whnf
        rw [hd3]
        conv => whnf
        rw [ho13, ho23]
        generalize dLs dt124 (r2.2) = r3 at hE hB hG h3 h4 ⊢
        have hsl4 := dSz_le (r3.2)
        have hln4 : (dSz (r3.2)).2.1.length ≤ 1000000 := Nat.le_trans (dSz_len (r3.2)) h3
        refine ⟨r3.2, ?_⟩
        conv => whnf
        refine And.intro (by simp only [allP, List.nil_append, List.cons_append, true_and]; and_intros <;> first | exact h3 | rfl) ?_
        conv => whnf
        refine ⟨{i : Nat × List S128 × In // i.2.1 ++ (gLp dt128 i.1 i.2.2).1 = (dLs dt128 (r3.2)).1 ∧ (gLp dt128 i.1 i.2.2).2 = (dLs dt128 (r3.2)).2 ∧ i.2.2.1.length ≤ 1000000 ∧ i.2.1.length + i.1 ≤ 1000000}, fun i => ⟨[(0, .p false (.sl 1 (bl l))), (2, .ptr 0 0), (3, isI .i64 0), (4, .ptr 1 0), (5, .ptr 2 0), (11, isI .i64 (i.1.1 : Nat))], [(0, .box [.p true (.int .i64 0), .p true .nilsl, .p true .nilsl, .p true .nilsl, .p true .nilsl]), (1, .box [.p false (.sl 1 (bl i.1.2.2.1)), isB i.1.2.2.2]), (2, .box [.p true (.int .i64 r0.1), .p true (.sl 2 (r1.1.map fun x => elOf (pv117 x))), .p true (.sl 3 (r2.1.map fun x => elOf (pv119 x))), .p true (.sl 7 (r3.1.map fun x => elOf (pv124 x))), .rowf 3]), (3, .row 128 3 true false ((i.1.2.1).map fun x => elOf (pv128 x)))], 99⟩, fun i => i.1.1, ⟨⟨((dSz (r3.2)).1, [], (dSz (r3.2)).2), rfl, rfl, hln4, by simp only [List.length_nil]; omega⟩, ?_⟩, ?_⟩
        · conv => whnf
          and_intros <;> first | rfl | exact trivial | (simp [pvle]; done)
        rintro ⟨⟨n4, out4, s4⟩, e14, e24, g14, g24⟩
        show aw _ _ _ _ _ _ ⟨[(0, .p false (.sl 1 (bl l))), (2, .ptr 0 0), (3, isI .i64 0), (4, .ptr 1 0), (5, .ptr 2 0), (11, isI .i64 (n4 : Nat))], [(0, .box [.p true (.int .i64 0), .p true .nilsl, .p true .nilsl, .p true .nilsl, .p true .nilsl]), (1, .box [.p false (.sl 1 (bl s4.1)), isB s4.2]), (2, .box [.p true (.int .i64 r0.1), .p true (.sl 2 (r1.1.map fun x => elOf (pv117 x))), .p true (.sl 3 (r2.1.map fun x => elOf (pv119 x))), .p true (.sl 7 (r3.1.map fun x => elOf (pv124 x))), .rowf 3]), (3, .row 128 3 true false ((out4).map fun x => elOf (pv128 x)))], 99⟩
        simp only at e14 e24 g14 g24
        by_cases hgo4 : 0 < n4 ∧ s4.2 = false
        · obtain ⟨t4, bad4⟩ := s4
          obtain ⟨hn04, hbad4⟩ := hgo4
          simp only at hbad4
          subst hbad4
          cases n4 with
          | zero => omega
          | succ n4 =>
            conv => whnf
            rw [goL]
            conv => whnf
            have e1'4 : out4 ++ (dt128 (t4, false)).1 :: (gLp dt128 n4 (dt128 (t4, false)).2).1 = (dLs dt128 (r3.2)).1 := e14
            have e2'4 : (gLp dt128 n4 (dt128 (t4, false)).2).2 = (dLs dt128 (r3.2)).2 := e24
            have q4_0 : (dNu (t4, false)).2.1.length ≤ 1000000 := Nat.le_trans (qNu.len _) g14
            have q4_1 : (dNu (dNu (t4, false)).2).2.1.length ≤ 1000000 := Nat.le_trans (qNu.len _) q4_0
            have q4_2 : ((dLs dt130) (dNu (dNu (t4, false)).2).2).2.1.length ≤ 1000000 := Nat.le_trans ((qt130.list 72 (by decide) (by decide)).len _) q4_1
            have qE4 : dt128 (t4, false) = (((dNu (t4, false)).1, (dNu (dNu (t4, false)).2).1, ((dLs dt130) (dNu (dNu (t4, false)).2).2).1), ((dLs dt130) (dNu (dNu (t4, false)).2).2).2) := by simp only [dt128, gP]
            rw [qE4] at e1'4 e2'4
            refine ⟨(t4, false), ?_⟩
            conv => whnf
            refine And.intro (by simp only [allP, List.nil_append, List.cons_append, true_and]; and_intros <;> first | exact g14 | (show List.length _ ≤ _; exact g14) | rfl) ?_
            (set_option smartUnfolding false in conv => whnf)
            have wu4_0 := dNu_w (t4, false)
            generalize dNu (t4, false) = u4_0 at qE4 e1'4 e2'4 q4_0 q4_1 q4_2 wu4_0 ⊢
            try rw [wu4_0]
            refine dI (k := ?_)
            conv => whnf
            refine ⟨u4_0.2, ?_⟩
            conv => whnf
            refine And.intro (by simp only [allP, List.nil_append, List.cons_append, true_and]; and_intros <;> first | exact q4_0 | (show List.length _ ≤ _; exact q4_0) | rfl) ?_
            (set_option smartUnfolding false in conv => whnf)
            have wu4_1 := dNu_w u4_0.2
            generalize dNu u4_0.2 = u4_1 at qE4 e1'4 e2'4 q4_1 q4_2 wu4_1 ⊢
            try rw [wu4_1]
            refine dI (k := ?_)
            conv => whnf
            have hsl4_2 := dSz_le (u4_1.2)
            have hln4_2 : (dSz (u4_1.2)).2.1.length ≤ 1000000 := Nat.le_trans (dSz_len (u4_1.2)) q4_1
            refine ⟨u4_1.2, ?_⟩
            conv => whnf
            refine And.intro (by simp only [allP, List.nil_append, List.cons_append, true_and]; and_intros <;> first | exact q4_1 | rfl) ?_
            conv => whnf
            refine ⟨{i : Nat × List S130 × In // i.2.1 ++ (gLp dt130 i.1 i.2.2).1 = (dLs dt130 (u4_1.2)).1 ∧ (gLp dt130 i.1 i.2.2).2 = (dLs dt130 (u4_1.2)).2 ∧ i.2.2.1.length ≤ 1000000 ∧ i.2.1.length + i.1 ≤ 1000000}, fun i => ⟨[(0, .p false (.sl 1 (bl l))), (2, .ptr 0 0), (3, isI .i64 0), (4, .ptr 1 0), (5, .ptr 2 0), (11, isI .i64 (n4 + 1 : Nat)), (12, .ptr 4 0), (13, isI .i64 (i.1.1 : Nat))], [(0, .box [.p true (.int .i64 0), .p true .nilsl, .p true .nilsl, .p true .nilsl, .p true .nilsl]), (1, .box [.p false (.sl 1 (bl i.1.2.2.1)), isB i.1.2.2.2]), (2, .box [.p true (.int .i64 r0.1), .p true (.sl 2 (r1.1.map fun x => elOf (pv117 x))), .p true (.sl 3 (r2.1.map fun x => elOf (pv119 x))), .p true (.sl 7 (r3.1.map fun x => elOf (pv124 x))), .rowf 3]), (3, .row 128 3 true false ((out4).map fun x => elOf (pv128 x))), (4, .box [.p true (.int .i64 u4_0.1), .p true (.int .i64 u4_1.1), .rowf 5]), (5, .row 130 7 true false ((i.1.2.1).map fun x => elOf (pv130 x)))], 99⟩, fun i => i.1.1, ⟨⟨((dSz (u4_1.2)).1, [], (dSz (u4_1.2)).2), rfl, rfl, hln4_2, by simp only [List.length_nil]; omega⟩, ?_⟩, ?_⟩
            · conv => whnf
              and_intros <;> first | rfl | exact trivial | (simp [pvle]; done)
            rintro ⟨⟨n4_2, out4_2, s4_2⟩, e14_2, e24_2, g14_2, g24_2⟩
            show aw _ _ _ _ _ _ ⟨[(0, .p false (.sl 1 (bl l))), (2, .ptr 0 0), (3, isI .i64 0), (4, .ptr 1 0), (5, .ptr 2 0), (11, isI .i64 (n4 + 1 : Nat)), (12, .ptr 4 0), (13, isI .i64 (n4_2 : Nat))], [(0, .box [.p true (.int .i64 0), .p true .nilsl, .p true .nilsl, .p true .nilsl, .p true .nilsl]), (1, .box [.p false (.sl 1 (bl s4_2.1)), isB s4_2.2]), (2, .box [.p true (.int .i64 r0.1), .p true (.sl 2 (r1.1.map fun x => elOf (pv117 x))), .p true (.sl 3 (r2.1.map fun x => elOf (pv119 x))), .p true (.sl 7 (r3.1.map fun x => elOf (pv124 x))), .rowf 3]), (3, .row 128 3 true false ((out4).map fun x => elOf (pv128 x))), (4, .box [.p true (.int .i64 u4_0.1), .p true (.int .i64 u4_1.1), .rowf 5]), (5, .row 130 7 true false ((out4_2).map fun x => elOf (pv130 x)))], 99⟩
            simp only at e14_2 e24_2 g14_2 g24_2
            by_cases hgo4_2 : 0 < n4_2 ∧ s4_2.2 = false
            · obtain ⟨t4_2, bad4_2⟩ := s4_2
              obtain ⟨hn04_2, hbad4_2⟩ := hgo4_2
              simp only at hbad4_2
              subst hbad4_2
              cases n4_2 with
              | zero => omega
              | succ n4_2 =>
                conv => whnf
                rw [goL]
                conv => whnf
                have e1'4_2 : out4_2 ++ (dt130 (t4_2, false)).1 :: (gLp dt130 n4_2 (dt130 (t4_2, false)).2).1 = (dLs dt130 (u4_1.2)).1 := e14_2
                have e2'4_2 : (gLp dt130 n4_2 (dt130 (t4_2, false)).2).2 = (dLs dt130 (u4_1.2)).2 := e24_2
                have q4_2_0 : (dNu (t4_2, false)).2.1.length ≤ 1000000 := Nat.le_trans (qNu.len _) g14_2
                have q4_2_1 : (dt70 (dNu (t4_2, false)).2).2.1.length ≤ 1000000 := Nat.le_trans (qt70.len _) q4_2_0
                have qE4_2 : dt130 (t4_2, false) = (((dNu (t4_2, false)).1, (dt70 (dNu (t4_2, false)).2).1), (dt70 (dNu (t4_2, false)).2).2) := by simp only [dt130, gP]
                rw [qE4_2] at e1'4_2 e2'4_2
                refine ⟨(t4_2, false), ?_⟩
                conv => whnf
                refine And.intro (by simp only [allP, List.nil_append, List.cons_append, true_and]; and_intros <;> first | exact g14_2 | (show List.length _ ≤ _; exact g14_2) | rfl) ?_
                (set_option smartUnfolding false in conv => whnf)
                have wu4_2_0 := dNu_w (t4_2, false)
                generalize dNu (t4_2, false) = u4_2_0 at qE4_2 e1'4_2 e2'4_2 q4_2_0 q4_2_1 wu4_2_0 ⊢
                try rw [wu4_2_0]
                refine dI (k := ?_)
                conv => whnf
                refine ⟨u4_2_0.2, ?_⟩
                conv => whnf
                refine And.intro (by simp only [allP, List.nil_append, List.cons_append, true_and]; and_intros <;> first | exact q4_2_0 | (show List.length _ ≤ _; exact q4_2_0) | rfl) ?_
                (set_option smartUnfolding false in conv => whnf)
                generalize dt70 u4_2_0.2 = u4_2_1 at qE4_2 e1'4_2 e2'4_2 q4_2_1 ⊢
                refine dI (k := ?_)
                conv => whnf
                refine dI (k := ?_)
                (set_option smartUnfolding false in conv => whnf)
                refine And.intro (by simp only [allP, List.nil_append, List.cons_append, true_and]; rw [List.length_map]; simp only [List.length_cons, List.length_nil]; omega) ?_
                (set_option smartUnfolding false in conv => whnf)
                refine dI (k := ?_)
                conv => whnf
                refine ⟨⟨(n4_2, out4_2 ++ [(u4_2_0.1, u4_2_1.1)], u4_2_1.2), nextL e1'4_2, e2'4_2, q4_2_1, cntL g24_2⟩, Nat.lt_succ_self n4_2, ?_⟩
                conv => whnf
                rw [List.map_append, List.map_cons, List.map_nil]
                and_intros <;> first | rfl | exact trivial | (simp [pvle]; done) | exact wrL (n := n4_2) (by omega)
            obtain ⟨ho14_2, ho24_2⟩ := exitL e14_2 e24_2 hgo4_2
            rcases stopL hgo4_2 with hd4_2 | ⟨hd4_2, hbd4_2⟩
            · conv => whnf
              rw [hd4_2]
              conv => whnf
              rw [ho14_2, ho24_2]
              generalize dLs dt130 (u4_1.2) = u4_2 at qE4 e1'4 e2'4 q4_2 ⊢
              refine dI (k := ?_)
              (set_option smartUnfolding false in conv => whnf)
              refine And.intro (by simp only [allP, List.nil_append, List.cons_append, true_and]; rw [List.length_map]; simp only [List.length_cons, List.length_nil]; omega) ?_
              (set_option smartUnfolding false in conv => whnf)
              refine dI (k := ?_)
              conv => whnf
              refine ⟨⟨(n4, out4 ++ [(u4_0.1, u4_1.1, u4_2.1)], u4_2.2), nextL e1'4, e2'4, q4_2, cntL g24⟩, Nat.lt_succ_self n4, ?_⟩
              conv => whnf
              rw [List.map_append, List.map_cons, List.map_nil]
              and_intros <;> first | rfl | exact trivial | (simp [pvle]; done) | exact wrL (n := n4) (by omega)
            · obtain ⟨t4_2, bad4_2⟩ := s4_2
              simp only at hbd4_2
              subst hbd4_2
              conv => whnf
              rw [hd4_2]
              conv => whnf
              rw [ho14_2, ho24_2]
              generalize dLs dt130 (u4_1.2) = u4_2 at qE4 e1'4 e2'4 q4_2 ⊢
              refine dI (k := ?_)
              (set_option smartUnfolding false in conv => whnf)
              refine And.intro (by simp only [allP, List.nil_append, List.cons_append, true_and]; rw [List.length_map]; simp only [List.length_cons, List.length_nil]; omega) ?_
              (set_option smartUnfolding false in conv => whnf)
              refine dI (k := ?_)
              conv => whnf
              refine ⟨⟨(n4, out4 ++ [(u4_0.1, u4_1.1, u4_2.1)], u4_2.2), nextL e1'4, e2'4, q4_2, cntL g24⟩, Nat.lt_succ_self n4, ?_⟩
              conv => whnf
              rw [List.map_append, List.map_cons, List.map_nil]
              and_intros <;> first | rfl | exact trivial | (simp [pvle]; done) | exact wrL (n := n4) (by omega)
        obtain ⟨ho14, ho24⟩ := exitL e14 e24 hgo4
        rcases stopL hgo4 with hd4 | ⟨hd4, hbd4⟩
        · conv => whnf
          rw [hd4]
          conv => whnf
          rw [ho14, ho24]
          generalize dLs dt128 (r3.2) = r4 at hE hB hG h4 ⊢
          refine dI (k := ?_)
          (set_option smartUnfolding false in conv => whnf)
          refine ⟨(r0.1, r1.1, r2.1, r3.1, r4.1), ?_⟩
          conv => whnf
          refine And.intro (by simp only [allP, List.nil_append, List.cons_append, true_and]; repeat' (first | exact hB.1 | exact hB.2 | rfl | refine And.intro ?_ ?_)) ?_
          (set_option smartUnfolding false in conv => whnf)
          refine ⟨(r4.2, 4 :: en37 (r0.1, r1.1, r2.1, r3.1, r4.1), l, 60000), ?_⟩
          conv => whnf
          refine And.intro (by simp only [allP, List.nil_append, List.cons_append, true_and]; and_intros <;> first | exact trivial | rfl) ?_
          (set_option smartUnfolding false in conv => whnf)
          generalize hc : (!r4.2.2 && decide (l.length ≤ 60000) && decide (4 :: en37 (r0.1, r1.1, r2.1, r3.1, r4.1) = l)) = c at hG ⊢
          cases c
          · (set_option smartUnfolding false in conv => whnf)
            refine dI (k := ?_)
            (set_option smartUnfolding false in conv => whnf)
            refine dI (k := ?_)
            (set_option smartUnfolding false in conv => whnf)
            rw [hG]
            and_intros <;> first | rfl | exact trivial | (simp [pvle, z37, gSel]; done)
          · (set_option smartUnfolding false in conv => whnf)
            refine dI (k := ?_)
            (set_option smartUnfolding false in conv => whnf)
            refine dI (k := ?_)
            (set_option smartUnfolding false in conv => whnf)
            refine dI (k := ?_)
            (set_option smartUnfolding false in conv => whnf)
            rw [hG]
            and_intros <;> first | rfl | exact trivial | (simp [pvle]; done)
        · obtain ⟨t4, bad4⟩ := s4
          simp only at hbd4
          subst hbd4
          conv => whnf
          rw [hd4]
          conv => whnf
          rw [ho14, ho24]
          generalize dLs dt128 (r3.2) = r4 at hE hB hG h4 ⊢
          refine dI (k := ?_)
          (set_option smartUnfolding false in conv => whnf)
          refine ⟨(r0.1, r1.1, r2.1, r3.1, r4.1), ?_⟩
          conv => whnf
          refine And.intro (by simp only [allP, List.nil_append, List.cons_append, true_and]; repeat' (first | exact hB.1 | exact hB.2 | rfl | refine And.intro ?_ ?_)) ?_
          (set_option smartUnfolding false in conv => whnf)
          refine ⟨(r4.2, 4 :: en37 (r0.1, r1.1, r2.1, r3.1, r4.1), l, 60000), ?_⟩
          conv => whnf
          refine And.intro (by simp only [allP, List.nil_append, List.cons_append, true_and]; and_intros <;> first | exact trivial | rfl) ?_
          (set_option smartUnfolding false in conv => whnf)
          generalize hc : (!r4.2.2 && decide (l.length ≤ 60000) && decide (4 :: en37 (r0.1, r1.1, r2.1, r3.1, r4.1) = l)) = c at hG ⊢
          cases c
          · (set_option smartUnfolding false in conv => whnf)
            refine dI (k := ?_)
            (set_option smartUnfolding false in conv => whnf)
            refine dI (k := ?_)
            (set_option smartUnfolding false in conv => whnf)
            rw [hG]
            and_intros <;> first | rfl | exact trivial | (simp [pvle, z37, gSel]; done)
          · (set_option smartUnfolding false in conv => whnf)
            refine dI (k := ?_)
            (set_option smartUnfolding false in conv => whnf)
            refine dI (k := ?_)
            (set_option smartUnfolding false in conv => whnf)
            refine dI (k := ?_)
            (set_option smartUnfolding false in conv => whnf)
            rw [hG]
            and_intros <;> first | rfl | exact trivial | (simp [pvle]; done)
    · obtain ⟨t2, bad2⟩ := s2
      simp only at hbd2
      subst hbd2
      conv => whnf
      rw [hd2]
      conv => whnf
      rw [ho12, ho22]
      generalize dLs dt119 (r1.2) = r2 at hE hB hG h2 h3 h4 ⊢
      have hsl3 := dSz_le (r2.2)
      have hln3 : (dSz (r2.2)).2.1.length ≤ 1000000 := Nat.le_trans (dSz_len (r2.2)) h2
      refine ⟨r2.2, ?_⟩
      conv => whnf
      refine And.intro (by simp only [allP, List.nil_append, List.cons_append, true_and]; and_intros <;> first | exact h2 | rfl) ?_
      conv => whnf
      refine ⟨{i : Nat × List S124 × In // i.2.1 ++ (gLp dt124 i.1 i.2.2).1 = (dLs dt124 (r2.2)).1 ∧ (gLp dt124 i.1 i.2.2).2 = (dLs dt124 (r2.2)).2 ∧ i.2.2.1.length ≤ 1000000 ∧ i.2.1.length + i.1 ≤ 1000000}, fun i => ⟨[(0, .p false (.sl 1 (bl l))), (2, .ptr 0 0), (3, isI .i64 0), (4, .ptr 1 0), (5, .ptr 2 0), (10, isI .i64 (i.1.1 : Nat))], [(0, .box [.p true (.int .i64 0), .p true .nilsl, .p true .nilsl, .p true .nilsl, .p true .nilsl]), (1, .box [.p false (.sl 1 (bl i.1.2.2.1)), isB i.1.2.2.2]), (2, .box [.p true (.int .i64 r0.1), .p true (.sl 2 (r1.1.map fun x => elOf (pv117 x))), .p true (.sl 3 (r2.1.map fun x => elOf (pv119 x))), .rowf 3, .p true .nilsl]), (3, .row 124 7 true false ((i.1.2.1).map fun x => elOf (pv124 x)))], 99⟩, fun i => i.1.1, ⟨⟨((dSz (r2.2)).1, [], (dSz (r2.2)).2), rfl, rfl, hln3, by simp only [List.length_nil]; omega⟩, ?_⟩, ?_⟩
      · conv => whnf
        and_intros <;> first | rfl | exact trivial | (simp [pvle]; done)
      rintro ⟨⟨n3, out3, s3⟩, e13, e23, g13, g23⟩
      show aw _ _ _ _ _ _ ⟨[(0, .p false (.sl 1 (bl l))), (2, .ptr 0 0), (3, isI .i64 0), (4, .ptr 1 0), (5, .ptr 2 0), (10, isI .i64 (n3 : Nat))], [(0, .box [.p true (.int .i64 0), .p true .nilsl, .p true .nilsl, .p true .nilsl, .p true .nilsl]), (1, .box [.p false (.sl 1 (bl s3.1)), isB s3.2]), (2, .box [.p true (.int .i64 r0.1), .p true (.sl 2 (r1.1.map fun x => elOf (pv117 x))), .p true (.sl 3 (r2.1.map fun x => elOf (pv119 x))), .rowf 3, .p true .nilsl]), (3, .row 124 7 true false ((out3).map fun x => elOf (pv124 x)))], 99⟩
      simp only at e13 e23 g13 g23
      by_cases hgo3 : 0 < n3 ∧ s3.2 = false
      · obtain ⟨t3, bad3⟩ := s3
        obtain ⟨hn03, hbad3⟩ := hgo3
        simp only at hbad3
        subst hbad3
        cases n3 with
        | zero => omega
        | succ n3 =>
          conv => whnf
          rw [goL]
          conv => whnf
          have e1'3 : out3 ++ (dt124 (t3, false)).1 :: (gLp dt124 n3 (dt124 (t3, false)).2).1 = (dLs dt124 (r2.2)).1 := e13
          have e2'3 : (gLp dt124 n3 (dt124 (t3, false)).2).2 = (dLs dt124 (r2.2)).2 := e23
          have q3 : (dt124 (t3, false)).2.1.length ≤ 1000000 := Nat.le_trans (qt124.len _) g13
          refine ⟨(t3, false), ?_⟩
          conv => whnf
          refine And.intro (by simp only [allP, List.nil_append, List.cons_append, true_and]; and_intros <;> first | exact g13 | (show t3.length ≤ _; exact g13) | rfl) ?_
          (set_option smartUnfolding false in conv => whnf)
          generalize dt124 (t3, false) = u3 at e1'3 e2'3 q3 ⊢
          refine And.intro (by simp only [allP, List.nil_append, List.cons_append, true_and]; rw [List.length_map]; simp only [List.length_cons, List.length_nil]; omega) ?_
          (set_option smartUnfolding false in conv => whnf)
          refine dI (k := ?_)
          (set_option smartUnfolding false in conv => whnf)
          refine ⟨by rfl, ?_⟩
          (set_option smartUnfolding false in conv => whnf)
          refine ⟨⟨(n3, out3 ++ [u3.1], u3.2), nextL e1'3, e2'3, q3, cntL g23⟩, Nat.lt_succ_self n3, ?_⟩
          conv => whnf
          rw [List.map_append, List.map_cons, List.map_nil]
          and_intros <;> first | rfl | exact trivial | (simp [pvle]; done) | exact wrL (n := n3) (by omega)
      obtain ⟨ho13, ho23⟩ := exitL e13 e23 hgo3
      rcases stopL hgo3 with hd3 | ⟨hd3, hbd3⟩
      · conv => whnf
        rw [hd3]
        conv => whnf
        rw [ho13, ho23]
        generalize dLs dt124 (r2.2) = r3 at hE hB hG h3 h4 ⊢
        have hsl4 := dSz_le (r3.2)
        have hln4 : (dSz (r3.2)).2.1.length ≤ 1000000 := Nat.le_trans (dSz_len (r3.2)) h3
        refine ⟨r3.2, ?_⟩
        conv => whnf
        refine And.intro (by simp only [allP, List.nil_append, List.cons_append, true_and]; and_intros <;> first | exact h3 | rfl) ?_
        conv => whnf
        refine ⟨{i : Nat × List S128 × In // i.2.1 ++ (gLp dt128 i.1 i.2.2).1 = (dLs dt128 (r3.2)).1 ∧ (gLp dt128 i.1 i.2.2).2 = (dLs dt128 (r3.2)).2 ∧ i.2.2.1.length ≤ 1000000 ∧ i.2.1.length + i.1 ≤ 1000000}, fun i => ⟨[(0, .p false (.sl 1 (bl l))), (2, .ptr 0 0), (3, isI .i64 0), (4, .ptr 1 0), (5, .ptr 2 0), (11, isI .i64 (i.1.1 : Nat))], [(0, .box [.p true (.int .i64 0), .p true .nilsl, .p true .nilsl, .p true .nilsl, .p true .nilsl]), (1, .box [.p false (.sl 1 (bl i.1.2.2.1)), isB i.1.2.2.2]), (2, .box [.p true (.int .i64 r0.1), .p true (.sl 2 (r1.1.map fun x => elOf (pv117 x))), .p true (.sl 3 (r2.1.map fun x => elOf (pv119 x))), .p true (.sl 7 (r3.1.map fun x => elOf (pv124 x))), .rowf 3]), (3, .row 128 3 true false ((i.1.2.1).map fun x => elOf (pv128 x)))], 99⟩, fun i => i.1.1, ⟨⟨((dSz (r3.2)).1, [], (dSz (r3.2)).2), rfl, rfl, hln4, by simp only [List.length_nil]; omega⟩, ?_⟩, ?_⟩
        · conv => whnf
          and_intros <;> first | rfl | exact trivial | (simp [pvle]; done)
        rintro ⟨⟨n4, out4, s4⟩, e14, e24, g14, g24⟩
        show aw _ _ _ _ _ _ ⟨[(0, .p false (.sl 1 (bl l))), (2, .ptr 0 0), (3, isI .i64 0), (4, .ptr 1 0), (5, .ptr 2 0), (11, isI .i64 (n4 : Nat))], [(0, .box [.p true (.int .i64 0), .p true .nilsl, .p true .nilsl, .p true .nilsl, .p true .nilsl]), (1, .box [.p false (.sl 1 (bl s4.1)), isB s4.2]), (2, .box [.p true (.int .i64 r0.1), .p true (.sl 2 (r1.1.map fun x => elOf (pv117 x))), .p true (.sl 3 (r2.1.map fun x => elOf (pv119 x))), .p true (.sl 7 (r3.1.map fun x => elOf (pv124 x))), .rowf 3]), (3, .row 128 3 true false ((out4).map fun x => elOf (pv128 x)))], 99⟩
        simp only at e14 e24 g14 g24
        by_cases hgo4 : 0 < n4 ∧ s4.2 = false
        · obtain ⟨t4, bad4⟩ := s4
          obtain ⟨hn04, hbad4⟩ := hgo4
          simp only at hbad4
          subst hbad4
          cases n4 with
          | zero => omega
          | succ n4 =>
            conv => whnf
            rw [goL]
            conv => whnf
            have e1'4 : out4 ++ (dt128 (t4, false)).1 :: (gLp dt128 n4 (dt128 (t4, false)).2).1 = (dLs dt128 (r3.2)).1 := e14
            have e2'4 : (gLp dt128 n4 (dt128 (t4, false)).2).2 = (dLs dt128 (r3.2)).2 := e24
            have q4_0 : (dNu (t4, false)).2.1.length ≤ 1000000 := Nat.le_trans (qNu.len _) g14
            have q4_1 : (dNu (dNu (t4, false)).2).2.1.length ≤ 1000000 := Nat.le_trans (qNu.len _) q4_0
            have q4_2 : ((dLs dt130) (dNu (dNu (t4, false)).2).2).2.1.length ≤ 1000000 := Nat.le_trans ((qt130.list 72 (by decide) (by decide)).len _) q4_1
            have qE4 : dt128 (t4, false) = (((dNu (t4, false)).1, (dNu (dNu (t4, false)).2).1, ((dLs dt130) (dNu (dNu (t4, false)).2).2).1), ((dLs dt130) (dNu (dNu (t4, false)).2).2).2) := by simp only [dt128, gP]
            rw [qE4] at e1'4 e2'4
            refine ⟨(t4, false), ?_⟩
            conv => whnf
            refine And.intro (by simp only [allP, List.nil_append, List.cons_append, true_and]; and_intros <;> first | exact g14 | (show List.length _ ≤ _; exact g14) | rfl) ?_
            (set_option smartUnfolding false in conv => whnf)
            have wu4_0 := dNu_w (t4, false)
            generalize dNu (t4, false) = u4_0 at qE4 e1'4 e2'4 q4_0 q4_1 q4_2 wu4_0 ⊢
            try rw [wu4_0]
            refine dI (k := ?_)
            conv => whnf
            refine ⟨u4_0.2, ?_⟩
            conv => whnf
            refine And.intro (by simp only [allP, List.nil_append, List.cons_append, true_and]; and_intros <;> first | exact q4_0 | (show List.length _ ≤ _; exact q4_0) | rfl) ?_
            (set_option smartUnfolding false in conv => whnf)
            have wu4_1 := dNu_w u4_0.2
            generalize dNu u4_0.2 = u4_1 at qE4 e1'4 e2'4 q4_1 q4_2 wu4_1 ⊢
            try rw [wu4_1]
            refine dI (k := ?_)
            conv => whnf
            have hsl4_2 := dSz_le (u4_1.2)
            have hln4_2 : (dSz (u4_1.2)).2.1.length ≤ 1000000 := Nat.le_trans (dSz_len (u4_1.2)) q4_1
            refine ⟨u4_1.2, ?_⟩
            conv => whnf
            refine And.intro (by simp only [allP, List.nil_append, List.cons_append, true_and]; and_intros <;> first | exact q4_1 | rfl) ?_
            conv => whnf
            refine ⟨{i : Nat × List S130 × In // i.2.1 ++ (gLp dt130 i.1 i.2.2).1 = (dLs dt130 (u4_1.2)).1 ∧ (gLp dt130 i.1 i.2.2).2 = (dLs dt130 (u4_1.2)).2 ∧ i.2.2.1.length ≤ 1000000 ∧ i.2.1.length + i.1 ≤ 1000000}, fun i => ⟨[(0, .p false (.sl 1 (bl l))), (2, .ptr 0 0), (3, isI .i64 0), (4, .ptr 1 0), (5, .ptr 2 0), (11, isI .i64 (n4 + 1 : Nat)), (12, .ptr 4 0), (13, isI .i64 (i.1.1 : Nat))], [(0, .box [.p true (.int .i64 0), .p true .nilsl, .p true .nilsl, .p true .nilsl, .p true .nilsl]), (1, .box [.p false (.sl 1 (bl i.1.2.2.1)), isB i.1.2.2.2]), (2, .box [.p true (.int .i64 r0.1), .p true (.sl 2 (r1.1.map fun x => elOf (pv117 x))), .p true (.sl 3 (r2.1.map fun x => elOf (pv119 x))), .p true (.sl 7 (r3.1.map fun x => elOf (pv124 x))), .rowf 3]), (3, .row 128 3 true false ((out4).map fun x => elOf (pv128 x))), (4, .box [.p true (.int .i64 u4_0.1), .p true (.int .i64 u4_1.1), .rowf 5]), (5, .row 130 7 true false ((i.1.2.1).map fun x => elOf (pv130 x)))], 99⟩, fun i => i.1.1, ⟨⟨((dSz (u4_1.2)).1, [], (dSz (u4_1.2)).2), rfl, rfl, hln4_2, by simp only [List.length_nil]; omega⟩, ?_⟩, ?_⟩
            · conv => whnf
              and_intros <;> first | rfl | exact trivial | (simp [pvle]; done)
            rintro ⟨⟨n4_2, out4_2, s4_2⟩, e14_2, e24_2, g14_2, g24_2⟩
            show aw _ _ _ _ _ _ ⟨[(0, .p false (.sl 1 (bl l))), (2, .ptr 0 0), (3, isI .i64 0), (4, .ptr 1 0), (5, .ptr 2 0), (11, isI .i64 (n4 + 1 : Nat)), (12, .ptr 4 0), (13, isI .i64 (n4_2 : Nat))], [(0, .box [.p true (.int .i64 0), .p true .nilsl, .p true .nilsl, .p true .nilsl, .p true .nilsl]), (1, .box [.p false (.sl 1 (bl s4_2.1)), isB s4_2.2]), (2, .box [.p true (.int .i64 r0.1), .p true (.sl 2 (r1.1.map fun x => elOf (pv117 x))), .p true (.sl 3 (r2.1.map fun x => elOf (pv119 x))), .p true (.sl 7 (r3.1.map fun x => elOf (pv124 x))), .rowf 3]), (3, .row 128 3 true false ((out4).map fun x => elOf (pv128 x))), (4, .box [.p true (.int .i64 u4_0.1), .p true (.int .i64 u4_1.1), .rowf 5]), (5, .row 130 7 true false ((out4_2).map fun x => elOf (pv130 x)))], 99⟩
            simp only at e14_2 e24_2 g14_2 g24_2
            by_cases hgo4_2 : 0 < n4_2 ∧ s4_2.2 = false
            · obtain ⟨t4_2, bad4_2⟩ := s4_2
              obtain ⟨hn04_2, hbad4_2⟩ := hgo4_2
              simp only at hbad4_2
              subst hbad4_2
              cases n4_2 with
              | zero => omega
              | succ n4_2 =>
                conv => whnf
                rw [goL]
                conv => whnf
                have e1'4_2 : out4_2 ++ (dt130 (t4_2, false)).1 :: (gLp dt130 n4_2 (dt130 (t4_2, false)).2).1 = (dLs dt130 (u4_1.2)).1 := e14_2
                have e2'4_2 : (gLp dt130 n4_2 (dt130 (t4_2, false)).2).2 = (dLs dt130 (u4_1.2)).2 := e24_2
                have q4_2_0 : (dNu (t4_2, false)).2.1.length ≤ 1000000 := Nat.le_trans (qNu.len _) g14_2
                have q4_2_1 : (dt70 (dNu (t4_2, false)).2).2.1.length ≤ 1000000 := Nat.le_trans (qt70.len _) q4_2_0
                have qE4_2 : dt130 (t4_2, false) = (((dNu (t4_2, false)).1, (dt70 (dNu (t4_2, false)).2).1), (dt70 (dNu (t4_2, false)).2).2) := by simp only [dt130, gP]
                rw [qE4_2] at e1'4_2 e2'4_2
                refine ⟨(t4_2, false), ?_⟩
                conv => whnf
                refine And.intro (by simp only [allP, List.nil_append, List.cons_append, true_and]; and_intros <;> first | exact g14_2 | (show List.length _ ≤ _; exact g14_2) | rfl) ?_
                (set_option smartUnfolding false in conv => whnf)
                have wu4_2_0 := dNu_w (t4_2, false)
                generalize dNu (t4_2, false) = u4_2_0 at qE4_2 e1'4_2 e2'4_2 q4_2_0 q4_2_1 wu4_2_0 ⊢
                try rw [wu4_2_0]
                refine dI (k := ?_)
                conv => whnf
                refine ⟨u4_2_0.2, ?_⟩
                conv => whnf
                refine And.intro (by simp only [allP, List.nil_append, List.cons_append, true_and]; and_intros <;> first | exact q4_2_0 | (show List.length _ ≤ _; exact q4_2_0) | rfl) ?_
                (set_option smartUnfolding false in conv => whnf)
                generalize dt70 u4_2_0.2 = u4_2_1 at qE4_2 e1'4_2 e2'4_2 q4_2_1 ⊢
                refine dI (k := ?_)
                conv => whnf
                refine dI (k := ?_)
                (set_option smartUnfolding false in conv => whnf)
                refine And.intro (by simp only [allP, List.nil_append, List.cons_append, true_and]; rw [List.length_map]; simp only [List.length_cons, List.length_nil]; omega) ?_
                (set_option smartUnfolding false in conv => whnf)
                refine dI (k := ?_)
                conv => whnf
                refine ⟨⟨(n4_2, out4_2 ++ [(u4_2_0.1, u4_2_1.1)], u4_2_1.2), nextL e1'4_2, e2'4_2, q4_2_1, cntL g24_2⟩, Nat.lt_succ_self n4_2, ?_⟩
                conv => whnf
                rw [List.map_append, List.map_cons, List.map_nil]
                and_intros <;> first | rfl | exact trivial | (simp [pvle]; done) | exact wrL (n := n4_2) (by omega)
            obtain ⟨ho14_2, ho24_2⟩ := exitL e14_2 e24_2 hgo4_2
            rcases stopL hgo4_2 with hd4_2 | ⟨hd4_2, hbd4_2⟩
            · conv => whnf
              rw [hd4_2]
              conv => whnf
              rw [ho14_2, ho24_2]
              generalize dLs dt130 (u4_1.2) = u4_2 at qE4 e1'4 e2'4 q4_2 ⊢
              refine dI (k := ?_)
              (set_option smartUnfolding false in conv => whnf)
              refine And.intro (by simp only [allP, List.nil_append, List.cons_append, true_and]; rw [List.length_map]; simp only [List.length_cons, List.length_nil]; omega) ?_
              (set_option smartUnfolding false in conv => whnf)
              refine dI (k := ?_)
              conv => whnf
              refine ⟨⟨(n4, out4 ++ [(u4_0.1, u4_1.1, u4_2.1)], u4_2.2), nextL e1'4, e2'4, q4_2, cntL g24⟩, Nat.lt_succ_self n4, ?_⟩
              conv => whnf
              rw [List.map_append, List.map_cons, List.map_nil]
              and_intros <;> first | rfl | exact trivial | (simp [pvle]; done) | exact wrL (n := n4) (by omega)
            · obtain ⟨t4_2, bad4_2⟩ := s4_2
              simp only at hbd4_2
              subst hbd4_2
              conv => whnf
              rw [hd4_2]
              conv => whnf
              rw [ho14_2, ho24_2]
              generalize dLs dt130 (u4_1.2) = u4_2 at qE4 e1'4 e2'4 q4_2 ⊢
              refine dI (k := ?_)
              (set_option smartUnfolding false in conv => whnf)
              refine And.intro (by simp only [allP, List.nil_append, List.cons_append, true_and]; rw [List.length_map]; simp only [List.length_cons, List.length_nil]; omega) ?_
              (set_option smartUnfolding false in conv => whnf)
              refine dI (k := ?_)
              conv => whnf
              refine ⟨⟨(n4, out4 ++ [(u4_0.1, u4_1.1, u4_2.1)], u4_2.2), nextL e1'4, e2'4, q4_2, cntL g24⟩, Nat.lt_succ_self n4, ?_⟩
              conv => whnf
              rw [List.map_append, List.map_cons, List.map_nil]
              and_intros <;> first | rfl | exact trivial | (simp [pvle]; done) | exact wrL (n := n4) (by omega)
        obtain ⟨ho14, ho24⟩ := exitL e14 e24 hgo4
        rcases stopL hgo4 with hd4 | ⟨hd4, hbd4⟩
        · conv => whnf
          rw [hd4]
          conv => whnf
          rw [ho14, ho24]
          generalize dLs dt128 (r3.2) = r4 at hE hB hG h4 ⊢
          refine dI (k := ?_)
          (set_option smartUnfolding false in conv => whnf)
          refine ⟨(r0.1, r1.1, r2.1, r3.1, r4.1), ?_⟩
          conv => whnf
          refine And.intro (by simp only [allP, List.nil_append, List.cons_append, true_and]; repeat' (first | exact hB.1 | exact hB.2 | rfl | refine And.intro ?_ ?_)) ?_
          (set_option smartUnfolding false in conv => whnf)
          refine ⟨(r4.2, 4 :: en37 (r0.1, r1.1, r2.1, r3.1, r4.1), l, 60000), ?_⟩
          conv => whnf
          refine And.intro (by simp only [allP, List.nil_append, List.cons_append, true_and]; and_intros <;> first | exact trivial | rfl) ?_
          (set_option smartUnfolding false in conv => whnf)
          generalize hc : (!r4.2.2 && decide (l.length ≤ 60000) && decide (4 :: en37 (r0.1, r1.1, r2.1, r3.1, r4.1) = l)) = c at hG ⊢
          cases c
          · (set_option smartUnfolding false in conv => whnf)
            refine dI (k := ?_)
            (set_option smartUnfolding false in conv => whnf)
            refine dI (k := ?_)
            (set_option smartUnfolding false in conv => whnf)
            rw [hG]
            and_intros <;> first | rfl | exact trivial | (simp [pvle, z37, gSel]; done)
          · (set_option smartUnfolding false in conv => whnf)
            refine dI (k := ?_)
            (set_option smartUnfolding false in conv => whnf)
            refine dI (k := ?_)
            (set_option smartUnfolding false in conv => whnf)
            refine dI (k := ?_)
            (set_option smartUnfolding false in conv => whnf)
            rw [hG]
            and_intros <;> first | rfl | exact trivial | (simp [pvle]; done)
        · obtain ⟨t4, bad4⟩ := s4
          simp only at hbd4
          subst hbd4
          conv => whnf
          rw [hd4]
          conv => whnf
          rw [ho14, ho24]
          generalize dLs dt128 (r3.2) = r4 at hE hB hG h4 ⊢
          refine dI (k := ?_)
          (set_option smartUnfolding false in conv => whnf)
          refine ⟨(r0.1, r1.1, r2.1, r3.1, r4.1), ?_⟩
          conv => whnf
          refine And.intro (by simp only [allP, List.nil_append, List.cons_append, true_and]; repeat' (first | exact hB.1 | exact hB.2 | rfl | refine And.intro ?_ ?_)) ?_
          (set_option smartUnfolding false in conv => whnf)
          refine ⟨(r4.2, 4 :: en37 (r0.1, r1.1, r2.1, r3.1, r4.1), l, 60000), ?_⟩
          conv => whnf
          refine And.intro (by simp only [allP, List.nil_append, List.cons_append, true_and]; and_intros <;> first | exact trivial | rfl) ?_
          (set_option smartUnfolding false in conv => whnf)
          generalize hc : (!r4.2.2 && decide (l.length ≤ 60000) && decide (4 :: en37 (r0.1, r1.1, r2.1, r3.1, r4.1) = l)) = c at hG ⊢
          cases c
          · (set_option smartUnfolding false in conv => whnf)
            refine dI (k := ?_)
            (set_option smartUnfolding false in conv => whnf)
            refine dI (k := ?_)
            (set_option smartUnfolding false in conv => whnf)
            rw [hG]
            and_intros <;> first | rfl | exact trivial | (simp [pvle, z37, gSel]; done)
          · (set_option smartUnfolding false in conv => whnf)
            refine dI (k := ?_)
            (set_option smartUnfolding false in conv => whnf)
            refine dI (k := ?_)
            (set_option smartUnfolding false in conv => whnf)
            refine dI (k := ?_)
            (set_option smartUnfolding false in conv => whnf)
            rw [hG]
            and_intros <;> first | rfl | exact trivial | (simp [pvle]; done)
      · obtain ⟨t3, bad3⟩ := s3
        simp only at hbd3
        subst hbd3
        conv => whnf
        rw [hd3]
        conv => whnf
        rw [ho13, ho23]
        generalize dLs dt124 (r2.2) = r3 at hE hB hG h3 h4 ⊢
        have hsl4 := dSz_le (r3.2)
        have hln4 : (dSz (r3.2)).2.1.length ≤ 1000000 := Nat.le_trans (dSz_len (r3.2)) h3
        refine ⟨r3.2, ?_⟩
        conv => whnf
        refine And.intro (by simp only [allP, List.nil_append, List.cons_append, true_and]; and_intros <;> first | exact h3 | rfl) ?_
        conv => whnf
        refine ⟨{i : Nat × List S128 × In // i.2.1 ++ (gLp dt128 i.1 i.2.2).1 = (dLs dt128 (r3.2)).1 ∧ (gLp dt128 i.1 i.2.2).2 = (dLs dt128 (r3.2)).2 ∧ i.2.2.1.length ≤ 1000000 ∧ i.2.1.length + i.1 ≤ 1000000}, fun i => ⟨[(0, .p false (.sl 1 (bl l))), (2, .ptr 0 0), (3, isI .i64 0), (4, .ptr 1 0), (5, .ptr 2 0), (11, isI .i64 (i.1.1 : Nat))], [(0, .box [.p true (.int .i64 0), .p true .nilsl, .p true .nilsl, .p true .nilsl, .p true .nilsl]), (1, .box [.p false (.sl 1 (bl i.1.2.2.1)), isB i.1.2.2.2]), (2, .box [.p true (.int .i64 r0.1), .p true (.sl 2 (r1.1.map fun x => elOf (pv117 x))), .p true (.sl 3 (r2.1.map fun x => elOf (pv119 x))), .p true (.sl 7 (r3.1.map fun x => elOf (pv124 x))), .rowf 3]), (3, .row 128 3 true false ((i.1.2.1).map fun x => elOf (pv128 x)))], 99⟩, fun i => i.1.1, ⟨⟨((dSz (r3.2)).1, [], (dSz (r3.2)).2), rfl, rfl, hln4, by simp only [List.length_nil]; omega⟩, ?_⟩, ?_⟩
        · conv => whnf
          and_intros <;> first | rfl | exact trivial | (simp [pvle]; done)
        rintro ⟨⟨n4, out4, s4⟩, e14, e24, g14, g24⟩
        show aw _ _ _ _ _ _ ⟨[(0, .p false (.sl 1 (bl l))), (2, .ptr 0 0), (3, isI .i64 0), (4, .ptr 1 0), (5, .ptr 2 0), (11, isI .i64 (n4 : Nat))], [(0, .box [.p true (.int .i64 0), .p true .nilsl, .p true .nilsl, .p true .nilsl, .p true .nilsl]), (1, .box [.p false (.sl 1 (bl s4.1)), isB s4.2]), (2, .box [.p true (.int .i64 r0.1), .p true (.sl 2 (r1.1.map fun x => elOf (pv117 x))), .p true (.sl 3 (r2.1.map fun x => elOf (pv119 x))), .p true (.sl 7 (r3.1.map fun x => elOf (pv124 x))), .rowf 3]), (3, .row 128 3 true false ((out4).map fun x => elOf (pv128 x)))], 99⟩
        simp only at e14 e24 g14 g24
        by_cases hgo4 : 0 < n4 ∧ s4.2 = false
        · obtain ⟨t4, bad4⟩ := s4
          obtain ⟨hn04, hbad4⟩ := hgo4
          simp only at hbad4
          subst hbad4
          cases n4 with
          | zero => omega
          | succ n4 =>
            conv => whnf
            rw [goL]
            conv => whnf
            have e1'4 : out4 ++ (dt128 (t4, false)).1 :: (gLp dt128 n4 (dt128 (t4, false)).2).1 = (dLs dt128 (r3.2)).1 := e14
            have e2'4 : (gLp dt128 n4 (dt128 (t4, false)).2).2 = (dLs dt128 (r3.2)).2 := e24
            have q4_0 : (dNu (t4, false)).2.1.length ≤ 1000000 := Nat.le_trans (qNu.len _) g14
            have q4_1 : (dNu (dNu (t4, false)).2).2.1.length ≤ 1000000 := Nat.le_trans (qNu.len _) q4_0
            have q4_2 : ((dLs dt130) (dNu (dNu (t4, false)).2).2).2.1.length ≤ 1000000 := Nat.le_trans ((qt130.list 72 (by decide) (by decide)).len _) q4_1
            have qE4 : dt128 (t4, false) = (((dNu (t4, false)).1, (dNu (dNu (t4, false)).2).1, ((dLs dt130) (dNu (dNu (t4, false)).2).2).1), ((dLs dt130) (dNu (dNu (t4, false)).2).2).2) := by simp only [dt128, gP]
            rw [qE4] at e1'4 e2'4
            refine ⟨(t4, false), ?_⟩
            conv => whnf
            refine And.intro (by simp only [allP, List.nil_append, List.cons_append, true_and]; and_intros <;> first | exact g14 | (show List.length _ ≤ _; exact g14) | rfl) ?_
            (set_option smartUnfolding false in conv => whnf)
            have wu4_0 := dNu_w (t4, false)
            generalize dNu (t4, false) = u4_0 at qE4 e1'4 e2'4 q4_0 q4_1 q4_2 wu4_0 ⊢
            try rw [wu4_0]
            refine dI (k := ?_)
            conv => whnf
            refine ⟨u4_0.2, ?_⟩
            conv => whnf
            refine And.intro (by simp only [allP, List.nil_append, List.cons_append, true_and]; and_intros <;> first | exact q4_0 | (show List.length _ ≤ _; exact q4_0) | rfl) ?_
            (set_option smartUnfolding false in conv => whnf)
            have wu4_1 := dNu_w u4_0.2
            generalize dNu u4_0.2 = u4_1 at qE4 e1'4 e2'4 q4_1 q4_2 wu4_1 ⊢
            try rw [wu4_1]
            refine dI (k := ?_)
            conv => whnf
            have hsl4_2 := dSz_le (u4_1.2)
            have hln4_2 : (dSz (u4_1.2)).2.1.length ≤ 1000000 := Nat.le_trans (dSz_len (u4_1.2)) q4_1
            refine ⟨u4_1.2, ?_⟩
            conv => whnf
            refine And.intro (by simp only [allP, List.nil_append, List.cons_append, true_and]; and_intros <;> first | exact q4_1 | rfl) ?_
            conv => whnf
            refine ⟨{i : Nat × List S130 × In // i.2.1 ++ (gLp dt130 i.1 i.2.2).1 = (dLs dt130 (u4_1.2)).1 ∧ (gLp dt130 i.1 i.2.2).2 = (dLs dt130 (u4_1.2)).2 ∧ i.2.2.1.length ≤ 1000000 ∧ i.2.1.length + i.1 ≤ 1000000}, fun i => ⟨[(0, .p false (.sl 1 (bl l))), (2, .ptr 0 0), (3, isI .i64 0), (4, .ptr 1 0), (5, .ptr 2 0), (11, isI .i64 (n4 + 1 : Nat)), (12, .ptr 4 0), (13, isI .i64 (i.1.1 : Nat))], [(0, .box [.p true (.int .i64 0), .p true .nilsl, .p true .nilsl, .p true .nilsl, .p true .nilsl]), (1, .box [.p false (.sl 1 (bl i.1.2.2.1)), isB i.1.2.2.2]), (2, .box [.p true (.int .i64 r0.1), .p true (.sl 2 (r1.1.map fun x => elOf (pv117 x))), .p true (.sl 3 (r2.1.map fun x => elOf (pv119 x))), .p true (.sl 7 (r3.1.map fun x => elOf (pv124 x))), .rowf 3]), (3, .row 128 3 true false ((out4).map fun x => elOf (pv128 x))), (4, .box [.p true (.int .i64 u4_0.1), .p true (.int .i64 u4_1.1), .rowf 5]), (5, .row 130 7 true false ((i.1.2.1).map fun x => elOf (pv130 x)))], 99⟩, fun i => i.1.1, ⟨⟨((dSz (u4_1.2)).1, [], (dSz (u4_1.2)).2), rfl, rfl, hln4_2, by simp only [List.length_nil]; omega⟩, ?_⟩, ?_⟩
            · conv => whnf
              and_intros <;> first | rfl | exact trivial | (simp [pvle]; done)
            rintro ⟨⟨n4_2, out4_2, s4_2⟩, e14_2, e24_2, g14_2, g24_2⟩
            show aw _ _ _ _ _ _ ⟨[(0, .p false (.sl 1 (bl l))), (2, .ptr 0 0), (3, isI .i64 0), (4, .ptr 1 0), (5, .ptr 2 0), (11, isI .i64 (n4 + 1 : Nat)), (12, .ptr 4 0), (13, isI .i64 (n4_2 : Nat))], [(0, .box [.p true (.int .i64 0), .p true .nilsl, .p true .nilsl, .p true .nilsl, .p true .nilsl]), (1, .box [.p false (.sl 1 (bl s4_2.1)), isB s4_2.2]), (2, .box [.p true (.int .i64 r0.1), .p true (.sl 2 (r1.1.map fun x => elOf (pv117 x))), .p true (.sl 3 (r2.1.map fun x => elOf (pv119 x))), .p true (.sl 7 (r3.1.map fun x => elOf (pv124 x))), .rowf 3]), (3, .row 128 3 true false ((out4).map fun x => elOf (pv128 x))), (4, .box [.p true (.int .i64 u4_0.1), .p true (.int .i64 u4_1.1), .rowf 5]), (5, .row 130 7 true false ((out4_2).map fun x => elOf (pv130 x)))], 99⟩
            simp only at e14_2 e24_2 g14_2 g24_2
            by_cases hgo4_2 : 0 < n4_2 ∧ s4_2.2 = false
            · obtain ⟨t4_2, bad4_2⟩ := s4_2
              obtain ⟨hn04_2, hbad4_2⟩ := hgo4_2
              simp only at hbad4_2
              subst hbad4_2
              cases n4_2 with
              | zero => omega
              | succ n4_2 =>
                conv => whnf
                rw [goL]
                conv => whnf
                have e1'4_2 : out4_2 ++ (dt130 (t4_2, false)).1 :: (gLp dt130 n4_2 (dt130 (t4_2, false)).2).1 = (dLs dt130 (u4_1.2)).1 := e14_2
                have e2'4_2 : (gLp dt130 n4_2 (dt130 (t4_2, false)).2).2 = (dLs dt130 (u4_1.2)).2 := e24_2
                have q4_2_0 : (dNu (t4_2, false)).2.1.length ≤ 1000000 := Nat.le_trans (qNu.len _) g14_2
                have q4_2_1 : (dt70 (dNu (t4_2, false)).2).2.1.length ≤ 1000000 := Nat.le_trans (qt70.len _) q4_2_0
                have qE4_2 : dt130 (t4_2, false) = (((dNu (t4_2, false)).1, (dt70 (dNu (t4_2, false)).2).1), (dt70 (dNu (t4_2, false)).2).2) := by simp only [dt130, gP]
                rw [qE4_2] at e1'4_2 e2'4_2
                refine ⟨(t4_2, false), ?_⟩
                conv => whnf
                refine And.intro (by simp only [allP, List.nil_append, List.cons_append, true_and]; and_intros <;> first | exact g14_2 | (show List.length _ ≤ _; exact g14_2) | rfl) ?_
                (set_option smartUnfolding false in conv => whnf)
                have wu4_2_0 := dNu_w (t4_2, false)
                generalize dNu (t4_2, false) = u4_2_0 at qE4_2 e1'4_2 e2'4_2 q4_2_0 q4_2_1 wu4_2_0 ⊢
                try rw [wu4_2_0]
                refine dI (k := ?_)
                conv => whnf
                refine ⟨u4_2_0.2, ?_⟩
                conv => whnf
                refine And.intro (by simp only [allP, List.nil_append, List.cons_append, true_and]; and_intros <;> first | exact q4_2_0 | (show List.length _ ≤ _; exact q4_2_0) | rfl) ?_
                (set_option smartUnfolding false in conv => whnf)
                generalize dt70 u4_2_0.2 = u4_2_1 at qE4_2 e1'4_2 e2'4_2 q4_2_1 ⊢
                refine dI (k := ?_)
                conv => whnf
                refine dI (k := ?_)
                (set_option smartUnfolding false in conv => whnf)
                refine And.intro (by simp only [allP, List.nil_append, List.cons_append, true_and]; rw [List.length_map]; simp only [List.length_cons, List.length_nil]; omega) ?_
                (set_option smartUnfolding false in conv => whnf)
                refine dI (k := ?_)
                conv => whnf
                refine ⟨⟨(n4_2, out4_2 ++ [(u4_2_0.1, u4_2_1.1)], u4_2_1.2), nextL e1'4_2, e2'4_2, q4_2_1, cntL g24_2⟩, Nat.lt_succ_self n4_2, ?_⟩
                conv => whnf
                rw [List.map_append, List.map_cons, List.map_nil]
                and_intros <;> first | rfl | exact trivial | (simp [pvle]; done) | exact wrL (n := n4_2) (by omega)
            obtain ⟨ho14_2, ho24_2⟩ := exitL e14_2 e24_2 hgo4_2
            rcases stopL hgo4_2 with hd4_2 | ⟨hd4_2, hbd4_2⟩
            · conv => whnf
              rw [hd4_2]
              conv => whnf
              rw [ho14_2, ho24_2]
              generalize dLs dt130 (u4_1.2) = u4_2 at qE4 e1'4 e2'4 q4_2 ⊢
              refine dI (k := ?_)
              (set_option smartUnfolding false in conv => whnf)
              refine And.intro (by simp only [allP, List.nil_append, List.cons_append, true_and]; rw [List.length_map]; simp only [List.length_cons, List.length_nil]; omega) ?_
              (set_option smartUnfolding false in conv => whnf)
              refine dI (k := ?_)
              conv => whnf
              refine ⟨⟨(n4, out4 ++ [(u4_0.1, u4_1.1, u4_2.1)], u4_2.2), nextL e1'4, e2'4, q4_2, cntL g24⟩, Nat.lt_succ_self n4, ?_⟩
              conv => whnf
              rw [List.map_append, List.map_cons, List.map_nil]
              and_intros <;> first | rfl | exact trivial | (simp [pvle]; done) | exact wrL (n := n4) (by omega)
            · obtain ⟨t4_2, bad4_2⟩ := s4_2
              simp only at hbd4_2
              subst hbd4_2
              conv => whnf
              rw [hd4_2]
              conv => whnf
              rw [ho14_2, ho24_2]
              generalize dLs dt130 (u4_1.2) = u4_2 at qE4 e1'4 e2'4 q4_2 ⊢
              refine dI (k := ?_)
              (set_option smartUnfolding false in conv => whnf)
              refine And.intro (by simp only [allP, List.nil_append, List.cons_append, true_and]; rw [List.length_map]; simp only [List.length_cons, List.length_nil]; omega) ?_
              (set_option smartUnfolding false in conv => whnf)
              refine dI (k := ?_)
              conv => whnf
              refine ⟨⟨(n4, out4 ++ [(u4_0.1, u4_1.1, u4_2.1)], u4_2.2), nextL e1'4, e2'4, q4_2, cntL g24⟩, Nat.lt_succ_self n4, ?_⟩
              conv => whnf
              rw [List.map_append, List.map_cons, List.map_nil]
              and_intros <;> first | rfl | exact trivial | (simp [pvle]; done) | exact wrL (n := n4) (by omega)
        obtain ⟨ho14, ho24⟩ := exitL e14 e24 hgo4
        rcases stopL hgo4 with hd4 | ⟨hd4, hbd4⟩
        · conv => whnf
          rw [hd4]
          conv => whnf
          rw [ho14, ho24]
          generalize dLs dt128 (r3.2) = r4 at hE hB hG h4 ⊢
          refine dI (k := ?_)
          (set_option smartUnfolding false in conv => whnf)
          refine ⟨(r0.1, r1.1, r2.1, r3.1, r4.1), ?_⟩
          conv => whnf
          refine And.intro (by simp only [allP, List.nil_append, List.cons_append, true_and]; repeat' (first | exact hB.1 | exact hB.2 | rfl | refine And.intro ?_ ?_)) ?_
          (set_option smartUnfolding false in conv => whnf)
          refine ⟨(r4.2, 4 :: en37 (r0.1, r1.1, r2.1, r3.1, r4.1), l, 60000), ?_⟩
          conv => whnf
          refine And.intro (by simp only [allP, List.nil_append, List.cons_append, true_and]; and_intros <;> first | exact trivial | rfl) ?_
          (set_option smartUnfolding false in conv => whnf)
          generalize hc : (!r4.2.2 && decide (l.length ≤ 60000) && decide (4 :: en37 (r0.1, r1.1, r2.1, r3.1, r4.1) = l)) = c at hG ⊢
          cases c
          · (set_option smartUnfolding false in conv => whnf)
            refine dI (k := ?_)
            (set_option smartUnfolding false in conv => whnf)
            refine dI (k := ?_)
            (set_option smartUnfolding false in conv => whnf)
            rw [hG]
            and_intros <;> first | rfl | exact trivial | (simp [pvle, z37, gSel]; done)
          · (set_option smartUnfolding false in conv => whnf)
            refine dI (k := ?_)
            (set_option smartUnfolding false in conv => whnf)
            refine dI (k := ?_)
            (set_option smartUnfolding false in conv => whnf)
            refine dI (k := ?_)
            (set_option smartUnfolding false in conv => whnf)
            rw [hG]
            and_intros <;> first | rfl | exact trivial | (simp [pvle]; done)
        · obtain ⟨t4, bad4⟩ := s4
          simp only at hbd4
          subst hbd4
          conv => whnf
          rw [hd4]
          conv => whnf
          rw [ho14, ho24]
          generalize dLs dt128 (r3.2) = r4 at hE hB hG h4 ⊢
          refine dI (k := ?_)
          (set_option smartUnfolding false in conv => whnf)
          refine ⟨(r0.1, r1.1, r2.1, r3.1, r4.1), ?_⟩
          conv => whnf
          refine And.intro (by simp only [allP, List.nil_append, List.cons_append, true_and]; repeat' (first | exact hB.1 | exact hB.2 | rfl | refine And.intro ?_ ?_)) ?_
          (set_option smartUnfolding false in conv => whnf)
          refine ⟨(r4.2, 4 :: en37 (r0.1, r1.1, r2.1, r3.1, r4.1), l, 60000), ?_⟩
          conv => whnf
          refine And.intro (by simp only [allP, List.nil_append, List.cons_append, true_and]; and_intros <;> first | exact trivial | rfl) ?_
          (set_option smartUnfolding false in conv => whnf)
          generalize hc : (!r4.2.2 && decide (l.length ≤ 60000) && decide (4 :: en37 (r0.1, r1.1, r2.1, r3.1, r4.1) = l)) = c at hG ⊢
          cases c
          · (set_option smartUnfolding false in conv => whnf)
            refine dI (k := ?_)
            (set_option smartUnfolding false in conv => whnf)
            refine dI (k := ?_)
            (set_option smartUnfolding false in conv => whnf)
            rw [hG]
            and_intros <;> first | rfl | exact trivial | (simp [pvle, z37, gSel]; done)
          · (set_option smartUnfolding false in conv => whnf)
            refine dI (k := ?_)
            (set_option smartUnfolding false in conv => whnf)
            refine dI (k := ?_)
            (set_option smartUnfolding false in conv => whnf)
            refine dI (k := ?_)
            (set_option smartUnfolding false in conv => whnf)
            rw [hG]
            and_intros <;> first | rfl | exact trivial | (simp [pvle]; done)
  · obtain ⟨t1, bad1⟩ := s1
    simp only at hbd1
    subst hbd1
    conv => whnf
    rw [hd1]
    conv => whnf
    rw [ho11, ho21]
    generalize dLs dt117 (r0.2) = r1 at hE hB hG h1 h2 h3 h4 ⊢
    have hsl2 := dSz_le (r1.2)
    have hln2 : (dSz (r1.2)).2.1.length ≤ 1000000 := Nat.le_trans (dSz_len (r1.2)) h1
    refine ⟨r1.2, ?_⟩
    conv => whnf
    refine And.intro (by simp only [allP, List.nil_append, List.cons_append, true_and]; and_intros <;> first | exact h1 | rfl) ?_
    conv => whnf
    refine ⟨{i : Nat × List S119 × In // i.2.1 ++ (gLp dt119 i.1 i.2.2).1 = (dLs dt119 (r1.2)).1 ∧ (gLp dt119 i.1 i.2.2).2 = (dLs dt119 (r1.2)).2 ∧ i.2.2.1.length ≤ 1000000 ∧ i.2.1.length + i.1 ≤ 1000000}, fun i => ⟨[(0, .p false (.sl 1 (bl l))), (2, .ptr 0 0), (3, isI .i64 0), (4, .ptr 1 0), (5, .ptr 2 0), (8, isI .i64 (i.1.1 : Nat))], [(0, .box [.p true (.int .i64 0), .p true .nilsl, .p true .nilsl, .p true .nilsl, .p true .nilsl]), (1, .box [.p false (.sl 1 (bl i.1.2.2.1)), isB i.1.2.2.2]), (2, .box [.p true (.int .i64 r0.1), .p true (.sl 2 (r1.1.map fun x => elOf (pv117 x))), .rowf 3, .p true .nilsl, .p true .nilsl]), (3, .row 119 3 true false ((i.1.2.1).map fun x => elOf (pv119 x)))], 99⟩, fun i => i.1.1, ⟨⟨((dSz (r1.2)).1, [], (dSz (r1.2)).2), rfl, rfl, hln2, by simp only [List.length_nil]; omega⟩, ?_⟩, ?_⟩
    · conv => whnf
      and_intros <;> first | rfl | exact trivial | (simp [pvle]; done)
    rintro ⟨⟨n2, out2, s2⟩, e12, e22, g12, g22⟩
    show aw _ _ _ _ _ _ ⟨[(0, .p false (.sl 1 (bl l))), (2, .ptr 0 0), (3, isI .i64 0), (4, .ptr 1 0), (5, .ptr 2 0), (8, isI .i64 (n2 : Nat))], [(0, .box [.p true (.int .i64 0), .p true .nilsl, .p true .nilsl, .p true .nilsl, .p true .nilsl]), (1, .box [.p false (.sl 1 (bl s2.1)), isB s2.2]), (2, .box [.p true (.int .i64 r0.1), .p true (.sl 2 (r1.1.map fun x => elOf (pv117 x))), .rowf 3, .p true .nilsl, .p true .nilsl]), (3, .row 119 3 true false ((out2).map fun x => elOf (pv119 x)))], 99⟩
    simp only at e12 e22 g12 g22
    by_cases hgo2 : 0 < n2 ∧ s2.2 = false
    · obtain ⟨t2, bad2⟩ := s2
      obtain ⟨hn02, hbad2⟩ := hgo2
      simp only at hbad2
      subst hbad2
      cases n2 with
      | zero => omega
      | succ n2 =>
        conv => whnf
        rw [goL]
        conv => whnf
        have e1'2 : out2 ++ (dt119 (t2, false)).1 :: (gLp dt119 n2 (dt119 (t2, false)).2).1 = (dLs dt119 (r1.2)).1 := e12
        have e2'2 : (gLp dt119 n2 (dt119 (t2, false)).2).2 = (dLs dt119 (r1.2)).2 := e22
        have q2_0 : (dTx (t2, false)).2.1.length ≤ 1000000 := Nat.le_trans (qTx.len _) g12
        have q2_1 : (dNu (dTx (t2, false)).2).2.1.length ≤ 1000000 := Nat.le_trans (qNu.len _) q2_0
        have q2_2 : (dNu (dNu (dTx (t2, false)).2).2).2.1.length ≤ 1000000 := Nat.le_trans (qNu.len _) q2_1
        have qE2 : dt119 (t2, false) = (((dTx (t2, false)).1, (dNu (dTx (t2, false)).2).1, (dNu (dNu (dTx (t2, false)).2).2).1), (dNu (dNu (dTx (t2, false)).2).2).2) := by simp only [dt119, gP]
        rw [qE2] at e1'2 e2'2
        refine ⟨(t2, false), ?_⟩
        conv => whnf
        refine And.intro (by simp only [allP, List.nil_append, List.cons_append, true_and]; and_intros <;> first | exact g12 | (show List.length _ ≤ _; exact g12) | rfl) ?_
        (set_option smartUnfolding false in conv => whnf)
        generalize dTx (t2, false) = u2_0 at qE2 e1'2 e2'2 q2_0 q2_1 q2_2 ⊢
        refine dI (k := ?_)
        conv => whnf
        refine ⟨u2_0.2, ?_⟩
        conv => whnf
        refine And.intro (by simp only [allP, List.nil_append, List.cons_append, true_and]; and_intros <;> first | exact q2_0 | (show List.length _ ≤ _; exact q2_0) | rfl) ?_
        (set_option smartUnfolding false in conv => whnf)
        have wu2_1 := dNu_w u2_0.2
        generalize dNu u2_0.2 = u2_1 at qE2 e1'2 e2'2 q2_1 q2_2 wu2_1 ⊢
        try rw [wu2_1]
        refine dI (k := ?_)
        conv => whnf
        refine ⟨u2_1.2, ?_⟩
        conv => whnf
        refine And.intro (by simp only [allP, List.nil_append, List.cons_append, true_and]; and_intros <;> first | exact q2_1 | (show List.length _ ≤ _; exact q2_1) | rfl) ?_
        (set_option smartUnfolding false in conv => whnf)
        have wu2_2 := dNu_w u2_1.2
        generalize dNu u2_1.2 = u2_2 at qE2 e1'2 e2'2 q2_2 wu2_2 ⊢
        try rw [wu2_2]
        refine dI (k := ?_)
        conv => whnf
        refine dI (k := ?_)
        (set_option smartUnfolding false in conv => whnf)
        refine And.intro (by simp only [allP, List.nil_append, List.cons_append, true_and]; rw [List.length_map]; simp only [List.length_cons, List.length_nil]; omega) ?_
        (set_option smartUnfolding false in conv => whnf)
        refine dI (k := ?_)
        conv => whnf
        refine ⟨⟨(n2, out2 ++ [(u2_0.1, u2_1.1, u2_2.1)], u2_2.2), nextL e1'2, e2'2, q2_2, cntL g22⟩, Nat.lt_succ_self n2, ?_⟩
        conv => whnf
        rw [List.map_append, List.map_cons, List.map_nil]
        and_intros <;> first | rfl | exact trivial | (simp [pvle]; done) | exact wrL (n := n2) (by omega)
    obtain ⟨ho12, ho22⟩ := exitL e12 e22 hgo2
    rcases stopL hgo2 with hd2 | ⟨hd2, hbd2⟩
    · conv => whnf
      rw [hd2]
      conv => whnf
      rw [ho12, ho22]
      generalize dLs dt119 (r1.2) = r2 at hE hB hG h2 h3 h4 ⊢
      have hsl3 := dSz_le (r2.2)
      have hln3 : (dSz (r2.2)).2.1.length ≤ 1000000 := Nat.le_trans (dSz_len (r2.2)) h2
      refine ⟨r2.2, ?_⟩
      conv => whnf
      refine And.intro (by simp only [allP, List.nil_append, List.cons_append, true_and]; and_intros <;> first | exact h2 | rfl) ?_
      conv => whnf
      refine ⟨{i : Nat × List S124 × In // i.2.1 ++ (gLp dt124 i.1 i.2.2).1 = (dLs dt124 (r2.2)).1 ∧ (gLp dt124 i.1 i.2.2).2 = (dLs dt124 (r2.2)).2 ∧ i.2.2.1.length ≤ 1000000 ∧ i.2.1.length + i.1 ≤ 1000000}, fun i => ⟨[(0, .p false (.sl 1 (bl l))), (2, .ptr 0 0), (3, isI .i64 0), (4, .ptr 1 0), (5, .ptr 2 0), (10, isI .i64 (i.1.1 : Nat))], [(0, .box [.p true (.int .i64 0), .p true .nilsl, .p true .nilsl, .p true .nilsl, .p true .nilsl]), (1, .box [.p false (.sl 1 (bl i.1.2.2.1)), isB i.1.2.2.2]), (2, .box [.p true (.int .i64 r0.1), .p true (.sl 2 (r1.1.map fun x => elOf (pv117 x))), .p true (.sl 3 (r2.1.map fun x => elOf (pv119 x))), .rowf 3, .p true .nilsl]), (3, .row 124 7 true false ((i.1.2.1).map fun x => elOf (pv124 x)))], 99⟩, fun i => i.1.1, ⟨⟨((dSz (r2.2)).1, [], (dSz (r2.2)).2), rfl, rfl, hln3, by simp only [List.length_nil]; omega⟩, ?_⟩, ?_⟩
      · conv => whnf
        and_intros <;> first | rfl | exact trivial | (simp [pvle]; done)
      rintro ⟨⟨n3, out3, s3⟩, e13, e23, g13, g23⟩
      show aw _ _ _ _ _ _ ⟨[(0, .p false (.sl 1 (bl l))), (2, .ptr 0 0), (3, isI .i64 0), (4, .ptr 1 0), (5, .ptr 2 0), (10, isI .i64 (n3 : Nat))], [(0, .box [.p true (.int .i64 0), .p true .nilsl, .p true .nilsl, .p true .nilsl, .p true .nilsl]), (1, .box [.p false (.sl 1 (bl s3.1)), isB s3.2]), (2, .box [.p true (.int .i64 r0.1), .p true (.sl 2 (r1.1.map fun x => elOf (pv117 x))), .p true (.sl 3 (r2.1.map fun x => elOf (pv119 x))), .rowf 3, .p true .nilsl]), (3, .row 124 7 true false ((out3).map fun x => elOf (pv124 x)))], 99⟩
      simp only at e13 e23 g13 g23
      by_cases hgo3 : 0 < n3 ∧ s3.2 = false
      · obtain ⟨t3, bad3⟩ := s3
        obtain ⟨hn03, hbad3⟩ := hgo3
        simp only at hbad3
        subst hbad3
        cases n3 with
        | zero => omega
        | succ n3 =>
          conv => whnf
          rw [goL]
          conv => whnf
          have e1'3 : out3 ++ (dt124 (t3, false)).1 :: (gLp dt124 n3 (dt124 (t3, false)).2).1 = (dLs dt124 (r2.2)).1 := e13
          have e2'3 : (gLp dt124 n3 (dt124 (t3, false)).2).2 = (dLs dt124 (r2.2)).2 := e23
          have q3 : (dt124 (t3, false)).2.1.length ≤ 1000000 := Nat.le_trans (qt124.len _) g13
          refine ⟨(t3, false), ?_⟩
          conv => whnf
          refine And.intro (by simp only [allP, List.nil_append, List.cons_append, true_and]; and_intros <;> first | exact g13 | (show t3.length ≤ _; exact g13) | rfl) ?_
          (set_option smartUnfolding false in conv => whnf)
          generalize dt124 (t3, false) = u3 at e1'3 e2'3 q3 ⊢
          refine And.intro (by simp only [allP, List.nil_append, List.cons_append, true_and]; rw [List.length_map]; simp only [List.length_cons, List.length_nil]; omega) ?_
          (set_option smartUnfolding false in conv => whnf)
          refine dI (k := ?_)
          (set_option smartUnfolding false in conv => whnf)
          refine ⟨by rfl, ?_⟩
          (set_option smartUnfolding false in conv => whnf)
          refine ⟨⟨(n3, out3 ++ [u3.1], u3.2), nextL e1'3, e2'3, q3, cntL g23⟩, Nat.lt_succ_self n3, ?_⟩
          conv => whnf
          rw [List.map_append, List.map_cons, List.map_nil]
          and_intros <;> first | rfl | exact trivial | (simp [pvle]; done) | exact wrL (n := n3) (by omega)
      obtain ⟨ho13, ho23⟩ := exitL e13 e23 hgo3
      rcases stopL hgo3 with hd3 | ⟨hd3, hbd3⟩
      · conv => whnf
        rw [hd3]
        conv => whnf
        rw [ho13, ho23]
        generalize dLs dt124 (r2.2) = r3 at hE hB hG h3 h4 ⊢
        have hsl4 := dSz_le (r3.2)
        have hln4 : (dSz (r3.2)).2.1.length ≤ 1000000 := Nat.le_trans (dSz_len (r3.2)) h3
        refine ⟨r3.2, ?_⟩
        conv => whnf
        refine And.intro (by simp only [allP, List.nil_append, List.cons_append, true_and]; and_intros <;> first | exact h3 | rfl) ?_
        conv => whnf
        refine ⟨{i : Nat × List S128 × In // i.2.1 ++ (gLp dt128 i.1 i.2.2).1 = (dLs dt128 (r3.2)).1 ∧ (gLp dt128 i.1 i.2.2).2 = (dLs dt128 (r3.2)).2 ∧ i.2.2.1.length ≤ 1000000 ∧ i.2.1.length + i.1 ≤ 1000000}, fun i => ⟨[(0, .p false (.sl 1 (bl l))), (2, .ptr 0 0), (3, isI .i64 0), (4, .ptr 1 0), (5, .ptr 2 0), (11, isI .i64 (i.1.1 : Nat))], [(0, .box [.p true (.int .i64 0), .p true .nilsl, .p true .nilsl, .p true .nilsl, .p true .nilsl]), (1, .box [.p false (.sl 1 (bl i.1.2.2.1)), isB i.1.2.2.2]), (2, .box [.p true (.int .i64 r0.1), .p true (.sl 2 (r1.1.map fun x => elOf (pv117 x))), .p true (.sl 3 (r2.1.map fun x => elOf (pv119 x))), .p true (.sl 7 (r3.1.map fun x => elOf (pv124 x))), .rowf 3]), (3, .row 128 3 true false ((i.1.2.1).map fun x => elOf (pv128 x)))], 99⟩, fun i => i.1.1, ⟨⟨((dSz (r3.2)).1, [], (dSz (r3.2)).2), rfl, rfl, hln4, by simp only [List.length_nil]; omega⟩, ?_⟩, ?_⟩
        · conv => whnf
          and_intros <;> first | rfl | exact trivial | (simp [pvle]; done)
        rintro ⟨⟨n4, out4, s4⟩, e14, e24, g14, g24⟩
        show aw _ _ _ _ _ _ ⟨[(0, .p false (.sl 1 (bl l))), (2, .ptr 0 0), (3, isI .i64 0), (4, .ptr 1 0), (5, .ptr 2 0), (11, isI .i64 (n4 : Nat))], [(0, .box [.p true (.int .i64 0), .p true .nilsl, .p true .nilsl, .p true .nilsl, .p true .nilsl]), (1, .box [.p false (.sl 1 (bl s4.1)), isB s4.2]), (2, .box [.p true (.int .i64 r0.1), .p true (.sl 2 (r1.1.map fun x => elOf (pv117 x))), .p true (.sl 3 (r2.1.map fun x => elOf (pv119 x))), .p true (.sl 7 (r3.1.map fun x => elOf (pv124 x))), .rowf 3]), (3, .row 128 3 true false ((out4).map fun x => elOf (pv128 x)))], 99⟩
        simp only at e14 e24 g14 g24
        by_cases hgo4 : 0 < n4 ∧ s4.2 = false
        · obtain ⟨t4, bad4⟩ := s4
          obtain ⟨hn04, hbad4⟩ := hgo4
          simp only at hbad4
          subst hbad4
          cases n4 with
          | zero => omega
          | succ n4 =>
            conv => whnf
            rw [goL]
            conv => whnf
            have e1'4 : out4 ++ (dt128 (t4, false)).1 :: (gLp dt128 n4 (dt128 (t4, false)).2).1 = (dLs dt128 (r3.2)).1 := e14
            have e2'4 : (gLp dt128 n4 (dt128 (t4, false)).2).2 = (dLs dt128 (r3.2)).2 := e24
            have q4_0 : (dNu (t4, false)).2.1.length ≤ 1000000 := Nat.le_trans (qNu.len _) g14
            have q4_1 : (dNu (dNu (t4, false)).2).2.1.length ≤ 1000000 := Nat.le_trans (qNu.len _) q4_0
            have q4_2 : ((dLs dt130) (dNu (dNu (t4, false)).2).2).2.1.length ≤ 1000000 := Nat.le_trans ((qt130.list 72 (by decide) (by decide)).len _) q4_1
            have qE4 : dt128 (t4, false) = (((dNu (t4, false)).1, (dNu (dNu (t4, false)).2).1, ((dLs dt130) (dNu (dNu (t4, false)).2).2).1), ((dLs dt130) (dNu (dNu (t4, false)).2).2).2) := by simp only [dt128, gP]
            rw [qE4] at e1'4 e2'4
            refine ⟨(t4, false), ?_⟩
            conv => whnf
            refine And.intro (by simp only [allP, List.nil_append, List.cons_append, true_and]; and_intros <;> first | exact g14 | (show List.length _ ≤ _; exact g14) | rfl) ?_
            (set_option smartUnfolding false in conv => whnf)
            have wu4_0 := dNu_w (t4, false)
            generalize dNu (t4, false) = u4_0 at qE4 e1'4 e2'4 q4_0 q4_1 q4_2 wu4_0 ⊢
            try rw [wu4_0]
            refine dI (k := ?_)
            conv => whnf
            refine ⟨u4_0.2, ?_⟩
            conv => whnf
            refine And.intro (by simp only [allP, List.nil_append, List.cons_append, true_and]; and_intros <;> first | exact q4_0 | (show List.length _ ≤ _; exact q4_0) | rfl) ?_
            (set_option smartUnfolding false in conv => whnf)
            have wu4_1 := dNu_w u4_0.2
            generalize dNu u4_0.2 = u4_1 at qE4 e1'4 e2'4 q4_1 q4_2 wu4_1 ⊢
            try rw [wu4_1]
            refine dI (k := ?_)
            conv => whnf
            have hsl4_2 := dSz_le (u4_1.2)
            have hln4_2 : (dSz (u4_1.2)).2.1.length ≤ 1000000 := Nat.le_trans (dSz_len (u4_1.2)) q4_1
            refine ⟨u4_1.2, ?_⟩
            conv => whnf
            refine And.intro (by simp only [allP, List.nil_append, List.cons_append, true_and]; and_intros <;> first | exact q4_1 | rfl) ?_
            conv => whnf
            refine ⟨{i : Nat × List S130 × In // i.2.1 ++ (gLp dt130 i.1 i.2.2).1 = (dLs dt130 (u4_1.2)).1 ∧ (gLp dt130 i.1 i.2.2).2 = (dLs dt130 (u4_1.2)).2 ∧ i.2.2.1.length ≤ 1000000 ∧ i.2.1.length + i.1 ≤ 1000000}, fun i => ⟨[(0, .p false (.sl 1 (bl l))), (2, .ptr 0 0), (3, isI .i64 0), (4, .ptr 1 0), (5, .ptr 2 0), (11, isI .i64 (n4 + 1 : Nat)), (12, .ptr 4 0), (13, isI .i64 (i.1.1 : Nat))], [(0, .box [.p true (.int .i64 0), .p true .nilsl, .p true .nilsl, .p true .nilsl, .p true .nilsl]), (1, .box [.p false (.sl 1 (bl i.1.2.2.1)), isB i.1.2.2.2]), (2, .box [.p true (.int .i64 r0.1), .p true (.sl 2 (r1.1.map fun x => elOf (pv117 x))), .p true (.sl 3 (r2.1.map fun x => elOf (pv119 x))), .p true (.sl 7 (r3.1.map fun x => elOf (pv124 x))), .rowf 3]), (3, .row 128 3 true false ((out4).map fun x => elOf (pv128 x))), (4, .box [.p true (.int .i64 u4_0.1), .p true (.int .i64 u4_1.1), .rowf 5]), (5, .row 130 7 true false ((i.1.2.1).map fun x => elOf (pv130 x)))], 99⟩, fun i => i.1.1, ⟨⟨((dSz (u4_1.2)).1, [], (dSz (u4_1.2)).2), rfl, rfl, hln4_2, by simp only [List.length_nil]; omega⟩, ?_⟩, ?_⟩
            · conv => whnf
              and_intros <;> first | rfl | exact trivial | (simp [pvle]; done)
            rintro ⟨⟨n4_2, out4_2, s4_2⟩, e14_2, e24_2, g14_2, g24_2⟩
            show aw _ _ _ _ _ _ ⟨[(0, .p false (.sl 1 (bl l))), (2, .ptr 0 0), (3, isI .i64 0), (4, .ptr 1 0), (5, .ptr 2 0), (11, isI .i64 (n4 + 1 : Nat)), (12, .ptr 4 0), (13, isI .i64 (n4_2 : Nat))], [(0, .box [.p true (.int .i64 0), .p true .nilsl, .p true .nilsl, .p true .nilsl, .p true .nilsl]), (1, .box [.p false (.sl 1 (bl s4_2.1)), isB s4_2.2]), (2, .box [.p true (.int .i64 r0.1), .p true (.sl 2 (r1.1.map fun x => elOf (pv117 x))), .p true (.sl 3 (r2.1.map fun x => elOf (pv119 x))), .p true (.sl 7 (r3.1.map fun x => elOf (pv124 x))), .rowf 3]), (3, .row 128 3 true false ((out4).map fun x => elOf (pv128 x))), (4, .box [.p true (.int .i64 u4_0.1), .p true (.int .i64 u4_1.1), .rowf 5]), (5, .row 130 7 true false ((out4_2).map fun x => elOf (pv130 x)))], 99⟩
            simp only at e14_2 e24_2 g14_2 g24_2
            by_cases hgo4_2 : 0 < n4_2 ∧ s4_2.2 = false
            · obtain ⟨t4_2, bad4_2⟩ := s4_2
              obtain ⟨hn04_2, hbad4_2⟩ := hgo4_2
              simp only at hbad4_2
              subst hbad4_2
              cases n4_2 with
              | zero => omega
              | succ n4_2 =>
                conv => whnf
                rw [goL]
                conv => whnf
                have e1'4_2 : out4_2 ++ (dt130 (t4_2, false)).1 :: (gLp dt130 n4_2 (dt130 (t4_2, false)).2).1 = (dLs dt130 (u4_1.2)).1 := e14_2
                have e2'4_2 : (gLp dt130 n4_2 (dt130 (t4_2, false)).2).2 = (dLs dt130 (u4_1.2)).2 := e24_2
                have q4_2_0 : (dNu (t4_2, false)).2.1.length ≤ 1000000 := Nat.le_trans (qNu.len _) g14_2
                have q4_2_1 : (dt70 (dNu (t4_2, false)).2).2.1.length ≤ 1000000 := Nat.le_trans (qt70.len _) q4_2_0
                have qE4_2 : dt130 (t4_2, false) = (((dNu (t4_2, false)).1, (dt70 (dNu (t4_2, false)).2).1), (dt70 (dNu (t4_2, false)).2).2) := by simp only [dt130, gP]
                rw [qE4_2] at e1'4_2 e2'4_2
                refine ⟨(t4_2, false), ?_⟩
                conv => whnf
                refine And.intro (by simp only [allP, List.nil_append, List.cons_append, true_and]; and_intros <;> first | exact g14_2 | (show List.length _ ≤ _; exact g14_2) | rfl) ?_
                (set_option smartUnfolding false in conv => whnf)
                have wu4_2_0 := dNu_w (t4_2, false)
                generalize dNu (t4_2, false) = u4_2_0 at qE4_2 e1'4_2 e2'4_2 q4_2_0 q4_2_1 wu4_2_0 ⊢
                try rw [wu4_2_0]
                refine dI (k := ?_)
                conv => whnf
                refine ⟨u4_2_0.2, ?_⟩
                conv => whnf
                refine And.intro (by simp only [allP, List.nil_append, List.cons_append, true_and]; and_intros <;> first | exact q4_2_0 | (show List.length _ ≤ _; exact q4_2_0) | rfl) ?_
                (set_option smartUnfolding false in conv => whnf)
                generalize dt70 u4_2_0.2 = u4_2_1 at qE4_2 e1'4_2 e2'4_2 q4_2_1 ⊢
                refine dI (k := ?_)
                conv => whnf
                refine dI (k := ?_)
                (set_option smartUnfolding false in conv => whnf)
                refine And.intro (by simp only [allP, List.nil_append, List.cons_append, true_and]; rw [List.length_map]; simp only [List.length_cons, List.length_nil]; omega) ?_
                (set_option smartUnfolding false in conv => whnf)
                refine dI (k := ?_)
                conv => whnf
                refine ⟨⟨(n4_2, out4_2 ++ [(u4_2_0.1, u4_2_1.1)], u4_2_1.2), nextL e1'4_2, e2'4_2, q4_2_1, cntL g24_2⟩, Nat.lt_succ_self n4_2, ?_⟩
                conv => whnf
                rw [List.map_append, List.map_cons, List.map_nil]
                and_intros <;> first | rfl | exact trivial | (simp [pvle]; done) | exact wrL (n := n4_2) (by omega)
            obtain ⟨ho14_2, ho24_2⟩ := exitL e14_2 e24_2 hgo4_2
            rcases stopL hgo4_2 with hd4_2 | ⟨hd4_2, hbd4_2⟩
            · conv => whnf
              rw [hd4_2]
              conv => whnf
              rw [ho14_2, ho24_2]
              generalize dLs dt130 (u4_1.2) = u4_2 at qE4 e1'4 e2'4 q4_2 ⊢
              refine dI (k := ?_)
              (set_option smartUnfolding false in conv => whnf)
              refine And.intro (by simp only [allP, List.nil_append, List.cons_append, true_and]; rw [List.length_map]; simp only [List.length_cons, List.length_nil]; omega) ?_
              (set_option smartUnfolding false in conv => whnf)
              refine dI (k := ?_)
              conv => whnf
              refine ⟨⟨(n4, out4 ++ [(u4_0.1, u4_1.1, u4_2.1)], u4_2.2), nextL e1'4, e2'4, q4_2, cntL g24⟩, Nat.lt_succ_self n4, ?_⟩
              conv => whnf
              rw [List.map_append, List.map_cons, List.map_nil]
              and_intros <;> first | rfl | exact trivial | (simp [pvle]; done) | exact wrL (n := n4) (by omega)
            · obtain ⟨t4_2, bad4_2⟩ := s4_2
              simp only at hbd4_2
              subst hbd4_2
              conv => whnf
              rw [hd4_2]
              conv => whnf
              rw [ho14_2, ho24_2]
              generalize dLs dt130 (u4_1.2) = u4_2 at qE4 e1'4 e2'4 q4_2 ⊢
              refine dI (k := ?_)
              (set_option smartUnfolding false in conv => whnf)
              refine And.intro (by simp only [allP, List.nil_append, List.cons_append, true_and]; rw [List.length_map]; simp only [List.length_cons, List.length_nil]; omega) ?_
              (set_option smartUnfolding false in conv => whnf)
              refine dI (k := ?_)
              conv => whnf
              refine ⟨⟨(n4, out4 ++ [(u4_0.1, u4_1.1, u4_2.1)], u4_2.2), nextL e1'4, e2'4, q4_2, cntL g24⟩, Nat.lt_succ_self n4, ?_⟩
              conv => whnf
              rw [List.map_append, List.map_cons, List.map_nil]
              and_intros <;> first | rfl | exact trivial | (simp [pvle]; done) | exact wrL (n := n4) (by omega)
        obtain ⟨ho14, ho24⟩ := exitL e14 e24 hgo4
        rcases stopL hgo4 with hd4 | ⟨hd4, hbd4⟩
        · conv => whnf
          rw [hd4]
          conv => whnf
          rw [ho14, ho24]
          generalize dLs dt128 (r3.2) = r4 at hE hB hG h4 ⊢
          refine dI (k := ?_)
          (set_option smartUnfolding false in conv => whnf)
          refine ⟨(r0.1, r1.1, r2.1, r3.1, r4.1), ?_⟩
          conv => whnf
          refine And.intro (by simp only [allP, List.nil_append, List.cons_append, true_and]; repeat' (first | exact hB.1 | exact hB.2 | rfl | refine And.intro ?_ ?_)) ?_
          (set_option smartUnfolding false in conv => whnf)
          refine ⟨(r4.2, 4 :: en37 (r0.1, r1.1, r2.1, r3.1, r4.1), l, 60000), ?_⟩
          conv => whnf
          refine And.intro (by simp only [allP, List.nil_append, List.cons_append, true_and]; and_intros <;> first | exact trivial | rfl) ?_
          (set_option smartUnfolding false in conv => whnf)
          generalize hc : (!r4.2.2 && decide (l.length ≤ 60000) && decide (4 :: en37 (r0.1, r1.1, r2.1, r3.1, r4.1) = l)) = c at hG ⊢
          cases c
          · (set_option smartUnfolding false in conv => whnf)
            refine dI (k := ?_)
            (set_option smartUnfolding false in conv => whnf)
            refine dI (k := ?_)
            (set_option smartUnfolding false in conv => whnf)
            rw [hG]
            and_intros <;> first | rfl | exact trivial | (simp [pvle, z37, gSel]; done)
          · (set_option smartUnfolding false in conv => whnf)
            refine dI (k := ?_)
            (set_option smartUnfolding false in conv => whnf)
            refine dI (k := ?_)
            (set_option smartUnfolding false in conv => whnf)
            refine dI (k := ?_)
            (set_option smartUnfolding false in conv => whnf)
            rw [hG]
            and_intros <;> first | rfl | exact trivial | (simp [pvle]; done)
        · obtain ⟨t4, bad4⟩ := s4
          simp only at hbd4
          subst hbd4
          conv => whnf
          rw [hd4]
          conv => whnf
          rw [ho14, ho24]
          generalize dLs dt128 (r3.2) = r4 at hE hB hG h4 ⊢
          refine dI (k := ?_)
          (set_option smartUnfolding false in conv => whnf)
          refine ⟨(r0.1, r1.1, r2.1, r3.1, r4.1), ?_⟩
          conv => whnf
          refine And.intro (by simp only [allP, List.nil_append, List.cons_append, true_and]; repeat' (first | exact hB.1 | exact hB.2 | rfl | refine And.intro ?_ ?_)) ?_
          (set_option smartUnfolding false in conv => whnf)
          refine ⟨(r4.2, 4 :: en37 (r0.1, r1.1, r2.1, r3.1, r4.1), l, 60000), ?_⟩
          conv => whnf
          refine And.intro (by simp only [allP, List.nil_append, List.cons_append, true_and]; and_intros <;> first | exact trivial | rfl) ?_
          (set_option smartUnfolding false in conv => whnf)
          generalize hc : (!r4.2.2 && decide (l.length ≤ 60000) && decide (4 :: en37 (r0.1, r1.1, r2.1, r3.1, r4.1) = l)) = c at hG ⊢
          cases c
          · (set_option smartUnfolding false in conv => whnf)
            refine dI (k := ?_)
            (set_option smartUnfolding false in conv => whnf)
            refine dI (k := ?_)
            (set_option smartUnfolding false in conv => whnf)
            rw [hG]
            and_intros <;> first | rfl | exact trivial | (simp [pvle, z37, gSel]; done)
          · (set_option smartUnfolding false in conv => whnf)
            refine dI (k := ?_)
            (set_option smartUnfolding false in conv => whnf)
            refine dI (k := ?_)
            (set_option smartUnfolding false in conv => whnf)
            refine dI (k := ?_)
            (set_option smartUnfolding false in conv => whnf)
            rw [hG]
            and_intros <;> first | rfl | exact trivial | (simp [pvle]; done)
      · obtain ⟨t3, bad3⟩ := s3
        simp only at hbd3
        subst hbd3
        conv => whnf
        rw [hd3]
        conv => whnf
        rw [ho13, ho23]
        generalize dLs dt124 (r2.2) = r3 at hE hB hG h3 h4 ⊢
        have hsl4 := dSz_le (r3.2)
        have hln4 : (dSz (r3.2)).2.1.length ≤ 1000000 := Nat.le_trans (dSz_len (r3.2)) h3
        refine ⟨r3.2, ?_⟩
        conv => whnf
        refine And.intro (by simp only [allP, List.nil_append, List.cons_append, true_and]; and_intros <;> first | exact h3 | rfl) ?_
        conv => whnf
        refine ⟨{i : Nat × List S128 × In // i.2.1 ++ (gLp dt128 i.1 i.2.2).1 = (dLs dt128 (r3.2)).1 ∧ (gLp dt128 i.1 i.2.2).2 = (dLs dt128 (r3.2)).2 ∧ i.2.2.1.length ≤ 1000000 ∧ i.2.1.length + i.1 ≤ 1000000}, fun i => ⟨[(0, .p false (.sl 1 (bl l))), (2, .ptr 0 0), (3, isI .i64 0), (4, .ptr 1 0), (5, .ptr 2 0), (11, isI .i64 (i.1.1 : Nat))], [(0, .box [.p true (.int .i64 0), .p true .nilsl, .p true .nilsl, .p true .nilsl, .p true .nilsl]), (1, .box [.p false (.sl 1 (bl i.1.2.2.1)), isB i.1.2.2.2]), (2, .box [.p true (.int .i64 r0.1), .p true (.sl 2 (r1.1.map fun x => elOf (pv117 x))), .p true (.sl 3 (r2.1.map fun x => elOf (pv119 x))), .p true (.sl 7 (r3.1.map fun x => elOf (pv124 x))), .rowf 3]), (3, .row 128 3 true false ((i.1.2.1).map fun x => elOf (pv128 x)))], 99⟩, fun i => i.1.1, ⟨⟨((dSz (r3.2)).1, [], (dSz (r3.2)).2), rfl, rfl, hln4, by simp only [List.length_nil]; omega⟩, ?_⟩, ?_⟩
        · conv => whnf
          and_intros <;> first | rfl | exact trivial | (simp [pvle]; done)
        rintro ⟨⟨n4, out4, s4⟩, e14, e24, g14, g24⟩
        show aw _ _ _ _ _ _ ⟨[(0, .p false (.sl 1 (bl l))), (2, .ptr 0 0), (3, isI .i64 0), (4, .ptr 1 0), (5, .ptr 2 0), (11, isI .i64 (n4 : Nat))], [(0, .box [.p true (.int .i64 0), .p true .nilsl, .p true .nilsl, .p true .nilsl, .p true .nilsl]), (1, .box [.p false (.sl 1 (bl s4.1)), isB s4.2]), (2, .box [.p true (.int .i64 r0.1), .p true (.sl 2 (r1.1.map fun x => elOf (pv117 x))), .p true (.sl 3 (r2.1.map fun x => elOf (pv119 x))), .p true (.sl 7 (r3.1.map fun x => elOf (pv124 x))), .rowf 3]), (3, .row 128 3 true false ((out4).map fun x => elOf (pv128 x)))], 99⟩
        simp only at e14 e24 g14 g24
        by_cases hgo4 : 0 < n4 ∧ s4.2 = false
        · obtain ⟨t4, bad4⟩ := s4
          obtain ⟨hn04, hbad4⟩ := hgo4
          simp only at hbad4
          subst hbad4
          cases n4 with
          | zero => omega
          | succ n4 =>
            conv => whnf
            rw [goL]
            conv => whnf
            have e1'4 : out4 ++ (dt128 (t4, false)).1 :: (gLp dt128 n4 (dt128 (t4, false)).2).1 = (dLs dt128 (r3.2)).1 := e14
            have e2'4 : (gLp dt128 n4 (dt128 (t4, false)).2).2 = (dLs dt128 (r3.2)).2 := e24
            have q4_0 : (dNu (t4, false)).2.1.length ≤ 1000000 := Nat.le_trans (qNu.len _) g14
            have q4_1 : (dNu (dNu (t4, false)).2).2.1.length ≤ 1000000 := Nat.le_trans (qNu.len _) q4_0
            have q4_2 : ((dLs dt130) (dNu (dNu (t4, false)).2).2).2.1.length ≤ 1000000 := Nat.le_trans ((qt130.list 72 (by decide) (by decide)).len _) q4_1
            have qE4 : dt128 (t4, false) = (((dNu (t4, false)).1, (dNu (dNu (t4, false)).2).1, ((dLs dt130) (dNu (dNu (t4, false)).2).2).1), ((dLs dt130) (dNu (dNu (t4, false)).2).2).2) := by simp only [dt128, gP]
            rw [qE4] at e1'4 e2'4
            refine ⟨(t4, false), ?_⟩
            conv => whnf
            refine And.intro (by simp only [allP, List.nil_append, List.cons_append, true_and]; and_intros <;> first | exact g14 | (show List.length _ ≤ _; exact g14) | rfl) ?_
            (set_option smartUnfolding false in conv => whnf)
            have wu4_0 := dNu_w (t4, false)
            generalize dNu (t4, false) = u4_0 at qE4 e1'4 e2'4 q4_0 q4_1 q4_2 wu4_0 ⊢
            try rw [wu4_0]
            refine dI (k := ?_)
            conv => whnf
            refine ⟨u4_0.2, ?_⟩
            conv => whnf
            refine And.intro (by simp only [allP, List.nil_append, List.cons_append, true_and]; and_intros <;> first | exact q4_0 | (show List.length _ ≤ _; exact q4_0) | rfl) ?_
            (set_option smartUnfolding false in conv => whnf)
            have wu4_1 := dNu_w u4_0.2
            generalize dNu u4_0.2 = u4_1 at qE4 e1'4 e2'4 q4_1 q4_2 wu4_1 ⊢
            try rw [wu4_1]
            refine dI (k := ?_)
            conv => whnf
            have hsl4_2 := dSz_le (u4_1.2)
            have hln4_2 : (dSz (u4_1.2)).2.1.length ≤ 1000000 := Nat.le_trans (dSz_len (u4_1.2)) q4_1
            refine ⟨u4_1.2, ?_⟩
            conv => whnf
            refine And.intro (by simp only [allP, List.nil_append, List.cons_append, true_and]; and_intros <;> first | exact q4_1 | rfl) ?_
            conv => whnf
            refine ⟨{i : Nat × List S130 × In // i.2.1 ++ (gLp dt130 i.1 i.2.2).1 = (dLs dt130 (u4_1.2)).1 ∧ (gLp dt130 i.1 i.2.2).2 = (dLs dt130 (u4_1.2)).2 ∧ i.2.2.1.length ≤ 1000000 ∧ i.2.1.length + i.1 ≤ 1000000}, fun i => ⟨[(0, .p false (.sl 1 (bl l))), (2, .ptr 0 0), (3, isI .i64 0), (4, .ptr 1 0), (5, .ptr 2 0), (11, isI .i64 (n4 + 1 : Nat)), (12, .ptr 4 0), (13, isI .i64 (i.1.1 : Nat))], [(0, .box [.p true (.int .i64 0), .p true .nilsl, .p true .nilsl, .p true .nilsl, .p true .nilsl]), (1, .box [.p false (.sl 1 (bl i.1.2.2.1)), isB i.1.2.2.2]), (2, .box [.p true (.int .i64 r0.1), .p true (.sl 2 (r1.1.map fun x => elOf (pv117 x))), .p true (.sl 3 (r2.1.map fun x => elOf (pv119 x))), .p true (.sl 7 (r3.1.map fun x => elOf (pv124 x))), .rowf 3]), (3, .row 128 3 true false ((out4).map fun x => elOf (pv128 x))), (4, .box [.p true (.int .i64 u4_0.1), .p true (.int .i64 u4_1.1), .rowf 5]), (5, .row 130 7 true false ((i.1.2.1).map fun x => elOf (pv130 x)))], 99⟩, fun i => i.1.1, ⟨⟨((dSz (u4_1.2)).1, [], (dSz (u4_1.2)).2), rfl, rfl, hln4_2, by simp only [List.length_nil]; omega⟩, ?_⟩, ?_⟩
            · conv => whnf
              and_intros <;> first | rfl | exact trivial | (simp [pvle]; done)
            rintro ⟨⟨n4_2, out4_2, s4_2⟩, e14_2, e24_2, g14_2, g24_2⟩
            show aw _ _ _ _ _ _ ⟨[(0, .p false (.sl 1 (bl l))), (2, .ptr 0 0), (3, isI .i64 0), (4, .ptr 1 0), (5, .ptr 2 0), (11, isI .i64 (n4 + 1 : Nat)), (12, .ptr 4 0), (13, isI .i64 (n4_2 : Nat))], [(0, .box [.p true (.int .i64 0), .p true .nilsl, .p true .nilsl, .p true .nilsl, .p true .nilsl]), (1, .box [.p false (.sl 1 (bl s4_2.1)), isB s4_2.2]), (2, .box [.p true (.int .i64 r0.1), .p true (.sl 2 (r1.1.map fun x => elOf (pv117 x))), .p true (.sl 3 (r2.1.map fun x => elOf (pv119 x))), .p true (.sl 7 (r3.1.map fun x => elOf (pv124 x))), .rowf 3]), (3, .row 128 3 true false ((out4).map fun x => elOf (pv128 x))), (4, .box [.p true (.int .i64 u4_0.1), .p true (.int .i64 u4_1.1), .rowf 5]), (5, .row 130 7 true false ((out4_2).map fun x => elOf (pv130 x)))], 99⟩
            simp only at e14_2 e24_2 g14_2 g24_2
            by_cases hgo4_2 : 0 < n4_2 ∧ s4_2.2 = false
            · obtain ⟨t4_2, bad4_2⟩ := s4_2
              obtain ⟨hn04_2, hbad4_2⟩ := hgo4_2
              simp only at hbad4_2
              subst hbad4_2
              cases n4_2 with
              | zero => omega
              | succ n4_2 =>
                conv => whnf
                rw [goL]
                conv => whnf
                have e1'4_2 : out4_2 ++ (dt130 (t4_2, false)).1 :: (gLp dt130 n4_2 (dt130 (t4_2, false)).2).1 = (dLs dt130 (u4_1.2)).1 := e14_2
                have e2'4_2 : (gLp dt130 n4_2 (dt130 (t4_2, false)).2).2 = (dLs dt130 (u4_1.2)).2 := e24_2
                have q4_2_0 : (dNu (t4_2, false)).2.1.length ≤ 1000000 := Nat.le_trans (qNu.len _) g14_2
                have q4_2_1 : (dt70 (dNu (t4_2, false)).2).2.1.length ≤ 1000000 := Nat.le_trans (qt70.len _) q4_2_0
                have qE4_2 : dt130 (t4_2, false) = (((dNu (t4_2, false)).1, (dt70 (dNu (t4_2, false)).2).1), (dt70 (dNu (t4_2, false)).2).2) := by simp only [dt130, gP]
                rw [qE4_2] at e1'4_2 e2'4_2
                refine ⟨(t4_2, false), ?_⟩
                conv => whnf
                refine And.intro (by simp only [allP, List.nil_append, List.cons_append, true_and]; and_intros <;> first | exact g14_2 | (show List.length _ ≤ _; exact g14_2) | rfl) ?_
                (set_option smartUnfolding false in conv => whnf)
                have wu4_2_0 := dNu_w (t4_2, false)
                generalize dNu (t4_2, false) = u4_2_0 at qE4_2 e1'4_2 e2'4_2 q4_2_0 q4_2_1 wu4_2_0 ⊢
                try rw [wu4_2_0]
                refine dI (k := ?_)
                conv => whnf
                refine ⟨u4_2_0.2, ?_⟩
                conv => whnf
                refine And.intro (by simp only [allP, List.nil_append, List.cons_append, true_and]; and_intros <;> first | exact q4_2_0 | (show List.length _ ≤ _; exact q4_2_0) | rfl) ?_
                (set_option smartUnfolding false in conv => whnf)
                generalize dt70 u4_2_0.2 = u4_2_1 at qE4_2 e1'4_2 e2'4_2 q4_2_1 ⊢
                refine dI (k := ?_)
                conv => whnf
                refine dI (k := ?_)
                (set_option smartUnfolding false in conv => whnf)
                refine And.intro (by simp only [allP, List.nil_append, List.cons_append, true_and]; rw [List.length_map]; simp only [List.length_cons, List.length_nil]; omega) ?_
                (set_option smartUnfolding false in conv => whnf)
                refine dI (k := ?_)
                conv => whnf
                refine ⟨⟨(n4_2, out4_2 ++ [(u4_2_0.1, u4_2_1.1)], u4_2_1.2), nextL e1'4_2, e2'4_2, q4_2_1, cntL g24_2⟩, Nat.lt_succ_self n4_2, ?_⟩
                conv => whnf
                rw [List.map_append, List.map_cons, List.map_nil]
                and_intros <;> first | rfl | exact trivial | (simp [pvle]; done) | exact wrL (n := n4_2) (by omega)
            obtain ⟨ho14_2, ho24_2⟩ := exitL e14_2 e24_2 hgo4_2
            rcases stopL hgo4_2 with hd4_2 | ⟨hd4_2, hbd4_2⟩
            · conv => whnf
              rw [hd4_2]
              conv => whnf
              rw [ho14_2, ho24_2]
              generalize dLs dt130 (u4_1.2) = u4_2 at qE4 e1'4 e2'4 q4_2 ⊢
              refine dI (k := ?_)
              (set_option smartUnfolding false in conv => whnf)
              refine And.intro (by simp only [allP, List.nil_append, List.cons_append, true_and]; rw [List.length_map]; simp only [List.length_cons, List.length_nil]; omega) ?_
              (set_option smartUnfolding false in conv => whnf)
              refine dI (k := ?_)
              conv => whnf
              refine ⟨⟨(n4, out4 ++ [(u4_0.1, u4_1.1, u4_2.1)], u4_2.2), nextL e1'4, e2'4, q4_2, cntL g24⟩, Nat.lt_succ_self n4, ?_⟩
              conv => whnf
              rw [List.map_append, List.map_cons, List.map_nil]
              and_intros <;> first | rfl | exact trivial | (simp [pvle]; done) | exact wrL (n := n4) (by omega)
            · obtain ⟨t4_2, bad4_2⟩ := s4_2
              simp only at hbd4_2
              subst hbd4_2
              conv => whnf
              rw [hd4_2]
              conv => whnf
              rw [ho14_2, ho24_2]
              generalize dLs dt130 (u4_1.2) = u4_2 at qE4 e1'4 e2'4 q4_2 ⊢
              refine dI (k := ?_)
              (set_option smartUnfolding false in conv => whnf)
              refine And.intro (by simp only [allP, List.nil_append, List.cons_append, true_and]; rw [List.length_map]; simp only [List.length_cons, List.length_nil]; omega) ?_
              (set_option smartUnfolding false in conv => whnf)
              refine dI (k := ?_)
              conv => whnf
              refine ⟨⟨(n4, out4 ++ [(u4_0.1, u4_1.1, u4_2.1)], u4_2.2), nextL e1'4, e2'4, q4_2, cntL g24⟩, Nat.lt_succ_self n4, ?_⟩
              conv => whnf
              rw [List.map_append, List.map_cons, List.map_nil]
              and_intros <;> first | rfl | exact trivial | (simp [pvle]; done) | exact wrL (n := n4) (by omega)
        obtain ⟨ho14, ho24⟩ := exitL e14 e24 hgo4
        rcases stopL hgo4 with hd4 | ⟨hd4, hbd4⟩
        · conv => whnf
          rw [hd4]
          conv => whnf
          rw [ho14, ho24]
          generalize dLs dt128 (r3.2) = r4 at hE hB hG h4 ⊢
          refine dI (k := ?_)
          (set_option smartUnfolding false in conv => whnf)
          refine ⟨(r0.1, r1.1, r2.1, r3.1, r4.1), ?_⟩
          conv => whnf
          refine And.intro (by simp only [allP, List.nil_append, List.cons_append, true_and]; repeat' (first | exact hB.1 | exact hB.2 | rfl | refine And.intro ?_ ?_)) ?_
          (set_option smartUnfolding false in conv => whnf)
          refine ⟨(r4.2, 4 :: en37 (r0.1, r1.1, r2.1, r3.1, r4.1), l, 60000), ?_⟩
          conv => whnf
          refine And.intro (by simp only [allP, List.nil_append, List.cons_append, true_and]; and_intros <;> first | exact trivial | rfl) ?_
          (set_option smartUnfolding false in conv => whnf)
          generalize hc : (!r4.2.2 && decide (l.length ≤ 60000) && decide (4 :: en37 (r0.1, r1.1, r2.1, r3.1, r4.1) = l)) = c at hG ⊢
          cases c
          · (set_option smartUnfolding false in conv => whnf)
            refine dI (k := ?_)
            (set_option smartUnfolding false in conv => whnf)
            refine dI (k := ?_)
            (set_option smartUnfolding false in conv => whnf)
            rw [hG]
            and_intros <;> first | rfl | exact trivial | (simp [pvle, z37, gSel]; done)
          · (set_option smartUnfolding false in conv => whnf)
            refine dI (k := ?_)
            (set_option smartUnfolding false in conv => whnf)
            refine dI (k := ?_)
            (set_option smartUnfolding false in conv => whnf)
            refine dI (k := ?_)
            (set_option smartUnfolding false in conv => whnf)
            rw [hG]
            and_intros <;> first | rfl | exact trivial | (simp [pvle]; done)
        · obtain ⟨t4, bad4⟩ := s4
          simp only at hbd4
          subst hbd4
          conv => whnf
          rw [hd4]
          conv => whnf
          rw [ho14, ho24]
          generalize dLs dt128 (r3.2) = r4 at hE hB hG h4 ⊢
          refine dI (k := ?_)
          (set_option smartUnfolding false in conv => whnf)
          refine ⟨(r0.1, r1.1, r2.1, r3.1, r4.1), ?_⟩
          conv => whnf
          refine And.intro (by simp only [allP, List.nil_append, List.cons_append, true_and]; repeat' (first | exact hB.1 | exact hB.2 | rfl | refine And.intro ?_ ?_)) ?_
          (set_option smartUnfolding false in conv => whnf)
          refine ⟨(r4.2, 4 :: en37 (r0.1, r1.1, r2.1, r3.1, r4.1), l, 60000), ?_⟩
          conv => whnf
          refine And.intro (by simp only [allP, List.nil_append, List.cons_append, true_and]; and_intros <;> first | exact trivial | rfl) ?_
          (set_option smartUnfolding false in conv => whnf)
          generalize hc : (!r4.2.2 && decide (l.length ≤ 60000) && decide (4 :: en37 (r0.1, r1.1, r2.1, r3.1, r4.1) = l)) = c at hG ⊢
          cases c
          · (set_option smartUnfolding false in conv => whnf)
            refine dI (k := ?_)
            (set_option smartUnfolding false in conv => whnf)
            refine dI (k := ?_)
            (set_option smartUnfolding false in conv => whnf)
            rw [hG]
            and_intros <;> first | rfl | exact trivial | (simp [pvle, z37, gSel]; done)
          · (set_option smartUnfolding false in conv => whnf)
            refine dI (k := ?_)
            (set_option smartUnfolding false in conv => whnf)
            refine dI (k := ?_)
            (set_option smartUnfolding false in conv => whnf)
            refine dI (k := ?_)
            (set_option smartUnfolding false in conv => whnf)
            rw [hG]
            and_intros <;> first | rfl | exact trivial | (simp [pvle]; done)
    · obtain ⟨t2, bad2⟩ := s2
      simp only at hbd2
      subst hbd2
      conv => whnf
      rw [hd2]
      conv => whnf
      rw [ho12, ho22]
      generalize dLs dt119 (r1.2) = r2 at hE hB hG h2 h3 h4 ⊢
      have hsl3 := dSz_le (r2.2)
      have hln3 : (dSz (r2.2)).2.1.length ≤ 1000000 := Nat.le_trans (dSz_len (r2.2)) h2
      refine ⟨r2.2, ?_⟩
      conv => whnf
      refine And.intro (by simp only [allP, List.nil_append, List.cons_append, true_and]; and_intros <;> first | exact h2 | rfl) ?_
      conv => whnf
      refine ⟨{i : Nat × List S124 × In // i.2.1 ++ (gLp dt124 i.1 i.2.2).1 = (dLs dt124 (r2.2)).1 ∧ (gLp dt124 i.1 i.2.2).2 = (dLs dt124 (r2.2)).2 ∧ i.2.2.1.length ≤ 1000000 ∧ i.2.1.length + i.1 ≤ 1000000}, fun i => ⟨[(0, .p false (.sl 1 (bl l))), (2, .ptr 0 0), (3, isI .i64 0), (4, .ptr 1 0), (5, .ptr 2 0), (10, isI .i64 (i.1.1 : Nat))], [(0, .box [.p true (.int .i64 0), .p true .nilsl, .p true .nilsl, .p true .nilsl, .p true .nilsl]), (1, .box [.p false (.sl 1 (bl i.1.2.2.1)), isB i.1.2.2.2]), (2, .box [.p true (.int .i64 r0.1), .p true (.sl 2 (r1.1.map fun x => elOf (pv117 x))), .p true (.sl 3 (r2.1.map fun x => elOf (pv119 x))), .rowf 3, .p true .nilsl]), (3, .row 124 7 true false ((i.1.2.1).map fun x => elOf (pv124 x)))], 99⟩, fun i => i.1.1, ⟨⟨((dSz (r2.2)).1, [], (dSz (r2.2)).2), rfl, rfl, hln3, by simp only [List.length_nil]; omega⟩, ?_⟩, ?_⟩
      · conv => whnf
        and_intros <;> first | rfl | exact trivial | (simp [pvle]; done)
      rintro ⟨⟨n3, out3, s3⟩, e13, e23, g13, g23⟩
      show aw _ _ _ _ _ _ ⟨[(0, .p false (.sl 1 (bl l))), (2, .ptr 0 0), (3, isI .i64 0), (4, .ptr 1 0), (5, .ptr 2 0), (10, isI .i64 (n3 : Nat))], [(0, .box [.p true (.int .i64 0), .p true .nilsl, .p true .nilsl, .p true .nilsl, .p true .nilsl]), (1, .box [.p false (.sl 1 (bl s3.1)), isB s3.2]), (2, .box [.p true (.int .i64 r0.1), .p true (.sl 2 (r1.1.map fun x => elOf (pv117 x))), .p true (.sl 3 (r2.1.map fun x => elOf (pv119 x))), .rowf 3, .p true .nilsl]), (3, .row 124 7 true false ((out3).map fun x => elOf (pv124 x)))], 99⟩
      simp only at e13 e23 g13 g23
      by_cases hgo3 : 0 < n3 ∧ s3.2 = false
      · obtain ⟨t3, bad3⟩ := s3
        obtain ⟨hn03, hbad3⟩ := hgo3
        simp only at hbad3
        subst hbad3
        cases n3 with
        | zero => omega
        | succ n3 =>
          conv => whnf
          rw [goL]
          conv => whnf
          have e1'3 : out3 ++ (dt124 (t3, false)).1 :: (gLp dt124 n3 (dt124 (t3, false)).2).1 = (dLs dt124 (r2.2)).1 := e13
          have e2'3 : (gLp dt124 n3 (dt124 (t3, false)).2).2 = (dLs dt124 (r2.2)).2 := e23
          have q3 : (dt124 (t3, false)).2.1.length ≤ 1000000 := Nat.le_trans (qt124.len _) g13
          refine ⟨(t3, false), ?_⟩
          conv => whnf
          refine And.intro (by simp only [allP, List.nil_append, List.cons_append, true_and]; and_intros <;> first | exact g13 | (show t3.length ≤ _; exact g13) | rfl) ?_
          (set_option smartUnfolding false in conv => whnf)
          generalize dt124 (t3, false) = u3 at e1'3 e2'3 q3 ⊢
          refine And.intro (by simp only [allP, List.nil_append, List.cons_append, true_and]; rw [List.length_map]; simp only [List.length_cons, List.length_nil]; omega) ?_
          (set_option smartUnfolding false in conv => whnf)
          refine dI (k := ?_)
          (set_option smartUnfolding false in conv => whnf)
          refine ⟨by rfl, ?_⟩
          (set_option smartUnfolding false in conv => whnf)
          refine ⟨⟨(n3, out3 ++ [u3.1], u3.2), nextL e1'3, e2'3, q3, cntL g23⟩, Nat.lt_succ_self n3, ?_⟩
          conv => whnf
          rw [List.map_append, List.map_cons, List.map_nil]
          and_intros <;> first | rfl | exact trivial | (simp [pvle]; done) | exact wrL (n := n3) (by omega)
      obtain ⟨ho13, ho23⟩ := exitL e13 e23 hgo3
      rcases stopL hgo3 with hd3 | ⟨hd3, hbd3⟩
      · conv => whnf
        rw [hd3]
        conv => whnf
        rw [ho13, ho23]
        generalize dLs dt124 (r2.2) = r3 at hE hB hG h3 h4 ⊢
        have hsl4 := dSz_le (r3.2)
        have hln4 : (dSz (r3.2)).2.1.length ≤ 1000000 := Nat.le_trans (dSz_len (r3.2)) h3
        refine ⟨r3.2, ?_⟩
        conv => whnf
        refine And.intro (by simp only [allP, List.nil_append, List.cons_append, true_and]; and_intros <;> first | exact h3 | rfl) ?_
        conv => whnf
        refine ⟨{i : Nat × List S128 × In // i.2.1 ++ (gLp dt128 i.1 i.2.2).1 = (dLs dt128 (r3.2)).1 ∧ (gLp dt128 i.1 i.2.2).2 = (dLs dt128 (r3.2)).2 ∧ i.2.2.1.length ≤ 1000000 ∧ i.2.1.length + i.1 ≤ 1000000}, fun i => ⟨[(0, .p false (.sl 1 (bl l))), (2, .ptr 0 0), (3, isI .i64 0), (4, .ptr 1 0), (5, .ptr 2 0), (11, isI .i64 (i.1.1 : Nat))], [(0, .box [.p true (.int .i64 0), .p true .nilsl, .p true .nilsl, .p true .nilsl, .p true .nilsl]), (1, .box [.p false (.sl 1 (bl i.1.2.2.1)), isB i.1.2.2.2]), (2, .box [.p true (.int .i64 r0.1), .p true (.sl 2 (r1.1.map fun x => elOf (pv117 x))), .p true (.sl 3 (r2.1.map fun x => elOf (pv119 x))), .p true (.sl 7 (r3.1.map fun x => elOf (pv124 x))), .rowf 3]), (3, .row 128 3 true false ((i.1.2.1).map fun x => elOf (pv128 x)))], 99⟩, fun i => i.1.1, ⟨⟨((dSz (r3.2)).1, [], (dSz (r3.2)).2), rfl, rfl, hln4, by simp only [List.length_nil]; omega⟩, ?_⟩, ?_⟩
        · conv => whnf
          and_intros <;> first | rfl | exact trivial | (simp [pvle]; done)
        rintro ⟨⟨n4, out4, s4⟩, e14, e24, g14, g24⟩
        show aw _ _ _ _ _ _ ⟨[(0, .p false (.sl 1 (bl l))), (2, .ptr 0 0), (3, isI .i64 0), (4, .ptr 1 0), (5, .ptr 2 0), (11, isI .i64 (n4 : Nat))], [(0, .box [.p true (.int .i64 0), .p true .nilsl, .p true .nilsl, .p true .nilsl, .p true .nilsl]), (1, .box [.p false (.sl 1 (bl s4.1)), isB s4.2]), (2, .box [.p true (.int .i64 r0.1), .p true (.sl 2 (r1.1.map fun x => elOf (pv117 x))), .p true (.sl 3 (r2.1.map fun x => elOf (pv119 x))), .p true (.sl 7 (r3.1.map fun x => elOf (pv124 x))), .rowf 3]), (3, .row 128 3 true false ((out4).map fun x => elOf (pv128 x)))], 99⟩
        simp only at e14 e24 g14 g24
        by_cases hgo4 : 0 < n4 ∧ s4.2 = false
        · obtain ⟨t4, bad4⟩ := s4
          obtain ⟨hn04, hbad4⟩ := hgo4
          simp only at hbad4
          subst hbad4
          cases n4 with
          | zero => omega
          | succ n4 =>
            conv => whnf
            rw [goL]
            conv => whnf
            have e1'4 : out4 ++ (dt128 (t4, false)).1 :: (gLp dt128 n4 (dt128 (t4, false)).2).1 = (dLs dt128 (r3.2)).1 := e14
            have e2'4 : (gLp dt128 n4 (dt128 (t4, false)).2).2 = (dLs dt128 (r3.2)).2 := e24
            have q4_0 : (dNu (t4, false)).2.1.length ≤ 1000000 := Nat.le_trans (qNu.len _) g14
            have q4_1 : (dNu (dNu (t4, false)).2).2.1.length ≤ 1000000 := Nat.le_trans (qNu.len _) q4_0
            have q4_2 : ((dLs dt130) (dNu (dNu (t4, false)).2).2).2.1.length ≤ 1000000 := Nat.le_trans ((qt130.list 72 (by decide) (by decide)).len _) q4_1
            have qE4 : dt128 (t4, false) = (((dNu (t4, false)).1, (dNu (dNu (t4, false)).2).1, ((dLs dt130) (dNu (dNu (t4, false)).2).2).1), ((dLs dt130) (dNu (dNu (t4, false)).2).2).2) := by simp only [dt128, gP]
            rw [qE4] at e1'4 e2'4
            refine ⟨(t4, false), ?_⟩
            conv => whnf
            refine And.intro (by simp only [allP, List.nil_append, List.cons_append, true_and]; and_intros <;> first | exact g14 | (show List.length _ ≤ _; exact g14) | rfl) ?_
            (set_option smartUnfolding false in conv => whnf)
            have wu4_0 := dNu_w (t4, false)
            generalize dNu (t4, false) = u4_0 at qE4 e1'4 e2'4 q4_0 q4_1 q4_2 wu4_0 ⊢
            try rw [wu4_0]
            refine dI (k := ?_)
            conv => whnf
            refine ⟨u4_0.2, ?_⟩
            conv => whnf
            refine And.intro (by simp only [allP, List.nil_append, List.cons_append, true_and]; and_intros <;> first | exact q4_0 | (show List.length _ ≤ _; exact q4_0) | rfl) ?_
            (set_option smartUnfolding false in conv => whnf)
            have wu4_1 := dNu_w u4_0.2
            generalize dNu u4_0.2 = u4_1 at qE4 e1'4 e2'4 q4_1 q4_2 wu4_1 ⊢
            try rw [wu4_1]
            refine dI (k := ?_)
            conv => whnf
            have hsl4_2 := dSz_le (u4_1.2)
            have hln4_2 : (dSz (u4_1.2)).2.1.length ≤ 1000000 := Nat.le_trans (dSz_len (u4_1.2)) q4_1
            refine ⟨u4_1.2, ?_⟩
            conv => whnf
            refine And.intro (by simp only [allP, List.nil_append, List.cons_append, true_and]; and_intros <;> first | exact q4_1 | rfl) ?_
            conv => whnf
            refine ⟨{i : Nat × List S130 × In // i.2.1 ++ (gLp dt130 i.1 i.2.2).1 = (dLs dt130 (u4_1.2)).1 ∧ (gLp dt130 i.1 i.2.2).2 = (dLs dt130 (u4_1.2)).2 ∧ i.2.2.1.length ≤ 1000000 ∧ i.2.1.length + i.1 ≤ 1000000}, fun i => ⟨[(0, .p false (.sl 1 (bl l))), (2, .ptr 0 0), (3, isI .i64 0), (4, .ptr 1 0), (5, .ptr 2 0), (11, isI .i64 (n4 + 1 : Nat)), (12, .ptr 4 0), (13, isI .i64 (i.1.1 : Nat))], [(0, .box [.p true (.int .i64 0), .p true .nilsl, .p true .nilsl, .p true .nilsl, .p true .nilsl]), (1, .box [.p false (.sl 1 (bl i.1.2.2.1)), isB i.1.2.2.2]), (2, .box [.p true (.int .i64 r0.1), .p true (.sl 2 (r1.1.map fun x => elOf (pv117 x))), .p true (.sl 3 (r2.1.map fun x => elOf (pv119 x))), .p true (.sl 7 (r3.1.map fun x => elOf (pv124 x))), .rowf 3]), (3, .row 128 3 true false ((out4).map fun x => elOf (pv128 x))), (4, .box [.p true (.int .i64 u4_0.1), .p true (.int .i64 u4_1.1), .rowf 5]), (5, .row 130 7 true false ((i.1.2.1).map fun x => elOf (pv130 x)))], 99⟩, fun i => i.1.1, ⟨⟨((dSz (u4_1.2)).1, [], (dSz (u4_1.2)).2), rfl, rfl, hln4_2, by simp only [List.length_nil]; omega⟩, ?_⟩, ?_⟩
            · conv => whnf
              and_intros <;> first | rfl | exact trivial | (simp [pvle]; done)
            rintro ⟨⟨n4_2, out4_2, s4_2⟩, e14_2, e24_2, g14_2, g24_2⟩
            show aw _ _ _ _ _ _ ⟨[(0, .p false (.sl 1 (bl l))), (2, .ptr 0 0), (3, isI .i64 0), (4, .ptr 1 0), (5, .ptr 2 0), (11, isI .i64 (n4 + 1 : Nat)), (12, .ptr 4 0), (13, isI .i64 (n4_2 : Nat))], [(0, .box [.p true (.int .i64 0), .p true .nilsl, .p true .nilsl, .p true .nilsl, .p true .nilsl]), (1, .box [.p false (.sl 1 (bl s4_2.1)), isB s4_2.2]), (2, .box [.p true (.int .i64 r0.1), .p true (.sl 2 (r1.1.map fun x => elOf (pv117 x))), .p true (.sl 3 (r2.1.map fun x => elOf (pv119 x))), .p true (.sl 7 (r3.1.map fun x => elOf (pv124 x))), .rowf 3]), (3, .row 128 3 true false ((out4).map fun x => elOf (pv128 x))), (4, .box [.p true (.int .i64 u4_0.1), .p true (.int .i64 u4_1.1), .rowf 5]), (5, .row 130 7 true false ((out4_2).map fun x => elOf (pv130 x)))], 99⟩
            simp only at e14_2 e24_2 g14_2 g24_2
            by_cases hgo4_2 : 0 < n4_2 ∧ s4_2.2 = false
            · obtain ⟨t4_2, bad4_2⟩ := s4_2
              obtain ⟨hn04_2, hbad4_2⟩ := hgo4_2
              simp only at hbad4_2
              subst hbad4_2
              cases n4_2 with
              | zero => omega
              | succ n4_2 =>
                conv => whnf
                rw [goL]
                conv => whnf
                have e1'4_2 : out4_2 ++ (dt130 (t4_2, false)).1 :: (gLp dt130 n4_2 (dt130 (t4_2, false)).2).1 = (dLs dt130 (u4_1.2)).1 := e14_2
                have e2'4_2 : (gLp dt130 n4_2 (dt130 (t4_2, false)).2).2 = (dLs dt130 (u4_1.2)).2 := e24_2
                have q4_2_0 : (dNu (t4_2, false)).2.1.length ≤ 1000000 := Nat.le_trans (qNu.len _) g14_2
                have q4_2_1 : (dt70 (dNu (t4_2, false)).2).2.1.length ≤ 1000000 := Nat.le_trans (qt70.len _) q4_2_0
                have qE4_2 : dt130 (t4_2, false) = (((dNu (t4_2, false)).1, (dt70 (dNu (t4_2, false)).2).1), (dt70 (dNu (t4_2, false)).2).2) := by simp only [dt130, gP]
                rw [qE4_2] at e1'4_2 e2'4_2
                refine ⟨(t4_2, false), ?_⟩
                conv => whnf
                refine And.intro (by simp only [allP, List.nil_append, List.cons_append, true_and]; and_intros <;> first | exact g14_2 | (show List.length _ ≤ _; exact g14_2) | rfl) ?_
                (set_option smartUnfolding false in conv => whnf)
                have wu4_2_0 := dNu_w (t4_2, false)
                generalize dNu (t4_2, false) = u4_2_0 at qE4_2 e1'4_2 e2'4_2 q4_2_0 q4_2_1 wu4_2_0 ⊢
                try rw [wu4_2_0]
                refine dI (k := ?_)
                conv => whnf
                refine ⟨u4_2_0.2, ?_⟩
                conv => whnf
                refine And.intro (by simp only [allP, List.nil_append, List.cons_append, true_and]; and_intros <;> first | exact q4_2_0 | (show List.length _ ≤ _; exact q4_2_0) | rfl) ?_
                (set_option smartUnfolding false in conv => whnf)
                generalize dt70 u4_2_0.2 = u4_2_1 at qE4_2 e1'4_2 e2'4_2 q4_2_1 ⊢
                refine dI (k := ?_)
                conv => whnf
                refine dI (k := ?_)
                (set_option smartUnfolding false in conv => whnf)
                refine And.intro (by simp only [allP, List.nil_append, List.cons_append, true_and]; rw [List.length_map]; simp only [List.length_cons, List.length_nil]; omega) ?_
                (set_option smartUnfolding false in conv => whnf)
                refine dI (k := ?_)
                conv => whnf
                refine ⟨⟨(n4_2, out4_2 ++ [(u4_2_0.1, u4_2_1.1)], u4_2_1.2), nextL e1'4_2, e2'4_2, q4_2_1, cntL g24_2⟩, Nat.lt_succ_self n4_2, ?_⟩
                conv => whnf
                rw [List.map_append, List.map_cons, List.map_nil]
                and_intros <;> first | rfl | exact trivial | (simp [pvle]; done) | exact wrL (n := n4_2) (by omega)
            obtain ⟨ho14_2, ho24_2⟩ := exitL e14_2 e24_2 hgo4_2
            rcases stopL hgo4_2 with hd4_2 | ⟨hd4_2, hbd4_2⟩
            · conv => whnf
              rw [hd4_2]
              conv => whnf
              rw [ho14_2, ho24_2]
              generalize dLs dt130 (u4_1.2) = u4_2 at qE4 e1'4 e2'4 q4_2 ⊢
              refine dI (k := ?_)
              (set_option smartUnfolding false in conv => whnf)
              refine And.intro (by simp only [allP, List.nil_append, List.cons_append, true_and]; rw [List.length_map]; simp only [List.length_cons, List.length_nil]; omega) ?_
              (set_option smartUnfolding false in conv => whnf)
              refine dI (k := ?_)
              conv => whnf
              refine ⟨⟨(n4, out4 ++ [(u4_0.1, u4_1.1, u4_2.1)], u4_2.2), nextL e1'4, e2'4, q4_2, cntL g24⟩, Nat.lt_succ_self n4, ?_⟩
              conv => whnf
              rw [List.map_append, List.map_cons, List.map_nil]
              and_intros <;> first | rfl | exact trivial | (simp [pvle]; done) | exact wrL (n := n4) (by omega)
            · obtain ⟨t4_2, bad4_2⟩ := s4_2
              simp only at hbd4_2
              subst hbd4_2
              conv => whnf
              rw [hd4_2]
              conv => whnf
              rw [ho14_2, ho24_2]
              generalize dLs dt130 (u4_1.2) = u4_2 at qE4 e1'4 e2'4 q4_2 ⊢
              refine dI (k := ?_)
              (set_option smartUnfolding false in conv => whnf)
              refine And.intro (by simp only [allP, List.nil_append, List.cons_append, true_and]; rw [List.length_map]; simp only [List.length_cons, List.length_nil]; omega) ?_
              (set_option smartUnfolding false in conv => whnf)
              refine dI (k := ?_)
              conv => whnf
              refine ⟨⟨(n4, out4 ++ [(u4_0.1, u4_1.1, u4_2.1)], u4_2.2), nextL e1'4, e2'4, q4_2, cntL g24⟩, Nat.lt_succ_self n4, ?_⟩
              conv => whnf
              rw [List.map_append, List.map_cons, List.map_nil]
              and_intros <;> first | rfl | exact trivial | (simp [pvle]; done) | exact wrL (n := n4) (by omega)
        obtain ⟨ho14, ho24⟩ := exitL e14 e24 hgo4
        rcases stopL hgo4 with hd4 | ⟨hd4, hbd4⟩
        · conv => whnf
          rw [hd4]
          conv => whnf
          rw [ho14, ho24]
          generalize dLs dt128 (r3.2) = r4 at hE hB hG h4 ⊢
          refine dI (k := ?_)
          (set_option smartUnfolding false in conv => whnf)
          refine ⟨(r0.1, r1.1, r2.1, r3.1, r4.1), ?_⟩
          conv => whnf
          refine And.intro (by simp only [allP, List.nil_append, List.cons_append, true_and]; repeat' (first | exact hB.1 | exact hB.2 | rfl | refine And.intro ?_ ?_)) ?_
          (set_option smartUnfolding false in conv => whnf)
          refine ⟨(r4.2, 4 :: en37 (r0.1, r1.1, r2.1, r3.1, r4.1), l, 60000), ?_⟩
          conv => whnf
          refine And.intro (by simp only [allP, List.nil_append, List.cons_append, true_and]; and_intros <;> first | exact trivial | rfl) ?_
          (set_option smartUnfolding false in conv => whnf)
          generalize hc : (!r4.2.2 && decide (l.length ≤ 60000) && decide (4 :: en37 (r0.1, r1.1, r2.1, r3.1, r4.1) = l)) = c at hG ⊢
          cases c
          · (set_option smartUnfolding false in conv => whnf)
            refine dI (k := ?_)
            (set_option smartUnfolding false in conv => whnf)
            refine dI (k := ?_)
            (set_option smartUnfolding false in conv => whnf)
            rw [hG]
            and_intros <;> first | rfl | exact trivial | (simp [pvle, z37, gSel]; done)
          · (set_option smartUnfolding false in conv => whnf)
            refine dI (k := ?_)
            (set_option smartUnfolding false in conv => whnf)
            refine dI (k := ?_)
            (set_option smartUnfolding false in conv => whnf)
            refine dI (k := ?_)
            (set_option smartUnfolding false in conv => whnf)
            rw [hG]
            and_intros <;> first | rfl | exact trivial | (simp [pvle]; done)
        · obtain ⟨t4, bad4⟩ := s4
          simp only at hbd4
          subst hbd4
          conv => whnf
          rw [hd4]
          conv => whnf
          rw [ho14, ho24]
          generalize dLs dt128 (r3.2) = r4 at hE hB hG h4 ⊢
          refine dI (k := ?_)
          (set_option smartUnfolding false in conv => whnf)
          refine ⟨(r0.1, r1.1, r2.1, r3.1, r4.1), ?_⟩
          conv => whnf
          refine And.intro (by simp only [allP, List.nil_append, List.cons_append, true_and]; repeat' (first | exact hB.1 | exact hB.2 | rfl | refine And.intro ?_ ?_)) ?_
          (set_option smartUnfolding false in conv => whnf)
          refine ⟨(r4.2, 4 :: en37 (r0.1, r1.1, r2.1, r3.1, r4.1), l, 60000), ?_⟩
          conv => whnf
          refine And.intro (by simp only [allP, List.nil_append, List.cons_append, true_and]; and_intros <;> first | exact trivial | rfl) ?_
          (set_option smartUnfolding false in conv => whnf)
          generalize hc : (!r4.2.2 && decide (l.length ≤ 60000) && decide (4 :: en37 (r0.1, r1.1, r2.1, r3.1, r4.1) = l)) = c at hG ⊢
          cases c
          · (set_option smartUnfolding false in conv => whnf)
            refine dI (k := ?_)
            (set_option smartUnfolding false in conv => whnf)
            refine dI (k := ?_)
            (set_option smartUnfolding false in conv => whnf)
            rw [hG]
            and_intros <;> first | rfl | exact trivial | (simp [pvle, z37, gSel]; done)
          · (set_option smartUnfolding false in conv => whnf)
            refine dI (k := ?_)
            (set_option smartUnfolding false in conv => whnf)
            refine dI (k := ?_)
            (set_option smartUnfolding false in conv => whnf)
            refine dI (k := ?_)
            (set_option smartUnfolding false in conv => whnf)
            rw [hG]
            and_intros <;> first | rfl | exact trivial | (simp [pvle]; done)
      · obtain ⟨t3, bad3⟩ := s3
        simp only at hbd3
        subst hbd3
        conv => whnf
        rw [hd3]
        conv => whnf
        rw [ho13, ho23]
        generalize dLs dt124 (r2.2) = r3 at hE hB hG h3 h4 ⊢
        have hsl4 := dSz_le (r3.2)
        have hln4 : (dSz (r3.2)).2.1.length ≤ 1000000 := Nat.le_trans (dSz_len (r3.2)) h3
        refine ⟨r3.2, ?_⟩
        conv => whnf
        refine And.intro (by simp only [allP, List.nil_append, List.cons_append, true_and]; and_intros <;> first | exact h3 | rfl) ?_
        conv => whnf
        refine ⟨{i : Nat × List S128 × In // i.2.1 ++ (gLp dt128 i.1 i.2.2).1 = (dLs dt128 (r3.2)).1 ∧ (gLp dt128 i.1 i.2.2).2 = (dLs dt128 (r3.2)).2 ∧ i.2.2.1.length ≤ 1000000 ∧ i.2.1.length + i.1 ≤ 1000000}, fun i => ⟨[(0, .p false (.sl 1 (bl l))), (2, .ptr 0 0), (3, isI .i64 0), (4, .ptr 1 0), (5, .ptr 2 0), (11, isI .i64 (i.1.1 : Nat))], [(0, .box [.p true (.int .i64 0), .p true .nilsl, .p true .nilsl, .p true .nilsl, .p true .nilsl]), (1, .box [.p false (.sl 1 (bl i.1.2.2.1)), isB i.1.2.2.2]), (2, .box [.p true (.int .i64 r0.1), .p true (.sl 2 (r1.1.map fun x => elOf (pv117 x))), .p true (.sl 3 (r2.1.map fun x => elOf (pv119 x))), .p true (.sl 7 (r3.1.map fun x => elOf (pv124 x))), .rowf 3]), (3, .row 128 3 true false ((i.1.2.1).map fun x => elOf (pv128 x)))], 99⟩, fun i => i.1.1, ⟨⟨((dSz (r3.2)).1, [], (dSz (r3.2)).2), rfl, rfl, hln4, by simp only [List.length_nil]; omega⟩, ?_⟩, ?_⟩
        · conv => whnf
          and_intros <;> first | rfl | exact trivial | (simp [pvle]; done)
        rintro ⟨⟨n4, out4, s4⟩, e14, e24, g14, g24⟩
        show aw _ _ _ _ _ _ ⟨[(0, .p false (.sl 1 (bl l))), (2, .ptr 0 0), (3, isI .i64 0), (4, .ptr 1 0), (5, .ptr 2 0), (11, isI .i64 (n4 : Nat))], [(0, .box [.p true (.int .i64 0), .p true .nilsl, .p true .nilsl, .p true .nilsl, .p true .nilsl]), (1, .box [.p false (.sl 1 (bl s4.1)), isB s4.2]), (2, .box [.p true (.int .i64 r0.1), .p true (.sl 2 (r1.1.map fun x => elOf (pv117 x))), .p true (.sl 3 (r2.1.map fun x => elOf (pv119 x))), .p true (.sl 7 (r3.1.map fun x => elOf (pv124 x))), .rowf 3]), (3, .row 128 3 true false ((out4).map fun x => elOf (pv128 x)))], 99⟩
        simp only at e14 e24 g14 g24
        by_cases hgo4 : 0 < n4 ∧ s4.2 = false
        · obtain ⟨t4, bad4⟩ := s4
          obtain ⟨hn04, hbad4⟩ := hgo4
          simp only at hbad4
          subst hbad4
          cases n4 with
          | zero => omega
          | succ n4 =>
            conv => whnf
            rw [goL]
            conv => whnf
            have e1'4 : out4 ++ (dt128 (t4, false)).1 :: (gLp dt128 n4 (dt128 (t4, false)).2).1 = (dLs dt128 (r3.2)).1 := e14
            have e2'4 : (gLp dt128 n4 (dt128 (t4, false)).2).2 = (dLs dt128 (r3.2)).2 := e24
            have q4_0 : (dNu (t4, false)).2.1.length ≤ 1000000 := Nat.le_trans (qNu.len _) g14
            have q4_1 : (dNu (dNu (t4, false)).2).2.1.length ≤ 1000000 := Nat.le_trans (qNu.len _) q4_0
            have q4_2 : ((dLs dt130) (dNu (dNu (t4, false)).2).2).2.1.length ≤ 1000000 := Nat.le_trans ((qt130.list 72 (by decide) (by decide)).len _) q4_1
            have qE4 : dt128 (t4, false) = (((dNu (t4, false)).1, (dNu (dNu (t4, false)).2).1, ((dLs dt130) (dNu (dNu (t4, false)).2).2).1), ((dLs dt130) (dNu (dNu (t4, false)).2).2).2) := by simp only [dt128, gP]
            rw [qE4] at e1'4 e2'4
            refine ⟨(t4, false), ?_⟩
            conv => whnf
            refine And.intro (by simp only [allP, List.nil_append, List.cons_append, true_and]; and_intros <;> first | exact g14 | (show List.length _ ≤ _; exact g14) | rfl) ?_
            (set_option smartUnfolding false in conv => whnf)
            have wu4_0 := dNu_w (t4, false)
            generalize dNu (t4, false) = u4_0 at qE4 e1'4 e2'4 q4_0 q4_1 q4_2 wu4_0 ⊢
            try rw [wu4_0]
            refine dI (k := ?_)
            conv => whnf
            refine ⟨u4_0.2, ?_⟩
            conv => whnf
            refine And.intro (by simp only [allP, List.nil_append, List.cons_append, true_and]; and_intros <;> first | exact q4_0 | (show List.length _ ≤ _; exact q4_0) | rfl) ?_
            (set_option smartUnfolding false in conv => whnf)
            have wu4_1 := dNu_w u4_0.2
            generalize dNu u4_0.2 = u4_1 at qE4 e1'4 e2'4 q4_1 q4_2 wu4_1 ⊢
            try rw [wu4_1]
            refine dI (k := ?_)
            conv => whnf
            have hsl4_2 := dSz_le (u4_1.2)
            have hln4_2 : (dSz (u4_1.2)).2.1.length ≤ 1000000 := Nat.le_trans (dSz_len (u4_1.2)) q4_1
            refine ⟨u4_1.2, ?_⟩
            conv => whnf
            refine And.intro (by simp only [allP, List.nil_append, List.cons_append, true_and]; and_intros <;> first | exact q4_1 | rfl) ?_
            conv => whnf
            refine ⟨{i : Nat × List S130 × In // i.2.1 ++ (gLp dt130 i.1 i.2.2).1 = (dLs dt130 (u4_1.2)).1 ∧ (gLp dt130 i.1 i.2.2).2 = (dLs dt130 (u4_1.2)).2 ∧ i.2.2.1.length ≤ 1000000 ∧ i.2.1.length + i.1 ≤ 1000000}, fun i => ⟨[(0, .p false (.sl 1 (bl l))), (2, .ptr 0 0), (3, isI .i64 0), (4, .ptr 1 0), (5, .ptr 2 0), (11, isI .i64 (n4 + 1 : Nat)), (12, .ptr 4 0), (13, isI .i64 (i.1.1 : Nat))], [(0, .box [.p true (.int .i64 0), .p true .nilsl, .p true .nilsl, .p true .nilsl, .p true .nilsl]), (1, .box [.p false (.sl 1 (bl i.1.2.2.1)), isB i.1.2.2.2]), (2, .box [.p true (.int .i64 r0.1), .p true (.sl 2 (r1.1.map fun x => elOf (pv117 x))), .p true (.sl 3 (r2.1.map fun x => elOf (pv119 x))), .p true (.sl 7 (r3.1.map fun x => elOf (pv124 x))), .rowf 3]), (3, .row 128 3 true false ((out4).map fun x => elOf (pv128 x))), (4, .box [.p true (.int .i64 u4_0.1), .p true (.int .i64 u4_1.1), .rowf 5]), (5, .row 130 7 true false ((i.1.2.1).map fun x => elOf (pv130 x)))], 99⟩, fun i => i.1.1, ⟨⟨((dSz (u4_1.2)).1, [], (dSz (u4_1.2)).2), rfl, rfl, hln4_2, by simp only [List.length_nil]; omega⟩, ?_⟩, ?_⟩
            · conv => whnf
              and_intros <;> first | rfl | exact trivial | (simp [pvle]; done)
            rintro ⟨⟨n4_2, out4_2, s4_2⟩, e14_2, e24_2, g14_2, g24_2⟩
            show aw _ _ _ _ _ _ ⟨[(0, .p false (.sl 1 (bl l))), (2, .ptr 0 0), (3, isI .i64 0), (4, .ptr 1 0), (5, .ptr 2 0), (11, isI .i64 (n4 + 1 : Nat)), (12, .ptr 4 0), (13, isI .i64 (n4_2 : Nat))], [(0, .box [.p true (.int .i64 0), .p true .nilsl, .p true .nilsl, .p true .nilsl, .p true .nilsl]), (1, .box [.p false (.sl 1 (bl s4_2.1)), isB s4_2.2]), (2, .box [.p true (.int .i64 r0.1), .p true (.sl 2 (r1.1.map fun x => elOf (pv117 x))), .p true (.sl 3 (r2.1.map fun x => elOf (pv119 x))), .p true (.sl 7 (r3.1.map fun x => elOf (pv124 x))), .rowf 3]), (3, .row 128 3 true false ((out4).map fun x => elOf (pv128 x))), (4, .box [.p true (.int .i64 u4_0.1), .p true (.int .i64 u4_1.1), .rowf 5]), (5, .row 130 7 true false ((out4_2).map fun x => elOf (pv130 x)))], 99⟩
            simp only at e14_2 e24_2 g14_2 g24_2
            by_cases hgo4_2 : 0 < n4_2 ∧ s4_2.2 = false
            · obtain ⟨t4_2, bad4_2⟩ := s4_2
              obtain ⟨hn04_2, hbad4_2⟩ := hgo4_2
              simp only at hbad4_2
              subst hbad4_2
              cases n4_2 with
              | zero => omega
              | succ n4_2 =>
                conv => whnf
                rw [goL]
                conv => whnf
                have e1'4_2 : out4_2 ++ (dt130 (t4_2, false)).1 :: (gLp dt130 n4_2 (dt130 (t4_2, false)).2).1 = (dLs dt130 (u4_1.2)).1 := e14_2
                have e2'4_2 : (gLp dt130 n4_2 (dt130 (t4_2, false)).2).2 = (dLs dt130 (u4_1.2)).2 := e24_2
                have q4_2_0 : (dNu (t4_2, false)).2.1.length ≤ 1000000 := Nat.le_trans (qNu.len _) g14_2
                have q4_2_1 : (dt70 (dNu (t4_2, false)).2).2.1.length ≤ 1000000 := Nat.le_trans (qt70.len _) q4_2_0
                have qE4_2 : dt130 (t4_2, false) = (((dNu (t4_2, false)).1, (dt70 (dNu (t4_2, false)).2).1), (dt70 (dNu (t4_2, false)).2).2) := by simp only [dt130, gP]
                rw [qE4_2] at e1'4_2 e2'4_2
                refine ⟨(t4_2, false), ?_⟩
                conv => whnf
                refine And.intro (by simp only [allP, List.nil_append, List.cons_append, true_and]; and_intros <;> first | exact g14_2 | (show List.length _ ≤ _; exact g14_2) | rfl) ?_
                (set_option smartUnfolding false in conv => whnf)
                have wu4_2_0 := dNu_w (t4_2, false)
                generalize dNu (t4_2, false) = u4_2_0 at qE4_2 e1'4_2 e2'4_2 q4_2_0 q4_2_1 wu4_2_0 ⊢
                try rw [wu4_2_0]
                refine dI (k := ?_)
                conv => whnf
                refine ⟨u4_2_0.2, ?_⟩
                conv => whnf
                refine And.intro (by simp only [allP, List.nil_append, List.cons_append, true_and]; and_intros <;> first | exact q4_2_0 | (show List.length _ ≤ _; exact q4_2_0) | rfl) ?_
                (set_option smartUnfolding false in conv => whnf)
                generalize dt70 u4_2_0.2 = u4_2_1 at qE4_2 e1'4_2 e2'4_2 q4_2_1 ⊢
                refine dI (k := ?_)
                conv => whnf
                refine dI (k := ?_)
                (set_option smartUnfolding false in conv => whnf)
                refine And.intro (by simp only [allP, List.nil_append, List.cons_append, true_and]; rw [List.length_map]; simp only [List.length_cons, List.length_nil]; omega) ?_
                (set_option smartUnfolding false in conv => whnf)
                refine dI (k := ?_)
                conv => whnf
                refine ⟨⟨(n4_2, out4_2 ++ [(u4_2_0.1, u4_2_1.1)], u4_2_1.2), nextL e1'4_2, e2'4_2, q4_2_1, cntL g24_2⟩, Nat.lt_succ_self n4_2, ?_⟩
                conv => whnf
                rw [List.map_append, List.map_cons, List.map_nil]
                and_intros <;> first | rfl | exact trivial | (simp [pvle]; done) | exact wrL (n := n4_2) (by omega)
            obtain ⟨ho14_2, ho24_2⟩ := exitL e14_2 e24_2 hgo4_2
            rcases stopL hgo4_2 with hd4_2 | ⟨hd4_2, hbd4_2⟩
            · conv => whnf
              rw [hd4_2]
              conv => whnf
              rw [ho14_2, ho24_2]
              generalize dLs dt130 (u4_1.2) = u4_2 at qE4 e1'4 e2'4 q4_2 ⊢
              refine dI (k := ?_)
              (set_option smartUnfolding false in conv => whnf)
              refine And.intro (by simp only [allP, List.nil_append, List.cons_append, true_and]; rw [List.length_map]; simp only [List.length_cons, List.length_nil]; omega) ?_
              (set_option smartUnfolding false in conv => whnf)
              refine dI (k := ?_)
              conv => whnf
              refine ⟨⟨(n4, out4 ++ [(u4_0.1, u4_1.1, u4_2.1)], u4_2.2), nextL e1'4, e2'4, q4_2, cntL g24⟩, Nat.lt_succ_self n4, ?_⟩
              conv => whnf
              rw [List.map_append, List.map_cons, List.map_nil]
              and_intros <;> first | rfl | exact trivial | (simp [pvle]; done) | exact wrL (n := n4) (by omega)
            · obtain ⟨t4_2, bad4_2⟩ := s4_2
              simp only at hbd4_2
              subst hbd4_2
              conv => whnf
              rw [hd4_2]
              conv => whnf
              rw [ho14_2, ho24_2]
              generalize dLs dt130 (u4_1.2) = u4_2 at qE4 e1'4 e2'4 q4_2 ⊢
              refine dI (k := ?_)
              (set_option smartUnfolding false in conv => whnf)
              refine And.intro (by simp only [allP, List.nil_append, List.cons_append, true_and]; rw [List.length_map]; simp only [List.length_cons, List.length_nil]; omega) ?_
              (set_option smartUnfolding false in conv => whnf)
              refine dI (k := ?_)
              conv => whnf
              refine ⟨⟨(n4, out4 ++ [(u4_0.1, u4_1.1, u4_2.1)], u4_2.2), nextL e1'4, e2'4, q4_2, cntL g24⟩, Nat.lt_succ_self n4, ?_⟩
              conv => whnf
              rw [List.map_append, List.map_cons, List.map_nil]
              and_intros <;> first | rfl | exact trivial | (simp [pvle]; done) | exact wrL (n := n4) (by omega)
        obtain ⟨ho14, ho24⟩ := exitL e14 e24 hgo4
        rcases stopL hgo4 with hd4 | ⟨hd4, hbd4⟩
        · conv => whnf
          rw [hd4]
          conv => whnf
          rw [ho14, ho24]
          generalize dLs dt128 (r3.2) = r4 at hE hB hG h4 ⊢
          refine dI (k := ?_)
          (set_option smartUnfolding false in conv => whnf)
          refine ⟨(r0.1, r1.1, r2.1, r3.1, r4.1), ?_⟩
          conv => whnf
          refine And.intro (by simp only [allP, List.nil_append, List.cons_append, true_and]; repeat' (first | exact hB.1 | exact hB.2 | rfl | refine And.intro ?_ ?_)) ?_
          (set_option smartUnfolding false in conv => whnf)
          refine ⟨(r4.2, 4 :: en37 (r0.1, r1.1, r2.1, r3.1, r4.1), l, 60000), ?_⟩
          conv => whnf
          refine And.intro (by simp only [allP, List.nil_append, List.cons_append, true_and]; and_intros <;> first | exact trivial | rfl) ?_
          (set_option smartUnfolding false in conv => whnf)
          generalize hc : (!r4.2.2 && decide (l.length ≤ 60000) && decide (4 :: en37 (r0.1, r1.1, r2.1, r3.1, r4.1) = l)) = c at hG ⊢
          cases c
          · (set_option smartUnfolding false in conv => whnf)
            refine dI (k := ?_)
            (set_option smartUnfolding false in conv => whnf)
            refine dI (k := ?_)
            (set_option smartUnfolding false in conv => whnf)
            rw [hG]
            and_intros <;> first | rfl | exact trivial | (simp [pvle, z37, gSel]; done)
          · (set_option smartUnfolding false in conv => whnf)
            refine dI (k := ?_)
            (set_option smartUnfolding false in conv => whnf)
            refine dI (k := ?_)
            (set_option smartUnfolding false in conv => whnf)
            refine dI (k := ?_)
            (set_option smartUnfolding false in conv => whnf)
            rw [hG]
            and_intros <;> first | rfl | exact trivial | (simp [pvle]; done)
        · obtain ⟨t4, bad4⟩ := s4
          simp only at hbd4
          subst hbd4
          conv => whnf
          rw [hd4]
          conv => whnf
          rw [ho14, ho24]
          generalize dLs dt128 (r3.2) = r4 at hE hB hG h4 ⊢
          refine dI (k := ?_)
          (set_option smartUnfolding false in conv => whnf)
          refine ⟨(r0.1, r1.1, r2.1, r3.1, r4.1), ?_⟩
          conv => whnf
          refine And.intro (by simp only [allP, List.nil_append, List.cons_append, true_and]; repeat' (first | exact hB.1 | exact hB.2 | rfl | refine And.intro ?_ ?_)) ?_
          (set_option smartUnfolding false in conv => whnf)
          refine ⟨(r4.2, 4 :: en37 (r0.1, r1.1, r2.1, r3.1, r4.1), l, 60000), ?_⟩
          conv => whnf
          refine And.intro (by simp only [allP, List.nil_append, List.cons_append, true_and]; and_intros <;> first | exact trivial | rfl) ?_
          (set_option smartUnfolding false in conv => whnf)
          generalize hc : (!r4.2.2 && decide (l.length ≤ 60000) && decide (4 :: en37 (r0.1, r1.1, r2.1, r3.1, r4.1) = l)) = c at hG ⊢
          cases c
          · (set_option smartUnfolding false in conv => whnf)
            refine dI (k := ?_)
            (set_option smartUnfolding false in conv => whnf)
            refine dI (k := ?_)
            (set_option smartUnfolding false in conv => whnf)
            rw [hG]
            and_intros <;> first | rfl | exact trivial | (simp [pvle, z37, gSel]; done)
          · (set_option smartUnfolding false in conv => whnf)
            refine dI (k := ?_)
            (set_option smartUnfolding false in conv => whnf)
            refine dI (k := ?_)
            (set_option smartUnfolding false in conv => whnf)
            refine dI (k := ?_)
            (set_option smartUnfolding false in conv => whnf)
            rw [hG]
            and_intros <;> first | rfl | exact trivial | (simp [pvle]; done)
theorem DGetMetas_sound : Sound Tryz.prog 12 cDGetMetas := does_sound mixed tabOk_prog gF2_ok Tryz.func12 DGetMetas_does
def gF3 : List (FuncId × Ctr) := (12, cDGetMetas) :: gF2
theorem gF3_ok : GamOk Tryz.prog gF3 := GamOk.cons gF2_ok Tryz.func12 (by kernel_rfl) (by kernel_rfl) DGetMetas_sound
def gDGets : List (FuncId × Ctr) := gF3
theorem gDGets_ok : GamOk Tryz.prog gDGets := gF3_ok
end Go.Proofs.YtingmlhhabaplaaGreat.Ev
