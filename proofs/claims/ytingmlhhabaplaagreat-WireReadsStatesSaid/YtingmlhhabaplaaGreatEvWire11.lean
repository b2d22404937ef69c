/- Wire: what the document reads: parts got. No conditions. -/
import Derived.Test.YtingmlhhabaplaaGreatEvWire10
import Derived.Test.YtingmlhhabaplaaGreatEvWire8b
import Derived.Test.YtingmlhhabaplaaGreatEvWire3g
namespace Go.Proofs.YtingmlhhabaplaaGreat.Ev
open Go
set_option linter.unusedVariables false
set_option linter.unusedSimpArgs false
set_option maxRecDepth 100000
set_option maxHeartbeats 4000000
def gF0 : List (FuncId × Ctr) := (42, cTBegin) :: (46, cTIs) :: (gD7 ++ gDocsS)
theorem gF0_ok : GamOk Tryz.prog gF0 := GamOk.cons (GamOk.cons (GamOk.app gD7_ok gDocsS_ok) Tryz.func46 (by kernel_rfl) (by kernel_rfl) tis_sound) Tryz.func42 (by kernel_rfl) (by kernel_rfl) tbegin_sound
def dt111 : In → S111 × In := (gP dNu (gP dNu dNu))
theorem qt111 : DL dt111 en111 ok111 3 := ((qNu.pair (qNu.pair qNu)) : DL ((gP dNu (gP dNu dNu))) _ _ _).mono (by decide)
def dt109 : In → S109 × In := (gP dNu (gP dNu (gP dNu (dLs dt111))))
theorem qt109 : DL dt109 en109 ok109 7 := ((qNu.pair (qNu.pair (qNu.pair (qt111.list 24 (by decide) (by decide))))) : DL ((gP dNu (gP dNu (gP dNu (dLs dt111))))) _ _ _).mono (by decide)
def dt28 : In → S28 × In := (gP dNu (gP dNu (gP (dLs dRc) (dLs dt109))))
theorem qt28 : DL dt28 en28 ok28 12 := ((qNu.pair (qNu.pair ((qRc.list 24 (by decide) (by decide)).pair (qt109.list 48 (by decide) (by decide))))) : DL ((gP dNu (gP dNu (gP (dLs dRc) (dLs dt109))))) _ _ _).mono (by decide)
abbrev cDGetParts : Ctr := cGet2 gt28 3 60000 z28 (fun x : S28 => .agg ((pv28 x).map (AV.p true)))
theorem DGetParts_does : Does gF0 tab Tryz.f10 cDGetParts := by
  rintro l -
  have hl : (dBg l).1.length ≤ 1000000 := Nat.le_trans (dBg_len l) (by decide)
  have h0 : (dNu (dBg l)).2.1.length ≤ 1000000 := Nat.le_trans (qNu.len _) hl
  have h1 : (dNu (dNu (dBg l)).2).2.1.length ≤ 1000000 := Nat.le_trans (qNu.len _) h0
  have h2 : ((dLs dRc) (dNu (dNu (dBg l)).2).2).2.1.length ≤ 1000000 := Nat.le_trans ((qRc.list 24 (by decide) (by decide)).len _) h1
  have h3 : ((dLs dt109) ((dLs dRc) (dNu (dNu (dBg l)).2).2).2).2.1.length ≤ 1000000 := Nat.le_trans ((qt109.list 48 (by decide) (by decide)).len _) h2
  have hE : dt28 (dBg l) = (((dNu (dBg l)).1, (dNu (dNu (dBg l)).2).1, ((dLs dRc) (dNu (dNu (dBg l)).2).2).1, ((dLs dt109) ((dLs dRc) (dNu (dNu (dBg l)).2).2).2).1), ((dLs dt109) ((dLs dRc) (dNu (dNu (dBg l)).2).2).2).2) := by simp only [dt28, gP]
  obtain ⟨hok, hlen, -⟩ := qt28.bnd (dBg l) hl
  have hB : ok28 (dt28 (dBg l)).1 ∧ (en28 (dt28 (dBg l)).1).length ≤ 900000000000 := ⟨hok, by omega⟩
  have hG := dGet_eq rt28 qt28 3 60000 (by decide) z28 l
  clear hok hlen
  rw [hE] at hB hG
  simp only at hB hG
  conv => whnf
  refine ⟨l, ?_⟩
  conv => whnf
  refine And.intro (by simp only [allP, List.nil_append, List.cons_append, true_and]; and_intros <;> first | exact trivial | rfl) ?_
  conv => whnf
  refine ⟨(dBg l), ?_⟩
  conv => whnf
  refine And.intro (by simp only [allP, List.nil_append, List.cons_append, true_and]; and_intros <;> first | exact hl | (show List.length _ ≤ _; exact hl) | rfl) ?_
  (set_option smartUnfolding false in conv => whnf)
  have wr0 := dNu_w (dBg l)
  generalize dNu (dBg l) = r0 at hE hB hG h0 h1 h2 h3 wr0 ⊢
  try rw [wr0]
  refine dI (k := ?_)
  conv => whnf
  refine ⟨r0.2, ?_⟩
  conv => whnf
  refine And.intro (by simp only [allP, List.nil_append, List.cons_append, true_and]; and_intros <;> first | exact h0 | (show List.length _ ≤ _; exact h0) | rfl) ?_
  (set_option smartUnfolding false in conv => whnf)
  have wr1 := dNu_w r0.2
  generalize dNu r0.2 = r1 at hE hB hG h1 h2 h3 wr1 ⊢
  try rw [wr1]
  refine dI (k := ?_)
  conv => whnf
  refine ⟨r1.2, ?_⟩
  conv => whnf
  refine And.intro (by simp only [allP, List.nil_append, List.cons_append, true_and]; and_intros <;> first | exact h1 | (show List.length _ ≤ _; exact h1) | rfl) ?_
  (set_option smartUnfolding false in conv => whnf)
  generalize (dLs dRc) r1.2 = r2 at hE hB hG h2 h3 ⊢
  refine dI (k := ?_)
  conv => whnf
  have hsl3 := dSz_le (r2.2)
  have hln3 : (dSz (r2.2)).2.1.length ≤ 1000000 := Nat.le_trans (dSz_len (r2.2)) h2
  refine ⟨r2.2, ?_⟩
  conv => whnf
  refine And.intro (by simp only [allP, List.nil_append, List.cons_append, true_and]; and_intros <;> first | exact h2 | rfl) ?_
  conv => whnf
  refine ⟨{i : Nat × List S109 × In // i.2.1 ++ (gLp dt109 i.1 i.2.2).1 = (dLs dt109 (r2.2)).1 ∧ (gLp dt109 i.1 i.2.2).2 = (dLs dt109 (r2.2)).2 ∧ i.2.2.1.length ≤ 1000000 ∧ i.2.1.length + i.1 ≤ 1000000}, fun i => ⟨[(0, .p false (.sl 1 (bl l))), (2, .ptr 0 0), (3, isI .i64 0), (4, .ptr 1 0), (5, .ptr 2 0), (6, isI .i64 (i.1.1 : Nat))], [(0, .box [.p true (.int .i64 0), .p true (.int .i64 0), .p true .nilsl, .p true .nilsl]), (1, .box [.p false (.sl 1 (bl i.1.2.2.1)), isB i.1.2.2.2]), (2, .box [.p true (.int .i64 r0.1), .p true (.int .i64 r1.1), .p true (.sl 1 (r2.1.map fun x => elOf [.sl 1 (bl x)])), .rowf 3]), (3, .row 109 4 true false ((i.1.2.1).map fun x => elOf (pv109 x)))], 99⟩, fun i => i.1.1, ⟨⟨((dSz (r2.2)).1, [], (dSz (r2.2)).2), rfl, rfl, hln3, by simp only [List.length_nil]; omega⟩, ?_⟩, ?_⟩
  · conv => whnf
    and_intros <;> first | rfl | exact trivial | (simp [pvle]; done)
  rintro ⟨⟨n3, out3, s3⟩, e13, e23, g13, g23⟩
  show aw _ _ _ _ _ _ ⟨[(0, .p false (.sl 1 (bl l))), (2, .ptr 0 0), (3, isI .i64 0), (4, .ptr 1 0), (5, .ptr 2 0), (6, isI .i64 (n3 : Nat))], [(0, .box [.p true (.int .i64 0), .p true (.int .i64 0), .p true .nilsl, .p true .nilsl]), (1, .box [.p false (.sl 1 (bl s3.1)), isB s3.2]), (2, .box [.p true (.int .i64 r0.1), .p true (.int .i64 r1.1), .p true (.sl 1 (r2.1.map fun x => elOf [.sl 1 (bl x)])), .rowf 3]), (3, .row 109 4 true false ((out3).map fun x => elOf (pv109 x)))], 99⟩
  simp only at e13 e23 g13 g23
  by_cases hgo3 : 0 < n3 ∧ s3.2 = false
  · obtain ⟨t3, bad3⟩ := s3
    obtain ⟨hn03, hbad3⟩ := hgo3
    simp only at hbad3
    subst hbad3
    cases n3 with
    | zero => omega
    | succ n3 =>
      conv => whnf
      rw [goL]
      conv => whnf
      have e1'3 : out3 ++ (dt109 (t3, false)).1 :: (gLp dt109 n3 (dt109 (t3, false)).2).1 = (dLs dt109 (r2.2)).1 := e13
      have e2'3 : (gLp dt109 n3 (dt109 (t3, false)).2).2 = (dLs dt109 (r2.2)).2 := e23
      have q3_0 : (dNu (t3, false)).2.1.length ≤ 1000000 := Nat.le_trans (qNu.len _) g13
      have q3_1 : (dNu (dNu (t3, false)).2).2.1.length ≤ 1000000 := Nat.le_trans (qNu.len _) q3_0
      have q3_2 : (dNu (dNu (dNu (t3, false)).2).2).2.1.length ≤ 1000000 := Nat.le_trans (qNu.len _) q3_1
      have q3_3 : ((dLs dt111) (dNu (dNu (dNu (t3, false)).2).2).2).2.1.length ≤ 1000000 := Nat.le_trans ((qt111.list 24 (by decide) (by decide)).len _) q3_2
      have qE3 : dt109 (t3, false) = (((dNu (t3, false)).1, (dNu (dNu (t3, false)).2).1, (dNu (dNu (dNu (t3, false)).2).2).1, ((dLs dt111) (dNu (dNu (dNu (t3, false)).2).2).2).1), ((dLs dt111) (dNu (dNu (dNu (t3, false)).2).2).2).2) := by simp only [dt109, gP]
      rw [qE3] at e1'3 e2'3
      refine ⟨(t3, false), ?_⟩
      conv => whnf
      refine And.intro (by simp only [allP, List.nil_append, List.cons_append, true_and]; and_intros <;> first | exact g13 | (show List.length _ ≤ _; exact g13) | rfl) ?_
      (set_option smartUnfolding false in conv => whnf)
      have wu3_0 := dNu_w (t3, false)
      generalize dNu (t3, false) = u3_0 at qE3 e1'3 e2'3 q3_0 q3_1 q3_2 q3_3 wu3_0 ⊢
      try rw [wu3_0]
      refine dI (k := ?_)
      conv => whnf
      refine ⟨u3_0.2, ?_⟩
      conv => whnf
      refine And.intro (by simp only [allP, List.nil_append, List.cons_append, true_and]; and_intros <;> first | exact q3_0 | (show List.length _ ≤ _; exact q3_0) | rfl) ?_
      (set_option smartUnfolding false in conv => whnf)
      have wu3_1 := dNu_w u3_0.2
      generalize dNu u3_0.2 = u3_1 at qE3 e1'3 e2'3 q3_1 q3_2 q3_3 wu3_1 ⊢
      try rw [wu3_1]
      refine dI (k := ?_)
      conv => whnf
      refine ⟨u3_1.2, ?_⟩
      conv => whnf
      refine And.intro (by simp only [allP, List.nil_append, List.cons_append, true_and]; and_intros <;> first | exact q3_1 | (show List.length _ ≤ _; exact q3_1) | rfl) ?_
      (set_option smartUnfolding false in conv => whnf)
      have wu3_2 := dNu_w u3_1.2
      generalize dNu u3_1.2 = u3_2 at qE3 e1'3 e2'3 q3_2 q3_3 wu3_2 ⊢
      try rw [wu3_2]
      refine dI (k := ?_)
      conv => whnf
      have hsl3_3 := dSz_le (u3_2.2)
      have hln3_3 : (dSz (u3_2.2)).2.1.length ≤ 1000000 := Nat.le_trans (dSz_len (u3_2.2)) q3_2
      refine ⟨u3_2.2, ?_⟩
      conv => whnf
      refine And.intro (by simp only [allP, List.nil_append, List.cons_append, true_and]; and_intros <;> first | exact q3_2 | rfl) ?_
      conv => whnf
      refine ⟨{i : Nat × List S111 × In // i.2.1 ++ (gLp dt111 i.1 i.2.2).1 = (dLs dt111 (u3_2.2)).1 ∧ (gLp dt111 i.1 i.2.2).2 = (dLs dt111 (u3_2.2)).2 ∧ i.2.2.1.length ≤ 1000000 ∧ i.2.1.length + i.1 ≤ 1000000}, fun i => ⟨[(0, .p false (.sl 1 (bl l))), (2, .ptr 0 0), (3, isI .i64 0), (4, .ptr 1 0), (5, .ptr 2 0), (6, isI .i64 (n3 + 1 : Nat)), (7, .ptr 4 0), (8, isI .i64 (i.1.1 : Nat))], [(0, .box [.p true (.int .i64 0), .p true (.int .i64 0), .p true .nilsl, .p true .nilsl]), (1, .box [.p false (.sl 1 (bl i.1.2.2.1)), isB i.1.2.2.2]), (2, .box [.p true (.int .i64 r0.1), .p true (.int .i64 r1.1), .p true (.sl 1 (r2.1.map fun x => elOf [.sl 1 (bl x)])), .rowf 3]), (3, .row 109 4 true false ((out3).map fun x => elOf (pv109 x))), (4, .box [.p true (.int .i64 u3_0.1), .p true (.int .i64 u3_1.1), .p true (.int .i64 u3_2.1), .rowf 5]), (5, .row 111 3 true false ((i.1.2.1).map fun x => elOf (pv111 x)))], 99⟩, fun i => i.1.1, ⟨⟨((dSz (u3_2.2)).1, [], (dSz (u3_2.2)).2), rfl, rfl, hln3_3, by simp only [List.length_nil]; omega⟩, ?_⟩, ?_⟩
      · conv => whnf
        and_intros <;> first | rfl | exact trivial | (simp [pvle]; done)
      rintro ⟨⟨n3_3, out3_3, s3_3⟩, e13_3, e23_3, g13_3, g23_3⟩
      show aw _ _ _ _ _ _ ⟨[(0, .p false (.sl 1 (bl l))), (2, .ptr 0 0), (3, isI .i64 0), (4, .ptr 1 0), (5, .ptr 2 0), (6, isI .i64 (n3 + 1 : Nat)), (7, .ptr 4 0), (8, isI .i64 (n3_3 : Nat))], [(0, .box [.p true (.int .i64 0), .p true (.int .i64 0), .p true .nilsl, .p true .nilsl]), (1, .box [.p false (.sl 1 (bl s3_3.1)), isB s3_3.2]), (2, .box [.p true (.int .i64 r0.1), .p true (.int .i64 r1.1), .p true (.sl 1 (r2.1.map fun x => elOf [.sl 1 (bl x)])), .rowf 3]), (3, .row 109 4 true false ((out3).map fun x => elOf (pv109 x))), (4, .box [.p true (.int .i64 u3_0.1), .p true (.int .i64 u3_1.1), .p true (.int .i64 u3_2.1), .rowf 5]), (5, .row 111 3 true false ((out3_3).map fun x => elOf (pv111 x)))], 99⟩
      simp only at e13_3 e23_3 g13_3 g23_3
      by_cases hgo3_3 : 0 < n3_3 ∧ s3_3.2 = false
      · obtain ⟨t3_3, bad3_3⟩ := s3_3
        obtain ⟨hn03_3, hbad3_3⟩ := hgo3_3
        simp only at hbad3_3
        subst hbad3_3
        cases n3_3 with
        | zero => omega
        | succ n3_3 =>
          conv => whnf
          rw [goL]
          conv => whnf
          have e1'3_3 : out3_3 ++ (dt111 (t3_3, false)).1 :: (gLp dt111 n3_3 (dt111 (t3_3, false)).2).1 = (dLs dt111 (u3_2.2)).1 := e13_3
          have e2'3_3 : (gLp dt111 n3_3 (dt111 (t3_3, false)).2).2 = (dLs dt111 (u3_2.2)).2 := e23_3
          have q3_3_0 : (dNu (t3_3, false)).2.1.length ≤ 1000000 := Nat.le_trans (qNu.len _) g13_3
          have q3_3_1 : (dNu (dNu (t3_3, false)).2).2.1.length ≤ 1000000 := Nat.le_trans (qNu.len _) q3_3_0
          have q3_3_2 : (dNu (dNu (dNu (t3_3, false)).2).2).2.1.length ≤ 1000000 := Nat.le_trans (qNu.len _) q3_3_1
          have qE3_3 : dt111 (t3_3, false) = (((dNu (t3_3, false)).1, (dNu (dNu (t3_3, false)).2).1, (dNu (dNu (dNu (t3_3, false)).2).2).1), (dNu (dNu (dNu (t3_3, false)).2).2).2) := by simp only [dt111, gP]
          rw [qE3_3] at e1'3_3 e2'3_3
          refine ⟨(t3_3, false), ?_⟩
          conv => whnf
          refine And.intro (by simp only [allP, List.nil_append, List.cons_append, true_and]; and_intros <;> first | exact g13_3 | (show List.length _ ≤ _; exact g13_3) | rfl) ?_
          (set_option smartUnfolding false in conv => whnf)
          have wu3_3_0 := dNu_w (t3_3, false)
          generalize dNu (t3_3, false) = u3_3_0 at qE3_3 e1'3_3 e2'3_3 q3_3_0 q3_3_1 q3_3_2 wu3_3_0 ⊢
          try rw [wu3_3_0]
          refine dI (k := ?_)
          conv => whnf
          refine ⟨u3_3_0.2, ?_⟩
          conv => whnf
          refine And.intro (by simp only [allP, List.nil_append, List.cons_append, true_and]; and_intros <;> first | exact q3_3_0 | (show List.length _ ≤ _; exact q3_3_0) | rfl) ?_
          (set_option smartUnfolding false in conv => whnf)
          have wu3_3_1 := dNu_w u3_3_0.2
          generalize dNu u3_3_0.2 = u3_3_1 at qE3_3 e1'3_3 e2'3_3 q3_3_1 q3_3_2 wu3_3_1 ⊢
          try rw [wu3_3_1]
          refine dI (k := ?_)
          conv => whnf
          refine ⟨u3_3_1.2, ?_⟩
          conv => whnf
          refine And.intro (by simp only [allP, List.nil_append, List.cons_append, true_and]; and_intros <;> first | exact q3_3_1 | (show List.length _ ≤ _; exact q3_3_1) | rfl) ?_
          (set_option smartUnfolding false in conv => whnf)
          have wu3_3_2 := dNu_w u3_3_1.2
          generalize dNu u3_3_1.2 = u3_3_2 at qE3_3 e1'3_3 e2'3_3 q3_3_2 wu3_3_2 ⊢
          try rw [wu3_3_2]
          refine dI (k := ?_)
          conv => whnf
          refine dI (k := ?_)
          (set_option smartUnfolding false in conv => whnf)
          refine And.intro (by simp only [allP, List.nil_append, List.cons_append, true_and]; rw [List.length_map]; simp only [List.length_cons, List.length_nil]; omega) ?_
          (set_option smartUnfolding false in conv => whnf)
          refine dI (k := ?_)
          conv => whnf
          refine ⟨⟨(n3_3, out3_3 ++ [(u3_3_0.1, u3_3_1.1, u3_3_2.1)], u3_3_2.2), nextL e1'3_3, e2'3_3, q3_3_2, cntL g23_3⟩, Nat.lt_succ_self n3_3, ?_⟩
          conv => whnf
          rw [List.map_append, List.map_cons, List.map_nil]
          and_intros <;> first | rfl | exact trivial | (simp [pvle]; done) | exact wrL (n := n3_3) (by omega)
      obtain ⟨ho13_3, ho23_3⟩ := exitL e13_3 e23_3 hgo3_3
      rcases stopL hgo3_3 with hd3_3 | ⟨hd3_3, hbd3_3⟩
      · conv => whnf
        rw [hd3_3]
        conv => whnf
        rw [ho13_3, ho23_3]
        generalize dLs dt111 (u3_2.2) = u3_3 at qE3 e1'3 e2'3 q3_3 ⊢
        refine dI (k := ?_)
        (set_option smartUnfolding false in conv => whnf)
        refine And.intro (by simp only [allP, List.nil_append, List.cons_append, true_and]; rw [List.length_map]; simp only [List.length_cons, List.length_nil]; omega) ?_
        (set_option smartUnfolding false in conv => whnf)
        refine dI (k := ?_)
        conv => whnf
        refine ⟨⟨(n3, out3 ++ [(u3_0.1, u3_1.1, u3_2.1, u3_3.1)], u3_3.2), nextL e1'3, e2'3, q3_3, cntL g23⟩, Nat.lt_succ_self n3, ?_⟩
        conv => whnf
        rw [List.map_append, List.map_cons, List.map_nil]
        and_intros <;> first | rfl | exact trivial | (simp [pvle]; done) | exact wrL (n := n3) (by omega)
      · obtain ⟨t3_3, bad3_3⟩ := s3_3
        simp only at hbd3_3
        subst hbd3_3
        conv => whnf
        rw [hd3_3]
        conv => whnf
        rw [ho13_3, ho23_3]
        generalize dLs dt111 (u3_2.2) = u3_3 at qE3 e1'3 e2'3 q3_3 ⊢
        refine dI (k := ?_)
        (set_option smartUnfolding false in conv => whnf)
        refine And.intro (by simp only [allP, List.nil_append, List.cons_append, true_and]; rw [List.length_map]; simp only [List.length_cons, List.length_nil]; omega) ?_
        (set_option smartUnfolding false in conv => whnf)
        refine dI (k := ?_)
        conv => whnf
        refine ⟨⟨(n3, out3 ++ [(u3_0.1, u3_1.1, u3_2.1, u3_3.1)], u3_3.2), nextL e1'3, e2'3, q3_3, cntL g23⟩, Nat.lt_succ_self n3, ?_⟩
        conv => whnf
        rw [List.map_append, List.map_cons, List.map_nil]
        and_intros <;> first | rfl | exact trivial | (simp [pvle]; done) | exact wrL (n := n3) (by omega)
  obtain ⟨ho13, ho23⟩ := exitL e13 e23 hgo3
  rcases stopL hgo3 with hd3 | ⟨hd3, hbd3⟩
  · conv => whnf
    rw [hd3]
    conv => whnf
    rw [ho13, ho23]
    generalize dLs dt109 (r2.2) = r3 at hE hB hG h3 ⊢
    refine dI (k := ?_)
    (set_option smartUnfolding false in conv => whnf)
    refine ⟨(r0.1, r1.1, r2.1, r3.1), ?_⟩
    conv => whnf
    refine And.intro (by simp only [allP, List.nil_append, List.cons_append, true_and]; repeat' (first | exact hB.1 | exact hB.2 | rfl | refine And.intro ?_ ?_)) ?_
    (set_option smartUnfolding false in conv => whnf)
    refine ⟨(r3.2, 3 :: en28 (r0.1, r1.1, r2.1, r3.1), l, 60000), ?_⟩
    conv => whnf
    refine And.intro (by simp only [allP, List.nil_append, List.cons_append, true_and]; and_intros <;> first | exact trivial | rfl) ?_
    (set_option smartUnfolding false in conv => whnf)
    generalize hc : (!r3.2.2 && decide (l.length ≤ 60000) && decide (3 :: en28 (r0.1, r1.1, r2.1, r3.1) = l)) = c at hG ⊢
    cases c
    · (set_option smartUnfolding false in conv => whnf)
      refine dI (k := ?_)
      (set_option smartUnfolding false in conv => whnf)
      refine dI (k := ?_)
      (set_option smartUnfolding false in conv => whnf)
      rw [hG]
      and_intros <;> first | rfl | exact trivial | (simp [pvle, z28, gSel]; done)
    · (set_option smartUnfolding false in conv => whnf)
      refine dI (k := ?_)
      (set_option smartUnfolding false in conv => whnf)
      refine dI (k := ?_)
      (set_option smartUnfolding false in conv => whnf)
      refine dI (k := ?_)
      (set_option smartUnfolding false in conv => whnf)
      rw [hG]
      and_intros <;> first | rfl | exact trivial | (simp [pvle]; done)
  · obtain ⟨t3, bad3⟩ := s3
    simp only at hbd3
    subst hbd3
    conv => whnf
    rw [hd3]
    conv => whnf
    rw [ho13, ho23]
    generalize dLs dt109 (r2.2) = r3 at hE hB hG h3 ⊢
    refine dI (k := ?_)
    (set_option smartUnfolding false in conv => whnf)
    refine ⟨(r0.1, r1.1, r2.1, r3.1), ?_⟩
    conv => whnf
    refine And.intro (by simp only [allP, List.nil_append, List.cons_append, true_and]; repeat' (first | exact hB.1 | exact hB.2 | rfl | refine And.intro ?_ ?_)) ?_
    (set_option smartUnfolding false in conv => whnf)
    refine ⟨(r3.2, 3 :: en28 (r0.1, r1.1, r2.1, r3.1), l, 60000), ?_⟩
    conv => whnf
    refine And.intro (by simp only [allP, List.nil_append, List.cons_append, true_and]; and_intros <;> first | exact trivial | rfl) ?_
    (set_option smartUnfolding false in conv => whnf)
    generalize hc : (!r3.2.2 && decide (l.length ≤ 60000) && decide (3 :: en28 (r0.1, r1.1, r2.1, r3.1) = l)) = c at hG ⊢
    cases c
    · (set_option smartUnfolding false in conv => whnf)
      refine dI (k := ?_)
      (set_option smartUnfolding false in conv => whnf)
      refine dI (k := ?_)
      (set_option smartUnfolding false in conv => whnf)
      rw [hG]
      and_intros <;> first | rfl | exact trivial | (simp [pvle, z28, gSel]; done)
    · (set_option smartUnfolding false in conv => whnf)
      refine dI (k := ?_)
      (set_option smartUnfolding false in conv => whnf)
      refine dI (k := ?_)
      (set_option smartUnfolding false in conv => whnf)
      refine dI (k := ?_)
      (set_option smartUnfolding false in conv => whnf)
      rw [hG]
      and_intros <;> first | rfl | exact trivial | (simp [pvle]; done)
theorem DGetParts_sound : Sound Tryz.prog 10 cDGetParts := does_sound mixed tabOk_prog gF0_ok Tryz.func10 DGetParts_does
def gF1 : List (FuncId × Ctr) := (10, cDGetParts) :: gF0
theorem gF1_ok : GamOk Tryz.prog gF1 := GamOk.cons gF0_ok Tryz.func10 (by kernel_rfl) (by kernel_rfl) DGetParts_sound
end Go.Proofs.YtingmlhhabaplaaGreat.Ev
