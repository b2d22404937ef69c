/- Wire: what the document reads: messages got. No conditions. -/
import Derived.Test.YtingmlhhabaplaaGreatEvWire10b
namespace Go.Proofs.YtingmlhhabaplaaGreat.Ev
open Go
set_option linter.unusedVariables false
set_option linter.unusedSimpArgs false
set_option maxRecDepth 100000
set_option maxHeartbeats 4000000
def dt153 : In → S153 × In := (gP dNu dRc)
theorem qt153 : DL dt153 en153 ok153 2 := ((qNu.pair qRc) : DL ((gP dNu dRc)) _ _ _).mono (by decide)
def dt79 : In → S79 × In := (gP dTx (gP dBy (gP dNu (gP dNu (gP dNu (gP dNu (gP dNu (gP dNu (gP dNu (gP dBo (gP (dLs dt153) dRc)))))))))))
theorem qt79 : DL dt79 en79 ok79 15 := ((qTx.pair (qBy.pair (qNu.pair (qNu.pair (qNu.pair (qNu.pair (qNu.pair (qNu.pair (qNu.pair (qBo.pair ((qt153.list 32 (by decide) (by decide)).pair qRc))))))))))) : DL ((gP dTx (gP dBy (gP dNu (gP dNu (gP dNu (gP dNu (gP dNu (gP dNu (gP dNu (gP dBo (gP (dLs dt153) dRc)))))))))))) _ _ _).mono (by decide)
abbrev cDGetRaft : Ctr := cGet2 gt79 7 65545 z79 (fun x : S79 => .agg ((pv79 x).map (AV.p true)))
theorem DGetRaft_does : Does gE4 tab Tryz.f29 cDGetRaft := by
  rintro l -
  have hl : (dBg l).1.length ≤ 1000000 := Nat.le_trans (dBg_len l) (by decide)
  have h0 : (dTx (dBg l)).2.1.length ≤ 1000000 := Nat.le_trans (qTx.len _) hl
  have h1 : (dBy (dTx (dBg l)).2).2.1.length ≤ 1000000 := Nat.le_trans (qBy.len _) h0
  have h2 : (dNu (dBy (dTx (dBg l)).2).2).2.1.length ≤ 1000000 := Nat.le_trans (qNu.len _) h1
  have h3 : (dNu (dNu (dBy (dTx (dBg l)).2).2).2).2.1.length ≤ 1000000 := Nat.le_trans (qNu.len _) h2
  have h4 : (dNu (dNu (dNu (dBy (dTx (dBg l)).2).2).2).2).2.1.length ≤ 1000000 := Nat.le_trans (qNu.len _) h3
  have h5 : (dNu (dNu (dNu (dNu (dBy (dTx (dBg l)).2).2).2).2).2).2.1.length ≤ 1000000 := Nat.le_trans (qNu.len _) h4
  have h6 : (dNu (dNu (dNu (dNu (dNu (dBy (dTx (dBg l)).2).2).2).2).2).2).2.1.length ≤ 1000000 := Nat.le_trans (qNu.len _) h5
  have h7 : (dNu (dNu (dNu (dNu (dNu (dNu (dBy (dTx (dBg l)).2).2).2).2).2).2).2).2.1.length ≤ 1000000 := Nat.le_trans (qNu.len _) h6
  have h8 : (dNu (dNu (dNu (dNu (dNu (dNu (dNu (dBy (dTx (dBg l)).2).2).2).2).2).2).2).2).2.1.length ≤ 1000000 := Nat.le_trans (qNu.len _) h7
  have h9 : (dBo (dNu (dNu (dNu (dNu (dNu (dNu (dNu (dBy (dTx (dBg l)).2).2).2).2).2).2).2).2).2).2.1.length ≤ 1000000 := Nat.le_trans (qBo.len _) h8
  have h10 : ((dLs dt153) (dBo (dNu (dNu (dNu (dNu (dNu (dNu (dNu (dBy (dTx (dBg l)).2).2).2).2).2).2).2).2).2).2).2.1.length ≤ 1000000 := Nat.le_trans ((qt153.list 32 (by decide) (by decide)).len _) h9
  have h11 : (dRc ((dLs dt153) (dBo (dNu (dNu (dNu (dNu (dNu (dNu (dNu (dBy (dTx (dBg l)).2).2).2).2).2).2).2).2).2).2).2).2.1.length ≤ 1000000 := Nat.le_trans (qRc.len _) h10
  have hE : dt79 (dBg l) = (((dTx (dBg l)).1, (dBy (dTx (dBg l)).2).1, (dNu (dBy (dTx (dBg l)).2).2).1, (dNu (dNu (dBy (dTx (dBg l)).2).2).2).1, (dNu (dNu (dNu (dBy (dTx (dBg l)).2).2).2).2).1, (dNu (dNu (dNu (dNu (dBy (dTx (dBg l)).2).2).2).2).2).1, (dNu (dNu (dNu (dNu (dNu (dBy (dTx (dBg l)).2).2).2).2).2).2).1, (dNu (dNu (dNu (dNu (dNu (dNu (dBy (dTx (dBg l)).2).2).2).2).2).2).2).1, (dNu (dNu (dNu (dNu (dNu (dNu (dNu (dBy (dTx (dBg l)).2).2).2).2).2).2).2).2).1, (dBo (dNu (dNu (dNu (dNu (dNu (dNu (dNu (dBy (dTx (dBg l)).2).2).2).2).2).2).2).2).2).1, ((dLs dt153) (dBo (dNu (dNu (dNu (dNu (dNu (dNu (dNu (dBy (dTx (dBg l)).2).2).2).2).2).2).2).2).2).2).1, (dRc ((dLs dt153) (dBo (dNu (dNu (dNu (dNu (dNu (dNu (dNu (dBy (dTx (dBg l)).2).2).2).2).2).2).2).2).2).2).2).1), (dRc ((dLs dt153) (dBo (dNu (dNu (dNu (dNu (dNu (dNu (dNu (dBy (dTx (dBg l)).2).2).2).2).2).2).2).2).2).2).2).2) := by simp only [dt79, gP]
  obtain ⟨hok, hlen, -⟩ := qt79.bnd (dBg l) hl
  have hB : ok79 (dt79 (dBg l)).1 ∧ (en79 (dt79 (dBg l)).1).length ≤ 900000000000 := ⟨hok, by omega⟩
  have hG := dGet_eq rt79 qt79 7 65545 (by decide) z79 l
  clear hok hlen
  rw [hE] at hB hG
  simp only at hB hG
  conv => whnf
  refine ⟨l, ?_⟩
  conv => whnf
  refine And.intro (by simp only [allP, List.nil_append, List.cons_append, true_and]; and_intros <;> first | exact trivial | rfl) ?_
  conv => whnf
  refine ⟨(dBg l), ?_⟩
  conv => whnf
  refine And.intro (by simp only [allP, List.nil_append, List.cons_append, true_and]; and_intros <;> first | exact hl | rfl) ?_
  (set_option smartUnfolding false in conv => whnf)
  generalize dTx (dBg l) = r0 at hE hB hG h0 h1 h2 h3 h4 h5 h6 h7 h8 h9 h10 h11 ⊢
  refine And.intro (by first | exact Nat.le_of_ble_eq_true rfl | exact ⟨Nat.le_of_ble_eq_true rfl, rfl⟩ | exact rfl | decide | (simp [allP]; done)) ?_
  conv => whnf
  refine ⟨r0.2, ?_⟩
  conv => whnf
  refine And.intro (by simp only [allP, List.nil_append, List.cons_append, true_and]; and_intros <;> first | exact h0 | rfl) ?_
  (set_option smartUnfolding false in conv => whnf)
  rw [show (dNu r0.2).2 = (dBy r0.2).2 from rfl]
  try rw [dBy_val r0.2]
  generalize dBy r0.2 = r1 at hE hB hG h1 h2 h3 h4 h5 h6 h7 h8 h9 h10 h11 ⊢
  refine And.intro (by first | exact Nat.le_of_ble_eq_true rfl | exact ⟨Nat.le_of_ble_eq_true rfl, rfl⟩ | exact rfl | decide | (simp [allP]; done)) ?_
  conv => whnf
  refine ⟨r1.2, ?_⟩
  conv => whnf
  refine And.intro (by simp only [allP, List.nil_append, List.cons_append, true_and]; and_intros <;> first | exact h1 | rfl) ?_
  (set_option smartUnfolding false in conv => whnf)
  have w2 := dNu_w r1.2
  generalize dNu r1.2 = r2 at hE hB hG h2 h3 h4 h5 h6 h7 h8 h9 h10 h11 w2 ⊢
  try rw [w2]
  refine And.intro (by first | exact Nat.le_of_ble_eq_true rfl | exact ⟨Nat.le_of_ble_eq_true rfl, rfl⟩ | exact rfl | decide | (simp [allP]; done)) ?_
  conv => whnf
  refine ⟨r2.2, ?_⟩
  conv => whnf
  refine And.intro (by simp only [allP, List.nil_append, List.cons_append, true_and]; and_intros <;> first | exact h2 | rfl) ?_
  (set_option smartUnfolding false in conv => whnf)
  have w3 := dNu_w r2.2
  generalize dNu r2.2 = r3 at hE hB hG h3 h4 h5 h6 h7 h8 h9 h10 h11 w3 ⊢
  try rw [w3]
  refine And.intro (by first | exact Nat.le_of_ble_eq_true rfl | exact ⟨Nat.le_of_ble_eq_true rfl, rfl⟩ | exact rfl | decide | (simp [allP]; done)) ?_
  conv => whnf
  refine ⟨r3.2, ?_⟩
  conv => whnf
  refine And.intro (by simp only [allP, List.nil_append, List.cons_append, true_and]; and_intros <;> first | exact h3 | rfl) ?_
  (set_option smartUnfolding false in conv => whnf)
  have w4 := dNu_w r3.2
  generalize dNu r3.2 = r4 at hE hB hG h4 h5 h6 h7 h8 h9 h10 h11 w4 ⊢
  try rw [w4]
  refine And.intro (by first | exact Nat.le_of_ble_eq_true rfl | exact ⟨Nat.le_of_ble_eq_true rfl, rfl⟩ | exact rfl | decide | (simp [allP]; done)) ?_
  conv => whnf
  refine ⟨r4.2, ?_⟩
  conv => whnf
  refine And.intro (by simp only [allP, List.nil_append, List.cons_append, true_and]; and_intros <;> first | exact h4 | rfl) ?_
  (set_option smartUnfolding false in conv => whnf)
  have w5 := dNu_w r4.2
  generalize dNu r4.2 = r5 at hE hB hG h5 h6 h7 h8 h9 h10 h11 w5 ⊢
  try rw [w5]
  refine And.intro (by first | exact Nat.le_of_ble_eq_true rfl | exact ⟨Nat.le_of_ble_eq_true rfl, rfl⟩ | exact rfl | decide | (simp [allP]; done)) ?_
  conv => whnf
  refine ⟨r5.2, ?_⟩
  conv => whnf
  refine And.intro (by simp only [allP, List.nil_append, List.cons_append, true_and]; and_intros <;> first | exact h5 | rfl) ?_
  (set_option smartUnfolding false in conv => whnf)
  have w6 := dNu_w r5.2
  generalize dNu r5.2 = r6 at hE hB hG h6 h7 h8 h9 h10 h11 w6 ⊢
  try rw [w6]
  refine And.intro (by first | exact Nat.le_of_ble_eq_true rfl | exact ⟨Nat.le_of_ble_eq_true rfl, rfl⟩ | exact rfl | decide | (simp [allP]; done)) ?_
  conv => whnf
  refine ⟨r6.2, ?_⟩
  conv => whnf
  refine And.intro (by simp only [allP, List.nil_append, List.cons_append, true_and]; and_intros <;> first | exact h6 | rfl) ?_
  (set_option smartUnfolding false in conv => whnf)
  have w7 := dNu_w r6.2
  generalize dNu r6.2 = r7 at hE hB hG h7 h8 h9 h10 h11 w7 ⊢
  try rw [w7]
  refine And.intro (by first | exact Nat.le_of_ble_eq_true rfl | exact ⟨Nat.le_of_ble_eq_true rfl, rfl⟩ | exact rfl | decide | (simp [allP]; done)) ?_
  conv => whnf
  refine ⟨r7.2, ?_⟩
  conv => whnf
  refine And.intro (by simp only [allP, List.nil_append, List.cons_append, true_and]; and_intros <;> first | exact h7 | rfl) ?_
  (set_option smartUnfolding false in conv => whnf)
  have w8 := dNu_w r7.2
  generalize dNu r7.2 = r8 at hE hB hG h8 h9 h10 h11 w8 ⊢
  try rw [w8]
  refine And.intro (by first | exact Nat.le_of_ble_eq_true rfl | exact ⟨Nat.le_of_ble_eq_true rfl, rfl⟩ | exact rfl | decide | (simp [allP]; done)) ?_
  conv => whnf
  refine ⟨r8.2, ?_⟩
  conv => whnf
  refine And.intro (by simp only [allP, List.nil_append, List.cons_append, true_and]; and_intros <;> first | exact h8 | rfl) ?_
  (set_option smartUnfolding false in conv => whnf)
  generalize dBo r8.2 = r9 at hE hB hG h9 h10 h11 ⊢
  refine And.intro (by first | exact Nat.le_of_ble_eq_true rfl | exact ⟨Nat.le_of_ble_eq_true rfl, rfl⟩ | exact rfl | decide | (simp [allP]; done)) ?_
  conv => whnf
  have hsl := dSz_le r9.2
  have hln : (dSz r9.2).2.1.length ≤ 1000000 := Nat.le_trans (dSz_len r9.2) h9
  refine ⟨r9.2, ?_⟩
  conv => whnf
  refine And.intro (by simp only [allP, List.nil_append, List.cons_append, true_and]; and_intros <;> first | exact h9 | rfl) ?_
  conv => whnf
  refine ⟨{i : Nat × List S153 × In // i.2.1 ++ (gLp dt153 i.1 i.2.2).1 = (dLs dt153 r9.2).1 ∧ (gLp dt153 i.1 i.2.2).2 = (dLs dt153 r9.2).2 ∧ i.2.2.1.length ≤ 1000000 ∧ i.2.1.length + i.1 ≤ 1000000}, fun i => ⟨[(0, .p false (.sl 1 (bl l))), (2, .ptr 0 0), (3, isI .i64 0), (4, .ptr 1 0), (5, .ptr 2 0), (6, isI .i64 (i.1.1 : Nat))], [(0, .box [.p true (.str ⟨#[]⟩), .p true (.int .u8 0), .p true (.int .i64 0), .p true (.int .i64 0), .p true (.int .i64 0), .p true (.int .i64 0), .p true (.int .i64 0), .p true (.int .i64 0), .p true (.int .i64 0), .p true (.bool false), .p true .nilsl, .p true .nilsl]), (1, .box [.p false (.sl 1 (bl i.1.2.2.1)), isB i.1.2.2.2]), (2, .box [.p true (.str r0.1), .p true (bv r1.1), .p true (.int .i64 r2.1), .p true (.int .i64 r3.1), .p true (.int .i64 r4.1), .p true (.int .i64 r5.1), .p true (.int .i64 r6.1), .p true (.int .i64 r7.1), .p true (.int .i64 r8.1), .p true (.bool r9.1), .rowf 3, .p true .nilsl]), (3, .row 153 2 true false ((i.1.2.1).map fun x => elOf (pv153 x)))], 99⟩, fun i => i.1.1, ⟨⟨((dSz r9.2).1, [], (dSz r9.2).2), rfl, rfl, hln, by simp only [List.length_nil]; omega⟩, ?_⟩, ?_⟩
  · conv => whnf
    and_intros <;> first | rfl | exact trivial | (simp [pvle]; done)
  rintro ⟨⟨n, out, s⟩, e1, e2, g1, g2⟩
  show aw _ _ _ _ _ _ ⟨[(0, .p false (.sl 1 (bl l))), (2, .ptr 0 0), (3, isI .i64 0), (4, .ptr 1 0), (5, .ptr 2 0), (6, isI .i64 (n : Nat))], [(0, .box [.p true (.str ⟨#[]⟩), .p true (.int .u8 0), .p true (.int .i64 0), .p true (.int .i64 0), .p true (.int .i64 0), .p true (.int .i64 0), .p true (.int .i64 0), .p true (.int .i64 0), .p true (.int .i64 0), .p true (.bool false), .p true .nilsl, .p true .nilsl]), (1, .box [.p false (.sl 1 (bl s.1)), isB s.2]), (2, .box [.p true (.str r0.1), .p true (bv r1.1), .p true (.int .i64 r2.1), .p true (.int .i64 r3.1), .p true (.int .i64 r4.1), .p true (.int .i64 r5.1), .p true (.int .i64 r6.1), .p true (.int .i64 r7.1), .p true (.int .i64 r8.1), .p true (.bool r9.1), .rowf 3, .p true .nilsl]), (3, .row 153 2 true false ((out).map fun x => elOf (pv153 x)))], 99⟩
  simp only at e1 e2 g1 g2
  by_cases hgo : 0 < n ∧ s.2 = false
  · obtain ⟨t, bad⟩ := s
    obtain ⟨hn0, hbad⟩ := hgo
    simp only at hbad
    subst hbad
    cases n with
    | zero => omega
    | succ n =>
      conv => whnf
      rw [show decide (((n + 1 : Nat) : Int) > 0) = true from decide_eq_true (by omega)]
      conv => whnf
      have q0 : (dNu (t, false)).2.1.length ≤ 1000000 := Nat.le_trans (qNu.len _) g1
      have q1 : (dRc (dNu (t, false)).2).2.1.length ≤ 1000000 := Nat.le_trans (qRc.len _) q0
      have qE : dt153 (t, false) = (((dNu (t, false)).1, (dRc (dNu (t, false)).2).1), (dRc (dNu (t, false)).2).2) := by simp only [dt153, gP]
      have hgl : (dt153 (t, false)).2.1.length ≤ 1000000 := Nat.le_trans (qt153.len _) g1
      have e1' : out ++ (dt153 (t, false)).1 :: (gLp dt153 n (dt153 (t, false)).2).1 = (dLs dt153 r9.2).1 := e1
      have e2' : (gLp dt153 n (dt153 (t, false)).2).2 = (dLs dt153 r9.2).2 := e2
      rw [qE] at e1' e2'
      refine ⟨(t, false), ?_⟩
      conv => whnf
      refine And.intro (by simp only [allP, List.nil_append, List.cons_append, true_and]; and_intros <;> first | exact g1 | (show t.length ≤ _; simp only at g1; omega) | rfl) ?_
      (set_option smartUnfolding false in conv => whnf)
      have w0 := dNu_w (t, false)
      generalize dNu (t, false) = u0 at qE q0 q1 w0 e1' e2' ⊢
      try rw [w0]
      refine And.intro (by first | exact Nat.le_of_ble_eq_true rfl | exact ⟨Nat.le_of_ble_eq_true rfl, rfl⟩ | exact rfl | decide | (simp [allP]; done)) ?_
      conv => whnf
      refine ⟨u0.2, ?_⟩
      conv => whnf
      refine And.intro (by simp only [allP, List.nil_append, List.cons_append, true_and]; and_intros <;> first | exact q0 | (show t.length ≤ _; simp only at g1; omega) | rfl) ?_
      (set_option smartUnfolding false in conv => whnf)
      generalize dRc u0.2 = u1 at qE q1 e1' e2' ⊢
      refine And.intro (by first | exact Nat.le_of_ble_eq_true rfl | exact ⟨Nat.le_of_ble_eq_true rfl, rfl⟩ | exact rfl | decide | (simp [allP]; done)) ?_
      conv => whnf
      refine And.intro (by first | exact Nat.le_of_ble_eq_true rfl | exact ⟨Nat.le_of_ble_eq_true rfl, rfl⟩ | exact rfl | decide | (simp [allP]; done)) ?_
      (set_option smartUnfolding false in conv => whnf)
      refine And.intro (by simp only [allP, List.nil_append, List.cons_append, true_and]; rw [List.length_map]; simp only [List.length_cons, List.length_nil]; omega) ?_
      (set_option smartUnfolding false in conv => whnf)
      refine And.intro (by first | exact Nat.le_of_ble_eq_true rfl | exact ⟨Nat.le_of_ble_eq_true rfl, rfl⟩ | exact rfl | decide | (simp [allP]; done)) ?_
      conv => whnf
      refine ⟨⟨(n, out ++ [(u0.1, u1.1)], u1.2), ?_, e2', q1, ?_⟩, Nat.lt_succ_self n, ?_⟩
      · rw [← e1', List.append_assoc]; rfl
      · simp only [List.length_append, List.length_cons, List.length_nil]; omega
      · conv => whnf
        rw [List.map_append, List.map_cons, List.map_nil]
        and_intros <;> first | rfl | exact trivial | (simp [pvle]; done) | (show pvle (.int .i64 (n : Int)) (.int .i64 (IntKind.i64.wrap (((n + 1 : Nat) : Int) - 1))); rw [wrap_i64 (by omega) (by omega), show (((n + 1 : Nat) : Int) - 1) = (n : Int) by omega]; rfl)
  have hout : out = (dLs dt153 r9.2).1 ∧ s = (dLs dt153 r9.2).2 := by
    cases n with
    | zero => exact ⟨by rw [← e1]; simp [gLp], by rw [← e2]; rfl⟩
    | succ n =>
      obtain ⟨t, bad⟩ := s
      cases bad with
      | false => exact (hgo ⟨Nat.succ_pos n, rfl⟩).elim
      | true => rw [gLp_bad] at e1 e2; exact ⟨by rw [← e1]; simp, e2⟩
  have hcnd : ∀ (f : Bool), (match decide ((n : Int) > 0) with | true => !s.2 | false => f) = (match decide ((n : Int) > 0) with | true => !s.2 | false => f) := fun _ => rfl
  obtain ⟨ho1, ho2⟩ := hout
  have hstop : decide ((n : Int) > 0) = false ∨ (decide ((n : Int) > 0) = true ∧ s.2 = true) := by
    by_cases h0 : 0 < n
    · exact .inr ⟨decide_eq_true (by omega), (Bool.eq_false_or_eq_true s.2).resolve_right fun hb => hgo ⟨h0, hb⟩⟩
    · exact .inl (decide_eq_false (by omega))
  clear hgo hcnd
  have fin : ∀ (q : In) , q = s → q = (dLs dt153 r9.2).2 := fun q hq => hq.trans ho2
  rcases hstop with hd | ⟨hd, hbd⟩
  · conv => whnf
    rw [hd]
    conv => whnf
    rw [ho1, ho2]
    generalize (dLs dt153) r9.2 = r10 at hE hB hG h10 h11 ⊢
    refine ⟨r10.2, ?_⟩
    conv => whnf
    refine And.intro (by simp only [allP, List.nil_append, List.cons_append, true_and]; and_intros <;> first | exact h10 | rfl) ?_
    (set_option smartUnfolding false in conv => whnf)
    generalize dRc r10.2 = r11 at hE hB hG h11 ⊢
    refine And.intro (by first | exact Nat.le_of_ble_eq_true rfl | exact ⟨Nat.le_of_ble_eq_true rfl, rfl⟩ | exact rfl | decide | (simp [allP]; done)) ?_
    (set_option smartUnfolding false in conv => whnf)
    refine And.intro (by first | exact Nat.le_of_ble_eq_true rfl | exact ⟨Nat.le_of_ble_eq_true rfl, rfl⟩ | exact rfl | decide | (simp [allP]; done)) ?_
    (set_option smartUnfolding false in conv => whnf)
    refine ⟨(r0.1, r1.1, r2.1, r3.1, r4.1, r5.1, r6.1, r7.1, r8.1, r9.1, r10.1, r11.1), ?_⟩
    conv => whnf
    refine And.intro (by simp only [allP, List.nil_append, List.cons_append, true_and]; repeat' (first | exact hB.1 | exact hB.2 | rfl | refine And.intro ?_ ?_)) ?_
    (set_option smartUnfolding false in conv => whnf)
    refine ⟨(r11.2, 7 :: en79 (r0.1, r1.1, r2.1, r3.1, r4.1, r5.1, r6.1, r7.1, r8.1, r9.1, r10.1, r11.1), l, 65545), ?_⟩
    conv => whnf
    refine And.intro (by simp only [allP, List.nil_append, List.cons_append, true_and]; and_intros <;> first | exact trivial | rfl) ?_
    (set_option smartUnfolding false in conv => whnf)
    generalize hc : (!r11.2.2 && decide (l.length ≤ 65545) && decide (7 :: en79 (r0.1, r1.1, r2.1, r3.1, r4.1, r5.1, r6.1, r7.1, r8.1, r9.1, r10.1, r11.1) = l)) = c at hG ⊢
    cases c
    · (set_option smartUnfolding false in conv => whnf)
      refine And.intro (by first | exact Nat.le_of_ble_eq_true rfl | exact ⟨Nat.le_of_ble_eq_true rfl, rfl⟩ | exact rfl | decide | (simp [allP]; done)) ?_
      (set_option smartUnfolding false in conv => whnf)
      refine And.intro (by first | exact Nat.le_of_ble_eq_true rfl | exact ⟨Nat.le_of_ble_eq_true rfl, rfl⟩ | exact rfl | decide | (simp [allP]; done)) ?_
      (set_option smartUnfolding false in conv => whnf)
      rw [hG]
      and_intros <;> first | rfl | exact trivial | (simp [pvle, z79, gSel]; done)
    · (set_option smartUnfolding false in conv => whnf)
      refine And.intro (by first | exact Nat.le_of_ble_eq_true rfl | exact ⟨Nat.le_of_ble_eq_true rfl, rfl⟩ | exact rfl | decide | (simp [allP]; done)) ?_
      (set_option smartUnfolding false in conv => whnf)
      refine And.intro (by first | exact Nat.le_of_ble_eq_true rfl | exact ⟨Nat.le_of_ble_eq_true rfl, rfl⟩ | exact rfl | decide | (simp [allP]; done)) ?_
      (set_option smartUnfolding false in conv => whnf)
      refine And.intro (by first | exact Nat.le_of_ble_eq_true rfl | exact ⟨Nat.le_of_ble_eq_true rfl, rfl⟩ | exact rfl | decide | (simp [allP]; done)) ?_
      (set_option smartUnfolding false in conv => whnf)
      rw [hG]
      and_intros <;> first | rfl | exact trivial | (simp [pvle]; done)
  · obtain ⟨t, bad⟩ := s
    simp only at hbd
    subst hbd
    conv => whnf
    rw [hd]
    conv => whnf
    rw [ho1, ho2]
    generalize (dLs dt153) r9.2 = r10 at hE hB hG h10 h11 ⊢
    refine ⟨r10.2, ?_⟩
    conv => whnf
    refine And.intro (by simp only [allP, List.nil_append, List.cons_append, true_and]; and_intros <;> first | exact h10 | rfl) ?_
    (set_option smartUnfolding false in conv => whnf)
    generalize dRc r10.2 = r11 at hE hB hG h11 ⊢
    refine And.intro (by first | exact Nat.le_of_ble_eq_true rfl | exact ⟨Nat.le_of_ble_eq_true rfl, rfl⟩ | exact rfl | decide | (simp [allP]; done)) ?_
    (set_option smartUnfolding false in conv => whnf)
    refine And.intro (by first | exact Nat.le_of_ble_eq_true rfl | exact ⟨Nat.le_of_ble_eq_true rfl, rfl⟩ | exact rfl | decide | (simp [allP]; done)) ?_
    (set_option smartUnfolding false in conv => whnf)
    refine ⟨(r0.1, r1.1, r2.1, r3.1, r4.1, r5.1, r6.1, r7.1, r8.1, r9.1, r10.1, r11.1), ?_⟩
    conv => whnf
    refine And.intro (by simp only [allP, List.nil_append, List.cons_append, true_and]; repeat' (first | exact hB.1 | exact hB.2 | rfl | refine And.intro ?_ ?_)) ?_
    (set_option smartUnfolding false in conv => whnf)
    refine ⟨(r11.2, 7 :: en79 (r0.1, r1.1, r2.1, r3.1, r4.1, r5.1, r6.1, r7.1, r8.1, r9.1, r10.1, r11.1), l, 65545), ?_⟩
    conv => whnf
    refine And.intro (by simp only [allP, List.nil_append, List.cons_append, true_and]; and_intros <;> first | exact trivial | rfl) ?_
    (set_option smartUnfolding false in conv => whnf)
    generalize hc : (!r11.2.2 && decide (l.length ≤ 65545) && decide (7 :: en79 (r0.1, r1.1, r2.1, r3.1, r4.1, r5.1, r6.1, r7.1, r8.1, r9.1, r10.1, r11.1) = l)) = c at hG ⊢
    cases c
    · (set_option smartUnfolding false in conv => whnf)
      refine And.intro (by first | exact Nat.le_of_ble_eq_true rfl | exact ⟨Nat.le_of_ble_eq_true rfl, rfl⟩ | exact rfl | decide | (simp [allP]; done)) ?_
      (set_option smartUnfolding false in conv => whnf)
      refine And.intro (by first | exact Nat.le_of_ble_eq_true rfl | exact ⟨Nat.le_of_ble_eq_true rfl, rfl⟩ | exact rfl | decide | (simp [allP]; done)) ?_
      (set_option smartUnfolding false in conv => whnf)
      rw [hG]
      and_intros <;> first | rfl | exact trivial | (simp [pvle, z79, gSel]; done)
    · (set_option smartUnfolding false in conv => whnf)
      refine And.intro (by first | exact Nat.le_of_ble_eq_true rfl | exact ⟨Nat.le_of_ble_eq_true rfl, rfl⟩ | exact rfl | decide | (simp [allP]; done)) ?_
      (set_option smartUnfolding false in conv => whnf)
      refine And.intro (by first | exact Nat.le_of_ble_eq_true rfl | exact ⟨Nat.le_of_ble_eq_true rfl, rfl⟩ | exact rfl | decide | (simp [allP]; done)) ?_
      (set_option smartUnfolding false in conv => whnf)
      refine And.intro (by first | exact Nat.le_of_ble_eq_true rfl | exact ⟨Nat.le_of_ble_eq_true rfl, rfl⟩ | exact rfl | decide | (simp [allP]; done)) ?_
      (set_option smartUnfolding false in conv => whnf)
      rw [hG]
      and_intros <;> first | rfl | exact trivial | (simp [pvle]; done)
theorem DGetRaft_sound : Sound Tryz.prog 29 cDGetRaft := does_sound mixed tabOk_prog gE4_ok Tryz.func29 DGetRaft_does
def gE5 : List (FuncId × Ctr) := (29, cDGetRaft) :: gE4
theorem gE5_ok : GamOk Tryz.prog gE5 := GamOk.cons gE4_ok Tryz.func29 (by kernel_rfl) (by kernel_rfl) DGetRaft_sound
end Go.Proofs.YtingmlhhabaplaaGreat.Ev
