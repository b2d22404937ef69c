/- Wire: what the document reads: lists, batches, commands, answers. No conditions. -/
import Derived.Test.YtingmlhhabaplaaGreatEvWire9
namespace Go.Proofs.YtingmlhhabaplaaGreat.Ev
open Go
set_option linter.unusedVariables false
set_option linter.unusedSimpArgs false
set_option maxRecDepth 100000
set_option maxHeartbeats 4000000
abbrev cTtexts : Ctr := cI6 (dLs dTx) (fun x : (List ByteArray) => .p true (.sl 1 (x.map fun x => elOf [.str x])))
theorem Ttexts_does : Does gD0 tab Tryz.f105 cTtexts := by
  rintro ⟨l, b⟩ (h : l.length ≤ 1000000)
  have hle := dSz_le (l, b)
  have hln : (dSz (l, b)).2.1.length ≤ 1000000 := Nat.le_trans (dSz_len (l, b)) h
  simp only at hle
  conv => whnf
  refine ⟨(l, b), ?_⟩
  conv => whnf
  refine And.intro (by simp only [allP, List.nil_append, List.cons_append, true_and]; and_intros <;> first | exact h | rfl) ?_
  conv => whnf
  refine ⟨{i : Nat × List ByteArray × In // i.2.1 ++ (gLp dTx i.1 i.2.2).1 = (dLs dTx (l, b)).1 ∧ (gLp dTx i.1 i.2.2).2 = (dLs dTx (l, b)).2 ∧ i.2.2.1.length ≤ 1000000 ∧ i.2.1.length + i.1 ≤ 1000000}, fun i => ⟨[(0, .ptr 0 0), (3, .rowf 1), (4, isI .i64 (i.1.1 : Nat))], [(0, .box [.p false (.sl 1 (bl i.1.2.2.1)), isB i.1.2.2.2]), (1, .row 9 1 true false ((i.1.2.1).map (fun x : ByteArray => elOf [.str x])))], 99⟩, fun i => i.1.1, ⟨⟨((dSz (l, b)).1, [], (dSz (l, b)).2), rfl, rfl, hln, by simp only [List.length_nil]; omega⟩, ?_⟩, ?_⟩
  · conv => whnf
    and_intros <;> first | rfl | exact trivial | (simp [pvle]; done)
  rintro ⟨⟨n, out, s⟩, e1, e2, h1, h2⟩
  show aw _ _ _ _ _ _ ⟨[(0, .ptr 0 0), (3, .rowf 1), (4, isI .i64 (n : Nat))], [(0, .box [.p false (.sl 1 (bl s.1)), isB s.2]), (1, .row 9 1 true false ((out).map (fun x : ByteArray => elOf [.str x])))], 99⟩
  simp only at e1 e2 h1 h2
  cases n with
  | zero =>
    conv => whnf
    rw [← e1, ← e2]
    simp only [gLp, List.append_nil]
    and_intros <;> first | rfl | exact trivial | (simp [pvle]; done)
  | succ n =>
    obtain ⟨t, bad⟩ := s
    conv => whnf
    rw [show decide (((n + 1 : Nat) : Int) > 0) = true from decide_eq_true (by omega)]
    conv => whnf
    cases bad with
    | true =>
      conv => whnf
      rw [← e1, ← e2]
      simp only [gLp_bad, List.append_nil]
      and_intros <;> first | rfl | exact trivial | (simp [pvle]; done)
    | false =>
      conv => whnf
      have hgl : (dTx (t, false)).2.1.length ≤ 1000000 := Nat.le_trans (qTx.len _) h1
      refine ⟨(t, false), ?_⟩
      conv => whnf
      refine And.intro (by simp only [allP, List.nil_append, List.cons_append, true_and]; and_intros <;> first | (show t.length ≤ _; simp only at h1; omega) | rfl) ?_
      conv => whnf
      have e1' : out ++ (dTx (t, false)).1 :: (gLp dTx n (dTx (t, false)).2).1 = (dLs dTx (l, b)).1 := e1
      have e2' : (gLp dTx n (dTx (t, false)).2).2 = (dLs dTx (l, b)).2 := e2
      generalize dTx (t, false) = q at hgl e1' e2' ⊢
      refine And.intro (by simp only [allP, List.nil_append, List.cons_append, true_and]; rw [List.length_map]; simp only [List.length_cons, List.length_nil]; omega) ?_
      conv => whnf
      refine ⟨⟨(n, out ++ [q.1], q.2), ?_, e2', hgl, ?_⟩, Nat.lt_succ_self n, ?_⟩
      · rw [← e1', List.append_assoc]; rfl
      · simp only [List.length_append, List.length_cons, List.length_nil]; omega
      · conv => whnf
        rw [List.map_append, List.map_cons, List.map_nil]
        and_intros <;> first | rfl | exact trivial | (simp [pvle]; done) | (show pvle (.int .i64 (n : Int)) (.int .i64 (IntKind.i64.wrap (((n + 1 : Nat) : Int) - 1))); rw [wrap_i64 (by omega) (by omega), show (((n + 1 : Nat) : Int) - 1) = (n : Int) by omega]; rfl)
theorem Ttexts_sound : Sound Tryz.prog 105 cTtexts := does_sound mixed tabOk_prog gD0_ok Tryz.func105 Ttexts_does
def gD1 : List (FuncId × Ctr) := (105, cTtexts) :: gD0
theorem gD1_ok : GamOk Tryz.prog gD1 := GamOk.cons gD0_ok Tryz.func105 (by kernel_rfl) (by kernel_rfl) Ttexts_sound
abbrev cTrecords : Ctr := cI6 (dLs dRc) (fun x : (List (List UInt8)) => .p true (.sl 1 (x.map fun x => elOf [.sl 1 (bl x)])))
theorem Trecords_does : Does gD1 tab Tryz.f44 cTrecords := by
  rintro ⟨l, b⟩ (h : l.length ≤ 1000000)
  have hle := dSz_le (l, b)
  have hln : (dSz (l, b)).2.1.length ≤ 1000000 := Nat.le_trans (dSz_len (l, b)) h
  simp only at hle
  conv => whnf
  refine ⟨(l, b), ?_⟩
  conv => whnf
  refine And.intro (by simp only [allP, List.nil_append, List.cons_append, true_and]; and_intros <;> first | exact h | rfl) ?_
  conv => whnf
  refine ⟨{i : Nat × List (List UInt8) × In // i.2.1 ++ (gLp dRc i.1 i.2.2).1 = (dLs dRc (l, b)).1 ∧ (gLp dRc i.1 i.2.2).2 = (dLs dRc (l, b)).2 ∧ i.2.2.1.length ≤ 1000000 ∧ i.2.1.length + i.1 ≤ 1000000}, fun i => ⟨[(0, .ptr 0 0), (3, .rowf 1), (4, isI .i64 (i.1.1 : Nat))], [(0, .box [.p false (.sl 1 (bl i.1.2.2.1)), isB i.1.2.2.2]), (1, .row 22 1 true false ((i.1.2.1).map (fun x : (List UInt8) => elOf [.sl 1 (bl x)])))], 99⟩, fun i => i.1.1, ⟨⟨((dSz (l, b)).1, [], (dSz (l, b)).2), rfl, rfl, hln, by simp only [List.length_nil]; omega⟩, ?_⟩, ?_⟩
  · conv => whnf
    and_intros <;> first | rfl | exact trivial | (simp [pvle]; done)
  rintro ⟨⟨n, out, s⟩, e1, e2, h1, h2⟩
  show aw _ _ _ _ _ _ ⟨[(0, .ptr 0 0), (3, .rowf 1), (4, isI .i64 (n : Nat))], [(0, .box [.p false (.sl 1 (bl s.1)), isB s.2]), (1, .row 22 1 true false ((out).map (fun x : (List UInt8) => elOf [.sl 1 (bl x)])))], 99⟩
  simp only at e1 e2 h1 h2
  cases n with
  | zero =>
    conv => whnf
    rw [← e1, ← e2]
    simp only [gLp, List.append_nil]
    and_intros <;> first | rfl | exact trivial | (simp [pvle]; done)
  | succ n =>
    obtain ⟨t, bad⟩ := s
    conv => whnf
    rw [show decide (((n + 1 : Nat) : Int) > 0) = true from decide_eq_true (by omega)]
    conv => whnf
    cases bad with
    | true =>
      conv => whnf
      rw [← e1, ← e2]
      simp only [gLp_bad, List.append_nil]
      and_intros <;> first | rfl | exact trivial | (simp [pvle]; done)
    | false =>
      conv => whnf
      have hgl : (dRc (t, false)).2.1.length ≤ 1000000 := Nat.le_trans (qRc.len _) h1
      refine ⟨(t, false), ?_⟩
      conv => whnf
      refine And.intro (by simp only [allP, List.nil_append, List.cons_append, true_and]; and_intros <;> first | (show t.length ≤ _; simp only at h1; omega) | rfl) ?_
      conv => whnf
      have e1' : out ++ (dRc (t, false)).1 :: (gLp dRc n (dRc (t, false)).2).1 = (dLs dRc (l, b)).1 := e1
      have e2' : (gLp dRc n (dRc (t, false)).2).2 = (dLs dRc (l, b)).2 := e2
      generalize dRc (t, false) = q at hgl e1' e2' ⊢
      refine And.intro (by simp only [allP, List.nil_append, List.cons_append, true_and]; rw [List.length_map]; simp only [List.length_cons, List.length_nil]; omega) ?_
      conv => whnf
      refine ⟨⟨(n, out ++ [q.1], q.2), ?_, e2', hgl, ?_⟩, Nat.lt_succ_self n, ?_⟩
      · rw [← e1', List.append_assoc]; rfl
      · simp only [List.length_append, List.length_cons, List.length_nil]; omega
      · conv => whnf
        rw [List.map_append, List.map_cons, List.map_nil]
        and_intros <;> first | rfl | exact trivial | (simp [pvle]; done) | (show pvle (.int .i64 (n : Int)) (.int .i64 (IntKind.i64.wrap (((n + 1 : Nat) : Int) - 1))); rw [wrap_i64 (by omega) (by omega), show (((n + 1 : Nat) : Int) - 1) = (n : Int) by omega]; rfl)
theorem Trecords_sound : Sound Tryz.prog 44 cTrecords := does_sound mixed tabOk_prog gD1_ok Tryz.func44 Trecords_does
def gD2 : List (FuncId × Ctr) := (44, cTrecords) :: gD1
theorem gD2_ok : GamOk Tryz.prog gD2 := GamOk.cons gD1_ok Tryz.func44 (by kernel_rfl) (by kernel_rfl) Trecords_sound
def dt55 : In → S55 × In := (gP dTx dNu)
theorem qt55 : DL dt55 en55 ok55 2 := ((qTx.pair qNu) : DL ((gP dTx dNu)) _ _ _).mono (by decide)
abbrev cTplace : Ctr := cI6 dt55 (fun x : S55 => .agg ((pv55 x).map (AV.p true)))
theorem Tplace_does : Does gD2 tab Tryz.f107 cTplace := by
  rintro s (h : s.1.length ≤ 1000000)
  have h0 : (dTx s).2.1.length ≤ 1000000 := Nat.le_trans (qTx.len _) h
  have h1 : (dNu (dTx s).2).2.1.length ≤ 1000000 := Nat.le_trans (qNu.len _) h0
  have hE : dt55 s = (((dTx s).1, (dNu (dTx s).2).1), (dNu (dTx s).2).2) := by simp only [dt55, gP]
  (set_option smartUnfolding false in conv => whnf)
  refine ⟨s, ?_⟩
  conv => whnf
  refine And.intro (by simp only [allP, List.nil_append, List.cons_append, true_and]; and_intros <;> first | exact h | rfl) ?_
  (set_option smartUnfolding false in conv => whnf)
  generalize dTx s = r0 at hE h0 h1 ⊢
  refine dI (k := ?_)
  (set_option smartUnfolding false in conv => whnf)
  refine ⟨r0.2, ?_⟩
  conv => whnf
  refine And.intro (by simp only [allP, List.nil_append, List.cons_append, true_and]; and_intros <;> first | exact h0 | rfl) ?_
  (set_option smartUnfolding false in conv => whnf)
  have w1 := dNu_w r0.2
  generalize dNu r0.2 = r1 at hE h1 w1 ⊢
  try rw [w1]
  refine dI (k := ?_)
  (set_option smartUnfolding false in conv => whnf)
  refine dI (k := ?_)
  (set_option smartUnfolding false in conv => whnf)
  refine dI (k := ?_)
  (set_option smartUnfolding false in conv => whnf)
  refine dI (k := ?_)
  (set_option smartUnfolding false in conv => whnf)
  rw [hE]
  and_intros <;> first | rfl | exact trivial | (simp [pvle]; done)
theorem Tplace_sound : Sound Tryz.prog 107 cTplace := does_sound mixed tabOk_prog gD2_ok Tryz.func107 Tplace_does
def gD3 : List (FuncId × Ctr) := (107, cTplace) :: gD2
theorem gD3_ok : GamOk Tryz.prog gD3 := GamOk.cons gD2_ok Tryz.func107 (by kernel_rfl) (by kernel_rfl) Tplace_sound
abbrev cTplaces : Ctr := cI6 (dLs dt55) (fun x : (List S55) => .p true (.sl 2 (x.map fun x => elOf (pv55 x))))
theorem Tplaces_does : Does gD3 tab Tryz.f106 cTplaces := by
  rintro ⟨l, b⟩ (h : l.length ≤ 1000000)
  have hle := dSz_le (l, b)
  have hln : (dSz (l, b)).2.1.length ≤ 1000000 := Nat.le_trans (dSz_len (l, b)) h
  simp only at hle
  conv => whnf
  refine ⟨(l, b), ?_⟩
  conv => whnf
  refine And.intro (by simp only [allP, List.nil_append, List.cons_append, true_and]; and_intros <;> first | exact h | rfl) ?_
  conv => whnf
  refine ⟨{i : Nat × List S55 × In // i.2.1 ++ (gLp dt55 i.1 i.2.2).1 = (dLs dt55 (l, b)).1 ∧ (gLp dt55 i.1 i.2.2).2 = (dLs dt55 (l, b)).2 ∧ i.2.2.1.length ≤ 1000000 ∧ i.2.1.length + i.1 ≤ 1000000}, fun i => ⟨[(0, .ptr 0 0), (3, .rowf 1), (4, isI .i64 (i.1.1 : Nat))], [(0, .box [.p false (.sl 1 (bl i.1.2.2.1)), isB i.1.2.2.2]), (1, .row 55 2 true false ((i.1.2.1).map (fun x : S55 => elOf (pv55 x))))], 99⟩, fun i => i.1.1, ⟨⟨((dSz (l, b)).1, [], (dSz (l, b)).2), rfl, rfl, hln, by simp only [List.length_nil]; omega⟩, ?_⟩, ?_⟩
  · conv => whnf
    and_intros <;> first | rfl | exact trivial | (simp [pvle]; done)
  rintro ⟨⟨n, out, s⟩, e1, e2, h1, h2⟩
  show aw _ _ _ _ _ _ ⟨[(0, .ptr 0 0), (3, .rowf 1), (4, isI .i64 (n : Nat))], [(0, .box [.p false (.sl 1 (bl s.1)), isB s.2]), (1, .row 55 2 true false ((out).map (fun x : S55 => elOf (pv55 x))))], 99⟩
  simp only at e1 e2 h1 h2
  cases n with
  | zero =>
    conv => whnf
    rw [← e1, ← e2]
    simp only [gLp, List.append_nil]
    and_intros <;> first | rfl | exact trivial | (simp [pvle]; done)
  | succ n =>
    obtain ⟨t, bad⟩ := s
    conv => whnf
    rw [show decide (((n + 1 : Nat) : Int) > 0) = true from decide_eq_true (by omega)]
    conv => whnf
    cases bad with
    | true =>
      conv => whnf
      rw [← e1, ← e2]
      simp only [gLp_bad, List.append_nil]
      and_intros <;> first | rfl | exact trivial | (simp [pvle]; done)
    | false =>
      conv => whnf
      have hgl : (dt55 (t, false)).2.1.length ≤ 1000000 := Nat.le_trans (qt55.len _) h1
      refine ⟨(t, false), ?_⟩
      conv => whnf
      refine And.intro (by simp only [allP, List.nil_append, List.cons_append, true_and]; and_intros <;> first | (show t.length ≤ _; simp only at h1; omega) | rfl) ?_
      conv => whnf
      have e1' : out ++ (dt55 (t, false)).1 :: (gLp dt55 n (dt55 (t, false)).2).1 = (dLs dt55 (l, b)).1 := e1
      have e2' : (gLp dt55 n (dt55 (t, false)).2).2 = (dLs dt55 (l, b)).2 := e2
      generalize dt55 (t, false) = q at hgl e1' e2' ⊢
      refine And.intro (by simp only [allP, List.nil_append, List.cons_append, true_and]; rw [List.length_map]; simp only [List.length_cons, List.length_nil]; omega) ?_
      conv => whnf
      refine ⟨⟨(n, out ++ [q.1], q.2), ?_, e2', hgl, ?_⟩, Nat.lt_succ_self n, ?_⟩
      · rw [← e1', List.append_assoc]; rfl
      · simp only [List.length_append, List.length_cons, List.length_nil]; omega
      · conv => whnf
        rw [List.map_append, List.map_cons, List.map_nil]
        and_intros <;> first | rfl | exact trivial | (simp [pvle]; done) | (show pvle (.int .i64 (n : Int)) (.int .i64 (IntKind.i64.wrap (((n + 1 : Nat) : Int) - 1))); rw [wrap_i64 (by omega) (by omega), show (((n + 1 : Nat) : Int) - 1) = (n : Int) by omega]; rfl)
theorem Tplaces_sound : Sound Tryz.prog 106 cTplaces := does_sound mixed tabOk_prog gD3_ok Tryz.func106 Tplaces_does
def gD4 : List (FuncId × Ctr) := (106, cTplaces) :: gD3
theorem gD4_ok : GamOk Tryz.prog gD4 := GamOk.cons gD3_ok Tryz.func106 (by kernel_rfl) (by kernel_rfl) Tplaces_sound
def dt46 : In → S46 × In := (gP dNu (gP dNu (gP dNu (dLs dRc))))
theorem qt46 : DL dt46 en46 ok46 5 := ((qNu.pair (qNu.pair (qNu.pair (qRc.list 24 (by decide) (by decide))))) : DL ((gP dNu (gP dNu (gP dNu (dLs dRc))))) _ _ _).mono (by decide)
abbrev cTbatch : Ctr := cI6 dt46 (fun x : S46 => .agg ((pv46 x).map (AV.p true)))
theorem Tbatch_does : Does gD4 tab Tryz.f60 cTbatch := by
  rintro s (h : s.1.length ≤ 1000000)
  have h0 : (dNu s).2.1.length ≤ 1000000 := Nat.le_trans (qNu.len _) h
  have h1 : (dNu (dNu s).2).2.1.length ≤ 1000000 := Nat.le_trans (qNu.len _) h0
  have h2 : (dNu (dNu (dNu s).2).2).2.1.length ≤ 1000000 := Nat.le_trans (qNu.len _) h1
  have h3 : ((dLs dRc) (dNu (dNu (dNu s).2).2).2).2.1.length ≤ 1000000 := Nat.le_trans ((qRc.list 24 (by decide) (by decide)).len _) h2
  have hE : dt46 s = (((dNu s).1, (dNu (dNu s).2).1, (dNu (dNu (dNu s).2).2).1, ((dLs dRc) (dNu (dNu (dNu s).2).2).2).1), ((dLs dRc) (dNu (dNu (dNu s).2).2).2).2) := by simp only [dt46, gP]
  (set_option smartUnfolding false in conv => whnf)
  refine ⟨s, ?_⟩
  conv => whnf
  refine And.intro (by simp only [allP, List.nil_append, List.cons_append, true_and]; and_intros <;> first | exact h | rfl) ?_
  (set_option smartUnfolding false in conv => whnf)
  have w0 := dNu_w s
  generalize dNu s = r0 at hE h0 h1 h2 h3 w0 ⊢
  try rw [w0]
  refine dI (k := ?_)
  (set_option smartUnfolding false in conv => whnf)
  refine ⟨r0.2, ?_⟩
  conv => whnf
  refine And.intro (by simp only [allP, List.nil_append, List.cons_append, true_and]; and_intros <;> first | exact h0 | rfl) ?_
  (set_option smartUnfolding false in conv => whnf)
  have w1 := dNu_w r0.2
  generalize dNu r0.2 = r1 at hE h1 h2 h3 w1 ⊢
  try rw [w1]
  refine dI (k := ?_)
  (set_option smartUnfolding false in conv => whnf)
  refine ⟨r1.2, ?_⟩
  conv => whnf
  refine And.intro (by simp only [allP, List.nil_append, List.cons_append, true_and]; and_intros <;> first | exact h1 | rfl) ?_
  (set_option smartUnfolding false in conv => whnf)
  have w2 := dNu_w r1.2
  generalize dNu r1.2 = r2 at hE h2 h3 w2 ⊢
  try rw [w2]
  refine dI (k := ?_)
  (set_option smartUnfolding false in conv => whnf)
  refine ⟨r2.2, ?_⟩
  conv => whnf
  refine And.intro (by simp only [allP, List.nil_append, List.cons_append, true_and]; and_intros <;> first | exact h2 | rfl) ?_
  (set_option smartUnfolding false in conv => whnf)
  generalize (dLs dRc) r2.2 = r3 at hE h3 ⊢
  refine dI (k := ?_)
  (set_option smartUnfolding false in conv => whnf)
  refine dI (k := ?_)
  (set_option smartUnfolding false in conv => whnf)
  refine dI (k := ?_)
  (set_option smartUnfolding false in conv => whnf)
  refine dI (k := ?_)
  (set_option smartUnfolding false in conv => whnf)
  rw [hE]
  and_intros <;> first | rfl | exact trivial | (simp [pvle]; done)
theorem Tbatch_sound : Sound Tryz.prog 60 cTbatch := does_sound mixed tabOk_prog gD4_ok Tryz.func60 Tbatch_does
def gD5 : List (FuncId × Ctr) := (60, cTbatch) :: gD4
theorem gD5_ok : GamOk Tryz.prog gD5 := GamOk.cons gD4_ok Tryz.func60 (by kernel_rfl) (by kernel_rfl) Tbatch_sound
def dt57 : In → S57 × In := (gP dBy (gP dTx (gP dTx (gP dNu (gP (dLs dTx) (gP dt55 (gP dNu (gP dNu (gP dNu dNu)))))))))
theorem qt57 : DL dt57 en57 ok57 13 := ((qBy.pair (qTx.pair (qTx.pair (qNu.pair ((qTx.list 16 (by decide) (by decide)).pair (qt55.pair (qNu.pair (qNu.pair (qNu.pair qNu))))))))) : DL ((gP dBy (gP dTx (gP dTx (gP dNu (gP (dLs dTx) (gP dt55 (gP dNu (gP dNu (gP dNu dNu)))))))))) _ _ _).mono (by decide)
abbrev cTmeta : Ctr := cI6 dt57 (fun x : S57 => .agg ((pv57 x).map (AV.p true)))
theorem Tmeta_does : Does gD5 tab Tryz.f64 cTmeta := by
  rintro s (h : s.1.length ≤ 1000000)
  have h0 : (dBy s).2.1.length ≤ 1000000 := Nat.le_trans (qBy.len _) h
  have h1 : (dTx (dBy s).2).2.1.length ≤ 1000000 := Nat.le_trans (qTx.len _) h0
  have h2 : (dTx (dTx (dBy s).2).2).2.1.length ≤ 1000000 := Nat.le_trans (qTx.len _) h1
  have h3 : (dNu (dTx (dTx (dBy s).2).2).2).2.1.length ≤ 1000000 := Nat.le_trans (qNu.len _) h2
  have h4 : ((dLs dTx) (dNu (dTx (dTx (dBy s).2).2).2).2).2.1.length ≤ 1000000 := Nat.le_trans ((qTx.list 16 (by decide) (by decide)).len _) h3
  have h5 : (dt55 ((dLs dTx) (dNu (dTx (dTx (dBy s).2).2).2).2).2).2.1.length ≤ 1000000 := Nat.le_trans (qt55.len _) h4
  have h6 : (dNu (dt55 ((dLs dTx) (dNu (dTx (dTx (dBy s).2).2).2).2).2).2).2.1.length ≤ 1000000 := Nat.le_trans (qNu.len _) h5
  have h7 : (dNu (dNu (dt55 ((dLs dTx) (dNu (dTx (dTx (dBy s).2).2).2).2).2).2).2).2.1.length ≤ 1000000 := Nat.le_trans (qNu.len _) h6
  have h8 : (dNu (dNu (dNu (dt55 ((dLs dTx) (dNu (dTx (dTx (dBy s).2).2).2).2).2).2).2).2).2.1.length ≤ 1000000 := Nat.le_trans (qNu.len _) h7
  have h9 : (dNu (dNu (dNu (dNu (dt55 ((dLs dTx) (dNu (dTx (dTx (dBy s).2).2).2).2).2).2).2).2).2).2.1.length ≤ 1000000 := Nat.le_trans (qNu.len _) h8
  have hE : dt57 s = (((dBy s).1, (dTx (dBy s).2).1, (dTx (dTx (dBy s).2).2).1, (dNu (dTx (dTx (dBy s).2).2).2).1, ((dLs dTx) (dNu (dTx (dTx (dBy s).2).2).2).2).1, (dt55 ((dLs dTx) (dNu (dTx (dTx (dBy s).2).2).2).2).2).1, (dNu (dt55 ((dLs dTx) (dNu (dTx (dTx (dBy s).2).2).2).2).2).2).1, (dNu (dNu (dt55 ((dLs dTx) (dNu (dTx (dTx (dBy s).2).2).2).2).2).2).2).1, (dNu (dNu (dNu (dt55 ((dLs dTx) (dNu (dTx (dTx (dBy s).2).2).2).2).2).2).2).2).1, (dNu (dNu (dNu (dNu (dt55 ((dLs dTx) (dNu (dTx (dTx (dBy s).2).2).2).2).2).2).2).2).2).1), (dNu (dNu (dNu (dNu (dt55 ((dLs dTx) (dNu (dTx (dTx (dBy s).2).2).2).2).2).2).2).2).2).2) := by simp only [dt57, gP]
  (set_option smartUnfolding false in conv => whnf)
  refine ⟨s, ?_⟩
  conv => whnf
  refine And.intro (by simp only [allP, List.nil_append, List.cons_append, true_and]; and_intros <;> first | exact h | rfl) ?_
  (set_option smartUnfolding false in conv => whnf)
  rw [show (dNu s).2 = (dBy s).2 from rfl]
  try rw [dBy_val s]
  generalize dBy s = r0 at hE h0 h1 h2 h3 h4 h5 h6 h7 h8 h9 ⊢
  refine dI (k := ?_)
  (set_option smartUnfolding false in conv => whnf)
  refine ⟨r0.2, ?_⟩
  conv => whnf
  refine And.intro (by simp only [allP, List.nil_append, List.cons_append, true_and]; and_intros <;> first | exact h0 | rfl) ?_
  (set_option smartUnfolding false in conv => whnf)
  generalize dTx r0.2 = r1 at hE h1 h2 h3 h4 h5 h6 h7 h8 h9 ⊢
  refine dI (k := ?_)
  (set_option smartUnfolding false in conv => whnf)
  refine ⟨r1.2, ?_⟩
  conv => whnf
  refine And.intro (by simp only [allP, List.nil_append, List.cons_append, true_and]; and_intros <;> first | exact h1 | rfl) ?_
  (set_option smartUnfolding false in conv => whnf)
  generalize dTx r1.2 = r2 at hE h2 h3 h4 h5 h6 h7 h8 h9 ⊢
  refine dI (k := ?_)
  (set_option smartUnfolding false in conv => whnf)
  refine ⟨r2.2, ?_⟩
  conv => whnf
  refine And.intro (by simp only [allP, List.nil_append, List.cons_append, true_and]; and_intros <;> first | exact h2 | rfl) ?_
  (set_option smartUnfolding false in conv => whnf)
  have w3 := dNu_w r2.2
  generalize dNu r2.2 = r3 at hE h3 h4 h5 h6 h7 h8 h9 w3 ⊢
  try rw [w3]
  refine dI (k := ?_)
  (set_option smartUnfolding false in conv => whnf)
  refine ⟨r3.2, ?_⟩
  conv => whnf
  refine And.intro (by simp only [allP, List.nil_append, List.cons_append, true_and]; and_intros <;> first | exact h3 | rfl) ?_
  (set_option smartUnfolding false in conv => whnf)
  generalize (dLs dTx) r3.2 = r4 at hE h4 h5 h6 h7 h8 h9 ⊢
  refine dI (k := ?_)
  (set_option smartUnfolding false in conv => whnf)
  refine ⟨r4.2, ?_⟩
  conv => whnf
  refine And.intro (by simp only [allP, List.nil_append, List.cons_append, true_and]; and_intros <;> first | exact h4 | rfl) ?_
  (set_option smartUnfolding false in conv => whnf)
  generalize dt55 r4.2 = r5 at hE h5 h6 h7 h8 h9 ⊢
  refine dI (k := ?_)
  (set_option smartUnfolding false in conv => whnf)
  refine ⟨r5.2, ?_⟩
  conv => whnf
  refine And.intro (by simp only [allP, List.nil_append, List.cons_append, true_and]; and_intros <;> first | exact h5 | rfl) ?_
  (set_option smartUnfolding false in conv => whnf)
  have w6 := dNu_w r5.2
  generalize dNu r5.2 = r6 at hE h6 h7 h8 h9 w6 ⊢
  try rw [w6]
  refine dI (k := ?_)
  (set_option smartUnfolding false in conv => whnf)
  refine ⟨r6.2, ?_⟩
  conv => whnf
  refine And.intro (by simp only [allP, List.nil_append, List.cons_append, true_and]; and_intros <;> first | exact h6 | rfl) ?_
  (set_option smartUnfolding false in conv => whnf)
  have w7 := dNu_w r6.2
  generalize dNu r6.2 = r7 at hE h7 h8 h9 w7 ⊢
  try rw [w7]
  refine dI (k := ?_)
  (set_option smartUnfolding false in conv => whnf)
  refine ⟨r7.2, ?_⟩
  conv => whnf
  refine And.intro (by simp only [allP, List.nil_append, List.cons_append, true_and]; and_intros <;> first | exact h7 | rfl) ?_
  (set_option smartUnfolding false in conv => whnf)
  have w8 := dNu_w r7.2
  generalize dNu r7.2 = r8 at hE h8 h9 w8 ⊢
  try rw [w8]
  refine dI (k := ?_)
  (set_option smartUnfolding false in conv => whnf)
  refine ⟨r8.2, ?_⟩
  conv => whnf
  refine And.intro (by simp only [allP, List.nil_append, List.cons_append, true_and]; and_intros <;> first | exact h8 | rfl) ?_
  (set_option smartUnfolding false in conv => whnf)
  have w9 := dNu_w r8.2
  generalize dNu r8.2 = r9 at hE h9 w9 ⊢
  try rw [w9]
  refine dI (k := ?_)
  (set_option smartUnfolding false in conv => whnf)
  refine dI (k := ?_)
  (set_option smartUnfolding false in conv => whnf)
  refine dI (k := ?_)
  (set_option smartUnfolding false in conv => whnf)
  refine dI (k := ?_)
  (set_option smartUnfolding false in conv => whnf)
  rw [hE]
  and_intros <;> first | rfl | exact trivial | (simp [pvle]; done)
theorem Tmeta_sound : Sound Tryz.prog 64 cTmeta := does_sound mixed tabOk_prog gD5_ok Tryz.func64 Tmeta_does
def gD6 : List (FuncId × Ctr) := (64, cTmeta) :: gD5
theorem gD6_ok : GamOk Tryz.prog gD6 := GamOk.cons gD5_ok Tryz.func64 (by kernel_rfl) (by kernel_rfl) Tmeta_sound
def dt70 : In → S70 × In := (gP dNu (gP dNu (gP dNu (gP dNu (gP dBy (dLs dt55))))))
theorem qt70 : DL dt70 en70 ok70 9 := ((qNu.pair (qNu.pair (qNu.pair (qNu.pair (qBy.pair (qt55.list 24 (by decide) (by decide))))))) : DL ((gP dNu (gP dNu (gP dNu (gP dNu (gP dBy (dLs dt55))))))) _ _ _).mono (by decide)
abbrev cTanswer : Ctr := cI6 dt70 (fun x : S70 => .agg ((pv70 x).map (AV.p true)))
theorem Tanswer_does : Does gD6 tab Tryz.f51 cTanswer := by
  rintro s (h : s.1.length ≤ 1000000)
  have h0 : (dNu s).2.1.length ≤ 1000000 := Nat.le_trans (qNu.len _) h
  have h1 : (dNu (dNu s).2).2.1.length ≤ 1000000 := Nat.le_trans (qNu.len _) h0
  have h2 : (dNu (dNu (dNu s).2).2).2.1.length ≤ 1000000 := Nat.le_trans (qNu.len _) h1
  have h3 : (dNu (dNu (dNu (dNu s).2).2).2).2.1.length ≤ 1000000 := Nat.le_trans (qNu.len _) h2
  have h4 : (dBy (dNu (dNu (dNu (dNu s).2).2).2).2).2.1.length ≤ 1000000 := Nat.le_trans (qBy.len _) h3
  have h5 : ((dLs dt55) (dBy (dNu (dNu (dNu (dNu s).2).2).2).2).2).2.1.length ≤ 1000000 := Nat.le_trans ((qt55.list 24 (by decide) (by decide)).len _) h4
  have hE : dt70 s = (((dNu s).1, (dNu (dNu s).2).1, (dNu (dNu (dNu s).2).2).1, (dNu (dNu (dNu (dNu s).2).2).2).1, (dBy (dNu (dNu (dNu (dNu s).2).2).2).2).1, ((dLs dt55) (dBy (dNu (dNu (dNu (dNu s).2).2).2).2).2).1), ((dLs dt55) (dBy (dNu (dNu (dNu (dNu s).2).2).2).2).2).2) := by simp only [dt70, gP]
  (set_option smartUnfolding false in conv => whnf)
  refine ⟨s, ?_⟩
  conv => whnf
  refine And.intro (by simp only [allP, List.nil_append, List.cons_append, true_and]; and_intros <;> first | exact h | rfl) ?_
  (set_option smartUnfolding false in conv => whnf)
  have w0 := dNu_w s
  generalize dNu s = r0 at hE h0 h1 h2 h3 h4 h5 w0 ⊢
  try rw [w0]
  refine dI (k := ?_)
  (set_option smartUnfolding false in conv => whnf)
  refine ⟨r0.2, ?_⟩
  conv => whnf
  refine And.intro (by simp only [allP, List.nil_append, List.cons_append, true_and]; and_intros <;> first | exact h0 | rfl) ?_
  (set_option smartUnfolding false in conv => whnf)
  have w1 := dNu_w r0.2
  generalize dNu r0.2 = r1 at hE h1 h2 h3 h4 h5 w1 ⊢
  try rw [w1]
  refine dI (k := ?_)
  (set_option smartUnfolding false in conv => whnf)
  refine ⟨r1.2, ?_⟩
  conv => whnf
  refine And.intro (by simp only [allP, List.nil_append, List.cons_append, true_and]; and_intros <;> first | exact h1 | rfl) ?_
  (set_option smartUnfolding false in conv => whnf)
  have w2 := dNu_w r1.2
  generalize dNu r1.2 = r2 at hE h2 h3 h4 h5 w2 ⊢
  try rw [w2]
  refine dI (k := ?_)
  (set_option smartUnfolding false in conv => whnf)
  refine ⟨r2.2, ?_⟩
  conv => whnf
  refine And.intro (by simp only [allP, List.nil_append, List.cons_append, true_and]; and_intros <;> first | exact h2 | rfl) ?_
  (set_option smartUnfolding false in conv => whnf)
  have w3 := dNu_w r2.2
  generalize dNu r2.2 = r3 at hE h3 h4 h5 w3 ⊢
  try rw [w3]
  refine dI (k := ?_)
  (set_option smartUnfolding false in conv => whnf)
  refine ⟨r3.2, ?_⟩
  conv => whnf
  refine And.intro (by simp only [allP, List.nil_append, List.cons_append, true_and]; and_intros <;> first | exact h3 | rfl) ?_
  (set_option smartUnfolding false in conv => whnf)
  rw [show (dNu r3.2).2 = (dBy r3.2).2 from rfl]
  try rw [dBy_val r3.2]
  generalize dBy r3.2 = r4 at hE h4 h5 ⊢
  refine dI (k := ?_)
  (set_option smartUnfolding false in conv => whnf)
  refine ⟨r4.2, ?_⟩
  conv => whnf
  refine And.intro (by simp only [allP, List.nil_append, List.cons_append, true_and]; and_intros <;> first | exact h4 | rfl) ?_
  (set_option smartUnfolding false in conv => whnf)
  generalize (dLs dt55) r4.2 = r5 at hE h5 ⊢
  refine dI (k := ?_)
  (set_option smartUnfolding false in conv => whnf)
  refine dI (k := ?_)
  (set_option smartUnfolding false in conv => whnf)
  refine dI (k := ?_)
  (set_option smartUnfolding false in conv => whnf)
  refine dI (k := ?_)
  (set_option smartUnfolding false in conv => whnf)
  rw [hE]
  and_intros <;> first | rfl | exact trivial | (simp [pvle]; done)
theorem Tanswer_sound : Sound Tryz.prog 51 cTanswer := does_sound mixed tabOk_prog gD6_ok Tryz.func51 Tanswer_does
def gD7 : List (FuncId × Ctr) := (51, cTanswer) :: gD6
theorem gD7_ok : GamOk Tryz.prog gD7 := GamOk.cons gD6_ok Tryz.func51 (by kernel_rfl) (by kernel_rfl) Tanswer_sound
end Go.Proofs.YtingmlhhabaplaaGreat.Ev
