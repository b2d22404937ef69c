/- Wire: what the program reads: messages of nodes. No conditions. -/
import Derived.Test.YtingmlhhabaplaaGreatEvWire7a
namespace Go.Proofs.YtingmlhhabaplaaGreat.Ev
open Go
set_option linter.unusedVariables false
set_option linter.unusedSimpArgs false
set_option maxRecDepth 100000
set_option maxHeartbeats 4000000
def gt153 : In → S153 × In := (gP gNu gRc)
theorem rt153 : RL gt153 en153 ok153 := (rNu.pair rRc)
abbrev cIentry : Ctr := cI6 gt153 (fun x : S153 => .agg ((pv153 x).map (AV.p true)))
theorem Ientry_does : Does gX11 tab Tryz.f126 cIentry := by
  rintro s (h : s.1.length ≤ 1000000)
  have h0 : (gNu s).2.1.length ≤ 1000000 := Nat.le_trans (rNu.len _) h
  have h1 : (gRc (gNu s).2).2.1.length ≤ 1000000 := Nat.le_trans (rRc.len _) h0
  have hE : gt153 s = (((gNu s).1, (gRc (gNu s).2).1), (gRc (gNu s).2).2) := by simp only [gt153, gP]
  (set_option smartUnfolding false in conv => whnf)
  refine ⟨s, ?_⟩
  conv => whnf
  refine And.intro (by simp only [allP, List.nil_append, List.cons_append, true_and]; and_intros <;> first | exact h | exact Nat.le_trans h (by decide) | rfl) ?_
  (set_option smartUnfolding false in conv => whnf)
  have w0 := gNu_w s
  generalize gNu s = r0 at hE h0 h1 w0 ⊢
  try rw [w0]
  refine ⟨r0.2, ?_⟩
  conv => whnf
  refine And.intro (by simp only [allP, List.nil_append, List.cons_append, true_and]; and_intros <;> first | exact h0 | exact Nat.le_trans h0 (by decide) | rfl) ?_
  (set_option smartUnfolding false in conv => whnf)
  generalize gRc r0.2 = r1 at hE h1 ⊢
  refine dI (k := ?_)
  (set_option smartUnfolding false in conv => whnf)
  refine dI (k := ?_)
  (set_option smartUnfolding false in conv => whnf)
  rw [hE]
  and_intros <;> first | rfl | exact trivial | (simp [pvle]; done)
theorem Ientry_sound : Sound Tryz.prog 126 cIentry := does_sound mixed tabOk_prog gX11_ok Tryz.func126 Ientry_does
def gXa12 : List (FuncId × Ctr) := (126, cIentry) :: gX11
theorem gXa12_ok : GamOk Tryz.prog gXa12 := GamOk.cons gX11_ok Tryz.func126 (by kernel_rfl) (by kernel_rfl) Ientry_sound
abbrev cEentries : Ctr := ⟨In, 1, fun _ => [.ptr 0 0, .func 126 [.ptr 0 0] []], fun s => [(0, .box [.p false (.sl 1 (bl s.1)), isB s.2])],
  fun s => s.1.length ≤ 1000000, fun s => .p true (.sl 2 ((gLs gt153 s).1.map (fun x : S153 => elOf (pv153 x)))), fun s => [(0, .box [.p false (.sl 1 (bl (gLs gt153 s).2.1)), isB (gLs gt153 s).2.2])]⟩
theorem Eentries_does : Does gXa12 tab Tryz.f125 cEentries := by
  rintro ⟨l, b⟩ (h : l.length ≤ 1000000)
  have hle := gSz_le (l, b)
  have hln : (gSz (l, b)).2.1.length ≤ 1000000 := Nat.le_trans (gSz_len (l, b)) h
  conv => whnf
  refine ⟨(l, b), ?_⟩
  conv => whnf
  refine And.intro (by simp only [allP, List.nil_append, List.cons_append, true_and]; and_intros <;> first | rfl | (show l.length ≤ 1099511627776; omega)) ?_
  conv => whnf
  refine ⟨{i : Nat × List S153 × In // i.2.1 ++ (gLp gt153 i.1 i.2.2).1 = (gLs gt153 (l, b)).1 ∧ (gLp gt153 i.1 i.2.2).2 = (gLs gt153 (l, b)).2 ∧ i.2.2.1.length ≤ 1000000 ∧ i.2.1.length + i.1 ≤ 1000000}, fun i => ⟨[(0, .ptr 0 0), (1, .func 126 [.ptr 0 0] []), (5, .rowf 1), (6, isI .i64 (i.1.1 : Nat))], [(0, .box [.p false (.sl 1 (bl i.1.2.2.1)), isB i.1.2.2.2]), (1, .row 153 2 true false ((i.1.2.1).map (fun x : S153 => elOf (pv153 x))))], 99⟩, fun i => i.1.1, ⟨⟨((gSz (l, b)).1, [], (gSz (l, b)).2), rfl, rfl, hln, by simp only [List.length_nil]; omega⟩, ?_⟩, ?_⟩
  · conv => whnf
    and_intros <;> first | rfl | exact trivial | (simp [pvle]; done)
  rintro ⟨⟨n, out, s⟩, e1, e2, h1, h2⟩
  show aw _ _ _ _ _ _ ⟨[(0, .ptr 0 0), (1, .func 126 [.ptr 0 0] []), (5, .rowf 1), (6, isI .i64 (n : Nat))], [(0, .box [.p false (.sl 1 (bl s.1)), isB s.2]), (1, .row 153 2 true false ((out).map (fun x : S153 => elOf (pv153 x))))], 99⟩
  simp only at e1 e2 h1 h2
  cases n with
  | zero =>
    conv => whnf
    rw [← e1, ← e2]
    simp only [gLp, List.append_nil]
    and_intros <;> first | rfl | exact trivial | (simp [pvle]; done)
  | succ n =>
    obtain ⟨t, bad⟩ := s
    conv => whnf
    rw [show decide (((n + 1 : Nat) : Int) > 0) = true from decide_eq_true (by omega)]
    conv => whnf
    cases bad with
    | true =>
      conv => whnf
      rw [← e1, ← e2]
      simp only [gLp_bad, List.append_nil]
      and_intros <;> first | rfl | exact trivial | (simp [pvle]; done)
    | false =>
      conv => whnf
      have hgl : (gt153 (t, false)).2.1.length ≤ 1000000 := Nat.le_trans (rt153.len _) h1
      refine ⟨(t, false), ?_⟩
      conv => whnf
      refine And.intro (by simp only [allP, List.nil_append, List.cons_append, true_and]; and_intros <;> first | (show t.length ≤ _; simp only at h1; omega) | rfl) ?_
      conv => whnf
      have e1' : out ++ (gt153 (t, false)).1 :: (gLp gt153 n (gt153 (t, false)).2).1 = (gLs gt153 (l, b)).1 := e1
      have e2' : (gLp gt153 n (gt153 (t, false)).2).2 = (gLs gt153 (l, b)).2 := e2
      generalize gt153 (t, false) = q at hgl e1' e2' ⊢
      refine And.intro (by simp only [allP, List.nil_append, List.cons_append, true_and]; rw [List.length_map]; simp only [List.length_cons, List.length_nil]; omega) ?_
      conv => whnf
      refine ⟨⟨(n, out ++ [q.1], q.2), ?_, e2', hgl, ?_⟩, Nat.lt_succ_self n, ?_⟩
      · rw [← e1', List.append_assoc]; rfl
      · simp only [List.length_append, List.length_cons, List.length_nil]; omega
      · conv => whnf
        rw [List.map_append, List.map_cons, List.map_nil]
        and_intros <;> first | rfl | exact trivial | (simp [pvle]; done) | (show pvle (.int .i64 (n : Int)) (.int .i64 (IntKind.i64.wrap (((n + 1 : Nat) : Int) - 1))); rw [wrap_i64 (by omega) (by omega), show (((n + 1 : Nat) : Int) - 1) = (n : Int) by omega]; rfl)
theorem Eentries_sound : Sound Tryz.prog 125 cEentries := does_sound mixed tabOk_prog gXa12_ok Tryz.func125 Eentries_does
def gXa13 : List (FuncId × Ctr) := (125, cEentries) :: gXa12
theorem gXa13_ok : GamOk Tryz.prog gXa13 := GamOk.cons gXa12_ok Tryz.func125 (by kernel_rfl) (by kernel_rfl) Eentries_sound
def gt79 : In → S79 × In := (gP gTx (gP gBy (gP gNu (gP gNu (gP gNu (gP gNu (gP gNu (gP gNu (gP gNu (gP gBo (gP (gLs gt153) gRc)))))))))))
theorem rt79 : RL gt79 en79 ok79 := (rTx.pair (rBy.pair (rNu.pair (rNu.pair (rNu.pair (rNu.pair (rNu.pair (rNu.pair (rNu.pair (rBo.pair ((rt153.list 32 (by decide) (by decide)).pair rRc)))))))))))
abbrev cIraft : Ctr := cI6 gt79 (fun x : S79 => .agg ((pv79 x).map (AV.p true)))
theorem Iraft_does : Does gXa13 tab Tryz.f74 cIraft := by
  rintro s (h : s.1.length ≤ 1000000)
  have h0 : (gTx s).2.1.length ≤ 1000000 := Nat.le_trans (rTx.len _) h
  have h1 : (gBy (gTx s).2).2.1.length ≤ 1000000 := Nat.le_trans (rBy.len _) h0
  have h2 : (gNu (gBy (gTx s).2).2).2.1.length ≤ 1000000 := Nat.le_trans (rNu.len _) h1
  have h3 : (gNu (gNu (gBy (gTx s).2).2).2).2.1.length ≤ 1000000 := Nat.le_trans (rNu.len _) h2
  have h4 : (gNu (gNu (gNu (gBy (gTx s).2).2).2).2).2.1.length ≤ 1000000 := Nat.le_trans (rNu.len _) h3
  have h5 : (gNu (gNu (gNu (gNu (gBy (gTx s).2).2).2).2).2).2.1.length ≤ 1000000 := Nat.le_trans (rNu.len _) h4
  have h6 : (gNu (gNu (gNu (gNu (gNu (gBy (gTx s).2).2).2).2).2).2).2.1.length ≤ 1000000 := Nat.le_trans (rNu.len _) h5
  have h7 : (gNu (gNu (gNu (gNu (gNu (gNu (gBy (gTx s).2).2).2).2).2).2).2).2.1.length ≤ 1000000 := Nat.le_trans (rNu.len _) h6
  have h8 : (gNu (gNu (gNu (gNu (gNu (gNu (gNu (gBy (gTx s).2).2).2).2).2).2).2).2).2.1.length ≤ 1000000 := Nat.le_trans (rNu.len _) h7
  have h9 : (gBo (gNu (gNu (gNu (gNu (gNu (gNu (gNu (gBy (gTx s).2).2).2).2).2).2).2).2).2).2.1.length ≤ 1000000 := Nat.le_trans (rBo.len _) h8
  have h10 : ((gLs gt153) (gBo (gNu (gNu (gNu (gNu (gNu (gNu (gNu (gBy (gTx s).2).2).2).2).2).2).2).2).2).2).2.1.length ≤ 1000000 := Nat.le_trans ((rt153.list 32 (by decide) (by decide)).len _) h9
  have h11 : (gRc ((gLs gt153) (gBo (gNu (gNu (gNu (gNu (gNu (gNu (gNu (gBy (gTx s).2).2).2).2).2).2).2).2).2).2).2).2.1.length ≤ 1000000 := Nat.le_trans (rRc.len _) h10
  have hE : gt79 s = (((gTx s).1, (gBy (gTx s).2).1, (gNu (gBy (gTx s).2).2).1, (gNu (gNu (gBy (gTx s).2).2).2).1, (gNu (gNu (gNu (gBy (gTx s).2).2).2).2).1, (gNu (gNu (gNu (gNu (gBy (gTx s).2).2).2).2).2).1, (gNu (gNu (gNu (gNu (gNu (gBy (gTx s).2).2).2).2).2).2).1, (gNu (gNu (gNu (gNu (gNu (gNu (gBy (gTx s).2).2).2).2).2).2).2).1, (gNu (gNu (gNu (gNu (gNu (gNu (gNu (gBy (gTx s).2).2).2).2).2).2).2).2).1, (gBo (gNu (gNu (gNu (gNu (gNu (gNu (gNu (gBy (gTx s).2).2).2).2).2).2).2).2).2).1, ((gLs gt153) (gBo (gNu (gNu (gNu (gNu (gNu (gNu (gNu (gBy (gTx s).2).2).2).2).2).2).2).2).2).2).1, (gRc ((gLs gt153) (gBo (gNu (gNu (gNu (gNu (gNu (gNu (gNu (gBy (gTx s).2).2).2).2).2).2).2).2).2).2).2).1), (gRc ((gLs gt153) (gBo (gNu (gNu (gNu (gNu (gNu (gNu (gNu (gBy (gTx s).2).2).2).2).2).2).2).2).2).2).2).2) := by simp only [gt79, gP]
  (set_option smartUnfolding false in conv => whnf)
  refine ⟨s, ?_⟩
  conv => whnf
  refine And.intro (by simp only [allP, List.nil_append, List.cons_append, true_and]; and_intros <;> first | exact h | exact Nat.le_trans h (by decide) | rfl) ?_
  (set_option smartUnfolding false in conv => whnf)
  generalize gTx s = r0 at hE h0 h1 h2 h3 h4 h5 h6 h7 h8 h9 h10 h11 ⊢
  refine ⟨r0.2, ?_⟩
  conv => whnf
  refine And.intro (by simp only [allP, List.nil_append, List.cons_append, true_and]; and_intros <;> first | exact h0 | exact Nat.le_trans h0 (by decide) | rfl) ?_
  (set_option smartUnfolding false in conv => whnf)
  have w1 := gBy_w r0.2
  generalize gBy r0.2 = r1 at hE h1 h2 h3 h4 h5 h6 h7 h8 h9 h10 h11 w1 ⊢
  try rw [w1]
  refine ⟨r1.2, ?_⟩
  conv => whnf
  refine And.intro (by simp only [allP, List.nil_append, List.cons_append, true_and]; and_intros <;> first | exact h1 | exact Nat.le_trans h1 (by decide) | rfl) ?_
  (set_option smartUnfolding false in conv => whnf)
  have w2 := gNu_w r1.2
  generalize gNu r1.2 = r2 at hE h2 h3 h4 h5 h6 h7 h8 h9 h10 h11 w2 ⊢
  try rw [w2]
  refine ⟨r2.2, ?_⟩
  conv => whnf
  refine And.intro (by simp only [allP, List.nil_append, List.cons_append, true_and]; and_intros <;> first | exact h2 | exact Nat.le_trans h2 (by decide) | rfl) ?_
  (set_option smartUnfolding false in conv => whnf)
  have w3 := gNu_w r2.2
  generalize gNu r2.2 = r3 at hE h3 h4 h5 h6 h7 h8 h9 h10 h11 w3 ⊢
  try rw [w3]
  refine ⟨r3.2, ?_⟩
  conv => whnf
  refine And.intro (by simp only [allP, List.nil_append, List.cons_append, true_and]; and_intros <;> first | exact h3 | exact Nat.le_trans h3 (by decide) | rfl) ?_
  (set_option smartUnfolding false in conv => whnf)
  have w4 := gNu_w r3.2
  generalize gNu r3.2 = r4 at hE h4 h5 h6 h7 h8 h9 h10 h11 w4 ⊢
  try rw [w4]
  refine ⟨r4.2, ?_⟩
  conv => whnf
  refine And.intro (by simp only [allP, List.nil_append, List.cons_append, true_and]; and_intros <;> first | exact h4 | exact Nat.le_trans h4 (by decide) | rfl) ?_
  (set_option smartUnfolding false in conv => whnf)
  have w5 := gNu_w r4.2
  generalize gNu r4.2 = r5 at hE h5 h6 h7 h8 h9 h10 h11 w5 ⊢
  try rw [w5]
  refine ⟨r5.2, ?_⟩
  conv => whnf
  refine And.intro (by simp only [allP, List.nil_append, List.cons_append, true_and]; and_intros <;> first | exact h5 | exact Nat.le_trans h5 (by decide) | rfl) ?_
  (set_option smartUnfolding false in conv => whnf)
  have w6 := gNu_w r5.2
  generalize gNu r5.2 = r6 at hE h6 h7 h8 h9 h10 h11 w6 ⊢
  try rw [w6]
  refine ⟨r6.2, ?_⟩
  conv => whnf
  refine And.intro (by simp only [allP, List.nil_append, List.cons_append, true_and]; and_intros <;> first | exact h6 | exact Nat.le_trans h6 (by decide) | rfl) ?_
  (set_option smartUnfolding false in conv => whnf)
  have w7 := gNu_w r6.2
  generalize gNu r6.2 = r7 at hE h7 h8 h9 h10 h11 w7 ⊢
  try rw [w7]
  refine ⟨r7.2, ?_⟩
  conv => whnf
  refine And.intro (by simp only [allP, List.nil_append, List.cons_append, true_and]; and_intros <;> first | exact h7 | exact Nat.le_trans h7 (by decide) | rfl) ?_
  (set_option smartUnfolding false in conv => whnf)
  have w8 := gNu_w r7.2
  generalize gNu r7.2 = r8 at hE h8 h9 h10 h11 w8 ⊢
  try rw [w8]
  refine ⟨r8.2, ?_⟩
  conv => whnf
  refine And.intro (by simp only [allP, List.nil_append, List.cons_append, true_and]; and_intros <;> first | exact h8 | exact Nat.le_trans h8 (by decide) | rfl) ?_
  (set_option smartUnfolding false in conv => whnf)
  generalize gBo r8.2 = r9 at hE h9 h10 h11 ⊢
  refine ⟨r9.2, ?_⟩
  conv => whnf
  refine And.intro (by simp only [allP, List.nil_append, List.cons_append, true_and]; and_intros <;> first | exact h9 | exact Nat.le_trans h9 (by decide) | rfl) ?_
  (set_option smartUnfolding false in conv => whnf)
  generalize (gLs gt153) r9.2 = r10 at hE h10 h11 ⊢
  refine ⟨r10.2, ?_⟩
  conv => whnf
  refine And.intro (by simp only [allP, List.nil_append, List.cons_append, true_and]; and_intros <;> first | exact h10 | exact Nat.le_trans h10 (by decide) | rfl) ?_
  (set_option smartUnfolding false in conv => whnf)
  generalize gRc r10.2 = r11 at hE h11 ⊢
  refine dI (k := ?_)
  (set_option smartUnfolding false in conv => whnf)
  refine dI (k := ?_)
  (set_option smartUnfolding false in conv => whnf)
  rw [hE]
  and_intros <;> first | rfl | exact trivial | (simp [pvle]; done)
theorem Iraft_sound : Sound Tryz.prog 74 cIraft := does_sound mixed tabOk_prog gXa13_ok Tryz.func74 Iraft_does
def gXa14 : List (FuncId × Ctr) := (74, cIraft) :: gXa13
theorem gXa14_ok : GamOk Tryz.prog gXa14 := GamOk.cons gXa13_ok Tryz.func74 (by kernel_rfl) (by kernel_rfl) Iraft_sound
end Go.Proofs.YtingmlhhabaplaaGreat.Ev
