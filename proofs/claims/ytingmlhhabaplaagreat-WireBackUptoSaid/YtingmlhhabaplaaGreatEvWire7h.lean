/- Wire: what the program reads: states. No conditions. -/
import Derived.Test.YtingmlhhabaplaaGreatEvWire7a
namespace Go.Proofs.YtingmlhhabaplaaGreat.Ev
open Go
set_option linter.unusedVariables false
set_option linter.unusedSimpArgs false
set_option maxRecDepth 100000
set_option maxHeartbeats 4000000
def gt111 : In → S111 × In := (gP gNu (gP gNu gNu))
theorem rt111 : RL gt111 en111 ok111 := (rNu.pair (rNu.pair rNu))
abbrev cIrecent : Ctr := cI6 gt111 (fun x : S111 => .agg ((pv111 x).map (AV.p true)))
theorem Irecent_does : Does gX11 tab Tryz.f146 cIrecent := by
  rintro s (h : s.1.length ≤ 1000000)
  have h0 : (gNu s).2.1.length ≤ 1000000 := Nat.le_trans (rNu.len _) h
  have h1 : (gNu (gNu s).2).2.1.length ≤ 1000000 := Nat.le_trans (rNu.len _) h0
  have h2 : (gNu (gNu (gNu s).2).2).2.1.length ≤ 1000000 := Nat.le_trans (rNu.len _) h1
  have hE : gt111 s = (((gNu s).1, (gNu (gNu s).2).1, (gNu (gNu (gNu s).2).2).1), (gNu (gNu (gNu s).2).2).2) := by simp only [gt111, gP]
  (set_option smartUnfolding false in conv => whnf)
  refine ⟨s, ?_⟩
  conv => whnf
  refine And.intro (by simp only [allP, List.nil_append, List.cons_append, true_and]; and_intros <;> first | exact h | exact Nat.le_trans h (by decide) | rfl) ?_
  (set_option smartUnfolding false in conv => whnf)
  have w0 := gNu_w s
  generalize gNu s = r0 at hE h0 h1 h2 w0 ⊢
  try rw [w0]
  refine ⟨r0.2, ?_⟩
  conv => whnf
  refine And.intro (by simp only [allP, List.nil_append, List.cons_append, true_and]; and_intros <;> first | exact h0 | exact Nat.le_trans h0 (by decide) | rfl) ?_
  (set_option smartUnfolding false in conv => whnf)
  have w1 := gNu_w r0.2
  generalize gNu r0.2 = r1 at hE h1 h2 w1 ⊢
  try rw [w1]
  refine ⟨r1.2, ?_⟩
  conv => whnf
  refine And.intro (by simp only [allP, List.nil_append, List.cons_append, true_and]; and_intros <;> first | exact h1 | exact Nat.le_trans h1 (by decide) | rfl) ?_
  (set_option smartUnfolding false in conv => whnf)
  have w2 := gNu_w r1.2
  generalize gNu r1.2 = r2 at hE h2 w2 ⊢
  try rw [w2]
  refine dI (k := ?_)
  (set_option smartUnfolding false in conv => whnf)
  refine dI (k := ?_)
  (set_option smartUnfolding false in conv => whnf)
  rw [hE]
  and_intros <;> first | rfl | exact trivial | (simp [pvle]; done)
theorem Irecent_sound : Sound Tryz.prog 146 cIrecent := does_sound mixed tabOk_prog gX11_ok Tryz.func146 Irecent_does
def gXb1 : List (FuncId × Ctr) := (146, cIrecent) :: gX11
theorem gXb1_ok : GamOk Tryz.prog gXb1 := GamOk.cons gX11_ok Tryz.func146 (by kernel_rfl) (by kernel_rfl) Irecent_sound
abbrev cErecents : Ctr := ⟨In, 1, fun _ => [.ptr 0 0, .func 146 [.ptr 0 0] []], fun s => [(0, .box [.p false (.sl 1 (bl s.1)), isB s.2])],
  fun s => s.1.length ≤ 1000000, fun s => .p true (.sl 3 ((gLs gt111 s).1.map (fun x : S111 => elOf (pv111 x)))), fun s => [(0, .box [.p false (.sl 1 (bl (gLs gt111 s).2.1)), isB (gLs gt111 s).2.2])]⟩
theorem Erecents_does : Does gXb1 tab Tryz.f145 cErecents := by
  rintro ⟨l, b⟩ (h : l.length ≤ 1000000)
  have hle := gSz_le (l, b)
  have hln : (gSz (l, b)).2.1.length ≤ 1000000 := Nat.le_trans (gSz_len (l, b)) h
  conv => whnf
  refine ⟨(l, b), ?_⟩
  conv => whnf
  refine And.intro (by simp only [allP, List.nil_append, List.cons_append, true_and]; and_intros <;> first | rfl | (show l.length ≤ 1099511627776; omega)) ?_
  conv => whnf
  refine ⟨{i : Nat × List S111 × In // i.2.1 ++ (gLp gt111 i.1 i.2.2).1 = (gLs gt111 (l, b)).1 ∧ (gLp gt111 i.1 i.2.2).2 = (gLs gt111 (l, b)).2 ∧ i.2.2.1.length ≤ 1000000 ∧ i.2.1.length + i.1 ≤ 1000000}, fun i => ⟨[(0, .ptr 0 0), (1, .func 146 [.ptr 0 0] []), (5, .rowf 1), (6, isI .i64 (i.1.1 : Nat))], [(0, .box [.p false (.sl 1 (bl i.1.2.2.1)), isB i.1.2.2.2]), (1, .row 111 3 true false ((i.1.2.1).map (fun x : S111 => elOf (pv111 x))))], 99⟩, fun i => i.1.1, ⟨⟨((gSz (l, b)).1, [], (gSz (l, b)).2), rfl, rfl, hln, by simp only [List.length_nil]; omega⟩, ?_⟩, ?_⟩
  · conv => whnf
    and_intros <;> first | rfl | exact trivial | (simp [pvle]; done)
  rintro ⟨⟨n, out, s⟩, e1, e2, h1, h2⟩
  show aw _ _ _ _ _ _ ⟨[(0, .ptr 0 0), (1, .func 146 [.ptr 0 0] []), (5, .rowf 1), (6, isI .i64 (n : Nat))], [(0, .box [.p false (.sl 1 (bl s.1)), isB s.2]), (1, .row 111 3 true false ((out).map (fun x : S111 => elOf (pv111 x))))], 99⟩
  simp only at e1 e2 h1 h2
  cases n with
  | zero =>
    conv => whnf
    rw [← e1, ← e2]
    simp only [gLp, List.append_nil]
    and_intros <;> first | rfl | exact trivial | (simp [pvle]; done)
  | succ n =>
    obtain ⟨t, bad⟩ := s
    conv => whnf
    rw [show decide (((n + 1 : Nat) : Int) > 0) = true from decide_eq_true (by omega)]
    conv => whnf
    cases bad with
    | true =>
      conv => whnf
      rw [← e1, ← e2]
      simp only [gLp_bad, List.append_nil]
      and_intros <;> first | rfl | exact trivial | (simp [pvle]; done)
    | false =>
      conv => whnf
      have hgl : (gt111 (t, false)).2.1.length ≤ 1000000 := Nat.le_trans (rt111.len _) h1
      refine ⟨(t, false), ?_⟩
      conv => whnf
      refine And.intro (by simp only [allP, List.nil_append, List.cons_append, true_and]; and_intros <;> first | (show t.length ≤ _; simp only at h1; omega) | rfl) ?_
      conv => whnf
      have e1' : out ++ (gt111 (t, false)).1 :: (gLp gt111 n (gt111 (t, false)).2).1 = (gLs gt111 (l, b)).1 := e1
      have e2' : (gLp gt111 n (gt111 (t, false)).2).2 = (gLs gt111 (l, b)).2 := e2
      generalize gt111 (t, false) = q at hgl e1' e2' ⊢
      refine And.intro (by simp only [allP, List.nil_append, List.cons_append, true_and]; rw [List.length_map]; simp only [List.length_cons, List.length_nil]; omega) ?_
      conv => whnf
      refine ⟨⟨(n, out ++ [q.1], q.2), ?_, e2', hgl, ?_⟩, Nat.lt_succ_self n, ?_⟩
      · rw [← e1', List.append_assoc]; rfl
      · simp only [List.length_append, List.length_cons, List.length_nil]; omega
      · conv => whnf
        rw [List.map_append, List.map_cons, List.map_nil]
        and_intros <;> first | rfl | exact trivial | (simp [pvle]; done) | (show pvle (.int .i64 (n : Int)) (.int .i64 (IntKind.i64.wrap (((n + 1 : Nat) : Int) - 1))); rw [wrap_i64 (by omega) (by omega), show (((n + 1 : Nat) : Int) - 1) = (n : Int) by omega]; rfl)
theorem Erecents_sound : Sound Tryz.prog 145 cErecents := does_sound mixed tabOk_prog gXb1_ok Tryz.func145 Erecents_does
def gXb2 : List (FuncId × Ctr) := (145, cErecents) :: gXb1
theorem gXb2_ok : GamOk Tryz.prog gXb2 := GamOk.cons gXb1_ok Tryz.func145 (by kernel_rfl) (by kernel_rfl) Erecents_sound
def gt109 : In → S109 × In := (gP gNu (gP gNu (gP gNu (gLs gt111))))
theorem rt109 : RL gt109 en109 ok109 := (rNu.pair (rNu.pair (rNu.pair (rt111.list 24 (by decide) (by decide)))))
abbrev cIproducer : Ctr := cI6 gt109 (fun x : S109 => .agg ((pv109 x).map (AV.p true)))
theorem Iproducer_does : Does gXb2 tab Tryz.f89 cIproducer := by
  rintro s (h : s.1.length ≤ 1000000)
  have h0 : (gNu s).2.1.length ≤ 1000000 := Nat.le_trans (rNu.len _) h
  have h1 : (gNu (gNu s).2).2.1.length ≤ 1000000 := Nat.le_trans (rNu.len _) h0
  have h2 : (gNu (gNu (gNu s).2).2).2.1.length ≤ 1000000 := Nat.le_trans (rNu.len _) h1
  have h3 : ((gLs gt111) (gNu (gNu (gNu s).2).2).2).2.1.length ≤ 1000000 := Nat.le_trans ((rt111.list 24 (by decide) (by decide)).len _) h2
  have hE : gt109 s = (((gNu s).1, (gNu (gNu s).2).1, (gNu (gNu (gNu s).2).2).1, ((gLs gt111) (gNu (gNu (gNu s).2).2).2).1), ((gLs gt111) (gNu (gNu (gNu s).2).2).2).2) := by simp only [gt109, gP]
  (set_option smartUnfolding false in conv => whnf)
  refine ⟨s, ?_⟩
  conv => whnf
  refine And.intro (by simp only [allP, List.nil_append, List.cons_append, true_and]; and_intros <;> first | exact h | exact Nat.le_trans h (by decide) | rfl) ?_
  (set_option smartUnfolding false in conv => whnf)
  have w0 := gNu_w s
  generalize gNu s = r0 at hE h0 h1 h2 h3 w0 ⊢
  try rw [w0]
  refine ⟨r0.2, ?_⟩
  conv => whnf
  refine And.intro (by simp only [allP, List.nil_append, List.cons_append, true_and]; and_intros <;> first | exact h0 | exact Nat.le_trans h0 (by decide) | rfl) ?_
  (set_option smartUnfolding false in conv => whnf)
  have w1 := gNu_w r0.2
  generalize gNu r0.2 = r1 at hE h1 h2 h3 w1 ⊢
  try rw [w1]
  refine ⟨r1.2, ?_⟩
  conv => whnf
  refine And.intro (by simp only [allP, List.nil_append, List.cons_append, true_and]; and_intros <;> first | exact h1 | exact Nat.le_trans h1 (by decide) | rfl) ?_
  (set_option smartUnfolding false in conv => whnf)
  have w2 := gNu_w r1.2
  generalize gNu r1.2 = r2 at hE h2 h3 w2 ⊢
  try rw [w2]
  refine ⟨r2.2, ?_⟩
  conv => whnf
  refine And.intro (by simp only [allP, List.nil_append, List.cons_append, true_and]; and_intros <;> first | exact h2 | exact Nat.le_trans h2 (by decide) | rfl) ?_
  (set_option smartUnfolding false in conv => whnf)
  generalize (gLs gt111) r2.2 = r3 at hE h3 ⊢
  refine dI (k := ?_)
  (set_option smartUnfolding false in conv => whnf)
  refine dI (k := ?_)
  (set_option smartUnfolding false in conv => whnf)
  rw [hE]
  and_intros <;> first | rfl | exact trivial | (simp [pvle]; done)
theorem Iproducer_sound : Sound Tryz.prog 89 cIproducer := does_sound mixed tabOk_prog gXb2_ok Tryz.func89 Iproducer_does
def gXb3 : List (FuncId × Ctr) := (89, cIproducer) :: gXb2
theorem gXb3_ok : GamOk Tryz.prog gXb3 := GamOk.cons gXb2_ok Tryz.func89 (by kernel_rfl) (by kernel_rfl) Iproducer_sound
abbrev cEproducers : Ctr := ⟨In, 1, fun _ => [.ptr 0 0, .func 89 [.ptr 0 0] []], fun s => [(0, .box [.p false (.sl 1 (bl s.1)), isB s.2])],
  fun s => s.1.length ≤ 1000000, fun s => .p true (.sl 4 ((gLs gt109 s).1.map (fun x : S109 => elOf (pv109 x)))), fun s => [(0, .box [.p false (.sl 1 (bl (gLs gt109 s).2.1)), isB (gLs gt109 s).2.2])]⟩
theorem Eproducers_does : Does gXb3 tab Tryz.f88 cEproducers := by
  rintro ⟨l, b⟩ (h : l.length ≤ 1000000)
  have hle := gSz_le (l, b)
  have hln : (gSz (l, b)).2.1.length ≤ 1000000 := Nat.le_trans (gSz_len (l, b)) h
  conv => whnf
  refine ⟨(l, b), ?_⟩
  conv => whnf
  refine And.intro (by simp only [allP, List.nil_append, List.cons_append, true_and]; and_intros <;> first | rfl | (show l.length ≤ 1099511627776; omega)) ?_
  conv => whnf
  refine ⟨{i : Nat × List S109 × In // i.2.1 ++ (gLp gt109 i.1 i.2.2).1 = (gLs gt109 (l, b)).1 ∧ (gLp gt109 i.1 i.2.2).2 = (gLs gt109 (l, b)).2 ∧ i.2.2.1.length ≤ 1000000 ∧ i.2.1.length + i.1 ≤ 1000000}, fun i => ⟨[(0, .ptr 0 0), (1, .func 89 [.ptr 0 0] []), (5, .rowf 1), (6, isI .i64 (i.1.1 : Nat))], [(0, .box [.p false (.sl 1 (bl i.1.2.2.1)), isB i.1.2.2.2]), (1, .row 109 4 true false ((i.1.2.1).map (fun x : S109 => elOf (pv109 x))))], 99⟩, fun i => i.1.1, ⟨⟨((gSz (l, b)).1, [], (gSz (l, b)).2), rfl, rfl, hln, by simp only [List.length_nil]; omega⟩, ?_⟩, ?_⟩
  · conv => whnf
    and_intros <;> first | rfl | exact trivial | (simp [pvle]; done)
  rintro ⟨⟨n, out, s⟩, e1, e2, h1, h2⟩
  show aw _ _ _ _ _ _ ⟨[(0, .ptr 0 0), (1, .func 89 [.ptr 0 0] []), (5, .rowf 1), (6, isI .i64 (n : Nat))], [(0, .box [.p false (.sl 1 (bl s.1)), isB s.2]), (1, .row 109 4 true false ((out).map (fun x : S109 => elOf (pv109 x))))], 99⟩
  simp only at e1 e2 h1 h2
  cases n with
  | zero =>
    conv => whnf
    rw [← e1, ← e2]
    simp only [gLp, List.append_nil]
    and_intros <;> first | rfl | exact trivial | (simp [pvle]; done)
  | succ n =>
    obtain ⟨t, bad⟩ := s
    conv => whnf
    rw [show decide (((n + 1 : Nat) : Int) > 0) = true from decide_eq_true (by omega)]
    conv => whnf
    cases bad with
    | true =>
      conv => whnf
      rw [← e1, ← e2]
      simp only [gLp_bad, List.append_nil]
      and_intros <;> first | rfl | exact trivial | (simp [pvle]; done)
    | false =>
      conv => whnf
      have hgl : (gt109 (t, false)).2.1.length ≤ 1000000 := Nat.le_trans (rt109.len _) h1
      refine ⟨(t, false), ?_⟩
      conv => whnf
      refine And.intro (by simp only [allP, List.nil_append, List.cons_append, true_and]; and_intros <;> first | (show t.length ≤ _; simp only at h1; omega) | rfl) ?_
      conv => whnf
      have e1' : out ++ (gt109 (t, false)).1 :: (gLp gt109 n (gt109 (t, false)).2).1 = (gLs gt109 (l, b)).1 := e1
      have e2' : (gLp gt109 n (gt109 (t, false)).2).2 = (gLs gt109 (l, b)).2 := e2
      generalize gt109 (t, false) = q at hgl e1' e2' ⊢
      refine And.intro (by simp only [allP, List.nil_append, List.cons_append, true_and]; rw [List.length_map]; simp only [List.length_cons, List.length_nil]; omega) ?_
      conv => whnf
      refine ⟨⟨(n, out ++ [q.1], q.2), ?_, e2', hgl, ?_⟩, Nat.lt_succ_self n, ?_⟩
      · rw [← e1', List.append_assoc]; rfl
      · simp only [List.length_append, List.length_cons, List.length_nil]; omega
      · conv => whnf
        rw [List.map_append, List.map_cons, List.map_nil]
        and_intros <;> first | rfl | exact trivial | (simp [pvle]; done) | (show pvle (.int .i64 (n : Int)) (.int .i64 (IntKind.i64.wrap (((n + 1 : Nat) : Int) - 1))); rw [wrap_i64 (by omega) (by omega), show (((n + 1 : Nat) : Int) - 1) = (n : Int) by omega]; rfl)
theorem Eproducers_sound : Sound Tryz.prog 88 cEproducers := does_sound mixed tabOk_prog gXb3_ok Tryz.func88 Eproducers_does
def gXb4 : List (FuncId × Ctr) := (88, cEproducers) :: gXb3
theorem gXb4_ok : GamOk Tryz.prog gXb4 := GamOk.cons gXb3_ok Tryz.func88 (by kernel_rfl) (by kernel_rfl) Eproducers_sound
def gt28 : In → S28 × In := (gP gNu (gP gNu (gP (gLs gRc) (gLs gt109))))
theorem rt28 : RL gt28 en28 ok28 := (rNu.pair (rNu.pair ((rRc.list 24 (by decide) (by decide)).pair (rt109.list 48 (by decide) (by decide)))))
abbrev cIparts : Ctr := cI6 gt28 (fun x : S28 => .agg ((pv28 x).map (AV.p true)))
theorem Iparts_does : Does gXb4 tab Tryz.f40 cIparts := by
  rintro s (h : s.1.length ≤ 1000000)
  have h0 : (gNu s).2.1.length ≤ 1000000 := Nat.le_trans (rNu.len _) h
  have h1 : (gNu (gNu s).2).2.1.length ≤ 1000000 := Nat.le_trans (rNu.len _) h0
  have h2 : ((gLs gRc) (gNu (gNu s).2).2).2.1.length ≤ 1000000 := Nat.le_trans ((rRc.list 24 (by decide) (by decide)).len _) h1
  have h3 : ((gLs gt109) ((gLs gRc) (gNu (gNu s).2).2).2).2.1.length ≤ 1000000 := Nat.le_trans ((rt109.list 48 (by decide) (by decide)).len _) h2
  have hE : gt28 s = (((gNu s).1, (gNu (gNu s).2).1, ((gLs gRc) (gNu (gNu s).2).2).1, ((gLs gt109) ((gLs gRc) (gNu (gNu s).2).2).2).1), ((gLs gt109) ((gLs gRc) (gNu (gNu s).2).2).2).2) := by simp only [gt28, gP]
  (set_option smartUnfolding false in conv => whnf)
  refine ⟨s, ?_⟩
  conv => whnf
  refine And.intro (by simp only [allP, List.nil_append, List.cons_append, true_and]; and_intros <;> first | exact h | exact Nat.le_trans h (by decide) | rfl) ?_
  (set_option smartUnfolding false in conv => whnf)
  have w0 := gNu_w s
  generalize gNu s = r0 at hE h0 h1 h2 h3 w0 ⊢
  try rw [w0]
  refine ⟨r0.2, ?_⟩
  conv => whnf
  refine And.intro (by simp only [allP, List.nil_append, List.cons_append, true_and]; and_intros <;> first | exact h0 | exact Nat.le_trans h0 (by decide) | rfl) ?_
  (set_option smartUnfolding false in conv => whnf)
  have w1 := gNu_w r0.2
  generalize gNu r0.2 = r1 at hE h1 h2 h3 w1 ⊢
  try rw [w1]
  refine ⟨r1.2, ?_⟩
  conv => whnf
  refine And.intro (by simp only [allP, List.nil_append, List.cons_append, true_and]; and_intros <;> first | exact h1 | exact Nat.le_trans h1 (by decide) | rfl) ?_
  (set_option smartUnfolding false in conv => whnf)
  generalize (gLs gRc) r1.2 = r2 at hE h2 h3 ⊢
  refine ⟨r2.2, ?_⟩
  conv => whnf
  refine And.intro (by simp only [allP, List.nil_append, List.cons_append, true_and]; and_intros <;> first | exact h2 | exact Nat.le_trans h2 (by decide) | rfl) ?_
  (set_option smartUnfolding false in conv => whnf)
  generalize (gLs gt109) r2.2 = r3 at hE h3 ⊢
  refine dI (k := ?_)
  (set_option smartUnfolding false in conv => whnf)
  refine dI (k := ?_)
  (set_option smartUnfolding false in conv => whnf)
  rw [hE]
  and_intros <;> first | rfl | exact trivial | (simp [pvle]; done)
theorem Iparts_sound : Sound Tryz.prog 40 cIparts := does_sound mixed tabOk_prog gXb4_ok Tryz.func40 Iparts_does
def gXb5 : List (FuncId × Ctr) := (40, cIparts) :: gXb4
theorem gXb5_ok : GamOk Tryz.prog gXb5 := GamOk.cons gXb4_ok Tryz.func40 (by kernel_rfl) (by kernel_rfl) Iparts_sound
def gt190 : In → S190 × In := (gP gTx (gLs gTx))
theorem rt190 : RL gt190 en190 ok190 := (rTx.pair (rTx.list 16 (by decide) (by decide)))
def gt192 : In → S192 × In := (gP gt190 (gP gNu gBo))
theorem rt192 : RL gt192 en192 ok192 := (rt190.pair (rNu.pair rBo))
abbrev cImember : Ctr := cI6 gt192 (fun x : S192 => .agg ((pv192 x).map (AV.p true)))
theorem Imember_does : Does gXb5 tab Tryz.f150 cImember := by
  rintro s (h : s.1.length ≤ 1000000)
  have h0 : (gTx s).2.1.length ≤ 1000000 := Nat.le_trans (rTx.len _) h
  have h1 : ((gLs gTx) (gTx s).2).2.1.length ≤ 1000000 := Nat.le_trans ((rTx.list 16 (by decide) (by decide)).len _) h0
  have h2 : (gNu ((gLs gTx) (gTx s).2).2).2.1.length ≤ 1000000 := Nat.le_trans (rNu.len _) h1
  have h3 : (gBo (gNu ((gLs gTx) (gTx s).2).2).2).2.1.length ≤ 1000000 := Nat.le_trans (rBo.len _) h2
  have hE : gt192 s = ((((gTx s).1, ((gLs gTx) (gTx s).2).1), (gNu ((gLs gTx) (gTx s).2).2).1, (gBo (gNu ((gLs gTx) (gTx s).2).2).2).1), (gBo (gNu ((gLs gTx) (gTx s).2).2).2).2) := by simp only [gt192, gt190, gP]
  (set_option smartUnfolding false in conv => whnf)
  refine ⟨s, ?_⟩
  conv => whnf
  refine And.intro (by simp only [allP, List.nil_append, List.cons_append, true_and]; and_intros <;> first | exact h | exact Nat.le_trans h (by decide) | rfl) ?_
  (set_option smartUnfolding false in conv => whnf)
  generalize gTx s = r0 at hE h0 h1 h2 h3 ⊢
  refine ⟨r0.2, ?_⟩
  conv => whnf
  refine And.intro (by simp only [allP, List.nil_append, List.cons_append, true_and]; and_intros <;> first | exact h0 | exact Nat.le_trans h0 (by decide) | rfl) ?_
  (set_option smartUnfolding false in conv => whnf)
  generalize (gLs gTx) r0.2 = r1 at hE h1 h2 h3 ⊢
  refine ⟨r1.2, ?_⟩
  conv => whnf
  refine And.intro (by simp only [allP, List.nil_append, List.cons_append, true_and]; and_intros <;> first | exact h1 | exact Nat.le_trans h1 (by decide) | rfl) ?_
  (set_option smartUnfolding false in conv => whnf)
  have w2 := gNu_w r1.2
  generalize gNu r1.2 = r2 at hE h2 h3 w2 ⊢
  try rw [w2]
  refine ⟨r2.2, ?_⟩
  conv => whnf
  refine And.intro (by simp only [allP, List.nil_append, List.cons_append, true_and]; and_intros <;> first | exact h2 | exact Nat.le_trans h2 (by decide) | rfl) ?_
  (set_option smartUnfolding false in conv => whnf)
  generalize gBo r2.2 = r3 at hE h3 ⊢
  refine dI (k := ?_)
  (set_option smartUnfolding false in conv => whnf)
  refine dI (k := ?_)
  (set_option smartUnfolding false in conv => whnf)
  rw [hE]
  and_intros <;> first | rfl | exact trivial | (simp [pvle]; done)
theorem Imember_sound : Sound Tryz.prog 150 cImember := does_sound mixed tabOk_prog gXb5_ok Tryz.func150 Imember_does
def gXb6 : List (FuncId × Ctr) := (150, cImember) :: gXb5
theorem gXb6_ok : GamOk Tryz.prog gXb6 := GamOk.cons gXb5_ok Tryz.func150 (by kernel_rfl) (by kernel_rfl) Imember_sound
abbrev cEmembers : Ctr := ⟨In, 1, fun _ => [.ptr 0 0, .func 150 [.ptr 0 0] []], fun s => [(0, .box [.p false (.sl 1 (bl s.1)), isB s.2])],
  fun s => s.1.length ≤ 1000000, fun s => .p true (.sl 4 ((gLs gt192 s).1.map (fun x : S192 => elOf (pv192 x)))), fun s => [(0, .box [.p false (.sl 1 (bl (gLs gt192 s).2.1)), isB (gLs gt192 s).2.2])]⟩
theorem Emembers_does : Does gXb6 tab Tryz.f149 cEmembers := by
  rintro ⟨l, b⟩ (h : l.length ≤ 1000000)
  have hle := gSz_le (l, b)
  have hln : (gSz (l, b)).2.1.length ≤ 1000000 := Nat.le_trans (gSz_len (l, b)) h
  conv => whnf
  refine ⟨(l, b), ?_⟩
  conv => whnf
  refine And.intro (by simp only [allP, List.nil_append, List.cons_append, true_and]; and_intros <;> first | rfl | (show l.length ≤ 1099511627776; omega)) ?_
  conv => whnf
  refine ⟨{i : Nat × List S192 × In // i.2.1 ++ (gLp gt192 i.1 i.2.2).1 = (gLs gt192 (l, b)).1 ∧ (gLp gt192 i.1 i.2.2).2 = (gLs gt192 (l, b)).2 ∧ i.2.2.1.length ≤ 1000000 ∧ i.2.1.length + i.1 ≤ 1000000}, fun i => ⟨[(0, .ptr 0 0), (1, .func 150 [.ptr 0 0] []), (5, .rowf 1), (6, isI .i64 (i.1.1 : Nat))], [(0, .box [.p false (.sl 1 (bl i.1.2.2.1)), isB i.1.2.2.2]), (1, .row 192 4 true false ((i.1.2.1).map (fun x : S192 => elOf (pv192 x))))], 99⟩, fun i => i.1.1, ⟨⟨((gSz (l, b)).1, [], (gSz (l, b)).2), rfl, rfl, hln, by simp only [List.length_nil]; omega⟩, ?_⟩, ?_⟩
  · conv => whnf
    and_intros <;> first | rfl | exact trivial | (simp [pvle]; done)
  rintro ⟨⟨n, out, s⟩, e1, e2, h1, h2⟩
  show aw _ _ _ _ _ _ ⟨[(0, .ptr 0 0), (1, .func 150 [.ptr 0 0] []), (5, .rowf 1), (6, isI .i64 (n : Nat))], [(0, .box [.p false (.sl 1 (bl s.1)), isB s.2]), (1, .row 192 4 true false ((out).map (fun x : S192 => elOf (pv192 x))))], 99⟩
  simp only at e1 e2 h1 h2
  cases n with
  | zero =>
    conv => whnf
    rw [← e1, ← e2]
    simp only [gLp, List.append_nil]
    and_intros <;> first | rfl | exact trivial | (simp [pvle]; done)
  | succ n =>
    obtain ⟨t, bad⟩ := s
    conv => whnf
    rw [show decide (((n + 1 : Nat) : Int) > 0) = true from decide_eq_true (by omega)]
    conv => whnf
    cases bad with
    | true =>
      conv => whnf
      rw [← e1, ← e2]
      simp only [gLp_bad, List.append_nil]
      and_intros <;> first | rfl | exact trivial | (simp [pvle]; done)
    | false =>
      conv => whnf
      have hgl : (gt192 (t, false)).2.1.length ≤ 1000000 := Nat.le_trans (rt192.len _) h1
      refine ⟨(t, false), ?_⟩
      conv => whnf
      refine And.intro (by simp only [allP, List.nil_append, List.cons_append, true_and]; and_intros <;> first | (show t.length ≤ _; simp only at h1; omega) | rfl) ?_
      conv => whnf
      have e1' : out ++ (gt192 (t, false)).1 :: (gLp gt192 n (gt192 (t, false)).2).1 = (gLs gt192 (l, b)).1 := e1
      have e2' : (gLp gt192 n (gt192 (t, false)).2).2 = (gLs gt192 (l, b)).2 := e2
      generalize gt192 (t, false) = q at hgl e1' e2' ⊢
      refine And.intro (by simp only [allP, List.nil_append, List.cons_append, true_and]; rw [List.length_map]; simp only [List.length_cons, List.length_nil]; omega) ?_
      conv => whnf
      refine ⟨⟨(n, out ++ [q.1], q.2), ?_, e2', hgl, ?_⟩, Nat.lt_succ_self n, ?_⟩
      · rw [← e1', List.append_assoc]; rfl
      · simp only [List.length_append, List.length_cons, List.length_nil]; omega
      · conv => whnf
        rw [List.map_append, List.map_cons, List.map_nil]
        and_intros <;> first | rfl | exact trivial | (simp [pvle]; done) | (show pvle (.int .i64 (n : Int)) (.int .i64 (IntKind.i64.wrap (((n + 1 : Nat) : Int) - 1))); rw [wrap_i64 (by omega) (by omega), show (((n + 1 : Nat) : Int) - 1) = (n : Int) by omega]; rfl)
theorem Emembers_sound : Sound Tryz.prog 149 cEmembers := does_sound mixed tabOk_prog gXb6_ok Tryz.func149 Emembers_does
def gXb7 : List (FuncId × Ctr) := (149, cEmembers) :: gXb6
theorem gXb7_ok : GamOk Tryz.prog gXb7 := GamOk.cons gXb6_ok Tryz.func149 (by kernel_rfl) (by kernel_rfl) Emembers_sound
def gt195 : In → S195 × In := (gP gTx (gLs gt55))
theorem rt195 : RL gt195 en195 ok195 := (rTx.pair (rt55.list 24 (by decide) (by decide)))
abbrev cIshare : Ctr := cI6 gt195 (fun x : S195 => .agg ((pv195 x).map (AV.p true)))
theorem Ishare_does : Does gXb7 tab Tryz.f152 cIshare := by
  rintro s (h : s.1.length ≤ 1000000)
  have h0 : (gTx s).2.1.length ≤ 1000000 := Nat.le_trans (rTx.len _) h
  have h1 : ((gLs gt55) (gTx s).2).2.1.length ≤ 1000000 := Nat.le_trans ((rt55.list 24 (by decide) (by decide)).len _) h0
  have hE : gt195 s = (((gTx s).1, ((gLs gt55) (gTx s).2).1), ((gLs gt55) (gTx s).2).2) := by simp only [gt195, gP]
  (set_option smartUnfolding false in conv => whnf)
  refine ⟨s, ?_⟩
  conv => whnf
  refine And.intro (by simp only [allP, List.nil_append, List.cons_append, true_and]; and_intros <;> first | exact h | exact Nat.le_trans h (by decide) | rfl) ?_
  (set_option smartUnfolding false in conv => whnf)
  generalize gTx s = r0 at hE h0 h1 ⊢
  refine ⟨r0.2, ?_⟩
  conv => whnf
  refine And.intro (by simp only [allP, List.nil_append, List.cons_append, true_and]; and_intros <;> first | exact h0 | exact Nat.le_trans h0 (by decide) | rfl) ?_
  (set_option smartUnfolding false in conv => whnf)
  generalize (gLs gt55) r0.2 = r1 at hE h1 ⊢
  refine dI (k := ?_)
  (set_option smartUnfolding false in conv => whnf)
  refine dI (k := ?_)
  (set_option smartUnfolding false in conv => whnf)
  rw [hE]
  and_intros <;> first | rfl | exact trivial | (simp [pvle]; done)
theorem Ishare_sound : Sound Tryz.prog 152 cIshare := does_sound mixed tabOk_prog gXb7_ok Tryz.func152 Ishare_does
def gXb8 : List (FuncId × Ctr) := (152, cIshare) :: gXb7
theorem gXb8_ok : GamOk Tryz.prog gXb8 := GamOk.cons gXb7_ok Tryz.func152 (by kernel_rfl) (by kernel_rfl) Ishare_sound
abbrev cEshares : Ctr := ⟨In, 1, fun _ => [.ptr 0 0, .func 152 [.ptr 0 0] []], fun s => [(0, .box [.p false (.sl 1 (bl s.1)), isB s.2])],
  fun s => s.1.length ≤ 1000000, fun s => .p true (.sl 2 ((gLs gt195 s).1.map (fun x : S195 => elOf (pv195 x)))), fun s => [(0, .box [.p false (.sl 1 (bl (gLs gt195 s).2.1)), isB (gLs gt195 s).2.2])]⟩
theorem Eshares_does : Does gXb8 tab Tryz.f151 cEshares := by
  rintro ⟨l, b⟩ (h : l.length ≤ 1000000)
  have hle := gSz_le (l, b)
  have hln : (gSz (l, b)).2.1.length ≤ 1000000 := Nat.le_trans (gSz_len (l, b)) h
  conv => whnf
  refine ⟨(l, b), ?_⟩
  conv => whnf
  refine And.intro (by simp only [allP, List.nil_append, List.cons_append, true_and]; and_intros <;> first | rfl | (show l.length ≤ 1099511627776; omega)) ?_
  conv => whnf
  refine ⟨{i : Nat × List S195 × In // i.2.1 ++ (gLp gt195 i.1 i.2.2).1 = (gLs gt195 (l, b)).1 ∧ (gLp gt195 i.1 i.2.2).2 = (gLs gt195 (l, b)).2 ∧ i.2.2.1.length ≤ 1000000 ∧ i.2.1.length + i.1 ≤ 1000000}, fun i => ⟨[(0, .ptr 0 0), (1, .func 152 [.ptr 0 0] []), (5, .rowf 1), (6, isI .i64 (i.1.1 : Nat))], [(0, .box [.p false (.sl 1 (bl i.1.2.2.1)), isB i.1.2.2.2]), (1, .row 195 2 true false ((i.1.2.1).map (fun x : S195 => elOf (pv195 x))))], 99⟩, fun i => i.1.1, ⟨⟨((gSz (l, b)).1, [], (gSz (l, b)).2), rfl, rfl, hln, by simp only [List.length_nil]; omega⟩, ?_⟩, ?_⟩
  · conv => whnf
    and_intros <;> first | rfl | exact trivial | (simp [pvle]; done)
  rintro ⟨⟨n, out, s⟩, e1, e2, h1, h2⟩
  show aw _ _ _ _ _ _ ⟨[(0, .ptr 0 0), (1, .func 152 [.ptr 0 0] []), (5, .rowf 1), (6, isI .i64 (n : Nat))], [(0, .box [.p false (.sl 1 (bl s.1)), isB s.2]), (1, .row 195 2 true false ((out).map (fun x : S195 => elOf (pv195 x))))], 99⟩
  simp only at e1 e2 h1 h2
  cases n with
  | zero =>
    conv => whnf
    rw [← e1, ← e2]
    simp only [gLp, List.append_nil]
    and_intros <;> first | rfl | exact trivial | (simp [pvle]; done)
  | succ n =>
    obtain ⟨t, bad⟩ := s
    conv => whnf
    rw [show decide (((n + 1 : Nat) : Int) > 0) = true from decide_eq_true (by omega)]
    conv => whnf
    cases bad with
    | true =>
      conv => whnf
      rw [← e1, ← e2]
      simp only [gLp_bad, List.append_nil]
      and_intros <;> first | rfl | exact trivial | (simp [pvle]; done)
    | false =>
      conv => whnf
      have hgl : (gt195 (t, false)).2.1.length ≤ 1000000 := Nat.le_trans (rt195.len _) h1
      refine ⟨(t, false), ?_⟩
      conv => whnf
      refine And.intro (by simp only [allP, List.nil_append, List.cons_append, true_and]; and_intros <;> first | (show t.length ≤ _; simp only at h1; omega) | rfl) ?_
      conv => whnf
      have e1' : out ++ (gt195 (t, false)).1 :: (gLp gt195 n (gt195 (t, false)).2).1 = (gLs gt195 (l, b)).1 := e1
      have e2' : (gLp gt195 n (gt195 (t, false)).2).2 = (gLs gt195 (l, b)).2 := e2
      generalize gt195 (t, false) = q at hgl e1' e2' ⊢
      refine And.intro (by simp only [allP, List.nil_append, List.cons_append, true_and]; rw [List.length_map]; simp only [List.length_cons, List.length_nil]; omega) ?_
      conv => whnf
      refine ⟨⟨(n, out ++ [q.1], q.2), ?_, e2', hgl, ?_⟩, Nat.lt_succ_self n, ?_⟩
      · rw [← e1', List.append_assoc]; rfl
      · simp only [List.length_append, List.length_cons, List.length_nil]; omega
      · conv => whnf
        rw [List.map_append, List.map_cons, List.map_nil]
        and_intros <;> first | rfl | exact trivial | (simp [pvle]; done) | (show pvle (.int .i64 (n : Int)) (.int .i64 (IntKind.i64.wrap (((n + 1 : Nat) : Int) - 1))); rw [wrap_i64 (by omega) (by omega), show (((n + 1 : Nat) : Int) - 1) = (n : Int) by omega]; rfl)
theorem Eshares_sound : Sound Tryz.prog 151 cEshares := does_sound mixed tabOk_prog gXb8_ok Tryz.func151 Eshares_does
def gXb9 : List (FuncId × Ctr) := (151, cEshares) :: gXb8
theorem gXb9_ok : GamOk Tryz.prog gXb9 := GamOk.cons gXb8_ok Tryz.func151 (by kernel_rfl) (by kernel_rfl) Eshares_sound
def gt199 : In → S199 × In := (gP gt55 gNu)
theorem rt199 : RL gt199 en199 ok199 := (rt55.pair rNu)
abbrev cIkept : Ctr := cI6 gt199 (fun x : S199 => .agg ((pv199 x).map (AV.p true)))
theorem Ikept_does : Does gXb9 tab Tryz.f154 cIkept := by
  rintro s (h : s.1.length ≤ 1000000)
  have h0 : (gt55 s).2.1.length ≤ 1000000 := Nat.le_trans (rt55.len _) h
  have h1 : (gNu (gt55 s).2).2.1.length ≤ 1000000 := Nat.le_trans (rNu.len _) h0
  have hE : gt199 s = (((gt55 s).1, (gNu (gt55 s).2).1), (gNu (gt55 s).2).2) := by simp only [gt199, gP]
  (set_option smartUnfolding false in conv => whnf)
  refine ⟨s, ?_⟩
  conv => whnf
  refine And.intro (by simp only [allP, List.nil_append, List.cons_append, true_and]; and_intros <;> first | exact h | exact Nat.le_trans h (by decide) | rfl) ?_
  (set_option smartUnfolding false in conv => whnf)
  generalize gt55 s = r0 at hE h0 h1 ⊢
  refine ⟨r0.2, ?_⟩
  conv => whnf
  refine And.intro (by simp only [allP, List.nil_append, List.cons_append, true_and]; and_intros <;> first | exact h0 | exact Nat.le_trans h0 (by decide) | rfl) ?_
  (set_option smartUnfolding false in conv => whnf)
  have w1 := gNu_w r0.2
  generalize gNu r0.2 = r1 at hE h1 w1 ⊢
  try rw [w1]
  refine dI (k := ?_)
  (set_option smartUnfolding false in conv => whnf)
  refine dI (k := ?_)
  (set_option smartUnfolding false in conv => whnf)
  rw [hE]
  and_intros <;> first | rfl | exact trivial | (simp [pvle]; done)
theorem Ikept_sound : Sound Tryz.prog 154 cIkept := does_sound mixed tabOk_prog gXb9_ok Tryz.func154 Ikept_does
def gXb10 : List (FuncId × Ctr) := (154, cIkept) :: gXb9
theorem gXb10_ok : GamOk Tryz.prog gXb10 := GamOk.cons gXb9_ok Tryz.func154 (by kernel_rfl) (by kernel_rfl) Ikept_sound
abbrev cEkepts : Ctr := ⟨In, 1, fun _ => [.ptr 0 0, .func 154 [.ptr 0 0] []], fun s => [(0, .box [.p false (.sl 1 (bl s.1)), isB s.2])],
  fun s => s.1.length ≤ 1000000, fun s => .p true (.sl 3 ((gLs gt199 s).1.map (fun x : S199 => elOf (pv199 x)))), fun s => [(0, .box [.p false (.sl 1 (bl (gLs gt199 s).2.1)), isB (gLs gt199 s).2.2])]⟩
theorem Ekepts_does : Does gXb10 tab Tryz.f153 cEkepts := by
  rintro ⟨l, b⟩ (h : l.length ≤ 1000000)
  have hle := gSz_le (l, b)
  have hln : (gSz (l, b)).2.1.length ≤ 1000000 := Nat.le_trans (gSz_len (l, b)) h
  conv => whnf
  refine ⟨(l, b), ?_⟩
  conv => whnf
  refine And.intro (by simp only [allP, List.nil_append, List.cons_append, true_and]; and_intros <;> first | rfl | (show l.length ≤ 1099511627776; omega)) ?_
  conv => whnf
  refine ⟨{i : Nat × List S199 × In // i.2.1 ++ (gLp gt199 i.1 i.2.2).1 = (gLs gt199 (l, b)).1 ∧ (gLp gt199 i.1 i.2.2).2 = (gLs gt199 (l, b)).2 ∧ i.2.2.1.length ≤ 1000000 ∧ i.2.1.length + i.1 ≤ 1000000}, fun i => ⟨[(0, .ptr 0 0), (1, .func 154 [.ptr 0 0] []), (5, .rowf 1), (6, isI .i64 (i.1.1 : Nat))], [(0, .box [.p false (.sl 1 (bl i.1.2.2.1)), isB i.1.2.2.2]), (1, .row 199 3 true false ((i.1.2.1).map (fun x : S199 => elOf (pv199 x))))], 99⟩, fun i => i.1.1, ⟨⟨((gSz (l, b)).1, [], (gSz (l, b)).2), rfl, rfl, hln, by simp only [List.length_nil]; omega⟩, ?_⟩, ?_⟩
  · conv => whnf
    and_intros <;> first | rfl | exact trivial | (simp [pvle]; done)
  rintro ⟨⟨n, out, s⟩, e1, e2, h1, h2⟩
  show aw _ _ _ _ _ _ ⟨[(0, .ptr 0 0), (1, .func 154 [.ptr 0 0] []), (5, .rowf 1), (6, isI .i64 (n : Nat))], [(0, .box [.p false (.sl 1 (bl s.1)), isB s.2]), (1, .row 199 3 true false ((out).map (fun x : S199 => elOf (pv199 x))))], 99⟩
  simp only at e1 e2 h1 h2
  cases n with
  | zero =>
    conv => whnf
    rw [← e1, ← e2]
    simp only [gLp, List.append_nil]
    and_intros <;> first | rfl | exact trivial | (simp [pvle]; done)
  | succ n =>
    obtain ⟨t, bad⟩ := s
    conv => whnf
    rw [show decide (((n + 1 : Nat) : Int) > 0) = true from decide_eq_true (by omega)]
    conv => whnf
    cases bad with
    | true =>
      conv => whnf
      rw [← e1, ← e2]
      simp only [gLp_bad, List.append_nil]
      and_intros <;> first | rfl | exact trivial | (simp [pvle]; done)
    | false =>
      conv => whnf
      have hgl : (gt199 (t, false)).2.1.length ≤ 1000000 := Nat.le_trans (rt199.len _) h1
      refine ⟨(t, false), ?_⟩
      conv => whnf
      refine And.intro (by simp only [allP, List.nil_append, List.cons_append, true_and]; and_intros <;> first | (show t.length ≤ _; simp only at h1; omega) | rfl) ?_
      conv => whnf
      have e1' : out ++ (gt199 (t, false)).1 :: (gLp gt199 n (gt199 (t, false)).2).1 = (gLs gt199 (l, b)).1 := e1
      have e2' : (gLp gt199 n (gt199 (t, false)).2).2 = (gLs gt199 (l, b)).2 := e2
      generalize gt199 (t, false) = q at hgl e1' e2' ⊢
      refine And.intro (by simp only [allP, List.nil_append, List.cons_append, true_and]; rw [List.length_map]; simp only [List.length_cons, List.length_nil]; omega) ?_
      conv => whnf
      refine ⟨⟨(n, out ++ [q.1], q.2), ?_, e2', hgl, ?_⟩, Nat.lt_succ_self n, ?_⟩
      · rw [← e1', List.append_assoc]; rfl
      · simp only [List.length_append, List.length_cons, List.length_nil]; omega
      · conv => whnf
        rw [List.map_append, List.map_cons, List.map_nil]
        and_intros <;> first | rfl | exact trivial | (simp [pvle]; done) | (show pvle (.int .i64 (n : Int)) (.int .i64 (IntKind.i64.wrap (((n + 1 : Nat) : Int) - 1))); rw [wrap_i64 (by omega) (by omega), show (((n + 1 : Nat) : Int) - 1) = (n : Int) by omega]; rfl)
theorem Ekepts_sound : Sound Tryz.prog 153 cEkepts := does_sound mixed tabOk_prog gXb10_ok Tryz.func153 Ekepts_does
def gXb11 : List (FuncId × Ctr) := (153, cEkepts) :: gXb10
theorem gXb11_ok : GamOk Tryz.prog gXb11 := GamOk.cons gXb10_ok Tryz.func153 (by kernel_rfl) (by kernel_rfl) Ekepts_sound
def gt124 : In → S124 × In := (gP gTx (gP gNu (gP gBy (gP gNu (gP (gLs gt192) (gP (gLs gt195) (gLs gt199)))))))
theorem rt124 : RL gt124 en124 ok124 := (rTx.pair (rNu.pair (rBy.pair (rNu.pair ((rt192.list 56 (by decide) (by decide)).pair ((rt195.list 40 (by decide) (by decide)).pair (rt199.list 32 (by decide) (by decide))))))))
abbrev cIgroup : Ctr := cI6 gt124 (fun x : S124 => .agg ((pv124 x).map (AV.p true)))
theorem Igroup_does : Does gXb11 tab Tryz.f102 cIgroup := by
  rintro s (h : s.1.length ≤ 1000000)
  have h0 : (gTx s).2.1.length ≤ 1000000 := Nat.le_trans (rTx.len _) h
  have h1 : (gNu (gTx s).2).2.1.length ≤ 1000000 := Nat.le_trans (rNu.len _) h0
  have h2 : (gBy (gNu (gTx s).2).2).2.1.length ≤ 1000000 := Nat.le_trans (rBy.len _) h1
  have h3 : (gNu (gBy (gNu (gTx s).2).2).2).2.1.length ≤ 1000000 := Nat.le_trans (rNu.len _) h2
  have h4 : ((gLs gt192) (gNu (gBy (gNu (gTx s).2).2).2).2).2.1.length ≤ 1000000 := Nat.le_trans ((rt192.list 56 (by decide) (by decide)).len _) h3
  have h5 : ((gLs gt195) ((gLs gt192) (gNu (gBy (gNu (gTx s).2).2).2).2).2).2.1.length ≤ 1000000 := Nat.le_trans ((rt195.list 40 (by decide) (by decide)).len _) h4
  have h6 : ((gLs gt199) ((gLs gt195) ((gLs gt192) (gNu (gBy (gNu (gTx s).2).2).2).2).2).2).2.1.length ≤ 1000000 := Nat.le_trans ((rt199.list 32 (by decide) (by decide)).len _) h5
  have hE : gt124 s = (((gTx s).1, (gNu (gTx s).2).1, (gBy (gNu (gTx s).2).2).1, (gNu (gBy (gNu (gTx s).2).2).2).1, ((gLs gt192) (gNu (gBy (gNu (gTx s).2).2).2).2).1, ((gLs gt195) ((gLs gt192) (gNu (gBy (gNu (gTx s).2).2).2).2).2).1, ((gLs gt199) ((gLs gt195) ((gLs gt192) (gNu (gBy (gNu (gTx s).2).2).2).2).2).2).1), ((gLs gt199) ((gLs gt195) ((gLs gt192) (gNu (gBy (gNu (gTx s).2).2).2).2).2).2).2) := by simp only [gt124, gP]
  (set_option smartUnfolding false in conv => whnf)
  refine ⟨s, ?_⟩
  conv => whnf
  refine And.intro (by simp only [allP, List.nil_append, List.cons_append, true_and]; and_intros <;> first | exact h | exact Nat.le_trans h (by decide) | rfl) ?_
  (set_option smartUnfolding false in conv => whnf)
  generalize gTx s = r0 at hE h0 h1 h2 h3 h4 h5 h6 ⊢
  refine ⟨r0.2, ?_⟩
  conv => whnf
  refine And.intro (by simp only [allP, List.nil_append, List.cons_append, true_and]; and_intros <;> first | exact h0 | exact Nat.le_trans h0 (by decide) | rfl) ?_
  (set_option smartUnfolding false in conv => whnf)
  have w1 := gNu_w r0.2
  generalize gNu r0.2 = r1 at hE h1 h2 h3 h4 h5 h6 w1 ⊢
  try rw [w1]
  refine ⟨r1.2, ?_⟩
  conv => whnf
  refine And.intro (by simp only [allP, List.nil_append, List.cons_append, true_and]; and_intros <;> first | exact h1 | exact Nat.le_trans h1 (by decide) | rfl) ?_
  (set_option smartUnfolding false in conv => whnf)
  have w2 := gBy_w r1.2
  generalize gBy r1.2 = r2 at hE h2 h3 h4 h5 h6 w2 ⊢
  try rw [w2]
  refine ⟨r2.2, ?_⟩
  conv => whnf
  refine And.intro (by simp only [allP, List.nil_append, List.cons_append, true_and]; and_intros <;> first | exact h2 | exact Nat.le_trans h2 (by decide) | rfl) ?_
  (set_option smartUnfolding false in conv => whnf)
  have w3 := gNu_w r2.2
  generalize gNu r2.2 = r3 at hE h3 h4 h5 h6 w3 ⊢
  try rw [w3]
  refine ⟨r3.2, ?_⟩
  conv => whnf
  refine And.intro (by simp only [allP, List.nil_append, List.cons_append, true_and]; and_intros <;> first | exact h3 | exact Nat.le_trans h3 (by decide) | rfl) ?_
  (set_option smartUnfolding false in conv => whnf)
  generalize (gLs gt192) r3.2 = r4 at hE h4 h5 h6 ⊢
  refine ⟨r4.2, ?_⟩
  conv => whnf
  refine And.intro (by simp only [allP, List.nil_append, List.cons_append, true_and]; and_intros <;> first | exact h4 | exact Nat.le_trans h4 (by decide) | rfl) ?_
  (set_option smartUnfolding false in conv => whnf)
  generalize (gLs gt195) r4.2 = r5 at hE h5 h6 ⊢
  refine ⟨r5.2, ?_⟩
  conv => whnf
  refine And.intro (by simp only [allP, List.nil_append, List.cons_append, true_and]; and_intros <;> first | exact h5 | exact Nat.le_trans h5 (by decide) | rfl) ?_
  (set_option smartUnfolding false in conv => whnf)
  generalize (gLs gt199) r5.2 = r6 at hE h6 ⊢
  refine dI (k := ?_)
  (set_option smartUnfolding false in conv => whnf)
  refine dI (k := ?_)
  (set_option smartUnfolding false in conv => whnf)
  rw [hE]
  and_intros <;> first | rfl | exact trivial | (simp [pvle]; done)
theorem Igroup_sound : Sound Tryz.prog 102 cIgroup := does_sound mixed tabOk_prog gXb11_ok Tryz.func102 Igroup_does
def gXb12 : List (FuncId × Ctr) := (102, cIgroup) :: gXb11
theorem gXb12_ok : GamOk Tryz.prog gXb12 := GamOk.cons gXb11_ok Tryz.func102 (by kernel_rfl) (by kernel_rfl) Igroup_sound
abbrev cEgroups : Ctr := ⟨In, 1, fun _ => [.ptr 0 0, .func 102 [.ptr 0 0] []], fun s => [(0, .box [.p false (.sl 1 (bl s.1)), isB s.2])],
  fun s => s.1.length ≤ 1000000, fun s => .p true (.sl 7 ((gLs gt124 s).1.map (fun x : S124 => elOf (pv124 x)))), fun s => [(0, .box [.p false (.sl 1 (bl (gLs gt124 s).2.1)), isB (gLs gt124 s).2.2])]⟩
theorem Egroups_does : Does gXb12 tab Tryz.f101 cEgroups := by
  rintro ⟨l, b⟩ (h : l.length ≤ 1000000)
  have hle := gSz_le (l, b)
  have hln : (gSz (l, b)).2.1.length ≤ 1000000 := Nat.le_trans (gSz_len (l, b)) h
  conv => whnf
  refine ⟨(l, b), ?_⟩
  conv => whnf
  refine And.intro (by simp only [allP, List.nil_append, List.cons_append, true_and]; and_intros <;> first | rfl | (show l.length ≤ 1099511627776; omega)) ?_
  conv => whnf
  refine ⟨{i : Nat × List S124 × In // i.2.1 ++ (gLp gt124 i.1 i.2.2).1 = (gLs gt124 (l, b)).1 ∧ (gLp gt124 i.1 i.2.2).2 = (gLs gt124 (l, b)).2 ∧ i.2.2.1.length ≤ 1000000 ∧ i.2.1.length + i.1 ≤ 1000000}, fun i => ⟨[(0, .ptr 0 0), (1, .func 102 [.ptr 0 0] []), (5, .rowf 1), (6, isI .i64 (i.1.1 : Nat))], [(0, .box [.p false (.sl 1 (bl i.1.2.2.1)), isB i.1.2.2.2]), (1, .row 124 7 true false ((i.1.2.1).map (fun x : S124 => elOf (pv124 x))))], 99⟩, fun i => i.1.1, ⟨⟨((gSz (l, b)).1, [], (gSz (l, b)).2), rfl, rfl, hln, by simp only [List.length_nil]; omega⟩, ?_⟩, ?_⟩
  · conv => whnf
    and_intros <;> first | rfl | exact trivial | (simp [pvle]; done)
  rintro ⟨⟨n, out, s⟩, e1, e2, h1, h2⟩
  show aw _ _ _ _ _ _ ⟨[(0, .ptr 0 0), (1, .func 102 [.ptr 0 0] []), (5, .rowf 1), (6, isI .i64 (n : Nat))], [(0, .box [.p false (.sl 1 (bl s.1)), isB s.2]), (1, .row 124 7 true false ((out).map (fun x : S124 => elOf (pv124 x))))], 99⟩
  simp only at e1 e2 h1 h2
  cases n with
  | zero =>
    conv => whnf
    rw [← e1, ← e2]
    simp only [gLp, List.append_nil]
    and_intros <;> first | rfl | exact trivial | (simp [pvle]; done)
  | succ n =>
    obtain ⟨t, bad⟩ := s
    conv => whnf
    rw [show decide (((n + 1 : Nat) : Int) > 0) = true from decide_eq_true (by omega)]
    conv => whnf
    cases bad with
    | true =>
      conv => whnf
      rw [← e1, ← e2]
      simp only [gLp_bad, List.append_nil]
      and_intros <;> first | rfl | exact trivial | (simp [pvle]; done)
    | false =>
      conv => whnf
      have hgl : (gt124 (t, false)).2.1.length ≤ 1000000 := Nat.le_trans (rt124.len _) h1
      refine ⟨(t, false), ?_⟩
      conv => whnf
      refine And.intro (by simp only [allP, List.nil_append, List.cons_append, true_and]; and_intros <;> first | (show t.length ≤ _; simp only at h1; omega) | rfl) ?_
      conv => whnf
      have e1' : out ++ (gt124 (t, false)).1 :: (gLp gt124 n (gt124 (t, false)).2).1 = (gLs gt124 (l, b)).1 := e1
      have e2' : (gLp gt124 n (gt124 (t, false)).2).2 = (gLs gt124 (l, b)).2 := e2
      generalize gt124 (t, false) = q at hgl e1' e2' ⊢
      refine And.intro (by simp only [allP, List.nil_append, List.cons_append, true_and]; rw [List.length_map]; simp only [List.length_cons, List.length_nil]; omega) ?_
      conv => whnf
      refine ⟨⟨(n, out ++ [q.1], q.2), ?_, e2', hgl, ?_⟩, Nat.lt_succ_self n, ?_⟩
      · rw [← e1', List.append_assoc]; rfl
      · simp only [List.length_append, List.length_cons, List.length_nil]; omega
      · conv => whnf
        rw [List.map_append, List.map_cons, List.map_nil]
        and_intros <;> first | rfl | exact trivial | (simp [pvle]; done) | (show pvle (.int .i64 (n : Int)) (.int .i64 (IntKind.i64.wrap (((n + 1 : Nat) : Int) - 1))); rw [wrap_i64 (by omega) (by omega), show (((n + 1 : Nat) : Int) - 1) = (n : Int) by omega]; rfl)
theorem Egroups_sound : Sound Tryz.prog 101 cEgroups := does_sound mixed tabOk_prog gXb12_ok Tryz.func101 Egroups_does
def gXb13 : List (FuncId × Ctr) := (101, cEgroups) :: gXb12
theorem gXb13_ok : GamOk Tryz.prog gXb13 := GamOk.cons gXb12_ok Tryz.func101 (by kernel_rfl) (by kernel_rfl) Egroups_sound
def gt130 : In → S130 × In := (gP gNu gt70)
theorem rt130 : RL gt130 en130 ok130 := (rNu.pair rt70)
abbrev cIdone : Ctr := cI6 gt130 (fun x : S130 => .agg ((pv130 x).map (AV.p true)))
theorem Idone_does : Does gXb13 tab Tryz.f156 cIdone := by
  rintro s (h : s.1.length ≤ 1000000)
  have h0 : (gNu s).2.1.length ≤ 1000000 := Nat.le_trans (rNu.len _) h
  have h1 : (gt70 (gNu s).2).2.1.length ≤ 1000000 := Nat.le_trans (rt70.len _) h0
  have hE : gt130 s = (((gNu s).1, (gt70 (gNu s).2).1), (gt70 (gNu s).2).2) := by simp only [gt130, gP]
  (set_option smartUnfolding false in conv => whnf)
  refine ⟨s, ?_⟩
  conv => whnf
  refine And.intro (by simp only [allP, List.nil_append, List.cons_append, true_and]; and_intros <;> first | exact h | exact Nat.le_trans h (by decide) | rfl) ?_
  (set_option smartUnfolding false in conv => whnf)
  have w0 := gNu_w s
  generalize gNu s = r0 at hE h0 h1 w0 ⊢
  try rw [w0]
  refine ⟨r0.2, ?_⟩
  conv => whnf
  refine And.intro (by simp only [allP, List.nil_append, List.cons_append, true_and]; and_intros <;> first | exact h0 | exact Nat.le_trans h0 (by decide) | rfl) ?_
  (set_option smartUnfolding false in conv => whnf)
  generalize gt70 r0.2 = r1 at hE h1 ⊢
  refine dI (k := ?_)
  (set_option smartUnfolding false in conv => whnf)
  refine dI (k := ?_)
  (set_option smartUnfolding false in conv => whnf)
  rw [hE]
  and_intros <;> first | rfl | exact trivial | (simp [pvle]; done)
theorem Idone_sound : Sound Tryz.prog 156 cIdone := does_sound mixed tabOk_prog gXb13_ok Tryz.func156 Idone_does
def gXb14 : List (FuncId × Ctr) := (156, cIdone) :: gXb13
theorem gXb14_ok : GamOk Tryz.prog gXb14 := GamOk.cons gXb13_ok Tryz.func156 (by kernel_rfl) (by kernel_rfl) Idone_sound
abbrev cEtolds : Ctr := ⟨In, 1, fun _ => [.ptr 0 0, .func 156 [.ptr 0 0] []], fun s => [(0, .box [.p false (.sl 1 (bl s.1)), isB s.2])],
  fun s => s.1.length ≤ 1000000, fun s => .p true (.sl 7 ((gLs gt130 s).1.map (fun x : S130 => elOf (pv130 x)))), fun s => [(0, .box [.p false (.sl 1 (bl (gLs gt130 s).2.1)), isB (gLs gt130 s).2.2])]⟩
theorem Etolds_does : Does gXb14 tab Tryz.f155 cEtolds := by
  rintro ⟨l, b⟩ (h : l.length ≤ 1000000)
  have hle := gSz_le (l, b)
  have hln : (gSz (l, b)).2.1.length ≤ 1000000 := Nat.le_trans (gSz_len (l, b)) h
  conv => whnf
  refine ⟨(l, b), ?_⟩
  conv => whnf
  refine And.intro (by simp only [allP, List.nil_append, List.cons_append, true_and]; and_intros <;> first | rfl | (show l.length ≤ 1099511627776; omega)) ?_
  conv => whnf
  refine ⟨{i : Nat × List S130 × In // i.2.1 ++ (gLp gt130 i.1 i.2.2).1 = (gLs gt130 (l, b)).1 ∧ (gLp gt130 i.1 i.2.2).2 = (gLs gt130 (l, b)).2 ∧ i.2.2.1.length ≤ 1000000 ∧ i.2.1.length + i.1 ≤ 1000000}, fun i => ⟨[(0, .ptr 0 0), (1, .func 156 [.ptr 0 0] []), (5, .rowf 1), (6, isI .i64 (i.1.1 : Nat))], [(0, .box [.p false (.sl 1 (bl i.1.2.2.1)), isB i.1.2.2.2]), (1, .row 130 7 true false ((i.1.2.1).map (fun x : S130 => elOf (pv130 x))))], 99⟩, fun i => i.1.1, ⟨⟨((gSz (l, b)).1, [], (gSz (l, b)).2), rfl, rfl, hln, by simp only [List.length_nil]; omega⟩, ?_⟩, ?_⟩
  · conv => whnf
    and_intros <;> first | rfl | exact trivial | (simp [pvle]; done)
  rintro ⟨⟨n, out, s⟩, e1, e2, h1, h2⟩
  show aw _ _ _ _ _ _ ⟨[(0, .ptr 0 0), (1, .func 156 [.ptr 0 0] []), (5, .rowf 1), (6, isI .i64 (n : Nat))], [(0, .box [.p false (.sl 1 (bl s.1)), isB s.2]), (1, .row 130 7 true false ((out).map (fun x : S130 => elOf (pv130 x))))], 99⟩
  simp only at e1 e2 h1 h2
  cases n with
  | zero =>
    conv => whnf
    rw [← e1, ← e2]
    simp only [gLp, List.append_nil]
    and_intros <;> first | rfl | exact trivial | (simp [pvle]; done)
  | succ n =>
    obtain ⟨t, bad⟩ := s
    conv => whnf
    rw [show decide (((n + 1 : Nat) : Int) > 0) = true from decide_eq_true (by omega)]
    conv => whnf
    cases bad with
    | true =>
      conv => whnf
      rw [← e1, ← e2]
      simp only [gLp_bad, List.append_nil]
      and_intros <;> first | rfl | exact trivial | (simp [pvle]; done)
    | false =>
      conv => whnf
      have hgl : (gt130 (t, false)).2.1.length ≤ 1000000 := Nat.le_trans (rt130.len _) h1
      refine ⟨(t, false), ?_⟩
      conv => whnf
      refine And.intro (by simp only [allP, List.nil_append, List.cons_append, true_and]; and_intros <;> first | (show t.length ≤ _; simp only at h1; omega) | rfl) ?_
      conv => whnf
      have e1' : out ++ (gt130 (t, false)).1 :: (gLp gt130 n (gt130 (t, false)).2).1 = (gLs gt130 (l, b)).1 := e1
      have e2' : (gLp gt130 n (gt130 (t, false)).2).2 = (gLs gt130 (l, b)).2 := e2
      generalize gt130 (t, false) = q at hgl e1' e2' ⊢
      refine And.intro (by simp only [allP, List.nil_append, List.cons_append, true_and]; rw [List.length_map]; simp only [List.length_cons, List.length_nil]; omega) ?_
      conv => whnf
      refine ⟨⟨(n, out ++ [q.1], q.2), ?_, e2', hgl, ?_⟩, Nat.lt_succ_self n, ?_⟩
      · rw [← e1', List.append_assoc]; rfl
      · simp only [List.length_append, List.length_cons, List.length_nil]; omega
      · conv => whnf
        rw [List.map_append, List.map_cons, List.map_nil]
        and_intros <;> first | rfl | exact trivial | (simp [pvle]; done) | (show pvle (.int .i64 (n : Int)) (.int .i64 (IntKind.i64.wrap (((n + 1 : Nat) : Int) - 1))); rw [wrap_i64 (by omega) (by omega), show (((n + 1 : Nat) : Int) - 1) = (n : Int) by omega]; rfl)
theorem Etolds_sound : Sound Tryz.prog 155 cEtolds := does_sound mixed tabOk_prog gXb14_ok Tryz.func155 Etolds_does
def gXb15 : List (FuncId × Ctr) := (155, cEtolds) :: gXb14
theorem gXb15_ok : GamOk Tryz.prog gXb15 := GamOk.cons gXb14_ok Tryz.func155 (by kernel_rfl) (by kernel_rfl) Etolds_sound
def gt128 : In → S128 × In := (gP gNu (gP gNu (gLs gt130)))
theorem rt128 : RL gt128 en128 ok128 := (rNu.pair (rNu.pair (rt130.list 72 (by decide) (by decide))))
abbrev cIcaller : Ctr := cI6 gt128 (fun x : S128 => .agg ((pv128 x).map (AV.p true)))
theorem Icaller_does : Does gXb15 tab Tryz.f104 cIcaller := by
  rintro s (h : s.1.length ≤ 1000000)
  have h0 : (gNu s).2.1.length ≤ 1000000 := Nat.le_trans (rNu.len _) h
  have h1 : (gNu (gNu s).2).2.1.length ≤ 1000000 := Nat.le_trans (rNu.len _) h0
  have h2 : ((gLs gt130) (gNu (gNu s).2).2).2.1.length ≤ 1000000 := Nat.le_trans ((rt130.list 72 (by decide) (by decide)).len _) h1
  have hE : gt128 s = (((gNu s).1, (gNu (gNu s).2).1, ((gLs gt130) (gNu (gNu s).2).2).1), ((gLs gt130) (gNu (gNu s).2).2).2) := by simp only [gt128, gP]
  (set_option smartUnfolding false in conv => whnf)
  refine ⟨s, ?_⟩
  conv => whnf
  refine And.intro (by simp only [allP, List.nil_append, List.cons_append, true_and]; and_intros <;> first | exact h | exact Nat.le_trans h (by decide) | rfl) ?_
  (set_option smartUnfolding false in conv => whnf)
  have w0 := gNu_w s
  generalize gNu s = r0 at hE h0 h1 h2 w0 ⊢
  try rw [w0]
  refine ⟨r0.2, ?_⟩
  conv => whnf
  refine And.intro (by simp only [allP, List.nil_append, List.cons_append, true_and]; and_intros <;> first | exact h0 | exact Nat.le_trans h0 (by decide) | rfl) ?_
  (set_option smartUnfolding false in conv => whnf)
  have w1 := gNu_w r0.2
  generalize gNu r0.2 = r1 at hE h1 h2 w1 ⊢
  try rw [w1]
  refine ⟨r1.2, ?_⟩
  conv => whnf
  refine And.intro (by simp only [allP, List.nil_append, List.cons_append, true_and]; and_intros <;> first | exact h1 | exact Nat.le_trans h1 (by decide) | rfl) ?_
  (set_option smartUnfolding false in conv => whnf)
  generalize (gLs gt130) r1.2 = r2 at hE h2 ⊢
  refine dI (k := ?_)
  (set_option smartUnfolding false in conv => whnf)
  refine dI (k := ?_)
  (set_option smartUnfolding false in conv => whnf)
  rw [hE]
  and_intros <;> first | rfl | exact trivial | (simp [pvle]; done)
theorem Icaller_sound : Sound Tryz.prog 104 cIcaller := does_sound mixed tabOk_prog gXb15_ok Tryz.func104 Icaller_does
def gXb16 : List (FuncId × Ctr) := (104, cIcaller) :: gXb15
theorem gXb16_ok : GamOk Tryz.prog gXb16 := GamOk.cons gXb15_ok Tryz.func104 (by kernel_rfl) (by kernel_rfl) Icaller_sound
abbrev cEcallers : Ctr := ⟨In, 1, fun _ => [.ptr 0 0, .func 104 [.ptr 0 0] []], fun s => [(0, .box [.p false (.sl 1 (bl s.1)), isB s.2])],
  fun s => s.1.length ≤ 1000000, fun s => .p true (.sl 3 ((gLs gt128 s).1.map (fun x : S128 => elOf (pv128 x)))), fun s => [(0, .box [.p false (.sl 1 (bl (gLs gt128 s).2.1)), isB (gLs gt128 s).2.2])]⟩
theorem Ecallers_does : Does gXb16 tab Tryz.f103 cEcallers := by
  rintro ⟨l, b⟩ (h : l.length ≤ 1000000)
  have hle := gSz_le (l, b)
  have hln : (gSz (l, b)).2.1.length ≤ 1000000 := Nat.le_trans (gSz_len (l, b)) h
  conv => whnf
  refine ⟨(l, b), ?_⟩
  conv => whnf
  refine And.intro (by simp only [allP, List.nil_append, List.cons_append, true_and]; and_intros <;> first | rfl | (show l.length ≤ 1099511627776; omega)) ?_
  conv => whnf
  refine ⟨{i : Nat × List S128 × In // i.2.1 ++ (gLp gt128 i.1 i.2.2).1 = (gLs gt128 (l, b)).1 ∧ (gLp gt128 i.1 i.2.2).2 = (gLs gt128 (l, b)).2 ∧ i.2.2.1.length ≤ 1000000 ∧ i.2.1.length + i.1 ≤ 1000000}, fun i => ⟨[(0, .ptr 0 0), (1, .func 104 [.ptr 0 0] []), (5, .rowf 1), (6, isI .i64 (i.1.1 : Nat))], [(0, .box [.p false (.sl 1 (bl i.1.2.2.1)), isB i.1.2.2.2]), (1, .row 128 3 true false ((i.1.2.1).map (fun x : S128 => elOf (pv128 x))))], 99⟩, fun i => i.1.1, ⟨⟨((gSz (l, b)).1, [], (gSz (l, b)).2), rfl, rfl, hln, by simp only [List.length_nil]; omega⟩, ?_⟩, ?_⟩
  · conv => whnf
    and_intros <;> first | rfl | exact trivial | (simp [pvle]; done)
  rintro ⟨⟨n, out, s⟩, e1, e2, h1, h2⟩
  show aw _ _ _ _ _ _ ⟨[(0, .ptr 0 0), (1, .func 104 [.ptr 0 0] []), (5, .rowf 1), (6, isI .i64 (n : Nat))], [(0, .box [.p false (.sl 1 (bl s.1)), isB s.2]), (1, .row 128 3 true false ((out).map (fun x : S128 => elOf (pv128 x))))], 99⟩
  simp only at e1 e2 h1 h2
  cases n with
  | zero =>
    conv => whnf
    rw [← e1, ← e2]
    simp only [gLp, List.append_nil]
    and_intros <;> first | rfl | exact trivial | (simp [pvle]; done)
  | succ n =>
    obtain ⟨t, bad⟩ := s
    conv => whnf
    rw [show decide (((n + 1 : Nat) : Int) > 0) = true from decide_eq_true (by omega)]
    conv => whnf
    cases bad with
    | true =>
      conv => whnf
      rw [← e1, ← e2]
      simp only [gLp_bad, List.append_nil]
      and_intros <;> first | rfl | exact trivial | (simp [pvle]; done)
    | false =>
      conv => whnf
      have hgl : (gt128 (t, false)).2.1.length ≤ 1000000 := Nat.le_trans (rt128.len _) h1
      refine ⟨(t, false), ?_⟩
      conv => whnf
      refine And.intro (by simp only [allP, List.nil_append, List.cons_append, true_and]; and_intros <;> first | (show t.length ≤ _; simp only at h1; omega) | rfl) ?_
      conv => whnf
      have e1' : out ++ (gt128 (t, false)).1 :: (gLp gt128 n (gt128 (t, false)).2).1 = (gLs gt128 (l, b)).1 := e1
      have e2' : (gLp gt128 n (gt128 (t, false)).2).2 = (gLs gt128 (l, b)).2 := e2
      generalize gt128 (t, false) = q at hgl e1' e2' ⊢
      refine And.intro (by simp only [allP, List.nil_append, List.cons_append, true_and]; rw [List.length_map]; simp only [List.length_cons, List.length_nil]; omega) ?_
      conv => whnf
      refine ⟨⟨(n, out ++ [q.1], q.2), ?_, e2', hgl, ?_⟩, Nat.lt_succ_self n, ?_⟩
      · rw [← e1', List.append_assoc]; rfl
      · simp only [List.length_append, List.length_cons, List.length_nil]; omega
      · conv => whnf
        rw [List.map_append, List.map_cons, List.map_nil]
        and_intros <;> first | rfl | exact trivial | (simp [pvle]; done) | (show pvle (.int .i64 (n : Int)) (.int .i64 (IntKind.i64.wrap (((n + 1 : Nat) : Int) - 1))); rw [wrap_i64 (by omega) (by omega), show (((n + 1 : Nat) : Int) - 1) = (n : Int) by omega]; rfl)
theorem Ecallers_sound : Sound Tryz.prog 103 cEcallers := does_sound mixed tabOk_prog gXb16_ok Tryz.func103 Ecallers_does
def gXb17 : List (FuncId × Ctr) := (103, cEcallers) :: gXb16
theorem gXb17_ok : GamOk Tryz.prog gXb17 := GamOk.cons gXb16_ok Tryz.func103 (by kernel_rfl) (by kernel_rfl) Ecallers_sound
def gt117 : In → S117 × In := (gP gTx gNu)
theorem rt117 : RL gt117 en117 ok117 := (rTx.pair rNu)
abbrev cImetas_1 : Ctr := cI7 gt117 (fun x : S117 => .agg ((pv117 x).map (AV.p true)))
theorem Imetas_1_does : Does gXb17 tab Tryz.f95 cImetas_1 := by
  rintro s (h : s.1.length ≤ 1000000)
  have h0 : (gTx s).2.1.length ≤ 1000000 := Nat.le_trans (rTx.len _) h
  have h1 : (gNu (gTx s).2).2.1.length ≤ 1000000 := Nat.le_trans (rNu.len _) h0
  have hE : gt117 s = (((gTx s).1, (gNu (gTx s).2).1), (gNu (gTx s).2).2) := by simp only [gt117, gP]
  (set_option smartUnfolding false in conv => whnf)
  refine ⟨s, ?_⟩
  conv => whnf
  refine And.intro (by simp only [allP, List.nil_append, List.cons_append, true_and]; and_intros <;> first | exact h | exact Nat.le_trans h (by decide) | rfl) ?_
  (set_option smartUnfolding false in conv => whnf)
  generalize gTx s = r0 at hE h0 h1 ⊢
  refine ⟨r0.2, ?_⟩
  conv => whnf
  refine And.intro (by simp only [allP, List.nil_append, List.cons_append, true_and]; and_intros <;> first | exact h0 | exact Nat.le_trans h0 (by decide) | rfl) ?_
  (set_option smartUnfolding false in conv => whnf)
  have w1 := gNu_w r0.2
  generalize gNu r0.2 = r1 at hE h1 w1 ⊢
  try rw [w1]
  refine dI (k := ?_)
  (set_option smartUnfolding false in conv => whnf)
  refine ⟨by rfl, ?_⟩
  (set_option smartUnfolding false in conv => whnf)
  refine dI (k := ?_)
  (set_option smartUnfolding false in conv => whnf)
  rw [hE]
  and_intros <;> first | rfl | exact trivial | (simp [pvle]; done)
theorem Imetas_1_sound : Sound Tryz.prog 95 cImetas_1 := does_sound mixed tabOk_prog gXb17_ok Tryz.func95 Imetas_1_does
def gXb18 : List (FuncId × Ctr) := (95, cImetas_1) :: gXb17
theorem gXb18_ok : GamOk Tryz.prog gXb18 := GamOk.cons gXb17_ok Tryz.func95 (by kernel_rfl) (by kernel_rfl) Imetas_1_sound
abbrev cEtopics : Ctr := ⟨In, 2, fun _ => [.ptr 0 0, .func 95 [] [.ptr 1 0]], fun s => [(0, .box [.p false (.sl 1 (bl s.1)), isB s.2]), (1, .box [.ptr 0 0])],
  fun s => s.1.length ≤ 1000000, fun s => .p true (.sl 2 ((gLs gt117 s).1.map (fun x : S117 => elOf (pv117 x)))), fun s => [(0, .box [.p false (.sl 1 (bl (gLs gt117 s).2.1)), isB (gLs gt117 s).2.2]), (1, .box [.ptr 0 0])]⟩
theorem Etopics_does : Does gXb18 tab Tryz.f99 cEtopics := by
  rintro ⟨l, b⟩ (h : l.length ≤ 1000000)
  have hle := gSz_le (l, b)
  have hln : (gSz (l, b)).2.1.length ≤ 1000000 := Nat.le_trans (gSz_len (l, b)) h
  conv => whnf
  refine ⟨(l, b), ?_⟩
  conv => whnf
  refine And.intro (by simp only [allP, List.nil_append, List.cons_append, true_and]; and_intros <;> first | rfl | (show l.length ≤ 1099511627776; omega)) ?_
  conv => whnf
  refine ⟨{i : Nat × List S117 × In // i.2.1 ++ (gLp gt117 i.1 i.2.2).1 = (gLs gt117 (l, b)).1 ∧ (gLp gt117 i.1 i.2.2).2 = (gLs gt117 (l, b)).2 ∧ i.2.2.1.length ≤ 1000000 ∧ i.2.1.length + i.1 ≤ 1000000}, fun i => ⟨[(0, .ptr 0 0), (1, .func 95 [] [.ptr 1 0]), (5, .rowf 2), (6, isI .i64 (i.1.1 : Nat))], [(0, .box [.p false (.sl 1 (bl i.1.2.2.1)), isB i.1.2.2.2]), (1, .box [.ptr 0 0]), (2, .row 117 2 true false ((i.1.2.1).map (fun x : S117 => elOf (pv117 x))))], 99⟩, fun i => i.1.1, ⟨⟨((gSz (l, b)).1, [], (gSz (l, b)).2), rfl, rfl, hln, by simp only [List.length_nil]; omega⟩, ?_⟩, ?_⟩
  · conv => whnf
    and_intros <;> first | rfl | exact trivial | (simp [pvle]; done)
  rintro ⟨⟨n, out, s⟩, e1, e2, h1, h2⟩
  show aw _ _ _ _ _ _ ⟨[(0, .ptr 0 0), (1, .func 95 [] [.ptr 1 0]), (5, .rowf 2), (6, isI .i64 (n : Nat))], [(0, .box [.p false (.sl 1 (bl s.1)), isB s.2]), (1, .box [.ptr 0 0]), (2, .row 117 2 true false ((out).map (fun x : S117 => elOf (pv117 x))))], 99⟩
  simp only at e1 e2 h1 h2
  cases n with
  | zero =>
    conv => whnf
    rw [← e1, ← e2]
    simp only [gLp, List.append_nil]
    and_intros <;> first | rfl | exact trivial | (simp [pvle]; done)
  | succ n =>
    obtain ⟨t, bad⟩ := s
    conv => whnf
    rw [show decide (((n + 1 : Nat) : Int) > 0) = true from decide_eq_true (by omega)]
    conv => whnf
    cases bad with
    | true =>
      conv => whnf
      rw [← e1, ← e2]
      simp only [gLp_bad, List.append_nil]
      and_intros <;> first | rfl | exact trivial | (simp [pvle]; done)
    | false =>
      conv => whnf
      have hgl : (gt117 (t, false)).2.1.length ≤ 1000000 := Nat.le_trans (rt117.len _) h1
      refine ⟨(t, false), ?_⟩
      conv => whnf
      refine And.intro (by simp only [allP, List.nil_append, List.cons_append, true_and]; and_intros <;> first | (show t.length ≤ _; simp only at h1; omega) | rfl) ?_
      conv => whnf
      have e1' : out ++ (gt117 (t, false)).1 :: (gLp gt117 n (gt117 (t, false)).2).1 = (gLs gt117 (l, b)).1 := e1
      have e2' : (gLp gt117 n (gt117 (t, false)).2).2 = (gLs gt117 (l, b)).2 := e2
      generalize gt117 (t, false) = q at hgl e1' e2' ⊢
      refine And.intro (by simp only [allP, List.nil_append, List.cons_append, true_and]; rw [List.length_map]; simp only [List.length_cons, List.length_nil]; omega) ?_
      conv => whnf
      refine ⟨⟨(n, out ++ [q.1], q.2), ?_, e2', hgl, ?_⟩, Nat.lt_succ_self n, ?_⟩
      · rw [← e1', List.append_assoc]; rfl
      · simp only [List.length_append, List.length_cons, List.length_nil]; omega
      · conv => whnf
        rw [List.map_append, List.map_cons, List.map_nil]
        and_intros <;> first | rfl | exact trivial | (simp [pvle]; done) | (show pvle (.int .i64 (n : Int)) (.int .i64 (IntKind.i64.wrap (((n + 1 : Nat) : Int) - 1))); rw [wrap_i64 (by omega) (by omega), show (((n + 1 : Nat) : Int) - 1) = (n : Int) by omega]; rfl)
theorem Etopics_sound : Sound Tryz.prog 99 cEtopics := does_sound mixed tabOk_prog gXb18_ok Tryz.func99 Etopics_does
def gXb19 : List (FuncId × Ctr) := (99, cEtopics) :: gXb18
theorem gXb19_ok : GamOk Tryz.prog gXb19 := GamOk.cons gXb18_ok Tryz.func99 (by kernel_rfl) (by kernel_rfl) Etopics_sound
def gt119 : In → S119 × In := (gP gTx (gP gNu gNu))
theorem rt119 : RL gt119 en119 ok119 := (rTx.pair (rNu.pair rNu))
abbrev cImetas_2 : Ctr := cI7 gt119 (fun x : S119 => .agg ((pv119 x).map (AV.p true)))
theorem Imetas_2_does : Does gXb19 tab Tryz.f98 cImetas_2 := by
  rintro s (h : s.1.length ≤ 1000000)
  have h0 : (gTx s).2.1.length ≤ 1000000 := Nat.le_trans (rTx.len _) h
  have h1 : (gNu (gTx s).2).2.1.length ≤ 1000000 := Nat.le_trans (rNu.len _) h0
  have h2 : (gNu (gNu (gTx s).2).2).2.1.length ≤ 1000000 := Nat.le_trans (rNu.len _) h1
  have hE : gt119 s = (((gTx s).1, (gNu (gTx s).2).1, (gNu (gNu (gTx s).2).2).1), (gNu (gNu (gTx s).2).2).2) := by simp only [gt119, gP]
  (set_option smartUnfolding false in conv => whnf)
  refine ⟨s, ?_⟩
  conv => whnf
  refine And.intro (by simp only [allP, List.nil_append, List.cons_append, true_and]; and_intros <;> first | exact h | exact Nat.le_trans h (by decide) | rfl) ?_
  (set_option smartUnfolding false in conv => whnf)
  generalize gTx s = r0 at hE h0 h1 h2 ⊢
  refine ⟨r0.2, ?_⟩
  conv => whnf
  refine And.intro (by simp only [allP, List.nil_append, List.cons_append, true_and]; and_intros <;> first | exact h0 | exact Nat.le_trans h0 (by decide) | rfl) ?_
  (set_option smartUnfolding false in conv => whnf)
  have w1 := gNu_w r0.2
  generalize gNu r0.2 = r1 at hE h1 h2 w1 ⊢
  try rw [w1]
  refine ⟨r1.2, ?_⟩
  conv => whnf
  refine And.intro (by simp only [allP, List.nil_append, List.cons_append, true_and]; and_intros <;> first | exact h1 | exact Nat.le_trans h1 (by decide) | rfl) ?_
  (set_option smartUnfolding false in conv => whnf)
  have w2 := gNu_w r1.2
  generalize gNu r1.2 = r2 at hE h2 w2 ⊢
  try rw [w2]
  refine dI (k := ?_)
  (set_option smartUnfolding false in conv => whnf)
  refine ⟨by rfl, ?_⟩
  (set_option smartUnfolding false in conv => whnf)
  refine dI (k := ?_)
  (set_option smartUnfolding false in conv => whnf)
  rw [hE]
  and_intros <;> first | rfl | exact trivial | (simp [pvle]; done)
theorem Imetas_2_sound : Sound Tryz.prog 98 cImetas_2 := does_sound mixed tabOk_prog gXb19_ok Tryz.func98 Imetas_2_does
def gXb20 : List (FuncId × Ctr) := (98, cImetas_2) :: gXb19
theorem gXb20_ok : GamOk Tryz.prog gXb20 := GamOk.cons gXb19_ok Tryz.func98 (by kernel_rfl) (by kernel_rfl) Imetas_2_sound
abbrev cEwriters : Ctr := ⟨In, 2, fun _ => [.ptr 0 0, .func 98 [] [.ptr 1 0]], fun s => [(0, .box [.p false (.sl 1 (bl s.1)), isB s.2]), (1, .box [.ptr 0 0])],
  fun s => s.1.length ≤ 1000000, fun s => .p true (.sl 3 ((gLs gt119 s).1.map (fun x : S119 => elOf (pv119 x)))), fun s => [(0, .box [.p false (.sl 1 (bl (gLs gt119 s).2.1)), isB (gLs gt119 s).2.2]), (1, .box [.ptr 0 0])]⟩
theorem Ewriters_does : Does gXb20 tab Tryz.f100 cEwriters := by
  rintro ⟨l, b⟩ (h : l.length ≤ 1000000)
  have hle := gSz_le (l, b)
  have hln : (gSz (l, b)).2.1.length ≤ 1000000 := Nat.le_trans (gSz_len (l, b)) h
  conv => whnf
  refine ⟨(l, b), ?_⟩
  conv => whnf
  refine And.intro (by simp only [allP, List.nil_append, List.cons_append, true_and]; and_intros <;> first | rfl | (show l.length ≤ 1099511627776; omega)) ?_
  conv => whnf
  refine ⟨{i : Nat × List S119 × In // i.2.1 ++ (gLp gt119 i.1 i.2.2).1 = (gLs gt119 (l, b)).1 ∧ (gLp gt119 i.1 i.2.2).2 = (gLs gt119 (l, b)).2 ∧ i.2.2.1.length ≤ 1000000 ∧ i.2.1.length + i.1 ≤ 1000000}, fun i => ⟨[(0, .ptr 0 0), (1, .func 98 [] [.ptr 1 0]), (5, .rowf 2), (6, isI .i64 (i.1.1 : Nat))], [(0, .box [.p false (.sl 1 (bl i.1.2.2.1)), isB i.1.2.2.2]), (1, .box [.ptr 0 0]), (2, .row 119 3 true false ((i.1.2.1).map (fun x : S119 => elOf (pv119 x))))], 99⟩, fun i => i.1.1, ⟨⟨((gSz (l, b)).1, [], (gSz (l, b)).2), rfl, rfl, hln, by simp only [List.length_nil]; omega⟩, ?_⟩, ?_⟩
  · conv => whnf
    and_intros <;> first | rfl | exact trivial | (simp [pvle]; done)
  rintro ⟨⟨n, out, s⟩, e1, e2, h1, h2⟩
  show aw _ _ _ _ _ _ ⟨[(0, .ptr 0 0), (1, .func 98 [] [.ptr 1 0]), (5, .rowf 2), (6, isI .i64 (n : Nat))], [(0, .box [.p false (.sl 1 (bl s.1)), isB s.2]), (1, .box [.ptr 0 0]), (2, .row 119 3 true false ((out).map (fun x : S119 => elOf (pv119 x))))], 99⟩
  simp only at e1 e2 h1 h2
  cases n with
  | zero =>
    conv => whnf
    rw [← e1, ← e2]
    simp only [gLp, List.append_nil]
    and_intros <;> first | rfl | exact trivial | (simp [pvle]; done)
  | succ n =>
    obtain ⟨t, bad⟩ := s
    conv => whnf
    rw [show decide (((n + 1 : Nat) : Int) > 0) = true from decide_eq_true (by omega)]
    conv => whnf
    cases bad with
    | true =>
      conv => whnf
      rw [← e1, ← e2]
      simp only [gLp_bad, List.append_nil]
      and_intros <;> first | rfl | exact trivial | (simp [pvle]; done)
    | false =>
      conv => whnf
      have hgl : (gt119 (t, false)).2.1.length ≤ 1000000 := Nat.le_trans (rt119.len _) h1
      refine ⟨(t, false), ?_⟩
      conv => whnf
      refine And.intro (by simp only [allP, List.nil_append, List.cons_append, true_and]; and_intros <;> first | (show t.length ≤ _; simp only at h1; omega) | rfl) ?_
      conv => whnf
      have e1' : out ++ (gt119 (t, false)).1 :: (gLp gt119 n (gt119 (t, false)).2).1 = (gLs gt119 (l, b)).1 := e1
      have e2' : (gLp gt119 n (gt119 (t, false)).2).2 = (gLs gt119 (l, b)).2 := e2
      generalize gt119 (t, false) = q at hgl e1' e2' ⊢
      refine And.intro (by simp only [allP, List.nil_append, List.cons_append, true_and]; rw [List.length_map]; simp only [List.length_cons, List.length_nil]; omega) ?_
      conv => whnf
      refine ⟨⟨(n, out ++ [q.1], q.2), ?_, e2', hgl, ?_⟩, Nat.lt_succ_self n, ?_⟩
      · rw [← e1', List.append_assoc]; rfl
      · simp only [List.length_append, List.length_cons, List.length_nil]; omega
      · conv => whnf
        rw [List.map_append, List.map_cons, List.map_nil]
        and_intros <;> first | rfl | exact trivial | (simp [pvle]; done) | (show pvle (.int .i64 (n : Int)) (.int .i64 (IntKind.i64.wrap (((n + 1 : Nat) : Int) - 1))); rw [wrap_i64 (by omega) (by omega), show (((n + 1 : Nat) : Int) - 1) = (n : Int) by omega]; rfl)
theorem Ewriters_sound : Sound Tryz.prog 100 cEwriters := does_sound mixed tabOk_prog gXb20_ok Tryz.func100 Ewriters_does
def gXb21 : List (FuncId × Ctr) := (100, cEwriters) :: gXb20
theorem gXb21_ok : GamOk Tryz.prog gXb21 := GamOk.cons gXb20_ok Tryz.func100 (by kernel_rfl) (by kernel_rfl) Ewriters_sound
def gt37 : In → S37 × In := (gP gNu (gP (gLs gt117) (gP (gLs gt119) (gP (gLs gt124) (gLs gt128)))))
theorem rt37 : RL gt37 en37 ok37 := (rNu.pair ((rt117.list 24 (by decide) (by decide)).pair ((rt119.list 32 (by decide) (by decide)).pair ((rt124.list 112 (by decide) (by decide)).pair (rt128.list 40 (by decide) (by decide))))))
abbrev cImetas : Ctr := cI6 gt37 (fun x : S37 => .agg ((pv37 x).map (AV.p true)))
theorem Imetas_does : Does gXb21 tab Tryz.f48 cImetas := by
  rintro s (h : s.1.length ≤ 1000000)
  have h0 : (gNu s).2.1.length ≤ 1000000 := Nat.le_trans (rNu.len _) h
  have h1 : ((gLs gt117) (gNu s).2).2.1.length ≤ 1000000 := Nat.le_trans ((rt117.list 24 (by decide) (by decide)).len _) h0
  have h2 : ((gLs gt119) ((gLs gt117) (gNu s).2).2).2.1.length ≤ 1000000 := Nat.le_trans ((rt119.list 32 (by decide) (by decide)).len _) h1
  have h3 : ((gLs gt124) ((gLs gt119) ((gLs gt117) (gNu s).2).2).2).2.1.length ≤ 1000000 := Nat.le_trans ((rt124.list 112 (by decide) (by decide)).len _) h2
  have h4 : ((gLs gt128) ((gLs gt124) ((gLs gt119) ((gLs gt117) (gNu s).2).2).2).2).2.1.length ≤ 1000000 := Nat.le_trans ((rt128.list 40 (by decide) (by decide)).len _) h3
  have hE : gt37 s = (((gNu s).1, ((gLs gt117) (gNu s).2).1, ((gLs gt119) ((gLs gt117) (gNu s).2).2).1, ((gLs gt124) ((gLs gt119) ((gLs gt117) (gNu s).2).2).2).1, ((gLs gt128) ((gLs gt124) ((gLs gt119) ((gLs gt117) (gNu s).2).2).2).2).1), ((gLs gt128) ((gLs gt124) ((gLs gt119) ((gLs gt117) (gNu s).2).2).2).2).2) := by simp only [gt37, gP]
  (set_option smartUnfolding false in conv => whnf)
  refine ⟨s, ?_⟩
  conv => whnf
  refine And.intro (by simp only [allP, List.nil_append, List.cons_append, true_and]; and_intros <;> first | exact h | exact Nat.le_trans h (by decide) | rfl) ?_
  (set_option smartUnfolding false in conv => whnf)
  have w0 := gNu_w s
  generalize gNu s = r0 at hE h0 h1 h2 h3 h4 w0 ⊢
  try rw [w0]
  refine ⟨r0.2, ?_⟩
  conv => whnf
  refine And.intro (by simp only [allP, List.nil_append, List.cons_append, true_and]; and_intros <;> first | exact h0 | exact Nat.le_trans h0 (by decide) | rfl) ?_
  (set_option smartUnfolding false in conv => whnf)
  generalize (gLs gt117) r0.2 = r1 at hE h1 h2 h3 h4 ⊢
  refine ⟨r1.2, ?_⟩
  conv => whnf
  refine And.intro (by simp only [allP, List.nil_append, List.cons_append, true_and]; and_intros <;> first | exact h1 | exact Nat.le_trans h1 (by decide) | rfl) ?_
  (set_option smartUnfolding false in conv => whnf)
  generalize (gLs gt119) r1.2 = r2 at hE h2 h3 h4 ⊢
  refine ⟨r2.2, ?_⟩
  conv => whnf
  refine And.intro (by simp only [allP, List.nil_append, List.cons_append, true_and]; and_intros <;> first | exact h2 | exact Nat.le_trans h2 (by decide) | rfl) ?_
  (set_option smartUnfolding false in conv => whnf)
  generalize (gLs gt124) r2.2 = r3 at hE h3 h4 ⊢
  refine ⟨r3.2, ?_⟩
  conv => whnf
  refine And.intro (by simp only [allP, List.nil_append, List.cons_append, true_and]; and_intros <;> first | exact h3 | exact Nat.le_trans h3 (by decide) | rfl) ?_
  (set_option smartUnfolding false in conv => whnf)
  generalize (gLs gt128) r3.2 = r4 at hE h4 ⊢
  refine dI (k := ?_)
  (set_option smartUnfolding false in conv => whnf)
  refine ⟨by rfl, ?_⟩
  (set_option smartUnfolding false in conv => whnf)
  refine dI (k := ?_)
  (set_option smartUnfolding false in conv => whnf)
  rw [hE]
  and_intros <;> first | rfl | exact trivial | (simp [pvle]; done)
theorem Imetas_sound : Sound Tryz.prog 48 cImetas := does_sound mixed tabOk_prog gXb21_ok Tryz.func48 Imetas_does
def gXb22 : List (FuncId × Ctr) := (48, cImetas) :: gXb21
theorem gXb22_ok : GamOk Tryz.prog gXb22 := GamOk.cons gXb21_ok Tryz.func48 (by kernel_rfl) (by kernel_rfl) Imetas_sound
end Go.Proofs.YtingmlhhabaplaaGreat.Ev
