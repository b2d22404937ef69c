/- Wire: what the program reads: lists, batches, commands, answers. No conditions. -/
import Derived.Test.YtingmlhhabaplaaGreatEvWire6
import Derived.Test.YtingmlhhabaplaaGreatEvWire1a
namespace Go.Proofs.YtingmlhhabaplaaGreat.Ev
open Go
set_option linter.unusedVariables false
set_option linter.unusedSimpArgs false
set_option maxRecDepth 100000
set_option maxHeartbeats 4000000
/-- A part of a thing read (bounded). -/
abbrev cI6 {X : Type} (get : In → X × In) (av : X → AV) : Ctr := ⟨In, 1, fun _ => [.ptr 0 0], fun s => [(0, .box [.p false (.sl 1 (bl s.1)), isB s.2])],
  fun s => s.1.length ≤ 1000000, fun s => av (get s).1, fun s => [(0, .box [.p false (.sl 1 (bl (get s).2.1)), isB (get s).2.2])]⟩
/-- The same, by a closure over the reader. -/
abbrev cI7 {X : Type} (get : In → X × In) (av : X → AV) : Ctr := ⟨In, 2, fun _ => [.ptr 1 0], fun s => [(0, .box [.p false (.sl 1 (bl s.1)), isB s.2]), (1, .box [.ptr 0 0])],
  fun s => s.1.length ≤ 1000000, fun s => av (get s).1, fun s => [(0, .box [.p false (.sl 1 (bl (get s).2.1)), isB (get s).2.2]), (1, .box [.ptr 0 0])]⟩
theorem gBy_w (s : In) : IntKind.u8.wrap (((gBy s).1.toNat : Nat) : Int) = ((gBy s).1.toNat : Nat) := wrap_u8 (by omega) (by have := u8_lt (gBy s).1; omega)
theorem gNu_rg (s : In) : i64R (gNu s).1 := by
  rcases vGet_form s.1 0 with hf | ⟨v, hv, h1, h2, hf, h3⟩ <;> unfold gNu <;> rw [hf]
  · unfold i64R; simp only; omega
  · exact unzig_bd (by omega) (by omega)
theorem gNu_w (s : In) : IntKind.i64.wrap (gNu s).1 = (gNu s).1 := wrap_i64 (gNu_rg s).1 (gNu_rg s).2
/-- A row of bytes read, as a value. -/
abbrev cIData : Ctr := cI6 gRc (fun x : List UInt8 => .p true (.sl 1 (bl x)))
theorem idata_does : Does gI2 tab Tryz.f127 cIData := by
  rintro ⟨l, b⟩ (h : l.length ≤ 1000000)
  have hle := gSz_le (l, b)
  have hln := gSz_len (l, b)
  have hln' : (gSz (l, b)).2.1.length ≤ 1000000 := Nat.le_trans hln h
  conv => whnf
  refine ⟨(l, b), ?_⟩
  conv => whnf
  refine And.intro (by simp only [allP, List.nil_append, List.cons_append, true_and]; and_intros <;> first | rfl | (show l.length ≤ 1099511627776; omega)) ?_
  conv => whnf
  refine And.intro (by simp only [allP, List.nil_append, List.cons_append, true_and]; rw [bl_length]; omega) ?_
  conv => whnf
  rw [Int.toNat_natCast, show Int.toNat 0 = 0 from rfl, List.drop_zero, bl_take]
  refine ⟨(gSz (l, b)).2.1.take (gSz (l, b)).1, ?_⟩
  conv => whnf
  refine And.intro (by simp only [allP, List.nil_append, List.cons_append, true_and]; and_intros <;> first | rfl | (rw [List.length_take]; omega)) ?_
  conv => whnf
  refine And.intro (by simp only [allP, List.nil_append, List.cons_append, true_and]; rw [bl_length]; omega) ?_
  conv => whnf
  rw [Int.toNat_natCast, Int.toNat_natCast, List.take_length, bl_drop]
  refine dI (k := ?_)
  conv => whnf
  and_intros <;> first | rfl | exact trivial | simp [pvle] | exact bl_isFlat _
theorem idata_sound : Sound Tryz.prog 127 cIData := does_sound mixed tabOk_prog gI2_ok Tryz.func127 idata_does
def gJ0 : List (FuncId × Ctr) := (127, cIData) :: gI2
theorem gJ0_ok : GamOk Tryz.prog gJ0 := GamOk.cons gI2_ok Tryz.func127 (by kernel_rfl) (by kernel_rfl) idata_sound
def gJ1 : List (FuncId × Ctr) := (96, cIText) :: gJ0
theorem gJ1_ok : GamOk Tryz.prog gJ1 := GamOk.cons gJ0_ok Tryz.func96 (by kernel_rfl) (by kernel_rfl) itext_sound
def gJ2 : List (FuncId × Ctr) := (97, cINum) :: gJ1
theorem gJ2_ok : GamOk Tryz.prog gJ2 := GamOk.cons gJ1_ok Tryz.func97 (by kernel_rfl) (by kernel_rfl) iint_sound
def gJ3 : List (FuncId × Ctr) := (121, cIBool) :: gJ2
theorem gJ3_ok : GamOk Tryz.prog gJ3 := GamOk.cons gJ2_ok Tryz.func121 (by kernel_rfl) (by kernel_rfl) ibool_sound
def gJ4 : List (FuncId × Ctr) := (115, cIByte) :: gJ3
theorem gJ4_ok : GamOk Tryz.prog gJ4 := GamOk.cons gJ3_ok Tryz.func115 (by kernel_rfl) (by kernel_rfl) ibyte_sound
abbrev cEtexts : Ctr := ⟨In, 1, fun _ => [.ptr 0 0, .func 96 [.ptr 0 0] []], fun s => [(0, .box [.p false (.sl 1 (bl s.1)), isB s.2])],
  fun s => s.1.length ≤ 1000000, fun s => .p true (.sl 1 ((gLs gTx s).1.map (fun x : ByteArray => elOf [.str x]))), fun s => [(0, .box [.p false (.sl 1 (bl (gLs gTx s).2.1)), isB (gLs gTx s).2.2])]⟩
theorem Etexts_does : Does gJ4 tab Tryz.f165 cEtexts := by
  rintro ⟨l, b⟩ (h : l.length ≤ 1000000)
  have hle := gSz_le (l, b)
  have hln : (gSz (l, b)).2.1.length ≤ 1000000 := Nat.le_trans (gSz_len (l, b)) h
  conv => whnf
  refine ⟨(l, b), ?_⟩
  conv => whnf
  refine And.intro (by simp only [allP, List.nil_append, List.cons_append, true_and]; and_intros <;> first | rfl | (show l.length ≤ 1099511627776; omega)) ?_
  conv => whnf
  refine ⟨{i : Nat × List ByteArray × In // i.2.1 ++ (gLp gTx i.1 i.2.2).1 = (gLs gTx (l, b)).1 ∧ (gLp gTx i.1 i.2.2).2 = (gLs gTx (l, b)).2 ∧ i.2.2.1.length ≤ 1000000 ∧ i.2.1.length + i.1 ≤ 1000000}, fun i => ⟨[(0, .ptr 0 0), (1, .func 96 [.ptr 0 0] []), (5, .rowf 1), (6, isI .i64 (i.1.1 : Nat))], [(0, .box [.p false (.sl 1 (bl i.1.2.2.1)), isB i.1.2.2.2]), (1, .row 9 1 true false ((i.1.2.1).map (fun x : ByteArray => elOf [.str x])))], 99⟩, fun i => i.1.1, ⟨⟨((gSz (l, b)).1, [], (gSz (l, b)).2), rfl, rfl, hln, by simp only [List.length_nil]; omega⟩, ?_⟩, ?_⟩
  · conv => whnf
    and_intros <;> first | rfl | exact trivial | (simp [pvle]; done)
  rintro ⟨⟨n, out, s⟩, e1, e2, h1, h2⟩
  show aw _ _ _ _ _ _ ⟨[(0, .ptr 0 0), (1, .func 96 [.ptr 0 0] []), (5, .rowf 1), (6, isI .i64 (n : Nat))], [(0, .box [.p false (.sl 1 (bl s.1)), isB s.2]), (1, .row 9 1 true false ((out).map (fun x : ByteArray => elOf [.str x])))], 99⟩
  simp only at e1 e2 h1 h2
  cases n with
  | zero =>
    conv => whnf
    rw [← e1, ← e2]
    simp only [gLp, List.append_nil]
    and_intros <;> first | rfl | exact trivial | (simp [pvle]; done)
  | succ n =>
    obtain ⟨t, bad⟩ := s
    conv => whnf
    rw [show decide (((n + 1 : Nat) : Int) > 0) = true from decide_eq_true (by omega)]
    conv => whnf
    cases bad with
    | true =>
      conv => whnf
      rw [← e1, ← e2]
      simp only [gLp_bad, List.append_nil]
      and_intros <;> first | rfl | exact trivial | (simp [pvle]; done)
    | false =>
      conv => whnf
      have hgl : (gTx (t, false)).2.1.length ≤ 1000000 := Nat.le_trans (rTx.len _) h1
      refine ⟨(t, false), ?_⟩
      conv => whnf
      refine And.intro (by simp only [allP, List.nil_append, List.cons_append, true_and]; and_intros <;> first | (show t.length ≤ _; simp only at h1; omega) | rfl) ?_
      conv => whnf
      have e1' : out ++ (gTx (t, false)).1 :: (gLp gTx n (gTx (t, false)).2).1 = (gLs gTx (l, b)).1 := e1
      have e2' : (gLp gTx n (gTx (t, false)).2).2 = (gLs gTx (l, b)).2 := e2
      generalize gTx (t, false) = q at hgl e1' e2' ⊢
      refine And.intro (by simp only [allP, List.nil_append, List.cons_append, true_and]; rw [List.length_map]; simp only [List.length_cons, List.length_nil]; omega) ?_
      conv => whnf
      refine ⟨⟨(n, out ++ [q.1], q.2), ?_, e2', hgl, ?_⟩, Nat.lt_succ_self n, ?_⟩
      · rw [← e1', List.append_assoc]; rfl
      · simp only [List.length_append, List.length_cons, List.length_nil]; omega
      · conv => whnf
        rw [List.map_append, List.map_cons, List.map_nil]
        and_intros <;> first | rfl | exact trivial | (simp [pvle]; done) | (show pvle (.int .i64 (n : Int)) (.int .i64 (IntKind.i64.wrap (((n + 1 : Nat) : Int) - 1))); rw [wrap_i64 (by omega) (by omega), show (((n + 1 : Nat) : Int) - 1) = (n : Int) by omega]; rfl)
theorem Etexts_sound : Sound Tryz.prog 165 cEtexts := does_sound mixed tabOk_prog gJ4_ok Tryz.func165 Etexts_does
def gX1 : List (FuncId × Ctr) := (165, cEtexts) :: gJ4
theorem gX1_ok : GamOk Tryz.prog gX1 := GamOk.cons gJ4_ok Tryz.func165 (by kernel_rfl) (by kernel_rfl) Etexts_sound
abbrev cItexts : Ctr := cI6 (gLs gTx) (fun x : (List ByteArray) => .p true (.sl 1 (x.map fun x => elOf [.str x])))
theorem Itexts_does : Does gX1 tab Tryz.f118 cItexts := by
  rintro ⟨l, b⟩ (h : l.length ≤ 1000000)
  conv => whnf
  refine ⟨(l, b), ?_⟩
  conv => whnf
  refine And.intro (by simp only [allP, List.nil_append, List.cons_append, true_and]; and_intros <;> first | rfl | exact h) ?_
  conv => whnf
  and_intros <;> first | rfl | exact trivial | (simp [pvle]; done)
theorem Itexts_sound : Sound Tryz.prog 118 cItexts := does_sound mixed tabOk_prog gX1_ok Tryz.func118 Itexts_does
def gX2 : List (FuncId × Ctr) := (118, cItexts) :: gX1
theorem gX2_ok : GamOk Tryz.prog gX2 := GamOk.cons gX1_ok Tryz.func118 (by kernel_rfl) (by kernel_rfl) Itexts_sound
abbrev cErecords : Ctr := ⟨In, 1, fun _ => [.ptr 0 0, .func 127 [.ptr 0 0] []], fun s => [(0, .box [.p false (.sl 1 (bl s.1)), isB s.2])],
  fun s => s.1.length ≤ 1000000, fun s => .p true (.sl 1 ((gLs gRc s).1.map (fun x : (List UInt8) => elOf [.sl 1 (bl x)]))), fun s => [(0, .box [.p false (.sl 1 (bl (gLs gRc s).2.1)), isB (gLs gRc s).2.2])]⟩
theorem Erecords_does : Does gX2 tab Tryz.f143 cErecords := by
  rintro ⟨l, b⟩ (h : l.length ≤ 1000000)
  have hle := gSz_le (l, b)
  have hln : (gSz (l, b)).2.1.length ≤ 1000000 := Nat.le_trans (gSz_len (l, b)) h
  conv => whnf
  refine ⟨(l, b), ?_⟩
  conv => whnf
  refine And.intro (by simp only [allP, List.nil_append, List.cons_append, true_and]; and_intros <;> first | rfl | (show l.length ≤ 1099511627776; omega)) ?_
  conv => whnf
  refine ⟨{i : Nat × List (List UInt8) × In // i.2.1 ++ (gLp gRc i.1 i.2.2).1 = (gLs gRc (l, b)).1 ∧ (gLp gRc i.1 i.2.2).2 = (gLs gRc (l, b)).2 ∧ i.2.2.1.length ≤ 1000000 ∧ i.2.1.length + i.1 ≤ 1000000}, fun i => ⟨[(0, .ptr 0 0), (1, .func 127 [.ptr 0 0] []), (5, .rowf 1), (6, isI .i64 (i.1.1 : Nat))], [(0, .box [.p false (.sl 1 (bl i.1.2.2.1)), isB i.1.2.2.2]), (1, .row 22 1 true false ((i.1.2.1).map (fun x : (List UInt8) => elOf [.sl 1 (bl x)])))], 99⟩, fun i => i.1.1, ⟨⟨((gSz (l, b)).1, [], (gSz (l, b)).2), rfl, rfl, hln, by simp only [List.length_nil]; omega⟩, ?_⟩, ?_⟩
  · conv => whnf
    and_intros <;> first | rfl | exact trivial | (simp [pvle]; done)
  rintro ⟨⟨n, out, s⟩, e1, e2, h1, h2⟩
  show aw _ _ _ _ _ _ ⟨[(0, .ptr 0 0), (1, .func 127 [.ptr 0 0] []), (5, .rowf 1), (6, isI .i64 (n : Nat))], [(0, .box [.p false (.sl 1 (bl s.1)), isB s.2]), (1, .row 22 1 true false ((out).map (fun x : (List UInt8) => elOf [.sl 1 (bl x)])))], 99⟩
  simp only at e1 e2 h1 h2
  cases n with
  | zero =>
    conv => whnf
    rw [← e1, ← e2]
    simp only [gLp, List.append_nil]
    and_intros <;> first | rfl | exact trivial | (simp [pvle]; done)
  | succ n =>
    obtain ⟨t, bad⟩ := s
    conv => whnf
    rw [show decide (((n + 1 : Nat) : Int) > 0) = true from decide_eq_true (by omega)]
    conv => whnf
    cases bad with
    | true =>
      conv => whnf
      rw [← e1, ← e2]
      simp only [gLp_bad, List.append_nil]
      and_intros <;> first | rfl | exact trivial | (simp [pvle]; done)
    | false =>
      conv => whnf
      have hgl : (gRc (t, false)).2.1.length ≤ 1000000 := Nat.le_trans (rRc.len _) h1
      refine ⟨(t, false), ?_⟩
      conv => whnf
      refine And.intro (by simp only [allP, List.nil_append, List.cons_append, true_and]; and_intros <;> first | (show t.length ≤ _; simp only at h1; omega) | rfl) ?_
      conv => whnf
      have e1' : out ++ (gRc (t, false)).1 :: (gLp gRc n (gRc (t, false)).2).1 = (gLs gRc (l, b)).1 := e1
      have e2' : (gLp gRc n (gRc (t, false)).2).2 = (gLs gRc (l, b)).2 := e2
      generalize gRc (t, false) = q at hgl e1' e2' ⊢
      refine And.intro (by simp only [allP, List.nil_append, List.cons_append, true_and]; rw [List.length_map]; simp only [List.length_cons, List.length_nil]; omega) ?_
      conv => whnf
      refine ⟨⟨(n, out ++ [q.1], q.2), ?_, e2', hgl, ?_⟩, Nat.lt_succ_self n, ?_⟩
      · rw [← e1', List.append_assoc]; rfl
      · simp only [List.length_append, List.length_cons, List.length_nil]; omega
      · conv => whnf
        rw [List.map_append, List.map_cons, List.map_nil]
        and_intros <;> first | rfl | exact trivial | (simp [pvle]; done) | (show pvle (.int .i64 (n : Int)) (.int .i64 (IntKind.i64.wrap (((n + 1 : Nat) : Int) - 1))); rw [wrap_i64 (by omega) (by omega), show (((n + 1 : Nat) : Int) - 1) = (n : Int) by omega]; rfl)
theorem Erecords_sound : Sound Tryz.prog 143 cErecords := does_sound mixed tabOk_prog gX2_ok Tryz.func143 Erecords_does
def gX3 : List (FuncId × Ctr) := (143, cErecords) :: gX2
theorem gX3_ok : GamOk Tryz.prog gX3 := GamOk.cons gX2_ok Tryz.func143 (by kernel_rfl) (by kernel_rfl) Erecords_sound
abbrev cIrecords : Ctr := cI6 (gLs gRc) (fun x : (List (List UInt8)) => .p true (.sl 1 (x.map fun x => elOf [.sl 1 (bl x)])))
theorem Irecords_does : Does gX3 tab Tryz.f87 cIrecords := by
  rintro ⟨l, b⟩ (h : l.length ≤ 1000000)
  conv => whnf
  refine ⟨(l, b), ?_⟩
  conv => whnf
  refine And.intro (by simp only [allP, List.nil_append, List.cons_append, true_and]; and_intros <;> first | rfl | exact h) ?_
  conv => whnf
  and_intros <;> first | rfl | exact trivial | (simp [pvle]; done)
theorem Irecords_sound : Sound Tryz.prog 87 cIrecords := does_sound mixed tabOk_prog gX3_ok Tryz.func87 Irecords_does
def gX4 : List (FuncId × Ctr) := (87, cIrecords) :: gX3
theorem gX4_ok : GamOk Tryz.prog gX4 := GamOk.cons gX3_ok Tryz.func87 (by kernel_rfl) (by kernel_rfl) Irecords_sound
def gt55 : In → S55 × In := (gP gTx gNu)
theorem rt55 : RL gt55 en55 ok55 := (rTx.pair rNu)
abbrev cIplace : Ctr := cI6 gt55 (fun x : S55 => .agg ((pv55 x).map (AV.p true)))
theorem Iplace_does : Does gX4 tab Tryz.f119 cIplace := by
  rintro s (h : s.1.length ≤ 1000000)
  have h0 : (gTx s).2.1.length ≤ 1000000 := Nat.le_trans (rTx.len _) h
  have h1 : (gNu (gTx s).2).2.1.length ≤ 1000000 := Nat.le_trans (rNu.len _) h0
  have hE : gt55 s = (((gTx s).1, (gNu (gTx s).2).1), (gNu (gTx s).2).2) := by simp only [gt55, gP]
  (set_option smartUnfolding false in conv => whnf)
  refine ⟨s, ?_⟩
  conv => whnf
  refine And.intro (by simp only [allP, List.nil_append, List.cons_append, true_and]; and_intros <;> first | exact h | exact Nat.le_trans h (by decide) | rfl) ?_
  (set_option smartUnfolding false in conv => whnf)
  generalize gTx s = r0 at hE h0 h1 ⊢
  refine ⟨r0.2, ?_⟩
  conv => whnf
  refine And.intro (by simp only [allP, List.nil_append, List.cons_append, true_and]; and_intros <;> first | exact h0 | exact Nat.le_trans h0 (by decide) | rfl) ?_
  (set_option smartUnfolding false in conv => whnf)
  have w1 := gNu_w r0.2
  generalize gNu r0.2 = r1 at hE h1 w1 ⊢
  try rw [w1]
  refine dI (k := ?_)
  (set_option smartUnfolding false in conv => whnf)
  refine dI (k := ?_)
  (set_option smartUnfolding false in conv => whnf)
  rw [hE]
  and_intros <;> first | rfl | exact trivial | (simp [pvle]; done)
theorem Iplace_sound : Sound Tryz.prog 119 cIplace := does_sound mixed tabOk_prog gX4_ok Tryz.func119 Iplace_does
def gX5 : List (FuncId × Ctr) := (119, cIplace) :: gX4
theorem gX5_ok : GamOk Tryz.prog gX5 := GamOk.cons gX4_ok Tryz.func119 (by kernel_rfl) (by kernel_rfl) Iplace_sound
abbrev cEplaces : Ctr := ⟨In, 1, fun _ => [.ptr 0 0, .func 119 [.ptr 0 0] []], fun s => [(0, .box [.p false (.sl 1 (bl s.1)), isB s.2])],
  fun s => s.1.length ≤ 1000000, fun s => .p true (.sl 2 ((gLs gt55 s).1.map (fun x : S55 => elOf (pv55 x)))), fun s => [(0, .box [.p false (.sl 1 (bl (gLs gt55 s).2.1)), isB (gLs gt55 s).2.2])]⟩
theorem Eplaces_does : Does gX5 tab Tryz.f194 cEplaces := by
  rintro ⟨l, b⟩ (h : l.length ≤ 1000000)
  have hle := gSz_le (l, b)
  have hln : (gSz (l, b)).2.1.length ≤ 1000000 := Nat.le_trans (gSz_len (l, b)) h
  conv => whnf
  refine ⟨(l, b), ?_⟩
  conv => whnf
  refine And.intro (by simp only [allP, List.nil_append, List.cons_append, true_and]; and_intros <;> first | rfl | (show l.length ≤ 1099511627776; omega)) ?_
  conv => whnf
  refine ⟨{i : Nat × List S55 × In // i.2.1 ++ (gLp gt55 i.1 i.2.2).1 = (gLs gt55 (l, b)).1 ∧ (gLp gt55 i.1 i.2.2).2 = (gLs gt55 (l, b)).2 ∧ i.2.2.1.length ≤ 1000000 ∧ i.2.1.length + i.1 ≤ 1000000}, fun i => ⟨[(0, .ptr 0 0), (1, .func 119 [.ptr 0 0] []), (5, .rowf 1), (6, isI .i64 (i.1.1 : Nat))], [(0, .box [.p false (.sl 1 (bl i.1.2.2.1)), isB i.1.2.2.2]), (1, .row 55 2 true false ((i.1.2.1).map (fun x : S55 => elOf (pv55 x))))], 99⟩, fun i => i.1.1, ⟨⟨((gSz (l, b)).1, [], (gSz (l, b)).2), rfl, rfl, hln, by simp only [List.length_nil]; omega⟩, ?_⟩, ?_⟩
  · conv => whnf
    and_intros <;> first | rfl | exact trivial | (simp [pvle]; done)
  rintro ⟨⟨n, out, s⟩, e1, e2, h1, h2⟩
  show aw _ _ _ _ _ _ ⟨[(0, .ptr 0 0), (1, .func 119 [.ptr 0 0] []), (5, .rowf 1), (6, isI .i64 (n : Nat))], [(0, .box [.p false (.sl 1 (bl s.1)), isB s.2]), (1, .row 55 2 true false ((out).map (fun x : S55 => elOf (pv55 x))))], 99⟩
  simp only at e1 e2 h1 h2
  cases n with
  | zero =>
    conv => whnf
    rw [← e1, ← e2]
    simp only [gLp, List.append_nil]
    and_intros <;> first | rfl | exact trivial | (simp [pvle]; done)
  | succ n =>
    obtain ⟨t, bad⟩ := s
    conv => whnf
    rw [show decide (((n + 1 : Nat) : Int) > 0) = true from decide_eq_true (by omega)]
    conv => whnf
    cases bad with
    | true =>
      conv => whnf
      rw [← e1, ← e2]
      simp only [gLp_bad, List.append_nil]
      and_intros <;> first | rfl | exact trivial | (simp [pvle]; done)
    | false =>
      conv => whnf
      have hgl : (gt55 (t, false)).2.1.length ≤ 1000000 := Nat.le_trans (rt55.len _) h1
      refine ⟨(t, false), ?_⟩
      conv => whnf
      refine And.intro (by simp only [allP, List.nil_append, List.cons_append, true_and]; and_intros <;> first | (show t.length ≤ _; simp only at h1; omega) | rfl) ?_
      conv => whnf
      have e1' : out ++ (gt55 (t, false)).1 :: (gLp gt55 n (gt55 (t, false)).2).1 = (gLs gt55 (l, b)).1 := e1
      have e2' : (gLp gt55 n (gt55 (t, false)).2).2 = (gLs gt55 (l, b)).2 := e2
      generalize gt55 (t, false) = q at hgl e1' e2' ⊢
      refine And.intro (by simp only [allP, List.nil_append, List.cons_append, true_and]; rw [List.length_map]; simp only [List.length_cons, List.length_nil]; omega) ?_
      conv => whnf
      refine ⟨⟨(n, out ++ [q.1], q.2), ?_, e2', hgl, ?_⟩, Nat.lt_succ_self n, ?_⟩
      · rw [← e1', List.append_assoc]; rfl
      · simp only [List.length_append, List.length_cons, List.length_nil]; omega
      · conv => whnf
        rw [List.map_append, List.map_cons, List.map_nil]
        and_intros <;> first | rfl | exact trivial | (simp [pvle]; done) | (show pvle (.int .i64 (n : Int)) (.int .i64 (IntKind.i64.wrap (((n + 1 : Nat) : Int) - 1))); rw [wrap_i64 (by omega) (by omega), show (((n + 1 : Nat) : Int) - 1) = (n : Int) by omega]; rfl)
theorem Eplaces_sound : Sound Tryz.prog 194 cEplaces := does_sound mixed tabOk_prog gX5_ok Tryz.func194 Eplaces_does
def gX6 : List (FuncId × Ctr) := (194, cEplaces) :: gX5
theorem gX6_ok : GamOk Tryz.prog gX6 := GamOk.cons gX5_ok Tryz.func194 (by kernel_rfl) (by kernel_rfl) Eplaces_sound
abbrev cIplaces : Ctr := cI6 (gLs gt55) (fun x : (List S55) => .p true (.sl 2 (x.map fun x => elOf (pv55 x))))
theorem Iplaces_does : Does gX6 tab Tryz.f166 cIplaces := by
  rintro ⟨l, b⟩ (h : l.length ≤ 1000000)
  conv => whnf
  refine ⟨(l, b), ?_⟩
  conv => whnf
  refine And.intro (by simp only [allP, List.nil_append, List.cons_append, true_and]; and_intros <;> first | rfl | exact h) ?_
  conv => whnf
  and_intros <;> first | rfl | exact trivial | (simp [pvle]; done)
theorem Iplaces_sound : Sound Tryz.prog 166 cIplaces := does_sound mixed tabOk_prog gX6_ok Tryz.func166 Iplaces_does
def gX7 : List (FuncId × Ctr) := (166, cIplaces) :: gX6
theorem gX7_ok : GamOk Tryz.prog gX7 := GamOk.cons gX6_ok Tryz.func166 (by kernel_rfl) (by kernel_rfl) Iplaces_sound
def gt46 : In → S46 × In := (gP gNu (gP gNu (gP gNu (gLs gRc))))
theorem rt46 : RL gt46 en46 ok46 := (rNu.pair (rNu.pair (rNu.pair (rRc.list 24 (by decide) (by decide)))))
abbrev cIbatch : Ctr := cI6 gt46 (fun x : S46 => .agg ((pv46 x).map (AV.p true)))
theorem Ibatch_does : Does gX7 tab Tryz.f116 cIbatch := by
  rintro s (h : s.1.length ≤ 1000000)
  have h0 : (gNu s).2.1.length ≤ 1000000 := Nat.le_trans (rNu.len _) h
  have h1 : (gNu (gNu s).2).2.1.length ≤ 1000000 := Nat.le_trans (rNu.len _) h0
  have h2 : (gNu (gNu (gNu s).2).2).2.1.length ≤ 1000000 := Nat.le_trans (rNu.len _) h1
  have h3 : ((gLs gRc) (gNu (gNu (gNu s).2).2).2).2.1.length ≤ 1000000 := Nat.le_trans ((rRc.list 24 (by decide) (by decide)).len _) h2
  have hE : gt46 s = (((gNu s).1, (gNu (gNu s).2).1, (gNu (gNu (gNu s).2).2).1, ((gLs gRc) (gNu (gNu (gNu s).2).2).2).1), ((gLs gRc) (gNu (gNu (gNu s).2).2).2).2) := by simp only [gt46, gP]
  (set_option smartUnfolding false in conv => whnf)
  refine ⟨s, ?_⟩
  conv => whnf
  refine And.intro (by simp only [allP, List.nil_append, List.cons_append, true_and]; and_intros <;> first | exact h | exact Nat.le_trans h (by decide) | rfl) ?_
  (set_option smartUnfolding false in conv => whnf)
  have w0 := gNu_w s
  generalize gNu s = r0 at hE h0 h1 h2 h3 w0 ⊢
  try rw [w0]
  refine ⟨r0.2, ?_⟩
  conv => whnf
  refine And.intro (by simp only [allP, List.nil_append, List.cons_append, true_and]; and_intros <;> first | exact h0 | exact Nat.le_trans h0 (by decide) | rfl) ?_
  (set_option smartUnfolding false in conv => whnf)
  have w1 := gNu_w r0.2
  generalize gNu r0.2 = r1 at hE h1 h2 h3 w1 ⊢
  try rw [w1]
  refine ⟨r1.2, ?_⟩
  conv => whnf
  refine And.intro (by simp only [allP, List.nil_append, List.cons_append, true_and]; and_intros <;> first | exact h1 | exact Nat.le_trans h1 (by decide) | rfl) ?_
  (set_option smartUnfolding false in conv => whnf)
  have w2 := gNu_w r1.2
  generalize gNu r1.2 = r2 at hE h2 h3 w2 ⊢
  try rw [w2]
  refine ⟨r2.2, ?_⟩
  conv => whnf
  refine And.intro (by simp only [allP, List.nil_append, List.cons_append, true_and]; and_intros <;> first | exact h2 | exact Nat.le_trans h2 (by decide) | rfl) ?_
  (set_option smartUnfolding false in conv => whnf)
  generalize (gLs gRc) r2.2 = r3 at hE h3 ⊢
  refine dI (k := ?_)
  (set_option smartUnfolding false in conv => whnf)
  refine dI (k := ?_)
  (set_option smartUnfolding false in conv => whnf)
  rw [hE]
  and_intros <;> first | rfl | exact trivial | (simp [pvle]; done)
theorem Ibatch_sound : Sound Tryz.prog 116 cIbatch := does_sound mixed tabOk_prog gX7_ok Tryz.func116 Ibatch_does
def gX8 : List (FuncId × Ctr) := (116, cIbatch) :: gX7
theorem gX8_ok : GamOk Tryz.prog gX8 := GamOk.cons gX7_ok Tryz.func116 (by kernel_rfl) (by kernel_rfl) Ibatch_sound
def gt48 : In → S48 × In := (gP gBy (gP gt46 gNu))
theorem rt48 : RL gt48 en48 ok48 := (rBy.pair (rt46.pair rNu))
abbrev cIpart : Ctr := cI6 gt48 (fun x : S48 => .agg ((pv48 x).map (AV.p true)))
theorem Ipart_does : Does gX8 tab Tryz.f59 cIpart := by
  rintro s (h : s.1.length ≤ 1000000)
  have h0 : (gBy s).2.1.length ≤ 1000000 := Nat.le_trans (rBy.len _) h
  have h1 : (gt46 (gBy s).2).2.1.length ≤ 1000000 := Nat.le_trans (rt46.len _) h0
  have h2 : (gNu (gt46 (gBy s).2).2).2.1.length ≤ 1000000 := Nat.le_trans (rNu.len _) h1
  have hE : gt48 s = (((gBy s).1, (gt46 (gBy s).2).1, (gNu (gt46 (gBy s).2).2).1), (gNu (gt46 (gBy s).2).2).2) := by simp only [gt48, gP]
  (set_option smartUnfolding false in conv => whnf)
  refine ⟨s, ?_⟩
  conv => whnf
  refine And.intro (by simp only [allP, List.nil_append, List.cons_append, true_and]; and_intros <;> first | exact h | exact Nat.le_trans h (by decide) | rfl) ?_
  (set_option smartUnfolding false in conv => whnf)
  have w0 := gBy_w s
  generalize gBy s = r0 at hE h0 h1 h2 w0 ⊢
  try rw [w0]
  refine ⟨r0.2, ?_⟩
  conv => whnf
  refine And.intro (by simp only [allP, List.nil_append, List.cons_append, true_and]; and_intros <;> first | exact h0 | exact Nat.le_trans h0 (by decide) | rfl) ?_
  (set_option smartUnfolding false in conv => whnf)
  generalize gt46 r0.2 = r1 at hE h1 h2 ⊢
  refine ⟨r1.2, ?_⟩
  conv => whnf
  refine And.intro (by simp only [allP, List.nil_append, List.cons_append, true_and]; and_intros <;> first | exact h1 | exact Nat.le_trans h1 (by decide) | rfl) ?_
  (set_option smartUnfolding false in conv => whnf)
  have w2 := gNu_w r1.2
  generalize gNu r1.2 = r2 at hE h2 w2 ⊢
  try rw [w2]
  refine dI (k := ?_)
  (set_option smartUnfolding false in conv => whnf)
  refine dI (k := ?_)
  (set_option smartUnfolding false in conv => whnf)
  rw [hE]
  and_intros <;> first | rfl | exact trivial | (simp [pvle]; done)
theorem Ipart_sound : Sound Tryz.prog 59 cIpart := does_sound mixed tabOk_prog gX8_ok Tryz.func59 Ipart_does
def gX9 : List (FuncId × Ctr) := (59, cIpart) :: gX8
theorem gX9_ok : GamOk Tryz.prog gX9 := GamOk.cons gX8_ok Tryz.func59 (by kernel_rfl) (by kernel_rfl) Ipart_sound
def gt57 : In → S57 × In := (gP gBy (gP gTx (gP gTx (gP gNu (gP (gLs gTx) (gP gt55 (gP gNu (gP gNu (gP gNu gNu)))))))))
theorem rt57 : RL gt57 en57 ok57 := (rBy.pair (rTx.pair (rTx.pair (rNu.pair ((rTx.list 16 (by decide) (by decide)).pair (rt55.pair (rNu.pair (rNu.pair (rNu.pair rNu)))))))))
abbrev cImeta : Ctr := cI6 gt57 (fun x : S57 => .agg ((pv57 x).map (AV.p true)))
theorem Imeta_does : Does gX9 tab Tryz.f63 cImeta := by
  rintro s (h : s.1.length ≤ 1000000)
  have h0 : (gBy s).2.1.length ≤ 1000000 := Nat.le_trans (rBy.len _) h
  have h1 : (gTx (gBy s).2).2.1.length ≤ 1000000 := Nat.le_trans (rTx.len _) h0
  have h2 : (gTx (gTx (gBy s).2).2).2.1.length ≤ 1000000 := Nat.le_trans (rTx.len _) h1
  have h3 : (gNu (gTx (gTx (gBy s).2).2).2).2.1.length ≤ 1000000 := Nat.le_trans (rNu.len _) h2
  have h4 : ((gLs gTx) (gNu (gTx (gTx (gBy s).2).2).2).2).2.1.length ≤ 1000000 := Nat.le_trans ((rTx.list 16 (by decide) (by decide)).len _) h3
  have h5 : (gt55 ((gLs gTx) (gNu (gTx (gTx (gBy s).2).2).2).2).2).2.1.length ≤ 1000000 := Nat.le_trans (rt55.len _) h4
  have h6 : (gNu (gt55 ((gLs gTx) (gNu (gTx (gTx (gBy s).2).2).2).2).2).2).2.1.length ≤ 1000000 := Nat.le_trans (rNu.len _) h5
  have h7 : (gNu (gNu (gt55 ((gLs gTx) (gNu (gTx (gTx (gBy s).2).2).2).2).2).2).2).2.1.length ≤ 1000000 := Nat.le_trans (rNu.len _) h6
  have h8 : (gNu (gNu (gNu (gt55 ((gLs gTx) (gNu (gTx (gTx (gBy s).2).2).2).2).2).2).2).2).2.1.length ≤ 1000000 := Nat.le_trans (rNu.len _) h7
  have h9 : (gNu (gNu (gNu (gNu (gt55 ((gLs gTx) (gNu (gTx (gTx (gBy s).2).2).2).2).2).2).2).2).2).2.1.length ≤ 1000000 := Nat.le_trans (rNu.len _) h8
  have hE : gt57 s = (((gBy s).1, (gTx (gBy s).2).1, (gTx (gTx (gBy s).2).2).1, (gNu (gTx (gTx (gBy s).2).2).2).1, ((gLs gTx) (gNu (gTx (gTx (gBy s).2).2).2).2).1, (gt55 ((gLs gTx) (gNu (gTx (gTx (gBy s).2).2).2).2).2).1, (gNu (gt55 ((gLs gTx) (gNu (gTx (gTx (gBy s).2).2).2).2).2).2).1, (gNu (gNu (gt55 ((gLs gTx) (gNu (gTx (gTx (gBy s).2).2).2).2).2).2).2).1, (gNu (gNu (gNu (gt55 ((gLs gTx) (gNu (gTx (gTx (gBy s).2).2).2).2).2).2).2).2).1, (gNu (gNu (gNu (gNu (gt55 ((gLs gTx) (gNu (gTx (gTx (gBy s).2).2).2).2).2).2).2).2).2).1), (gNu (gNu (gNu (gNu (gt55 ((gLs gTx) (gNu (gTx (gTx (gBy s).2).2).2).2).2).2).2).2).2).2) := by simp only [gt57, gP]
  (set_option smartUnfolding false in conv => whnf)
  refine ⟨s, ?_⟩
  conv => whnf
  refine And.intro (by simp only [allP, List.nil_append, List.cons_append, true_and]; and_intros <;> first | exact h | exact Nat.le_trans h (by decide) | rfl) ?_
  (set_option smartUnfolding false in conv => whnf)
  have w0 := gBy_w s
  generalize gBy s = r0 at hE h0 h1 h2 h3 h4 h5 h6 h7 h8 h9 w0 ⊢
  try rw [w0]
  refine ⟨r0.2, ?_⟩
  conv => whnf
  refine And.intro (by simp only [allP, List.nil_append, List.cons_append, true_and]; and_intros <;> first | exact h0 | exact Nat.le_trans h0 (by decide) | rfl) ?_
  (set_option smartUnfolding false in conv => whnf)
  generalize gTx r0.2 = r1 at hE h1 h2 h3 h4 h5 h6 h7 h8 h9 ⊢
  refine ⟨r1.2, ?_⟩
  conv => whnf
  refine And.intro (by simp only [allP, List.nil_append, List.cons_append, true_and]; and_intros <;> first | exact h1 | exact Nat.le_trans h1 (by decide) | rfl) ?_
  (set_option smartUnfolding false in conv => whnf)
  generalize gTx r1.2 = r2 at hE h2 h3 h4 h5 h6 h7 h8 h9 ⊢
  refine ⟨r2.2, ?_⟩
  conv => whnf
  refine And.intro (by simp only [allP, List.nil_append, List.cons_append, true_and]; and_intros <;> first | exact h2 | exact Nat.le_trans h2 (by decide) | rfl) ?_
  (set_option smartUnfolding false in conv => whnf)
  have w3 := gNu_w r2.2
  generalize gNu r2.2 = r3 at hE h3 h4 h5 h6 h7 h8 h9 w3 ⊢
  try rw [w3]
  refine ⟨r3.2, ?_⟩
  conv => whnf
  refine And.intro (by simp only [allP, List.nil_append, List.cons_append, true_and]; and_intros <;> first | exact h3 | exact Nat.le_trans h3 (by decide) | rfl) ?_
  (set_option smartUnfolding false in conv => whnf)
  generalize (gLs gTx) r3.2 = r4 at hE h4 h5 h6 h7 h8 h9 ⊢
  refine ⟨r4.2, ?_⟩
  conv => whnf
  refine And.intro (by simp only [allP, List.nil_append, List.cons_append, true_and]; and_intros <;> first | exact h4 | exact Nat.le_trans h4 (by decide) | rfl) ?_
  (set_option smartUnfolding false in conv => whnf)
  generalize gt55 r4.2 = r5 at hE h5 h6 h7 h8 h9 ⊢
  refine ⟨r5.2, ?_⟩
  conv => whnf
  refine And.intro (by simp only [allP, List.nil_append, List.cons_append, true_and]; and_intros <;> first | exact h5 | exact Nat.le_trans h5 (by decide) | rfl) ?_
  (set_option smartUnfolding false in conv => whnf)
  have w6 := gNu_w r5.2
  generalize gNu r5.2 = r6 at hE h6 h7 h8 h9 w6 ⊢
  try rw [w6]
  refine ⟨r6.2, ?_⟩
  conv => whnf
  refine And.intro (by simp only [allP, List.nil_append, List.cons_append, true_and]; and_intros <;> first | exact h6 | exact Nat.le_trans h6 (by decide) | rfl) ?_
  (set_option smartUnfolding false in conv => whnf)
  have w7 := gNu_w r6.2
  generalize gNu r6.2 = r7 at hE h7 h8 h9 w7 ⊢
  try rw [w7]
  refine ⟨r7.2, ?_⟩
  conv => whnf
  refine And.intro (by simp only [allP, List.nil_append, List.cons_append, true_and]; and_intros <;> first | exact h7 | exact Nat.le_trans h7 (by decide) | rfl) ?_
  (set_option smartUnfolding false in conv => whnf)
  have w8 := gNu_w r7.2
  generalize gNu r7.2 = r8 at hE h8 h9 w8 ⊢
  try rw [w8]
  refine ⟨r8.2, ?_⟩
  conv => whnf
  refine And.intro (by simp only [allP, List.nil_append, List.cons_append, true_and]; and_intros <;> first | exact h8 | exact Nat.le_trans h8 (by decide) | rfl) ?_
  (set_option smartUnfolding false in conv => whnf)
  have w9 := gNu_w r8.2
  generalize gNu r8.2 = r9 at hE h9 w9 ⊢
  try rw [w9]
  refine dI (k := ?_)
  (set_option smartUnfolding false in conv => whnf)
  refine dI (k := ?_)
  (set_option smartUnfolding false in conv => whnf)
  rw [hE]
  and_intros <;> first | rfl | exact trivial | (simp [pvle]; done)
theorem Imeta_sound : Sound Tryz.prog 63 cImeta := does_sound mixed tabOk_prog gX9_ok Tryz.func63 Imeta_does
def gX10 : List (FuncId × Ctr) := (63, cImeta) :: gX9
theorem gX10_ok : GamOk Tryz.prog gX10 := GamOk.cons gX9_ok Tryz.func63 (by kernel_rfl) (by kernel_rfl) Imeta_sound
def gt70 : In → S70 × In := (gP gNu (gP gNu (gP gNu (gP gNu (gP gBy (gLs gt55))))))
theorem rt70 : RL gt70 en70 ok70 := (rNu.pair (rNu.pair (rNu.pair (rNu.pair (rBy.pair (rt55.list 24 (by decide) (by decide)))))))
abbrev cIanswer : Ctr := cI6 gt70 (fun x : S70 => .agg ((pv70 x).map (AV.p true)))
theorem Ianswer_does : Does gX10 tab Tryz.f122 cIanswer := by
  rintro s (h : s.1.length ≤ 1000000)
  have h0 : (gNu s).2.1.length ≤ 1000000 := Nat.le_trans (rNu.len _) h
  have h1 : (gNu (gNu s).2).2.1.length ≤ 1000000 := Nat.le_trans (rNu.len _) h0
  have h2 : (gNu (gNu (gNu s).2).2).2.1.length ≤ 1000000 := Nat.le_trans (rNu.len _) h1
  have h3 : (gNu (gNu (gNu (gNu s).2).2).2).2.1.length ≤ 1000000 := Nat.le_trans (rNu.len _) h2
  have h4 : (gBy (gNu (gNu (gNu (gNu s).2).2).2).2).2.1.length ≤ 1000000 := Nat.le_trans (rBy.len _) h3
  have h5 : ((gLs gt55) (gBy (gNu (gNu (gNu (gNu s).2).2).2).2).2).2.1.length ≤ 1000000 := Nat.le_trans ((rt55.list 24 (by decide) (by decide)).len _) h4
  have hE : gt70 s = (((gNu s).1, (gNu (gNu s).2).1, (gNu (gNu (gNu s).2).2).1, (gNu (gNu (gNu (gNu s).2).2).2).1, (gBy (gNu (gNu (gNu (gNu s).2).2).2).2).1, ((gLs gt55) (gBy (gNu (gNu (gNu (gNu s).2).2).2).2).2).1), ((gLs gt55) (gBy (gNu (gNu (gNu (gNu s).2).2).2).2).2).2) := by simp only [gt70, gP]
  (set_option smartUnfolding false in conv => whnf)
  refine ⟨s, ?_⟩
  conv => whnf
  refine And.intro (by simp only [allP, List.nil_append, List.cons_append, true_and]; and_intros <;> first | exact h | exact Nat.le_trans h (by decide) | rfl) ?_
  (set_option smartUnfolding false in conv => whnf)
  have w0 := gNu_w s
  generalize gNu s = r0 at hE h0 h1 h2 h3 h4 h5 w0 ⊢
  try rw [w0]
  refine ⟨r0.2, ?_⟩
  conv => whnf
  refine And.intro (by simp only [allP, List.nil_append, List.cons_append, true_and]; and_intros <;> first | exact h0 | exact Nat.le_trans h0 (by decide) | rfl) ?_
  (set_option smartUnfolding false in conv => whnf)
  have w1 := gNu_w r0.2
  generalize gNu r0.2 = r1 at hE h1 h2 h3 h4 h5 w1 ⊢
  try rw [w1]
  refine ⟨r1.2, ?_⟩
  conv => whnf
  refine And.intro (by simp only [allP, List.nil_append, List.cons_append, true_and]; and_intros <;> first | exact h1 | exact Nat.le_trans h1 (by decide) | rfl) ?_
  (set_option smartUnfolding false in conv => whnf)
  have w2 := gNu_w r1.2
  generalize gNu r1.2 = r2 at hE h2 h3 h4 h5 w2 ⊢
  try rw [w2]
  refine ⟨r2.2, ?_⟩
  conv => whnf
  refine And.intro (by simp only [allP, List.nil_append, List.cons_append, true_and]; and_intros <;> first | exact h2 | exact Nat.le_trans h2 (by decide) | rfl) ?_
  (set_option smartUnfolding false in conv => whnf)
  have w3 := gNu_w r2.2
  generalize gNu r2.2 = r3 at hE h3 h4 h5 w3 ⊢
  try rw [w3]
  refine ⟨r3.2, ?_⟩
  conv => whnf
  refine And.intro (by simp only [allP, List.nil_append, List.cons_append, true_and]; and_intros <;> first | exact h3 | exact Nat.le_trans h3 (by decide) | rfl) ?_
  (set_option smartUnfolding false in conv => whnf)
  have w4 := gBy_w r3.2
  generalize gBy r3.2 = r4 at hE h4 h5 w4 ⊢
  try rw [w4]
  refine ⟨r4.2, ?_⟩
  conv => whnf
  refine And.intro (by simp only [allP, List.nil_append, List.cons_append, true_and]; and_intros <;> first | exact h4 | exact Nat.le_trans h4 (by decide) | rfl) ?_
  (set_option smartUnfolding false in conv => whnf)
  generalize (gLs gt55) r4.2 = r5 at hE h5 ⊢
  refine dI (k := ?_)
  (set_option smartUnfolding false in conv => whnf)
  refine dI (k := ?_)
  (set_option smartUnfolding false in conv => whnf)
  rw [hE]
  and_intros <;> first | rfl | exact trivial | (simp [pvle]; done)
theorem Ianswer_sound : Sound Tryz.prog 122 cIanswer := does_sound mixed tabOk_prog gX10_ok Tryz.func122 Ianswer_does
def gX11 : List (FuncId × Ctr) := (122, cIanswer) :: gX10
theorem gX11_ok : GamOk Tryz.prog gX11 := GamOk.cons gX10_ok Tryz.func122 (by kernel_rfl) (by kernel_rfl) Ianswer_sound
end Go.Proofs.YtingmlhhabaplaaGreat.Ev
