/- Wire: what the program reads: lists of texts, of rows, of places. No conditions. -/
import Derived.Test.YtingmlhhabaplaaEvWire6
import Derived.Test.YtingmlhhabaplaaEvWire1a
namespace Go.Proofs.Ytingmlhhabaplaa.Ev
open Go
set_option linter.unusedVariables false
set_option linter.unusedSimpArgs false
set_option maxRecDepth 100000
set_option maxHeartbeats 4000000
/-- A part of a thing read (bounded). -/
abbrev cI6 {X : Type} (get : In → X × In) (av : X → AV) : Ctr := ⟨In, 1, fun _ => [.ptr 0 0], fun s => [(0, .box [.p false (.sl 1 (bl s.1)), isB s.2])],
  fun s => s.1.length ≤ 1000000, fun s => av (get s).1, fun s => [(0, .box [.p false (.sl 1 (bl (get s).2.1)), isB (get s).2.2])]⟩
/-- The same, by a closure over the reader. -/
abbrev cI7 {X : Type} (get : In → X × In) (av : X → AV) : Ctr := ⟨In, 2, fun _ => [.ptr 1 0], fun s => [(0, .box [.p false (.sl 1 (bl s.1)), isB s.2]), (1, .box [.ptr 0 0])],
  fun s => s.1.length ≤ 1000000, fun s => av (get s).1, fun s => [(0, .box [.p false (.sl 1 (bl (get s).2.1)), isB (get s).2.2]), (1, .box [.ptr 0 0])]⟩
theorem gBy_w (s : In) : IntKind.u8.wrap (((gBy s).1.toNat : Nat) : Int) = ((gBy s).1.toNat : Nat) := wrap_u8 (by omega) (by have := u8_lt (gBy s).1; omega)
theorem gNu_rg (s : In) : i64R (gNu s).1 := by
  rcases vGet_form s.1 0 with hf | ⟨v, hv, h1, h2, hf, h3⟩ <;> unfold gNu <;> rw [hf]
  · unfold i64R; simp only; omega
  · exact unzig_bd (by omega) (by omega)
theorem gNu_w (s : In) : IntKind.i64.wrap (gNu s).1 = (gNu s).1 := wrap_i64 (gNu_rg s).1 (gNu_rg s).2
/-- A row of bytes read, as a value. -/
abbrev cIData : Ctr := cI6 gRc (fun x : List UInt8 => .p true (.sl 1 (bl x)))
theorem idata_does : Does gI2 tab Try.f84 cIData := by
  rintro ⟨l, b⟩ (h : l.length ≤ 1000000)
  have hle := gSz_le (l, b)
  have hln := gSz_len (l, b)
  have hln' : (gSz (l, b)).2.1.length ≤ 1000000 := Nat.le_trans hln h
  conv => whnf
  refine ⟨(l, b), ?_⟩
  conv => whnf
  refine And.intro (by simp only [allP, List.nil_append, List.cons_append, true_and]; and_intros <;> first | rfl | (show l.length ≤ 1099511627776; omega)) ?_
  conv => whnf
  refine And.intro (by simp only [allP, List.nil_append, List.cons_append, true_and]; rw [bl_length]; omega) ?_
  conv => whnf
  rw [Int.toNat_natCast, show Int.toNat 0 = 0 from rfl, List.drop_zero, bl_take]
  refine ⟨(gSz (l, b)).2.1.take (gSz (l, b)).1, ?_⟩
  conv => whnf
  refine And.intro (by simp only [allP, List.nil_append, List.cons_append, true_and]; and_intros <;> first | rfl | (rw [List.length_take]; omega)) ?_
  conv => whnf
  refine And.intro (by simp only [allP, List.nil_append, List.cons_append, true_and]; rw [bl_length]; omega) ?_
  conv => whnf
  rw [Int.toNat_natCast, Int.toNat_natCast, List.take_length, bl_drop]
  refine And.intro (by first | exact Nat.le_of_ble_eq_true rfl | exact ⟨Nat.le_of_ble_eq_true rfl, rfl⟩ | exact rfl | decide | (simp [allP]; done)) ?_
  conv => whnf
  and_intros <;> first | rfl | exact trivial | simp [pvle] | exact bl_isFlat _
theorem idata_sound : Sound Try.prog 84 cIData := does_sound mixed tabOk_prog gI2_ok Try.func84 idata_does
def gJ0 : List (FuncId × Ctr) := (84, cIData) :: gI2
theorem gJ0_ok : GamOk Try.prog gJ0 := GamOk.cons gI2_ok Try.func84 (by kernel_rfl) (by kernel_rfl) idata_sound
def gJ1 : List (FuncId × Ctr) := (77, cIText) :: gJ0
theorem gJ1_ok : GamOk Try.prog gJ1 := GamOk.cons gJ0_ok Try.func77 (by kernel_rfl) (by kernel_rfl) itext_sound
def gJ2 : List (FuncId × Ctr) := (78, cINum) :: gJ1
theorem gJ2_ok : GamOk Try.prog gJ2 := GamOk.cons gJ1_ok Try.func78 (by kernel_rfl) (by kernel_rfl) iint_sound
def gJ3 : List (FuncId × Ctr) := (81, cIBool) :: gJ2
theorem gJ3_ok : GamOk Try.prog gJ3 := GamOk.cons gJ2_ok Try.func81 (by kernel_rfl) (by kernel_rfl) ibool_sound
def gJ4 : List (FuncId × Ctr) := (74, cIByte) :: gJ3
theorem gJ4_ok : GamOk Try.prog gJ4 := GamOk.cons gJ3_ok Try.func74 (by kernel_rfl) (by kernel_rfl) ibyte_sound
abbrev cEtexts : Ctr := ⟨In, 1, fun _ => [.ptr 0 0, .func 77 [.ptr 0 0] []], fun s => [(0, .box [.p false (.sl 1 (bl s.1)), isB s.2])],
  fun s => s.1.length ≤ 1000000, fun s => .p true (.sl 1 ((gLs gTx s).1.map (fun x : ByteArray => elOf [.str x]))), fun s => [(0, .box [.p false (.sl 1 (bl (gLs gTx s).2.1)), isB (gLs gTx s).2.2])]⟩
theorem Etexts_does : Does gJ4 tab Try.f110 cEtexts := by
  rintro ⟨l, b⟩ (h : l.length ≤ 1000000)
  have hle := gSz_le (l, b)
  have hln : (gSz (l, b)).2.1.length ≤ 1000000 := Nat.le_trans (gSz_len (l, b)) h
  conv => whnf
  refine ⟨(l, b), ?_⟩
  conv => whnf
  refine And.intro (by simp only [allP, List.nil_append, List.cons_append, true_and]; and_intros <;> first | rfl | (show l.length ≤ 1099511627776; omega)) ?_
  conv => whnf
  refine ⟨{i : Nat × List ByteArray × In // i.2.1 ++ (gLp gTx i.1 i.2.2).1 = (gLs gTx (l, b)).1 ∧ (gLp gTx i.1 i.2.2).2 = (gLs gTx (l, b)).2 ∧ i.2.2.1.length ≤ 1000000 ∧ i.2.1.length + i.1 ≤ 1000000}, fun i => ⟨[(0, .ptr 0 0), (1, .func 77 [.ptr 0 0] []), (5, .rowf 1), (6, isI .i64 (i.1.1 : Nat))], [(0, .box [.p false (.sl 1 (bl i.1.2.2.1)), isB i.1.2.2.2]), (1, .row 9 1 true false ((i.1.2.1).map (fun x : ByteArray => elOf [.str x])))], 99⟩, fun i => i.1.1, ⟨⟨((gSz (l, b)).1, [], (gSz (l, b)).2), rfl, rfl, hln, by simp only [List.length_nil]; omega⟩, ?_⟩, ?_⟩
  · conv => whnf
    and_intros <;> first | rfl | exact trivial | (simp [pvle]; done)
  rintro ⟨⟨n, out, s⟩, e1, e2, h1, h2⟩
  show aw _ _ _ _ _ _ ⟨[(0, .ptr 0 0), (1, .func 77 [.ptr 0 0] []), (5, .rowf 1), (6, isI .i64 (n : Nat))], [(0, .box [.p false (.sl 1 (bl s.1)), isB s.2]), (1, .row 9 1 true false ((out).map (fun x : ByteArray => elOf [.str x])))], 99⟩
  simp only at e1 e2 h1 h2
  cases n with
  | zero =>
    conv => whnf
    rw [← e1, ← e2]
    simp only [gLp, List.append_nil]
    and_intros <;> first | rfl | exact trivial | (simp [pvle]; done)
  | succ n =>
    obtain ⟨t, bad⟩ := s
    conv => whnf
    rw [show decide (((n + 1 : Nat) : Int) > 0) = true from decide_eq_true (by omega)]
    conv => whnf
    cases bad with
    | true =>
      conv => whnf
      rw [← e1, ← e2]
      simp only [gLp_bad, List.append_nil]
      and_intros <;> first | rfl | exact trivial | (simp [pvle]; done)
    | false =>
      conv => whnf
      have hgl : (gTx (t, false)).2.1.length ≤ 1000000 := Nat.le_trans (rTx.len _) h1
      refine ⟨(t, false), ?_⟩
      conv => whnf
      refine And.intro (by simp only [allP, List.nil_append, List.cons_append, true_and]; and_intros <;> first | (show t.length ≤ _; simp only at h1; omega) | rfl) ?_
      conv => whnf
      have e1' : out ++ (gTx (t, false)).1 :: (gLp gTx n (gTx (t, false)).2).1 = (gLs gTx (l, b)).1 := e1
      have e2' : (gLp gTx n (gTx (t, false)).2).2 = (gLs gTx (l, b)).2 := e2
      generalize gTx (t, false) = q at hgl e1' e2' ⊢
      refine And.intro (by simp only [allP, List.nil_append, List.cons_append, true_and]; rw [List.length_map]; simp only [List.length_cons, List.length_nil]; omega) ?_
      conv => whnf
      refine ⟨⟨(n, out ++ [q.1], q.2), ?_, e2', hgl, ?_⟩, Nat.lt_succ_self n, ?_⟩
      · rw [← e1', List.append_assoc]; rfl
      · simp only [List.length_append, List.length_cons, List.length_nil]; omega
      · conv => whnf
        rw [List.map_append, List.map_cons, List.map_nil]
        and_intros <;> first | rfl | exact trivial | (simp [pvle]; done) | (show pvle (.int .i64 (n : Int)) (.int .i64 (IntKind.i64.wrap (((n + 1 : Nat) : Int) - 1))); rw [wrap_i64 (by omega) (by omega), show (((n + 1 : Nat) : Int) - 1) = (n : Int) by omega]; rfl)
theorem Etexts_sound : Sound Try.prog 110 cEtexts := does_sound mixed tabOk_prog gJ4_ok Try.func110 Etexts_does
def gX1 : List (FuncId × Ctr) := (110, cEtexts) :: gJ4
theorem gX1_ok : GamOk Try.prog gX1 := GamOk.cons gJ4_ok Try.func110 (by kernel_rfl) (by kernel_rfl) Etexts_sound
abbrev cItexts : Ctr := cI6 (gLs gTx) (fun x : (List ByteArray) => .p true (.sl 1 (x.map fun x => elOf [.str x])))
theorem Itexts_does : Does gX1 tab Try.f79 cItexts := by
  rintro ⟨l, b⟩ (h : l.length ≤ 1000000)
  conv => whnf
  refine ⟨(l, b), ?_⟩
  conv => whnf
  refine And.intro (by simp only [allP, List.nil_append, List.cons_append, true_and]; and_intros <;> first | rfl | exact h) ?_
  conv => whnf
  and_intros <;> first | rfl | exact trivial | (simp [pvle]; done)
theorem Itexts_sound : Sound Try.prog 79 cItexts := does_sound mixed tabOk_prog gX1_ok Try.func79 Itexts_does
def gX2 : List (FuncId × Ctr) := (79, cItexts) :: gX1
theorem gX2_ok : GamOk Try.prog gX2 := GamOk.cons gX1_ok Try.func79 (by kernel_rfl) (by kernel_rfl) Itexts_sound
abbrev cErecords : Ctr := ⟨In, 1, fun _ => [.ptr 0 0, .func 84 [.ptr 0 0] []], fun s => [(0, .box [.p false (.sl 1 (bl s.1)), isB s.2])],
  fun s => s.1.length ≤ 1000000, fun s => .p true (.sl 1 ((gLs gRc s).1.map (fun x : (List UInt8) => elOf [.sl 1 (bl x)]))), fun s => [(0, .box [.p false (.sl 1 (bl (gLs gRc s).2.1)), isB (gLs gRc s).2.2])]⟩
theorem Erecords_does : Does gX2 tab Try.f113 cErecords := by
  rintro ⟨l, b⟩ (h : l.length ≤ 1000000)
  have hle := gSz_le (l, b)
  have hln : (gSz (l, b)).2.1.length ≤ 1000000 := Nat.le_trans (gSz_len (l, b)) h
  conv => whnf
  refine ⟨(l, b), ?_⟩
  conv => whnf
  refine And.intro (by simp only [allP, List.nil_append, List.cons_append, true_and]; and_intros <;> first | rfl | (show l.length ≤ 1099511627776; omega)) ?_
  conv => whnf
  refine ⟨{i : Nat × List (List UInt8) × In // i.2.1 ++ (gLp gRc i.1 i.2.2).1 = (gLs gRc (l, b)).1 ∧ (gLp gRc i.1 i.2.2).2 = (gLs gRc (l, b)).2 ∧ i.2.2.1.length ≤ 1000000 ∧ i.2.1.length + i.1 ≤ 1000000}, fun i => ⟨[(0, .ptr 0 0), (1, .func 84 [.ptr 0 0] []), (5, .rowf 1), (6, isI .i64 (i.1.1 : Nat))], [(0, .box [.p false (.sl 1 (bl i.1.2.2.1)), isB i.1.2.2.2]), (1, .row 34 1 true false ((i.1.2.1).map (fun x : (List UInt8) => elOf [.sl 1 (bl x)])))], 99⟩, fun i => i.1.1, ⟨⟨((gSz (l, b)).1, [], (gSz (l, b)).2), rfl, rfl, hln, by simp only [List.length_nil]; omega⟩, ?_⟩, ?_⟩
  · conv => whnf
    and_intros <;> first | rfl | exact trivial | (simp [pvle]; done)
  rintro ⟨⟨n, out, s⟩, e1, e2, h1, h2⟩
  show aw _ _ _ _ _ _ ⟨[(0, .ptr 0 0), (1, .func 84 [.ptr 0 0] []), (5, .rowf 1), (6, isI .i64 (n : Nat))], [(0, .box [.p false (.sl 1 (bl s.1)), isB s.2]), (1, .row 34 1 true false ((out).map (fun x : (List UInt8) => elOf [.sl 1 (bl x)])))], 99⟩
  simp only at e1 e2 h1 h2
  cases n with
  | zero =>
    conv => whnf
    rw [← e1, ← e2]
    simp only [gLp, List.append_nil]
    and_intros <;> first | rfl | exact trivial | (simp [pvle]; done)
  | succ n =>
    obtain ⟨t, bad⟩ := s
    conv => whnf
    rw [show decide (((n + 1 : Nat) : Int) > 0) = true from decide_eq_true (by omega)]
    conv => whnf
    cases bad with
    | true =>
      conv => whnf
      rw [← e1, ← e2]
      simp only [gLp_bad, List.append_nil]
      and_intros <;> first | rfl | exact trivial | (simp [pvle]; done)
    | false =>
      conv => whnf
      have hgl : (gRc (t, false)).2.1.length ≤ 1000000 := Nat.le_trans (rRc.len _) h1
      refine ⟨(t, false), ?_⟩
      conv => whnf
      refine And.intro (by simp only [allP, List.nil_append, List.cons_append, true_and]; and_intros <;> first | (show t.length ≤ _; simp only at h1; omega) | rfl) ?_
      conv => whnf
      have e1' : out ++ (gRc (t, false)).1 :: (gLp gRc n (gRc (t, false)).2).1 = (gLs gRc (l, b)).1 := e1
      have e2' : (gLp gRc n (gRc (t, false)).2).2 = (gLs gRc (l, b)).2 := e2
      generalize gRc (t, false) = q at hgl e1' e2' ⊢
      refine And.intro (by simp only [allP, List.nil_append, List.cons_append, true_and]; rw [List.length_map]; simp only [List.length_cons, List.length_nil]; omega) ?_
      conv => whnf
      refine ⟨⟨(n, out ++ [q.1], q.2), ?_, e2', hgl, ?_⟩, Nat.lt_succ_self n, ?_⟩
      · rw [← e1', List.append_assoc]; rfl
      · simp only [List.length_append, List.length_cons, List.length_nil]; omega
      · conv => whnf
        rw [List.map_append, List.map_cons, List.map_nil]
        and_intros <;> first | rfl | exact trivial | (simp [pvle]; done) | (show pvle (.int .i64 (n : Int)) (.int .i64 (IntKind.i64.wrap (((n + 1 : Nat) : Int) - 1))); rw [wrap_i64 (by omega) (by omega), show (((n + 1 : Nat) : Int) - 1) = (n : Int) by omega]; rfl)
theorem Erecords_sound : Sound Try.prog 113 cErecords := does_sound mixed tabOk_prog gX2_ok Try.func113 Erecords_does
def gX3 : List (FuncId × Ctr) := (113, cErecords) :: gX2
theorem gX3_ok : GamOk Try.prog gX3 := GamOk.cons gX2_ok Try.func113 (by kernel_rfl) (by kernel_rfl) Erecords_sound
abbrev cIrecords : Ctr := cI6 (gLs gRc) (fun x : (List (List UInt8)) => .p true (.sl 1 (x.map fun x => elOf [.sl 1 (bl x)])))
theorem Irecords_does : Does gX3 tab Try.f89 cIrecords := by
  rintro ⟨l, b⟩ (h : l.length ≤ 1000000)
  conv => whnf
  refine ⟨(l, b), ?_⟩
  conv => whnf
  refine And.intro (by simp only [allP, List.nil_append, List.cons_append, true_and]; and_intros <;> first | rfl | exact h) ?_
  conv => whnf
  and_intros <;> first | rfl | exact trivial | (simp [pvle]; done)
theorem Irecords_sound : Sound Try.prog 89 cIrecords := does_sound mixed tabOk_prog gX3_ok Try.func89 Irecords_does
def gX4 : List (FuncId × Ctr) := (89, cIrecords) :: gX3
theorem gX4_ok : GamOk Try.prog gX4 := GamOk.cons gX3_ok Try.func89 (by kernel_rfl) (by kernel_rfl) Irecords_sound
def gt31 : In → S31 × In := (gP gTx gNu)
theorem rt31 : RL gt31 en31 ok31 := (rTx.pair rNu)
abbrev cIplace : Ctr := cI6 gt31 (fun x : S31 => .agg ((pv31 x).map (AV.p true)))
theorem Iplace_does : Does gX4 tab Try.f80 cIplace := by
  rintro s (h : s.1.length ≤ 1000000)
  have h0 : (gTx s).2.1.length ≤ 1000000 := Nat.le_trans (rTx.len _) h
  have h1 : (gNu (gTx s).2).2.1.length ≤ 1000000 := Nat.le_trans (rNu.len _) h0
  have hE : gt31 s = (((gTx s).1, (gNu (gTx s).2).1), (gNu (gTx s).2).2) := by simp only [gt31, gP]
  (set_option smartUnfolding false in conv => whnf)
  refine ⟨s, ?_⟩
  conv => whnf
  refine And.intro (by simp only [allP, List.nil_append, List.cons_append, true_and]; and_intros <;> first | exact h | exact Nat.le_trans h (by decide) | rfl) ?_
  (set_option smartUnfolding false in conv => whnf)
  generalize gTx s = r0 at hE h0 h1 ⊢
  refine ⟨r0.2, ?_⟩
  conv => whnf
  refine And.intro (by simp only [allP, List.nil_append, List.cons_append, true_and]; and_intros <;> first | exact h0 | exact Nat.le_trans h0 (by decide) | rfl) ?_
  (set_option smartUnfolding false in conv => whnf)
  have w1 := gNu_w r0.2
  generalize gNu r0.2 = r1 at hE h1 w1 ⊢
  try rw [w1]
  refine And.intro (by first | exact Nat.le_of_ble_eq_true rfl | exact ⟨Nat.le_of_ble_eq_true rfl, rfl⟩ | exact rfl | decide | (simp [allP]; done)) ?_
  (set_option smartUnfolding false in conv => whnf)
  refine And.intro (by first | exact Nat.le_of_ble_eq_true rfl | exact ⟨Nat.le_of_ble_eq_true rfl, rfl⟩ | exact rfl | decide | (simp [allP]; done)) ?_
  (set_option smartUnfolding false in conv => whnf)
  rw [hE]
  and_intros <;> first | rfl | exact trivial | (simp [pvle]; done)
theorem Iplace_sound : Sound Try.prog 80 cIplace := does_sound mixed tabOk_prog gX4_ok Try.func80 Iplace_does
def gX5 : List (FuncId × Ctr) := (80, cIplace) :: gX4
theorem gX5_ok : GamOk Try.prog gX5 := GamOk.cons gX4_ok Try.func80 (by kernel_rfl) (by kernel_rfl) Iplace_sound
abbrev cEplaces : Ctr := ⟨In, 1, fun _ => [.ptr 0 0, .func 80 [.ptr 0 0] []], fun s => [(0, .box [.p false (.sl 1 (bl s.1)), isB s.2])],
  fun s => s.1.length ≤ 1000000, fun s => .p true (.sl 2 ((gLs gt31 s).1.map (fun x : S31 => elOf (pv31 x)))), fun s => [(0, .box [.p false (.sl 1 (bl (gLs gt31 s).2.1)), isB (gLs gt31 s).2.2])]⟩
theorem Eplaces_does : Does gX5 tab Try.f126 cEplaces := by
  rintro ⟨l, b⟩ (h : l.length ≤ 1000000)
  have hle := gSz_le (l, b)
  have hln : (gSz (l, b)).2.1.length ≤ 1000000 := Nat.le_trans (gSz_len (l, b)) h
  conv => whnf
  refine ⟨(l, b), ?_⟩
  conv => whnf
  refine And.intro (by simp only [allP, List.nil_append, List.cons_append, true_and]; and_intros <;> first | rfl | (show l.length ≤ 1099511627776; omega)) ?_
  conv => whnf
  refine ⟨{i : Nat × List S31 × In // i.2.1 ++ (gLp gt31 i.1 i.2.2).1 = (gLs gt31 (l, b)).1 ∧ (gLp gt31 i.1 i.2.2).2 = (gLs gt31 (l, b)).2 ∧ i.2.2.1.length ≤ 1000000 ∧ i.2.1.length + i.1 ≤ 1000000}, fun i => ⟨[(0, .ptr 0 0), (1, .func 80 [.ptr 0 0] []), (5, .rowf 1), (6, isI .i64 (i.1.1 : Nat))], [(0, .box [.p false (.sl 1 (bl i.1.2.2.1)), isB i.1.2.2.2]), (1, .row 31 2 true false ((i.1.2.1).map (fun x : S31 => elOf (pv31 x))))], 99⟩, fun i => i.1.1, ⟨⟨((gSz (l, b)).1, [], (gSz (l, b)).2), rfl, rfl, hln, by simp only [List.length_nil]; omega⟩, ?_⟩, ?_⟩
  · conv => whnf
    and_intros <;> first | rfl | exact trivial | (simp [pvle]; done)
  rintro ⟨⟨n, out, s⟩, e1, e2, h1, h2⟩
  show aw _ _ _ _ _ _ ⟨[(0, .ptr 0 0), (1, .func 80 [.ptr 0 0] []), (5, .rowf 1), (6, isI .i64 (n : Nat))], [(0, .box [.p false (.sl 1 (bl s.1)), isB s.2]), (1, .row 31 2 true false ((out).map (fun x : S31 => elOf (pv31 x))))], 99⟩
  simp only at e1 e2 h1 h2
  cases n with
  | zero =>
    conv => whnf
    rw [← e1, ← e2]
    simp only [gLp, List.append_nil]
    and_intros <;> first | rfl | exact trivial | (simp [pvle]; done)
  | succ n =>
    obtain ⟨t, bad⟩ := s
    conv => whnf
    rw [show decide (((n + 1 : Nat) : Int) > 0) = true from decide_eq_true (by omega)]
    conv => whnf
    cases bad with
    | true =>
      conv => whnf
      rw [← e1, ← e2]
      simp only [gLp_bad, List.append_nil]
      and_intros <;> first | rfl | exact trivial | (simp [pvle]; done)
    | false =>
      conv => whnf
      have hgl : (gt31 (t, false)).2.1.length ≤ 1000000 := Nat.le_trans (rt31.len _) h1
      refine ⟨(t, false), ?_⟩
      conv => whnf
      refine And.intro (by simp only [allP, List.nil_append, List.cons_append, true_and]; and_intros <;> first | (show t.length ≤ _; simp only at h1; omega) | rfl) ?_
      conv => whnf
      have e1' : out ++ (gt31 (t, false)).1 :: (gLp gt31 n (gt31 (t, false)).2).1 = (gLs gt31 (l, b)).1 := e1
      have e2' : (gLp gt31 n (gt31 (t, false)).2).2 = (gLs gt31 (l, b)).2 := e2
      generalize gt31 (t, false) = q at hgl e1' e2' ⊢
      refine And.intro (by simp only [allP, List.nil_append, List.cons_append, true_and]; rw [List.length_map]; simp only [List.length_cons, List.length_nil]; omega) ?_
      conv => whnf
      refine ⟨⟨(n, out ++ [q.1], q.2), ?_, e2', hgl, ?_⟩, Nat.lt_succ_self n, ?_⟩
      · rw [← e1', List.append_assoc]; rfl
      · simp only [List.length_append, List.length_cons, List.length_nil]; omega
      · conv => whnf
        rw [List.map_append, List.map_cons, List.map_nil]
        and_intros <;> first | rfl | exact trivial | (simp [pvle]; done) | (show pvle (.int .i64 (n : Int)) (.int .i64 (IntKind.i64.wrap (((n + 1 : Nat) : Int) - 1))); rw [wrap_i64 (by omega) (by omega), show (((n + 1 : Nat) : Int) - 1) = (n : Int) by omega]; rfl)
theorem Eplaces_sound : Sound Try.prog 126 cEplaces := does_sound mixed tabOk_prog gX5_ok Try.func126 Eplaces_does
def gX6 : List (FuncId × Ctr) := (126, cEplaces) :: gX5
theorem gX6_ok : GamOk Try.prog gX6 := GamOk.cons gX5_ok Try.func126 (by kernel_rfl) (by kernel_rfl) Eplaces_sound
abbrev cIplaces : Ctr := cI6 (gLs gt31) (fun x : (List S31) => .p true (.sl 2 (x.map fun x => elOf (pv31 x))))
theorem Iplaces_does : Does gX6 tab Try.f114 cIplaces := by
  rintro ⟨l, b⟩ (h : l.length ≤ 1000000)
  conv => whnf
  refine ⟨(l, b), ?_⟩
  conv => whnf
  refine And.intro (by simp only [allP, List.nil_append, List.cons_append, true_and]; and_intros <;> first | rfl | exact h) ?_
  conv => whnf
  and_intros <;> first | rfl | exact trivial | (simp [pvle]; done)
theorem Iplaces_sound : Sound Try.prog 114 cIplaces := does_sound mixed tabOk_prog gX6_ok Try.func114 Iplaces_does
def gX7 : List (FuncId × Ctr) := (114, cIplaces) :: gX6
theorem gX7_ok : GamOk Try.prog gX7 := GamOk.cons gX6_ok Try.func114 (by kernel_rfl) (by kernel_rfl) Iplaces_sound
end Go.Proofs.Ytingmlhhabaplaa.Ev
