/- Batches of many rows; the longest batch; a byte behind. No conditions. -/
import Derived.Test.YtjgmlkogppibfaaEvAwake05
namespace Go.Proofs.Ytjgmlkogppibfaa.Ev
open Go
set_option linter.unusedVariables false
set_option linter.unusedSimpArgs false
set_option maxRecDepth 100000
set_option maxHeartbeats 4000000
theorem byteW (x : Int) : PV.int .u8 (IntKind.u8.wrap x) = bv (UInt8.ofNat (IntKind.u8.wrap x).toNat) := by
  have h : 0 ≤ IntKind.u8.wrap x ∧ IntKind.u8.wrap x < 256 := by rw [IntKind.wrap_u8]; omega
  unfold bv
  congr 1
  simp
  omega
theorem bad_cut {b : Int} {x : BT} (h : okE b x) {n : Nat} (hn : n < (enB b x).length) : badE ((enB b x).take n) := by
  intro m y ho he
  have h1 : enB m y ++ (enB b x).drop n = enB b x ++ [] := by rw [he, List.take_append_drop, List.append_nil]
  have h2 := congrArg List.length (enB_sd ho h h1).2.2
  rw [List.length_drop, List.length_nil] at h2
  omega
theorem bad_more {b : Int} {x : BT} (h : okE b x) (c : UInt8) : badE (enB b x ++ [c]) := by
  intro m y ho he
  have h1 : enB m y ++ [] = enB b x ++ [c] := by rw [he, List.append_nil]
  cases (enB_sd ho h h1).2.2
/-! ### Made -/
def mdN (x : Int) : Int := IntKind.u64.wrap (IntKind.u64.wrap (x * 2862933555777941757) + 3037000493)
/-- The register ahead of the i-th byte. -/
def mdX (s : Int) : Nat → Int
  | 0 => mdN (IntKind.u64.wrap s)
  | i + 1 => match Nat.beq (i % 8) 0 with | true => mdN (mdX s i) | false => mdX s i
def mdB (s : Int) (i : Nat) : UInt8 := UInt8.ofNat (IntKind.u8.wrap ((mdX s (i + 1)).fdiv (2 ^ 40))).toNat
def madeB (s : Int) (n : Nat) : List UInt8 := (List.range n).map (mdB s)
theorem madeB_length (s : Int) (n : Nat) : (madeB s n).length = n := by simp [madeB]
theorem madeB_succ (s : Int) (n : Nat) : madeB s (n + 1) = madeB s n ++ [mdB s n] := by simp [madeB, List.range_succ]
abbrev cMade : Ctr := ⟨Int × Nat, 0, fun (s, n) => [isI .i64 s, isI .i64 n], fun _ => [], fun (s, n) => n ≤ 1000000, fun (s, n) => .row 0 0 n, fun (s, n) => [(0, .row 5 1 true false (bl (madeB s n)))]⟩
theorem made_set (s : Int) (i n : Nat) (h : i < n) : (bl (madeB s i ++ List.replicate (n - i) 0)).set (0 + ((i : Int)).toNat) (bv (mdB s i)) = bl (madeB s (i + 1) ++ List.replicate (n - (i + 1)) 0) := by
  have hl := madeB_length s i
  rw [Nat.zero_add, Int.toNat_natCast, show bl (madeB s i ++ List.replicate (n - i) 0) = (madeB s i ++ List.replicate (n - i) 0).map bv from rfl, ← List.map_set, madeB_succ]
  congr 1
  rw [List.set_append_right _ _ (by omega), hl, Nat.sub_self, show n - i = (n - (i + 1)) + 1 by omega, List.replicate_succ, List.set_cons_zero, List.append_assoc]
  rfl
theorem made_does : Does [] tab Try.f51 cMade := by
  rintro ⟨s, n⟩ (h1 : n ≤ 1000000)
  conv => whnf
  refine And.intro (by simp only [allP, List.nil_append, List.cons_append, true_and]; omega) ?_
  conv => whnf
  refine ⟨{i : Nat // i ≤ n}, fun i => ⟨[(1, isI .i64 n), (5, .row 0 0 n), (6, isI .u64 (mdX s i.1)), (7, isI .i64 i.1)], [(0, .row 5 1 true false (bl (madeB s i.1 ++ List.replicate (n - i.1) 0)))], 99⟩, fun i => n - i.1, ⟨⟨0, Nat.zero_le _⟩, ?_⟩, ?_⟩
  · conv => whnf
    exact ⟨rfl, rfl, by rw [Int.toNat_natCast], rfl, rfl, by rw [Int.toNat_natCast, Nat.sub_zero]; simp [madeB, bl, bv, allP]⟩
  rintro ⟨i, hi⟩
  show aw _ _ _ _ _ _ ⟨[(1, isI .i64 n), (5, .row 0 0 n), (6, isI .u64 (mdX s i)), (7, isI .i64 i)], [(0, .row 5 1 true false (bl (madeB s i ++ List.replicate (n - i) 0)))], 99⟩
  conv => whnf
  by_cases hin : i < n
  · rw [decide_eq_true (show (i : Int) < (n : Int) by omega)]
    conv => whnf
    refine And.intro (by first | exact Nat.le_of_ble_eq_true rfl | exact ⟨Nat.le_of_ble_eq_true rfl, rfl⟩ | exact rfl | decide | (simp [allP]; done)) ?_
    conv => whnf
    have hm : ((i : Nat) : Int).tmod 8 = ((i % 8 : Nat) : Int) := tmod_nat i 8
    rw [hm]
    have hX : mdX s (i + 1) = match Nat.beq (i % 8) 0 with | true => mdN (mdX s i) | false => mdX s i := rfl
    by_cases h8 : i % 8 = 0
    case' pos =>
      rw [show (((i % 8 : Nat) : Int) == 0) = true from by rw [h8]; rfl]
      rw [h8] at hX
      have hX : mdX s (i + 1) = IntKind.u64.wrap (IntKind.u64.wrap (mdX s i * 2862933555777941757) + 3037000493) := hX
    case' neg =>
      rw [show (((i % 8 : Nat) : Int) == 0) = false from by rw [beq_eq_false_iff_ne]; omega]
      have hX : mdX s (i + 1) = mdX s i := by
        rw [hX, show Nat.beq (i % 8) 0 = false from by rw [Bool.eq_false_iff]; intro h; exact h8 (Nat.eq_of_beq_eq_true h)]
    all_goals
      conv => whnf
      try rw [← hX]
      refine And.intro (by first | exact Nat.le_of_ble_eq_true rfl | exact ⟨Nat.le_of_ble_eq_true rfl, rfl⟩ | exact rfl | decide | (simp [allP]; done)) ?_
      conv => whnf
      rw [byteW, show Int.toNat 40 = 40 from rfl, show min 40 IntKind.u64.bits = 40 from rfl]
      refine And.intro (by simp only [allP, List.nil_append, List.cons_append, true_and]; omega) ?_
      conv => whnf
      refine ⟨⟨i + 1, by omega⟩, by simp only; omega, ?_⟩
      conv => whnf
      exact ⟨rfl, rfl, rfl, rfl, by rw [wrap_i64 (by omega) (by omega)]; rfl, by rw [← made_set s i n hin]; rfl⟩
  · rw [decide_eq_false (show ¬ (i : Int) < (n : Int) by omega)]
    conv => whnf
    obtain rfl : i = n := by omega
    rw [Nat.sub_self, List.replicate_zero, List.append_nil]
    and_intros <;> rfl
theorem made_sound : Sound Try.prog 51 cMade := does_sound mixed tabOk_prog GamOk.nil Try.func51 made_does
def gMade : List (FuncId × Ctr) := (51, cMade) :: []
theorem gMade_ok : GamOk Try.prog gMade := GamOk.cons GamOk.nil Try.func51 (by kernel_rfl) (by kernel_rfl) made_sound
/-! ### Many -/
def manyR (n z : Nat) : List (List UInt8) := (List.range n).map fun (i : Nat) => madeB (i : Int) z
theorem manyR_length (n z : Nat) : (manyR n z).length = n := by simp [manyR]
theorem manyR_succ (n z : Nat) : manyR (n + 1) z = manyR n z ++ [madeB (n : Int) z] := by simp [manyR, List.range_succ]
theorem manyR_all {n z : Nat} : ∀ r ∈ manyR n z, r.length = z := by
  intro r hr
  obtain ⟨i, _, rfl⟩ := List.mem_map.1 hr
  exact madeB_length _ _
theorem manyR_bytes (n z : Nat) : (recsB (manyR n z)).length = n * (vCnt z + z) := by
  induction n with
  | zero => simp [manyR, recsB]
  | succ n ih =>
    rw [manyR_succ, recsB_app, recsB_one, List.length_append, ih, recB, List.length_append, vE_length, madeB_length, Nat.succ_mul]
abbrev cMany : Ctr := ⟨Nat × Nat, 0, fun (n, z) => [isI .i64 n, isI .i64 z], fun _ => [], fun (n, z) => n ≤ 1000 ∧ z ≤ 1000000, fun _ => .agg [isI .i64 0, isI .i64 0, isI .i64 0, .rowf 0], fun (n, z) => [(0, .row 22 1 true false (ll (manyR n z)))]⟩
theorem many_does : Does gMade tab Try.f27 cMany := by
  rintro ⟨n, z⟩ ⟨h1, h2⟩
  conv => whnf
  refine ⟨{i : Nat // i ≤ n}, fun i => ⟨[(0, isI .i64 n), (1, isI .i64 z), (4, .ptr 0 0), (5, .ptr 1 0), (6, isI .i64 i.1)], [(0, .box [isI .i64 0, isI .i64 0, isI .i64 0, .p true .nilsl]), (1, .box [isI .i64 0, isI .i64 0, isI .i64 0, .rowf 2]), (2, .row 22 1 true false (ll (manyR i.1 z)))], 99⟩, fun i => n - i.1, ⟨⟨0, Nat.zero_le _⟩, ?_⟩, ?_⟩
  · conv => whnf
    and_intros <;> rfl
  rintro ⟨i, hi⟩
  show aw _ _ _ _ _ _ ⟨[(0, isI .i64 n), (1, isI .i64 z), (4, .ptr 0 0), (5, .ptr 1 0), (6, isI .i64 i)], [(0, .box [isI .i64 0, isI .i64 0, isI .i64 0, .p true .nilsl]), (1, .box [isI .i64 0, isI .i64 0, isI .i64 0, .rowf 2]), (2, .row 22 1 true false (ll (manyR i z)))], 99⟩
  conv => whnf
  by_cases hin : i < n
  · rw [decide_eq_true (show (i : Int) < (n : Int) by omega)]
    conv => whnf
    have hml := madeB_length (i : Int) z
    have hmb := bl_length (madeB (i : Int) z)
    refine ⟨((i : Int), z), ?_⟩
    conv => whnf
    refine And.intro (by simp only [allP, List.nil_append, List.cons_append, true_and]; exact ⟨rfl, rfl, h2⟩) ?_
    conv => whnf
    refine And.intro (by simp only [allP, List.nil_append, List.cons_append, true_and]; rw [ll_length, manyR_length]; simp only [List.length_cons, List.length_nil]; omega) ?_
    conv => whnf
    refine And.intro (by first | exact Nat.le_of_ble_eq_true rfl | exact ⟨Nat.le_of_ble_eq_true rfl, rfl⟩ | exact rfl | decide | (simp [allP]; done)) ?_
    conv => whnf
    refine ⟨by rfl, ?_⟩
    show aw _ _ _ _ _ _ _
    conv => whnf
    refine ⟨⟨i + 1, by omega⟩, by simp only; omega, ?_⟩
    conv => whnf
    exact ⟨rfl, rfl, by rw [wrap_i64 (by omega) (by omega)]; rfl, rfl, rfl, rfl, rfl, rfl, rfl, rfl, by rw [manyR_succ, cut_bl, List.drop_zero, List.take_of_length_le (by omega)]; simp [ll, allP]⟩
  · rw [decide_eq_false (show ¬ (i : Int) < (n : Int) by omega)]
    conv => whnf
    obtain rfl : i = n := by omega
    refine And.intro (by first | exact Nat.le_of_ble_eq_true rfl | exact ⟨Nat.le_of_ble_eq_true rfl, rfl⟩ | exact rfl | decide | (simp [allP]; done)) ?_
    conv => whnf
    refine And.intro (by first | exact Nat.le_of_ble_eq_true rfl | exact ⟨Nat.le_of_ble_eq_true rfl, rfl⟩ | exact rfl | decide | (simp [allP]; done)) ?_
    conv => whnf
    refine And.intro (by first | exact Nat.le_of_ble_eq_true rfl | exact ⟨Nat.le_of_ble_eq_true rfl, rfl⟩ | exact rfl | decide | (simp [allP]; done)) ?_
    conv => whnf
    and_intros <;> rfl
theorem many_sound : Sound Try.prog 27 cMany := does_sound mixed tabOk_prog gMade_ok Try.func27 many_does
def gMany : List (FuncId × Ctr) := (27, cMany) :: gRA
theorem gMany_ok : GamOk Try.prog gMany := GamOk.cons gRA_ok Try.func27 (by kernel_rfl) (by kernel_rfl) many_sound
/-! ### A byte behind -/
abbrev cTrue : Ctr := ⟨Unit, 0, fun _ => [], fun _ => [], fun _ => True, fun _ => isB true, fun _ => []⟩
theorem rest_bad {l : List UInt8} (h : l.drop 12 = [2, 0, 4, 1, 1, 97, 0]) : badE l := by
  intro m y ho he
  have h1 : inB y ++ [] = inB one1 ++ [0] := by rw [List.append_nil, enB_in he, h, one_in]; rfl
  cases (inB_sd ⟨m, ho⟩ ⟨7, one_ok⟩ h1).2
theorem rest_does : Does gMany tab Try.f30 cTrue := by
  rintro x -
  have hok := one_ok
  obtain ⟨a, b, c, d, hE⟩ := one_enB
  conv => whnf
  refine ⟨(), ?_⟩
  conv => whnf
  refine And.intro (by simp only [allP, List.nil_append, List.cons_append, true_and]; skip) ?_
  conv => whnf
  refine ⟨(0, 7, one1), ?_⟩
  conv => whnf
  refine And.intro (by simp only [allP, List.nil_append, List.cons_append, true_and]; exact ⟨rfl, rfl, rfl, rfl, rfl, ⟨hok.1, hok.2.1, hok.2.2.1, hok.2.2.2.1, Nat.le_of_ble_eq_true rfl⟩, hok.2.2.2.2.1, hok.2.2.2.2.2⟩) ?_
  conv => whnf
  rw [hE]
  conv => whnf
  refine And.intro ⟨by decide, by rw [bl_length]; show (12 : Int) ≤ 18; decide, Int.le_refl _⟩ ?_
  conv => whnf
  refine ⟨[2, 0, 4, 1, 1, 97], ?_⟩
  conv => whnf
  refine And.intro (by simp only [allP, List.nil_append, List.cons_append, true_and]; exact ⟨rfl, by decide⟩) ?_
  conv => whnf
  refine And.intro (by simp only [allP, List.nil_append, List.cons_append, true_and]; simp only [bl_length, List.length_cons, List.length_nil]; omega) ?_
  conv => whnf
  refine ⟨(0, [2, 0, 4, 1, 1, 97, 0]), ?_⟩
  conv => whnf
  refine And.intro (by simp only [allP, List.nil_append, List.cons_append, true_and]; exact ⟨rfl, rfl, by decide, by decide⟩) ?_
  conv => whnf
  generalize crV 0 [2, 0, 4, 1, 1, 97, 0] = sum
  refine And.intro ⟨by decide, by decide, by rw [bl_length]; show (8 : Int) ≤ 18; decide⟩ ?_
  conv => whnf
  refine ⟨[0, 0, 0, 0, 0, 0, 0, 7], ?_⟩
  conv => whnf
  refine And.intro (by simp only [allP, List.nil_append, List.cons_append, true_and]; exact ⟨rfl, by decide⟩) ?_
  conv => whnf
  refine And.intro (by first | exact Nat.le_of_ble_eq_true rfl | exact ⟨Nat.le_of_ble_eq_true rfl, rfl⟩ | exact rfl | decide | (simp [allP]; done)) ?_
  conv => whnf
  rw [byteW]
  refine And.intro (by first | exact Nat.le_of_ble_eq_true rfl | exact ⟨Nat.le_of_ble_eq_true rfl, rfl⟩ | exact rfl | decide | (simp [allP]; done)) ?_
  conv => whnf
  rw [byteW]
  refine And.intro (by first | exact Nat.le_of_ble_eq_true rfl | exact ⟨Nat.le_of_ble_eq_true rfl, rfl⟩ | exact rfl | decide | (simp [allP]; done)) ?_
  conv => whnf
  rw [byteW, byteW]
  generalize UInt8.ofNat (IntKind.u8.wrap ((sum : Int).fdiv (2 ^ min (Int.toNat 24) IntKind.u32.bits))).toNat = c1
  generalize UInt8.ofNat (IntKind.u8.wrap ((sum : Int).fdiv (2 ^ min (Int.toNat 16) IntKind.u32.bits))).toNat = c2
  generalize UInt8.ofNat (IntKind.u8.wrap ((sum : Int).fdiv (2 ^ min (Int.toNat 8) IntKind.u32.bits))).toNat = c3
  generalize UInt8.ofNat (IntKind.u8.wrap (sum : Int)).toNat = c4
  refine And.intro (by simp only [allP, List.nil_append, List.cons_append, true_and]; simp only [bl_length, List.length_cons, List.length_nil]; omega) ?_
  conv => whnf
  refine And.intro (by simp only [allP, List.nil_append, List.cons_append, true_and]; simp only [bl_length, List.length_cons, List.length_nil, List.length_append]; omega) ?_
  conv => whnf
  refine ⟨([0, 0, 0, 0, 0, 0, 0, 7, c1, c2, c3, c4, 2, 0, 4, 1, 1, 97, 0], none), ?_⟩
  conv => whnf
  refine And.intro (by simp only [allP, List.nil_append, List.cons_append, true_and]; exact ⟨rfl, Nat.le_of_ble_eq_true rfl, rest_bad rfl⟩) ?_
  conv => whnf
  refine And.intro (by first | exact Nat.le_of_ble_eq_true rfl | exact ⟨Nat.le_of_ble_eq_true rfl, rfl⟩ | exact rfl | decide | (simp [allP]; done)) ?_
  conv => whnf
  rfl
theorem rest_sound : Sound Try.prog 30 cTrue := does_sound mixed tabOk_prog gMany_ok Try.func30 rest_does
/-! ### The longest -/
theorem vCnt_1024 : vCnt 1024 = 2 := by rw [vCnt_big (by decide), vCnt_small (by decide)]
theorem vCnt_474 : vCnt 474 = 2 := by rw [vCnt_big (by decide), vCnt_small (by decide)]
theorem vCnt_475 : vCnt 475 = 2 := by rw [vCnt_big (by decide), vCnt_small (by decide)]
theorem in_zero (rs : List (List UInt8)) : (inB (0, 0, 0, rs)).length = 3 + vCnt rs.length + (recsB rs).length := by
  have h0 : zig 0 = 0 := by decide
  unfold inB hdB
  simp only [List.length_append, vE_length, h0]
  have : vCnt 0 = 1 := vCnt_small (by decide)
  omega
theorem zrow (n : Nat) (e : PV) (he : e = .int .u8 0) : cutEls 0 n (List.replicate n e) = bl (List.replicate n 0) := by
  subst he
  simp [cutEls, bl, bv]
theorem full_does : Does gMany tab Try.f31 cTrue := by
  rintro x -
  obtain ⟨R, hR⟩ : ∃ R, R = manyR 58 1024 := ⟨_, rfl⟩
  have hRl : R.length = 58 := by rw [hR]; exact manyR_length _ _
  have hRa : ∀ r ∈ R, r.length = 1024 := by rw [hR]; exact manyR_all
  have hRb : (recsB R).length = 58 * (2 + 1024) := by rw [hR, manyR_bytes, vCnt_1024]
  obtain ⟨Z, hZ⟩ : ∃ Z : List UInt8, Z = List.replicate 474 0 := ⟨_, rfl⟩
  obtain ⟨Y, hY⟩ : ∃ Y : List UInt8, Y = List.replicate 475 0 := ⟨_, rfl⟩
  have hZl : Z.length = 474 := by rw [hZ, List.length_replicate]
  have hYl : Y.length = 475 := by rw [hY, List.length_replicate]
  have h59 : vCnt 59 = 1 := vCnt_small (by decide)
  have hXl : (inB (0, 0, 0, R ++ [Z])).length = 59988 := by
    rw [in_zero, List.length_append, hRl, List.length_singleton, recsB_app, recsB_one, recB, List.length_append, hRb, List.length_append, vE_length, hZl, vCnt_474, h59]
  have hWl : (inB (0, 0, 0, R ++ [Y])).length = 59989 := by
    rw [in_zero, List.length_append, hRl, List.length_singleton, recsB_app, recsB_one, recB, List.length_append, hRb, List.length_append, vE_length, hYl, vCnt_475, h59]
  have hXr : rgt (0, 0, 0, R ++ [Z]) = true := (rgt_iff _).2 ⟨by simp only [List.length_append, hRl, List.length_cons, List.length_nil]; decide, fun r hr => by
    rcases List.mem_append.1 hr with h | h
    · rw [hRa r h]; decide
    · rw [List.mem_singleton.1 h, hZl]; decide⟩
  have hWr : rgt (0, 0, 0, R ++ [Y]) = true := (rgt_iff _).2 ⟨by simp only [List.length_append, hRl, List.length_cons, List.length_nil]; decide, fun r hr => by
    rcases List.mem_append.1 hr with h | h
    · rw [hRa r h]; decide
    · rw [List.mem_singleton.1 h, hYl]; decide⟩
  have hZ0 : i64R 0 := by unfold i64R; decide
  have hXo : okE 0 (0, 0, 0, R ++ [Z]) := ⟨hZ0, hZ0, hZ0, hZ0, hXr, by rw [hXl]; decide⟩
  conv => whnf
  refine ⟨(58, 1024), ?_⟩
  conv => whnf
  refine And.intro (by simp only [allP, List.nil_append, List.cons_append, true_and]; exact ⟨rfl, rfl, by decide, by decide⟩) ?_
  (set_option smartUnfolding false in conv => whnf)
  refine ⟨(58, 1024), ?_⟩
  conv => whnf
  refine And.intro (by simp only [allP, List.nil_append, List.cons_append, true_and]; exact ⟨rfl, rfl, by decide, by decide⟩) ?_
  (set_option smartUnfolding false in conv => whnf)
  rw [← hR]
  refine And.intro (by first | exact Nat.le_of_ble_eq_true rfl | exact ⟨Nat.le_of_ble_eq_true rfl, rfl⟩ | exact rfl | decide | (simp [allP]; done)) ?_
  (set_option smartUnfolding false in conv => whnf)
  refine And.intro (by first | exact Nat.le_of_ble_eq_true rfl | exact ⟨Nat.le_of_ble_eq_true rfl, rfl⟩ | exact rfl | decide | (simp [allP]; done)) ?_
  (set_option smartUnfolding false in conv => whnf)
  refine And.intro (by first | exact Nat.le_of_ble_eq_true rfl | exact ⟨Nat.le_of_ble_eq_true rfl, rfl⟩ | exact rfl | decide | (simp [allP]; done)) ?_
  (set_option smartUnfolding false in conv => whnf)
  have hc474 : ∀ e : PV, e = .int .u8 0 → cutEls 0 (Int.toNat 474) (List.replicate (Int.toNat 474) e) = bl Z := fun e he => by rw [hZ]; exact zrow 474 e he
  rw [hc474 _ rfl]
  refine And.intro (by simp only [allP, List.nil_append, List.cons_append, true_and]; rw [ll_length, hRl]; simp only [List.length_cons, List.length_nil]; omega) ?_
  (set_option smartUnfolding false in conv => whnf)
  refine And.intro (by first | exact Nat.le_of_ble_eq_true rfl | exact ⟨Nat.le_of_ble_eq_true rfl, rfl⟩ | exact rfl | decide | (simp [allP]; done)) ?_
  (set_option smartUnfolding false in conv => whnf)
  refine ⟨by rfl, ?_⟩
  (set_option smartUnfolding false in conv => whnf)
  refine And.intro (by first | exact Nat.le_of_ble_eq_true rfl | exact ⟨Nat.le_of_ble_eq_true rfl, rfl⟩ | exact rfl | decide | (simp [allP]; done)) ?_
  (set_option smartUnfolding false in conv => whnf)
  have hc475 : ∀ e : PV, e = .int .u8 0 → cutEls 0 (Int.toNat 475) (List.replicate (Int.toNat 475) e) = bl Y := fun e he => by rw [hY]; exact zrow 475 e he
  rw [hc475 _ rfl]
  refine And.intro (by simp only [allP, List.nil_append, List.cons_append, true_and]; rw [ll_length, hRl]; simp only [List.length_cons, List.length_nil]; omega) ?_
  (set_option smartUnfolding false in conv => whnf)
  refine And.intro (by first | exact Nat.le_of_ble_eq_true rfl | exact ⟨Nat.le_of_ble_eq_true rfl, rfl⟩ | exact rfl | decide | (simp [allP]; done)) ?_
  (set_option smartUnfolding false in conv => whnf)
  refine ⟨by rfl, ?_⟩
  (set_option smartUnfolding false in conv => whnf)
  refine And.intro (by first | exact Nat.le_of_ble_eq_true rfl | exact ⟨Nat.le_of_ble_eq_true rfl, rfl⟩ | exact rfl | decide | (simp [allP]; done)) ?_
  (set_option smartUnfolding false in conv => whnf)
  have hpre : ∀ rs : List (List UInt8), rs.length ≤ 1000000000 → i64R 0 ∧ i64R 0 ∧ i64R 0 ∧ i64R 0 ∧ rs.length ≤ 1000000000 := fun rs h => ⟨hZ0, hZ0, hZ0, hZ0, h⟩
  have hap : ∀ W : List UInt8, ll (R ++ [W]) = ll R ++ [.sl 1 (bl W)] := fun W => by simp [ll]
  refine ⟨(0, 0, (0, 0, 0, R ++ [Z])), ?_⟩
  conv => whnf
  refine And.intro (by simp only [allP, List.nil_append, List.cons_append, true_and]; exact ⟨rfl, rfl, rfl, rfl, congrArg (PV.sl 1) (hap Z), hpre _ (by rw [List.length_append, hRl]; simp), hXr, by rw [hXl]; omega⟩) ?_
  (set_option smartUnfolding false in conv => whnf)
  refine And.intro (by first | exact Nat.le_of_ble_eq_true rfl | exact ⟨Nat.le_of_ble_eq_true rfl, rfl⟩ | exact rfl | decide | (simp [allP]; done)) ?_
  (set_option smartUnfolding false in conv => whnf)
  refine ⟨(2, 0, (0, 0, 0, R ++ [Y])), ?_⟩
  conv => whnf
  refine And.intro (by simp only [allP, List.nil_append, List.cons_append, true_and]; exact ⟨rfl, rfl, rfl, rfl, congrArg (PV.sl 1) (hap Y), hpre _ (by rw [List.length_append, hRl]; simp), hWr, by rw [hWl]; omega⟩) ?_
  (set_option smartUnfolding false in conv => whnf)
  have hel := bl_length (enB 0 (0, 0, 0, R ++ [Z]))
  rw [enB_length, hXl] at hel
  refine ⟨(enB 0 (0, 0, 0, R ++ [Z]), some (0, (0, 0, 0, R ++ [Z]))), ?_⟩
  conv => whnf
  refine And.intro (by simp only [allP, List.nil_append, List.cons_append, true_and]; exact ⟨rfl, by rw [enB_length, hXl]; omega, hXo, trivial⟩) ?_
  (set_option smartUnfolding false in conv => whnf)
  refine And.intro (by first | exact Nat.le_of_ble_eq_true rfl | exact ⟨Nat.le_of_ble_eq_true rfl, rfl⟩ | exact rfl | decide | (simp [allP]; done)) ?_
  (set_option smartUnfolding false in conv => whnf)
  rw [show (((bl (enB 0 (0, 0, 0, R ++ [Z]))).length : Int) == 60000) = true from by rw [hel]; rfl]
  (set_option smartUnfolding false in conv => whnf)
  rfl
theorem full_sound : Sound Try.prog 31 cTrue := does_sound mixed tabOk_prog gMany_ok Try.func31 full_does
def gNums : List (FuncId × Ctr) := (30, cTrue) :: (31, cTrue) :: gMany
theorem gNums_ok : GamOk Try.prog gNums := GamOk.cons (GamOk.cons gMany_ok Try.func31 (by kernel_rfl) (by kernel_rfl) full_sound) Try.func30 (by kernel_rfl) (by kernel_rfl) rest_sound
end Go.Proofs.Ytjgmlkogppibfaa.Ev
