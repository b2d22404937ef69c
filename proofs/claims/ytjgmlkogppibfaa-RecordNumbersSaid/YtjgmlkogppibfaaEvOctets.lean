/- The functions of octets: what they come to. No conditions. -/
import Derived.Test.YtjgmlkogppibfaaEvBase
namespace Go.Proofs.Ytjgmlkogppibfaa.Ev
open Go
set_option linter.unusedVariables false
set_option linter.unusedSimpArgs false
set_option maxRecDepth 100000
/-- n bytes from a on as a number, the highest one first. -/
def numN (l : List UInt8) (a : Nat) : Nat → Nat
  | 0 => 0
  | n + 1 => numN l a n * 256 + (l.getD (a + n) 0).toNat
theorem numN_lt (l : List UInt8) (a : Nat) : ∀ n, numN l a n < 256 ^ n
  | 0 => by simp [numN]
  | n + 1 => by
    have := numN_lt l a n
    have := u8_lt (l.getD (a + n) 0)
    rw [numN, Nat.pow_succ]
    omega
def numV (l : List UInt8) (a : Int) (n : Nat) : Int × Bool := match decide (0 ≤ a ∧ a + n ≤ l.length) with
  | true => (numN l a.toNat n, true)
  | false => (0, false)
theorem numV_ok {l : List UInt8} {a : Int} {n : Nat} (h : 0 ≤ a ∧ a + n ≤ l.length) : numV l a n = (((numN l a.toNat n : Nat) : Int), true) := by
  unfold numV; rw [decide_eq_true h]
theorem numV_no {l : List UInt8} {a : Int} {n : Nat} (h : ¬ (0 ≤ a ∧ a + n ≤ l.length)) : numV l a n = (0, false) := by
  unfold numV; rw [decide_eq_false h]
theorem numN_step {l : List UInt8} {a n : Nat} (hn : n < 8) :
    IntKind.u64.wrap ((BitVec.ofInt IntKind.u64.bits (IntKind.u64.wrap ((numN l a n : Int) * 2 ^ min (Int.toNat 8) IntKind.u64.bits)) ||| BitVec.ofInt IntKind.u64.bits (IntKind.u64.wrap ((l.getD (a + n) 0).toNat : Int))).toNat : Nat) = (numN l a (n + 1) : Int) := by
  have h1 := numN_lt l a n
  have h2 := u8_lt (l.getD (a + n) 0)
  have h3 : (256 : Nat) ^ n ≤ 256 ^ 7 := Nat.pow_le_pow_right (by decide) (by omega)
  have h4 : (256 : Nat) ^ 7 = 72057594037927936 := by decide
  have e1 : ((numN l a n : Int) * 2 ^ min (Int.toNat 8) IntKind.u64.bits) = ((numN l a n * 2 ^ 8 : Nat) : Int) := by
    rw [show min (Int.toNat 8) IntKind.u64.bits = 8 by decide]
    push_cast
    rfl
  rw [e1, wrap_u64 (x := ((numN l a n * 2 ^ 8 : Nat) : Int)) (by omega) (by omega), wrap_u64 (x := ((l.getD (a + n) 0).toNat : Int)) (by omega) (by omega), or_join (by omega) (by omega)]
  rfl
abbrev cNumber : Ctr := ⟨List UInt8 × Int × Nat, 0, fun (l, a, n) => [.p false (.sl 1 (bl l)), isI .i64 a, isI .i64 n], fun _ => [],
  fun (l, a, n) => n ≤ 8 ∧ l.length ≤ 4611686018427387904 ∧ a ≤ 9223372036854775807 ∧ -9223372036854775808 ≤ a, fun (l, a, n) => .tuple [isI .u64 (numV l a n).1, isB (numV l a n).2], fun _ => []⟩
theorem number_does : Does [] tab Try.f69 cNumber := by
  rintro ⟨l, a, n⟩ ⟨h1, h2, h3, h4⟩
  have hlen := bl_length l
  have hw : IntKind.i64.wrap (((bl l).length : Int) - n) = l.length - n := by rw [hlen]; exact wrap_i64 (by omega) (by omega)
  conv => whnf
  split <;> rename_i hb1 <;> rw [hb1] <;> conv => whnf
  · simp only [decide_eq_true_eq] at hb1
    rw [numV_no (by omega)]
    simp [allP, pvle]
  split <;> rename_i hb2 <;> rw [hb2] <;> conv => whnf
  · simp only [cond_false, hw, decide_eq_true_eq] at hb2
    rw [numV_no (by omega)]
    simp [allP, pvle]
  simp only [cond_false, hw, decide_eq_false_iff_not] at hb1 hb2
  have hV := numV_ok (l := l) (a := a) (n := n) (by omega)
  refine ⟨{i : Nat // i ≤ n}, fun i => ⟨[(0, .p false (.sl 1 (bl l))), (1, isI .i64 a), (2, isI .i64 n), (8, isI .u64 (numN l a.toNat i.1)), (20, isI .i64 n), (21, isI .i64 i.1)], [], 99⟩, fun i => n - i.1, ⟨⟨0, by omega⟩, ?_⟩, ?_⟩
  · conv => whnf
    simp [allP, pvle, numN]
  rintro ⟨i, hi⟩
  have hw2 : IntKind.i64.wrap (a + (i : Int)) = a + i := wrap_i64 (by omega) (by omega)
  conv => whnf
  split <;> rename_i hb <;> rw [hb] <;> conv => whnf
  · simp only [decide_eq_true_eq] at hb
    refine And.intro (by simp [allP]) ?_
    conv => whnf
    refine And.intro (by simp only [allP]; rw [hw2, hlen]; omega) ?_
    rw [bl_getD]
    conv => whnf
    refine ⟨⟨i + 1, by omega⟩, by simp only; omega, ?_⟩
    conv => whnf
    have hs := numN_step (l := l) (a := a.toNat) (n := i) (by omega)
    have e1 : (IntKind.i64.wrap (a + (i : Int))).toNat = a.toNat + i := by rw [hw2]; omega
    have e2 : IntKind.i64.wrap ((i : Int) + 1) = ((i + 1 : Nat) : Int) := by rw [wrap_i64 (by omega) (by omega)]; rfl
    simp only [allP, pvle, e1, hs, e2, and_self]
  · simp only [decide_eq_false_iff_not] at hb
    have : i = n := by omega
    subst this
    rw [hV]
    simp [allP, pvle]
def gO1 : List (FuncId × Ctr) := (69, cNumber) :: []
theorem gO1_ok : GamOk Try.prog gO1 := GamOk.step mixed tabOk_prog GamOk.nil Try.func69 (by kernel_rfl) (by kernel_rfl) number_does
theorem numV_lt (l : List UInt8) (a : Int) (n : Nat) : 0 ≤ (numV l a n).1 ∧ (numV l a n).1 < 256 ^ n := by
  by_cases h : 0 ≤ a ∧ a + n ≤ l.length
  · rw [numV_ok h]
    have := numN_lt l a.toNat n
    refine ⟨by simp only; omega, ?_⟩
    simp only
    exact_mod_cast this
  · rw [numV_no h]
    have := Int.pow_pos (n := 256) (m := n) (by decide)
    exact ⟨by decide, by omega⟩
/-- A number of n bytes, of kind k. -/
abbrev cU (k : IntKind) (n : Nat) : Ctr := ⟨List UInt8 × Int, 0, fun (l, a) => [.p false (.sl 1 (bl l)), isI .i64 a], fun _ => [],
  fun (l, a) => l.length ≤ 4611686018427387904 ∧ a ≤ 9223372036854775807 ∧ -9223372036854775808 ≤ a, fun (l, a) => .tuple [isI k (numV l a n).1, isB (numV l a n).2], fun _ => []⟩
/-- n bytes of a number, the highest one first. -/
def beB : Nat → Nat → List UInt8
  | 0, _ => []
  | n + 1, v => UInt8.ofNat (v / 256 ^ n) :: beB n v
theorem beB_length (n v : Nat) : (beB n v).length = n := by
  induction n with
  | zero => rfl
  | succ n ih => simp [beB, ih]
theorem beB_get (n v j : Nat) (h : j < n) : (beB n v)[j]? = some (UInt8.ofNat (v / 256 ^ (n - 1 - j))) := by
  induction n generalizing j with
  | zero => omega
  | succ n ih =>
    cases j with
    | zero => rfl
    | succ j =>
      show (beB n v)[j]? = _
      rw [ih j (by omega), show n + 1 - 1 - (j + 1) = n - 1 - j by omega]
theorem beB_take (n v j : Nat) (h : j < n) : (beB n v).take (j + 1) = (beB n v).take j ++ [UInt8.ofNat (v / 256 ^ (n - 1 - j))] := by
  rw [List.take_add_one, beB_get n v j h]
  rfl
theorem addByte {v n i : Nat} (hn : n ≤ 8) (hi : i < n) (hv : v < 18446744073709551616) :
    PV.int .u8 (IntKind.u8.wrap ((v : Int).fdiv (2 ^ min (IntKind.i64.wrap (8 * IntKind.i64.wrap (IntKind.i64.wrap ((n : Int) - 1) - i))).toNat IntKind.u64.bits))) = bv (UInt8.ofNat (v / 256 ^ (n - 1 - i))) := by
  unfold bv
  congr 1
  rw [wrap_i64 (x := (n : Int) - 1) (by omega) (by omega), wrap_i64 (x := (n : Int) - 1 - i) (by omega) (by omega), wrap_i64 (by omega) (by omega)]
  have e : min (8 * ((n : Int) - 1 - i)).toNat IntKind.u64.bits = 8 * (n - 1 - i) := by
    show min _ 64 = _
    omega
  rw [e, IntKind.wrap_u8, UInt8.toNat_ofNat', show (256 : Nat) = 2 ^ 8 from rfl, ← Nat.pow_mul]
  rw [Int.fdiv_eq_ediv_of_nonneg _ (by exact Int.le_of_lt (Int.pow_pos (by decide)))]
  push_cast
  rfl
/-- A number's n bytes behind others. -/
abbrev cAdd : Ctr := ⟨List UInt8 × Nat × Nat, 0, fun (l, v, n) => [.p false (.sl 1 (bl l)), isI .u64 v, isI .i64 n], fun _ => [],
  fun (l, v, n) => n ≤ 8 ∧ v < 18446744073709551616 ∧ l.length + n ≤ 140737488355328, fun _ => .rowf 0, fun (l, v, n) => [(0, .row 5 1 true false (bl (l ++ beB n v)))]⟩
theorem rep_elD (n : Nat) : List.replicate n (match ([PV.int IntKind.u8 0] : List PV) with | [x] => x | zs => PV.agg zs) = bl (List.replicate n 0) := by
  simp [bl, bv]
theorem bl_all (l : List UInt8) : ((bl l).all fun v => Nat.beq v.cells.length 1) = true := by
  rw [List.all_eq_true]
  intro v hv
  obtain ⟨b, _, rfl⟩ := List.mem_map.1 hv
  rfl
theorem add_does : Does gO1 tab Try.f67 cAdd := by
  rintro ⟨l, v, n⟩ ⟨h1, h2, h3⟩
  have hlen := bl_length l
  have hw : IntKind.i64.wrap (((bl l).length : Int) + n) = ((l.length + n : Nat) : Int) := by rw [hlen, wrap_i64 (by omega) (by omega)]; omega
  conv => whnf
  refine And.intro (by simp only [allP, hw]; omega) ?_
  conv => whnf
  refine And.intro (bl_all l) ?_
  conv => whnf
  refine ⟨{i : Nat // i ≤ n}, fun i => ⟨[(1, isI .u64 v), (2, isI .i64 n), (7, .rowf 0), (19, isI .i64 n), (20, isI .i64 i.1)], [(0, .row 5 1 true false (bl (l ++ (beB n v).take i.1)))], 99⟩, fun i => n - i.1, ⟨⟨0, by omega⟩, ?_⟩, ?_⟩
  · conv => whnf
    simp only [allP, rep_elD, hw, hlen, Int.toNat_natCast, Nat.min_self, List.take_zero, List.append_nil]
    refine ⟨rfl, rfl, trivial, rfl, rfl, ?_, ?_, ?_⟩
    · rw [List.take_append_of_le_length (by simp [bl]), List.take_take, Nat.min_self, List.take_of_length_le (by simp [bl])]
    · simp [bl]
    · rw [show ∀ m, List.replicate m (PV.int IntKind.u8 0) = bl (List.replicate m 0) from fun m => by simp [bl, bv], bl_take, bl_drop, ← bl_append]
      exact bl_isFlat _
  · rintro ⟨i, hi⟩
    conv => whnf
    split <;> rename_i hb <;> rw [hb] <;> conv => whnf
    · simp only [decide_eq_true_eq] at hb
      have hb' : i < n := by omega
      have hB := addByte h1 hb' h2
      refine And.intro (by simp only [allP]; rw [wrap_i64 (x := (n : Int) - 1) (by omega) (by omega), wrap_i64 (x := (n : Int) - 1 - i) (by omega) (by omega), wrap_i64 (by omega) (by omega)]; omega) ?_
      conv => whnf
      have hlen2 : (bl (l ++ (beB n v).take i)).length = l.length + i := by rw [bl_length, List.length_append, List.length_take, beB_length, Nat.min_eq_left (by omega)]
      rw [hB]
      refine And.intro (by simp only [allP, List.nil_append, hlen2, List.length_singleton]; omega) ?_
      conv => whnf
      refine ⟨⟨i + 1, by omega⟩, by simp only; omega, ?_⟩
      conv => whnf
      have e2 : IntKind.i64.wrap ((i : Int) + 1) = ((i + 1 : Nat) : Int) := by rw [wrap_i64 (by omega) (by omega)]; rfl
      simp only [allP, e2]
      refine ⟨rfl, rfl, rfl, rfl, ?_⟩
      rw [beB_take n v i hb', ← List.append_assoc, bl_append]
      rfl
    · simp only [decide_eq_false_iff_not] at hb
      have : i = n := by omega
      subst this
      simp only [allP]
      rw [List.take_of_length_le (by rw [beB_length]; exact Nat.le_refl _)]
def gO2 : List (FuncId × Ctr) := (67, cAdd) :: gO1
theorem gO2_ok : GamOk Try.prog gO2 := GamOk.step mixed tabOk_prog gO1_ok Try.func67 (by kernel_rfl) (by kernel_rfl) add_does
theorem u32_does : Does gO2 tab Try.f42 (cU .u32 4) := by
  rintro ⟨l, a⟩ ⟨h2, h3, h4⟩
  have hv := numV_lt l a 4
  have hw : IntKind.u32.wrap (numV l a 4).1 = (numV l a 4).1 := wrap_u32 (by omega) (by omega)
  conv => whnf
  refine ⟨(l, a, 4), ?_⟩
  conv => whnf
  refine And.intro (by simp only [allP]; exact ⟨rfl, rfl, rfl, by decide, h2, h3, h4⟩) ?_
  conv => whnf
  simp [allP, pvle, hw]
theorem u64_does : Does gO2 tab Try.f56 (cU .u64 8) := by
  rintro ⟨l, a⟩ ⟨h2, h3, h4⟩
  have hv := numV_lt l a 8
  conv => whnf
  refine ⟨(l, a, 8), ?_⟩
  conv => whnf
  refine And.intro (by simp only [allP]; exact ⟨rfl, rfl, rfl, by decide, h2, h3, h4⟩) ?_
  conv => whnf
  simp [allP, pvle]
/-- A number of kind k, n bytes of it behind others. -/
abbrev cAddK (k : IntKind) (n : Nat) : Ctr := ⟨List UInt8 × Nat, 0, fun (l, v) => [.p false (.sl 1 (bl l)), isI k v], fun _ => [],
  fun (l, v) => v < 256 ^ n ∧ l.length + n ≤ 140737488355328, fun _ => .rowf 0, fun (l, v) => [(0, .row 5 1 true false (bl (l ++ beB n v)))]⟩
theorem add32_does : Does gO2 tab Try.f40 (cAddK .u32 4) := by
  rintro ⟨l, v⟩ ⟨h1, h2⟩
  have hw : IntKind.u64.wrap (v : Int) = v := wrap_u64 (by omega) (by omega)
  conv => whnf
  refine ⟨(l, v, 4), ?_⟩
  conv => whnf
  refine And.intro (by simp only [allP, hw]; exact ⟨rfl, rfl, rfl, by decide, by omega, h2⟩) ?_
  conv => whnf
theorem add64_does : Does gO2 tab Try.f49 (cAddK .u64 8) := by
  rintro ⟨l, v⟩ ⟨h1, h2⟩
  have hw : IntKind.u64.wrap (v : Int) = v := wrap_u64 (by omega) (by omega)
  conv => whnf
  refine ⟨(l, v, 8), ?_⟩
  conv => whnf
  refine And.intro (by simp only [allP]; exact ⟨rfl, rfl, rfl, by decide, by omega, h2⟩) ?_
  conv => whnf
def gO_U8 : List (FuncId × Ctr) := gO2
theorem gO_U8_ok : GamOk Try.prog gO_U8 := gO2_ok
def gO_U16 : List (FuncId × Ctr) := gO_U8
theorem gO_U16_ok : GamOk Try.prog gO_U16 := gO_U8_ok
theorem u32_sound : Sound Try.prog 42 (cU .u32 4) := does_sound mixed tabOk_prog gO2_ok Try.func42 u32_does
def gO_U32 : List (FuncId × Ctr) := (42, (cU .u32 4)) :: gO_U16
theorem gO_U32_ok : GamOk Try.prog gO_U32 := GamOk.cons gO_U16_ok Try.func42 (by kernel_rfl) (by kernel_rfl) u32_sound
theorem u64_sound : Sound Try.prog 56 (cU .u64 8) := does_sound mixed tabOk_prog gO2_ok Try.func56 u64_does
def gO_U64 : List (FuncId × Ctr) := (56, (cU .u64 8)) :: gO_U32
theorem gO_U64_ok : GamOk Try.prog gO_U64 := GamOk.cons gO_U32_ok Try.func56 (by kernel_rfl) (by kernel_rfl) u64_sound
def gO_Add8 : List (FuncId × Ctr) := gO_U64
theorem gO_Add8_ok : GamOk Try.prog gO_Add8 := gO_U64_ok
def gO_Add16 : List (FuncId × Ctr) := gO_Add8
theorem gO_Add16_ok : GamOk Try.prog gO_Add16 := gO_Add8_ok
theorem add32_sound : Sound Try.prog 40 (cAddK .u32 4) := does_sound mixed tabOk_prog gO2_ok Try.func40 add32_does
def gO_Add32 : List (FuncId × Ctr) := (40, (cAddK .u32 4)) :: gO_Add16
theorem gO_Add32_ok : GamOk Try.prog gO_Add32 := GamOk.cons gO_Add16_ok Try.func40 (by kernel_rfl) (by kernel_rfl) add32_sound
theorem add64_sound : Sound Try.prog 49 (cAddK .u64 8) := does_sound mixed tabOk_prog gO2_ok Try.func49 add64_does
def gO_Add64 : List (FuncId × Ctr) := (49, (cAddK .u64 8)) :: gO_Add32
theorem gO_Add64_ok : GamOk Try.prog gO_Add64 := GamOk.cons gO_Add32_ok Try.func49 (by kernel_rfl) (by kernel_rfl) add64_sound
/-- All but the texts. -/
def gO3 : List (FuncId × Ctr) := gO_Add64
theorem gO3_ok : GamOk Try.prog gO3 := gO_Add64_ok
def gOct : List (FuncId × Ctr) := gO3
theorem gOct_ok : GamOk Try.prog gOct := gO3_ok
end Go.Proofs.Ytjgmlkogppibfaa.Ev
