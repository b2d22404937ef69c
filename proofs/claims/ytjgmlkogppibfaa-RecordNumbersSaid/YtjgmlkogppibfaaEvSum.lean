/- The sums: the program's and the document's are the same. No conditions. -/
import Derived.Test.YtjgmlkogppibfaaEvLow
namespace Go.Proofs.Ytjgmlkogppibfaa.Ev
open Go
set_option linter.unusedVariables false
set_option linter.unusedSimpArgs false
set_option maxRecDepth 100000
set_option maxHeartbeats 4000000
/-! ### The register, as numbers -/
def crP : Nat := 2197175160
def crT (r : Nat) : Nat := if r % 2 = 1 then (r / 2) ^^^ crP else r / 2
def crTs : Nat → Nat → Nat
  | 0, r => r
  | k + 1, r => crT (crTs k r)
/-- The register behind bytes. -/
def crG (r : Nat) (l : List UInt8) : Nat := l.foldl (fun r c => crTs 8 (r ^^^ c.toNat)) r
def crV (s : Nat) (l : List UInt8) : Nat := 4294967295 - crG (4294967295 - s) l
theorem xor_lt32 {a b : Nat} (ha : a < 4294967296) (hb : b < 4294967296) : a ^^^ b < 4294967296 := Nat.xor_lt_two_pow (n := 32) ha hb
theorem crT_lt {r : Nat} (h : r < 4294967296) : crT r < 4294967296 := by
  unfold crT
  split
  · exact xor_lt32 (by omega) (by decide)
  · omega
theorem crTs_lt {r : Nat} (h : r < 4294967296) : ∀ k, crTs k r < 4294967296
  | 0 => h
  | k + 1 => crT_lt (crTs_lt h k)
theorem crG_lt : ∀ (l : List UInt8) {r : Nat}, r < 4294967296 → crG r l < 4294967296
  | [], r, h => h
  | c :: l, r, h => crG_lt l (crTs_lt (xor_lt32 h (Nat.lt_trans (u8_lt c) (by decide))) 8)
theorem crG_snoc (r : Nat) (l : List UInt8) (c : UInt8) : crG r (l ++ [c]) = crTs 8 (crG r l ^^^ c.toNat) := by
  unfold crG; rw [List.foldl_append]; rfl
theorem crV_lt (s : Nat) (l : List UInt8) : crV s l < 4294967296 := by unfold crV; omega
theorem xor32 {a b : Nat} (ha : a < 4294967296) (hb : b < 4294967296) :
    IntKind.u32.wrap ((BitVec.ofInt IntKind.u32.bits ((a : Nat) : Int) ^^^ BitVec.ofInt IntKind.u32.bits ((b : Nat) : Int)).toNat : Nat) = ((a ^^^ b : Nat) : Int) := by
  have h1 : (BitVec.ofInt IntKind.u32.bits ((a : Nat) : Int)).toNat = a := by
    rw [BitVec.ofInt_natCast, BitVec.toNat_ofNat]; exact Nat.mod_eq_of_lt (by show _ < 2 ^ 32; omega)
  have h2 : (BitVec.ofInt IntKind.u32.bits ((b : Nat) : Int)).toNat = b := by
    rw [BitVec.ofInt_natCast, BitVec.toNat_ofNat]; exact Nat.mod_eq_of_lt (by show _ < 2 ^ 32; omega)
  have h3 := xor_lt32 ha hb
  rw [BitVec.toNat_xor, h1, h2]
  exact wrap_u32 (by omega) (by omega)
theorem and32 {a : Nat} (ha : a < 4294967296) :
    IntKind.u32.wrap ((BitVec.ofInt IntKind.u32.bits ((a : Nat) : Int) &&& BitVec.ofInt IntKind.u32.bits 1).toNat : Nat) = ((a % 2 : Nat) : Int) := by
  have h1 : (BitVec.ofInt IntKind.u32.bits ((a : Nat) : Int)).toNat = a := by
    rw [BitVec.ofInt_natCast, BitVec.toNat_ofNat]; exact Nat.mod_eq_of_lt (by show _ < 2 ^ 32; omega)
  rw [BitVec.toNat_and, h1, show (BitVec.ofInt IntKind.u32.bits 1).toNat = 1 from rfl, Nat.and_one_is_mod]
  exact wrap_u32 (by omega) (by omega)
theorem not32 {a : Nat} (ha : a < 4294967296) :
    IntKind.u32.wrap ((BitVec.ofInt IntKind.u32.bits (if IntKind.u32.signed = true then -1 else IntKind.u32.max) ^^^ BitVec.ofInt IntKind.u32.bits ((a : Nat) : Int)).toNat : Nat) = ((4294967295 - a : Nat) : Int) := by
  have h1 : (BitVec.ofInt IntKind.u32.bits ((a : Nat) : Int)).toNat = a := by
    rw [BitVec.ofInt_natCast, BitVec.toNat_ofNat]; exact Nat.mod_eq_of_lt (by show _ < 2 ^ 32; omega)
  have e : 4294967295 ^^^ a = 4294967295 - a := by
    have e : 4294967295 - a = 2 ^ 32 - (a + 1) := by omega
    have e2 : (4294967295 : Nat) = 2 ^ 32 - 1 := by decide
    rw [e]
    apply Nat.eq_of_testBit_eq
    intro i
    rw [Nat.testBit_two_pow_sub_succ ha, Nat.testBit_xor, e2, Nat.testBit_two_pow_sub_one]
    by_cases hi : i < 32
    · simp [hi]
    · have hx : a.testBit i = false := Nat.testBit_lt_two_pow (Nat.lt_of_lt_of_le (show a < 2 ^ 32 from ha) (Nat.pow_le_pow_right (by decide) (by omega)))
      simp [hi, hx]
  rw [BitVec.toNat_xor, h1, show (BitVec.ofInt IntKind.u32.bits (if IntKind.u32.signed = true then -1 else IntKind.u32.max)).toNat = 4294967295 from rfl, e]
  exact wrap_u32 (by omega) (by omega)
/-! ### The program's -/
abbrev cTurn : Ctr := ⟨Nat, 1, fun _ => [.ptr 0 0], fun n => [(0, .box [isI .u32 n])], fun n => n < 4294967296, fun _ => .tuple [], fun n => [(0, .box [isI .u32 (crT n)])]⟩
theorem turn_does : Does [] tab Try.f76 cTurn := by
  rintro (n : Nat) (h : n < 4294967296)
  have hs : ((n : Nat) : Int).fdiv (2 ^ min (Int.toNat 1) IntKind.u32.bits) = ((n / 2 : Nat) : Int) := by
    rw [Int.fdiv_eq_ediv_of_nonneg _ (by decide)]; rfl
  have hx : IntKind.u32.wrap ((BitVec.ofInt IntKind.u32.bits ((n / 2 : Nat) : Int) ^^^ BitVec.ofInt IntKind.u32.bits 2197175160).toNat : Nat) = ((n / 2 ^^^ crP : Nat) : Int) := xor32 (by omega) (by decide)
  conv => whnf
  rw [and32 h, hs]
  refine And.intro (by first | exact Nat.le_of_ble_eq_true rfl | exact ⟨Nat.le_of_ble_eq_true rfl, rfl⟩ | exact rfl | decide | (simp [allP]; done)) ?_
  conv => whnf
  refine And.intro (by first | exact Nat.le_of_ble_eq_true rfl | exact ⟨Nat.le_of_ble_eq_true rfl, rfl⟩ | exact rfl | decide | (simp [allP]; done)) ?_
  conv => whnf
  by_cases h1 : n % 2 = 1
  · rw [show (((n % 2 : Nat) : Int) == 1) = true from by rw [h1]; rfl]
    conv => whnf
    rw [hx]
    have e : crT n = n / 2 ^^^ crP := by unfold crT; rw [if_pos h1]
    refine And.intro (by first | exact Nat.le_of_ble_eq_true rfl | exact ⟨Nat.le_of_ble_eq_true rfl, rfl⟩ | exact rfl | decide | (simp [allP]; done)) ?_
    conv => whnf
    rw [e]
  · rw [show (((n % 2 : Nat) : Int) == 1) = false from by rw [show n % 2 = 0 by omega]; rfl]
    conv => whnf
    have e : crT n = n / 2 := by unfold crT; rw [if_neg h1]
    rw [e]
theorem turn_sound : Sound Try.prog 76 cTurn := does_sound mixed tabOk_prog GamOk.nil Try.func76 turn_does
def gTurn : List (FuncId × Ctr) := (76, cTurn) :: []
theorem gTurn_ok : GamOk Try.prog gTurn := GamOk.cons GamOk.nil Try.func76 (by kernel_rfl) (by kernel_rfl) turn_sound
abbrev cMore : Ctr := ⟨Nat × List UInt8, 0, fun (s, l) => [isI .u32 s, .p false (.sl 1 (bl l))], fun _ => [], fun (s, l) => s < 4294967296 ∧ l.length ≤ 140737488355328, fun (s, l) => isI .u32 (crV s l), fun _ => []⟩
theorem more_does : Does gTurn tab Try.f71 cMore := by
  rintro ⟨s, l⟩ ⟨h1, h2⟩
  have hbl := bl_length l
  conv => whnf
  rw [not32 h1]
  refine And.intro (by first | exact Nat.le_of_ble_eq_true rfl | exact ⟨Nat.le_of_ble_eq_true rfl, rfl⟩ | exact rfl | decide | (simp [allP]; done)) ?_
  conv => whnf
  refine ⟨{i : Nat // i ≤ l.length}, fun i => ⟨[(5, .ptr 0 0), (6, .func 76 [] [.ptr 0 0]), (12, .p false (.sl 1 (bl l))), (13, isI .i64 l.length), (14, isI .i64 i.1)], [(0, .box [isI .u32 (crG (4294967295 - s) (l.take i.1))])], 99⟩, fun i => l.length - i.1, ⟨⟨0, Nat.zero_le _⟩, ?_⟩, ?_⟩
  · conv => whnf
    rw [hbl]
    exact ⟨rfl, rfl, rfl, rfl⟩
  rintro ⟨i, hi⟩
  show aw _ _ _ _ _ _ ⟨[(5, .ptr 0 0), (6, .func 76 [] [.ptr 0 0]), (12, .p false (.sl 1 (bl l))), (13, isI .i64 l.length), (14, isI .i64 i)], [(0, .box [isI .u32 (crG (4294967295 - s) (l.take i))])], 99⟩
  have hG : crG (4294967295 - s) (l.take i) < 4294967296 := crG_lt _ (by omega)
  conv => whnf
  by_cases hlt : i < l.length
  · rw [show decide ((i : Int) < (l.length : Int)) = true from decide_eq_true (by omega)]
    conv => whnf
    refine And.intro (by simp only [allP, List.nil_append, List.cons_append, true_and]; rw [hbl]; omega) ?_
    conv => whnf
    rw [Int.toNat_natCast, bl_getD]
    conv => whnf
    have hc := u8_lt (l.getD i 0)
    have htk : l.take (i + 1) = l.take i ++ [l.getD i 0] := by rw [List.take_add_one, List.getD_eq_getElem?_getD, List.getElem?_eq_getElem hlt]; rfl
    have hst := crG_snoc (4294967295 - s) (l.take i) (l.getD i 0)
    rw [← htk] at hst
    generalize l.getD i 0 = c at hc hst ⊢
    generalize crG (4294967295 - s) (l.take i) = r at hG hst ⊢
    rw [wrap_u32 (x := ((c.toNat : Nat) : Int)) (by omega) (by omega), xor32 hG (by omega)]
    refine And.intro (by first | exact Nat.le_of_ble_eq_true rfl | exact ⟨Nat.le_of_ble_eq_true rfl, rfl⟩ | exact rfl | decide | (simp [allP]; done)) ?_
    conv => whnf
    have hrc : r ^^^ c.toNat < 4294967296 := xor_lt32 hG (by omega)
    refine ⟨{k : Nat // k ≤ 8}, fun k => ⟨[(5, .ptr 0 0), (6, .func 76 [] [.ptr 0 0]), (12, .p false (.sl 1 (bl l))), (13, isI .i64 l.length), (14, isI .i64 i), (22, isI .i64 k.1)], [(0, .box [isI .u32 (crTs k.1 (r ^^^ c.toNat))])], 99⟩, fun k => 8 - k.1, ⟨⟨0, Nat.zero_le _⟩, ?_⟩, ?_⟩
    · conv => whnf
      exact ⟨rfl, rfl, rfl, rfl, rfl⟩
    rintro ⟨k, hk⟩
    show aw _ _ _ _ _ _ ⟨[(5, .ptr 0 0), (6, .func 76 [] [.ptr 0 0]), (12, .p false (.sl 1 (bl l))), (13, isI .i64 l.length), (14, isI .i64 i), (22, isI .i64 k)], [(0, .box [isI .u32 (crTs k (r ^^^ c.toNat))])], 99⟩
    conv => whnf
    by_cases hk8 : k < 8
    · rw [show decide ((k : Int) < 8) = true from decide_eq_true (by omega)]
      conv => whnf
      refine ⟨crTs k (r ^^^ c.toNat), ?_⟩
      conv => whnf
      refine And.intro (by simp only [allP, List.nil_append, List.cons_append, true_and]; exact ⟨rfl, crTs_lt hrc k⟩) ?_
      conv => whnf
      refine ⟨⟨k + 1, by omega⟩, by simp only; omega, ?_⟩
      conv => whnf
      exact ⟨rfl, rfl, rfl, by rw [wrap_i64 (by omega) (by omega)]; rfl, rfl⟩
    · rw [show decide ((k : Int) < 8) = false from decide_eq_false (by omega)]
      conv => whnf
      obtain rfl : k = 8 := by omega
      refine ⟨⟨i + 1, by omega⟩, by simp only; omega, ?_⟩
      conv => whnf
      exact ⟨rfl, rfl, by rw [wrap_i64 (by omega) (by omega)]; rfl, by rw [← hst]; rfl⟩
  · rw [show decide ((i : Int) < (l.length : Int)) = false from decide_eq_false (by omega)]
    conv => whnf
    rw [not32 hG]
    rw [show l.take i = l from List.take_of_length_le (by omega)]
    rfl
theorem more_sound : Sound Try.prog 71 cMore := does_sound mixed tabOk_prog gTurn_ok Try.func71 more_does
def gMore : List (FuncId × Ctr) := (71, cMore) :: gTurn
theorem gMore_ok : GamOk Try.prog gMore := GamOk.cons gTurn_ok Try.func71 (by kernel_rfl) (by kernel_rfl) more_sound
abbrev cCrc : Ctr := ⟨List UInt8, 0, fun l => [.p false (.sl 1 (bl l))], fun _ => [], fun l => l.length ≤ 140737488355328, fun l => isI .u32 (crV 0 l), fun _ => []⟩
theorem crc_does : Does gMore tab Try.f50 cCrc := by
  rintro (l : List UInt8) (h : l.length ≤ 140737488355328)
  conv => whnf
  refine ⟨(0, l), ?_⟩
  conv => whnf
  refine And.intro (by simp only [allP, List.nil_append, List.cons_append, true_and]; exact ⟨rfl, rfl, by decide, h⟩) ?_
  conv => whnf
theorem crc_sound : Sound Try.prog 50 cCrc := does_sound mixed tabOk_prog gMore_ok Try.func50 crc_does
/-! ### The document's -/
theorem rTurn (x b : Nat) (hx : x < 4294967296) : crT (x ^^^ b) = (if b % 2 = x % 2 then x / 2 else x / 2 ^^^ crP) ^^^ (b / 2) := by
  have hd : (x ^^^ b) / 2 = (x / 2) ^^^ (b / 2) := Nat.xor_div_two
  have h := Nat.xor_mod_two_eq_one (a := x) (b := b)
  have hm : (x ^^^ b) % 2 = (x % 2 + b % 2) % 2 := by
    rcases Nat.mod_two_eq_zero_or_one (x ^^^ b) with e | e <;> rcases Nat.mod_two_eq_zero_or_one x with ha | ha <;> rcases Nat.mod_two_eq_zero_or_one b with hb | hb <;> simp [e, ha, hb] at h ⊢
  unfold crT
  rw [hd]
  rcases Nat.mod_two_eq_zero_or_one x with hx | hx <;> rcases Nat.mod_two_eq_zero_or_one b with hy | hy
  · rw [if_neg (by omega), if_pos (by omega)]
  · rw [if_pos (by omega), if_neg (by omega), Nat.xor_assoc, Nat.xor_comm (b / 2), ← Nat.xor_assoc]
  · rw [if_pos (by omega), if_neg (by omega), Nat.xor_assoc, Nat.xor_comm (b / 2), ← Nat.xor_assoc]
  · rw [if_neg (by omega), if_pos (by omega)]
theorem rmore_does : Does [] tab Try.f57 cMore := by
  rintro ⟨s, l⟩ ⟨h1, h2⟩
  have hbl := bl_length l
  conv => whnf
  rw [show IntKind.u32.wrap (4294967295 - (s : Int)) = ((4294967295 - s : Nat) : Int) from by rw [wrap_u32 (by omega) (by omega)]; omega]
  refine ⟨{i : Nat // i ≤ l.length}, fun i => ⟨[(1, .p false (.sl 1 (bl l))), (5, isI .u32 (crG (4294967295 - s) (l.take i.1))), (6, isI .i64 i.1)], [], 99⟩, fun i => l.length - i.1, ⟨⟨0, Nat.zero_le _⟩, ?_⟩, ?_⟩
  · conv => whnf
    exact ⟨rfl, rfl, rfl⟩
  rintro ⟨i, hi⟩
  show aw _ _ _ _ _ _ ⟨[(1, .p false (.sl 1 (bl l))), (5, isI .u32 (crG (4294967295 - s) (l.take i))), (6, isI .i64 i)], [], 99⟩
  have hG : crG (4294967295 - s) (l.take i) < 4294967296 := crG_lt _ (by omega)
  conv => whnf
  rw [hbl]
  by_cases hlt : i < l.length
  · rw [show decide ((i : Int) < (l.length : Int)) = true from decide_eq_true (by omega)]
    have hc := u8_lt (l.getD i 0)
    have htk : l.take (i + 1) = l.take i ++ [l.getD i 0] := by rw [List.take_add_one, List.getD_eq_getElem?_getD, List.getElem?_eq_getElem hlt]; rfl
    have hst := crG_snoc (4294967295 - s) (l.take i) (l.getD i 0)
    rw [← htk] at hst
    generalize hcc : l.getD i 0 = c at hc hst
    generalize crG (4294967295 - s) (l.take i) = r at hG hst ⊢
    conv => whnf
    have hrc : r ^^^ c.toNat < 4294967296 := xor_lt32 hG (by omega)
    refine ⟨{s : Nat × Nat // s.2 ≤ 8 ∧ s.1 < 4294967296 ∧ s.1 ^^^ (c.toNat / 2 ^ s.2) = crTs s.2 (r ^^^ c.toNat)}, fun s => ⟨[(1, .p false (.sl 1 (bl l))), (5, isI .u32 s.1.1), (6, isI .i64 i), (7, isI .i64 s.1.2)], [], 99⟩, fun s => 8 - s.1.2, ⟨⟨(r, 0), Nat.zero_le _, hG, by simp only [Nat.pow_zero, Nat.div_one]; rfl⟩, ?_⟩, ?_⟩
    · conv => whnf
      exact ⟨rfl, rfl, rfl, rfl⟩
    rintro ⟨⟨x, k⟩, hk, hx, he⟩
    simp only at hk hx he
    show aw _ _ _ _ _ _ ⟨[(1, .p false (.sl 1 (bl l))), (5, isI .u32 x), (6, isI .i64 i), (7, isI .i64 k)], [], 99⟩
    conv => whnf
    by_cases hk8 : k < 8
    · rw [show decide ((k : Int) < 8) = true from decide_eq_true (by omega)]
      conv => whnf
      refine And.intro (by simp only [allP, List.nil_append, List.cons_append, true_and]; rw [hbl]; omega) ?_
      conv => whnf
      rw [Int.toNat_natCast, bl_getD, hcc]
      conv => whnf
      have hku : IntKind.u64.wrap ((k : Nat) : Int) = (k : Nat) := wrap_u64n (by omega)
      have hbit : (IntKind.u32.wrap ((c.toNat : Nat) : Int)).fdiv (2 ^ min (IntKind.u64.wrap ((k : Nat) : Int)).toNat IntKind.u32.bits) = ((c.toNat / 2 ^ k : Nat) : Int) := by
        rw [hku, Int.toNat_natCast, show min k IntKind.u32.bits = k from Nat.min_eq_left (by show k ≤ 32; omega), wrap_u32 (by omega) (by omega), Int.fdiv_eq_ediv_of_nonneg _ (by exact Int.le_of_lt (Int.pow_pos (by decide)))]
        push_cast
        rfl
      rw [hbit]
      refine And.intro (by simp only [allP, List.nil_append, List.cons_append, true_and]; rw [hku]; omega) ?_
      conv => whnf
      refine And.intro (by first | exact Nat.le_of_ble_eq_true rfl | exact ⟨Nat.le_of_ble_eq_true rfl, rfl⟩ | exact rfl | decide | (simp [allP]; done)) ?_
      conv => whnf
      refine And.intro (by first | exact Nat.le_of_ble_eq_true rfl | exact ⟨Nat.le_of_ble_eq_true rfl, rfl⟩ | exact rfl | decide | (simp [allP]; done)) ?_
      conv => whnf
      refine And.intro (by first | exact Nat.le_of_ble_eq_true rfl | exact ⟨Nat.le_of_ble_eq_true rfl, rfl⟩ | exact rfl | decide | (simp [allP]; done)) ?_
      conv => whnf
      have hm1 : (((c.toNat / 2 ^ k : Nat) : Int).tmod 2) = ((c.toNat / 2 ^ k % 2 : Nat) : Int) := tmod_nat _ 2
      have hm2 : (((x : Nat) : Int).tmod 2) = ((x % 2 : Nat) : Int) := tmod_nat _ 2
      have hq : IntKind.u32.wrap (((x : Nat) : Int).tdiv 2) = ((x / 2 : Nat) : Int) := by rw [show ((x : Nat) : Int).tdiv 2 = ((x / 2 : Nat) : Int) from tdiv_nat x 2, wrap_u32 (by omega) (by omega)]
      have hxx : IntKind.u32.wrap ((BitVec.ofInt IntKind.u32.bits ((x / 2 : Nat) : Int) ^^^ BitVec.ofInt IntKind.u32.bits 2197175160).toNat : Nat) = ((x / 2 ^^^ crP : Nat) : Int) := xor32 (by omega) (by decide)
      have hnext : crTs (k + 1) (r ^^^ c.toNat) = (if c.toNat / 2 ^ k % 2 = x % 2 then x / 2 else x / 2 ^^^ crP) ^^^ (c.toNat / 2 ^ (k + 1)) := by
        rw [crTs, ← he, rTurn _ _ hx, Nat.pow_succ, Nat.div_div_eq_div_mul]
      rw [hm1, hm2, hq]
      by_cases hbb : c.toNat / 2 ^ k % 2 = x % 2
      · rw [show (((c.toNat / 2 ^ k % 2 : Nat) : Int) != ((x % 2 : Nat) : Int)) = false from by rw [hbb]; exact bne_self_eq_false _]
        conv => whnf
        rw [if_pos hbb] at hnext
        refine ⟨⟨(x / 2, k + 1), by simp only; omega, by simp only; omega, hnext.symm⟩, by simp only; omega, ?_⟩
        conv => whnf
        exact ⟨rfl, rfl, rfl, by rw [wrap_i64 (by omega) (by omega)]; rfl⟩
      · rw [show (((c.toNat / 2 ^ k % 2 : Nat) : Int) != ((x % 2 : Nat) : Int)) = true from by rw [bne_iff_ne]; omega]
        conv => whnf
        rw [if_neg hbb] at hnext
        rw [hxx]
        refine ⟨⟨(x / 2 ^^^ crP, k + 1), by simp only; omega, xor_lt32 (by omega) (by decide), hnext.symm⟩, by simp only; omega, ?_⟩
        conv => whnf
        exact ⟨rfl, rfl, rfl, by rw [wrap_i64 (by omega) (by omega)]; rfl⟩
    · rw [show decide ((k : Int) < 8) = false from decide_eq_false (by omega)]
      conv => whnf
      obtain rfl : k = 8 := by omega
      rw [show c.toNat / 2 ^ 8 = 0 by omega, Nat.xor_zero] at he
      refine ⟨⟨i + 1, by omega⟩, by simp only; omega, ?_⟩
      conv => whnf
      exact ⟨rfl, by rw [show x = crG (4294967295 - s) (l.take (i + 1)) from he.trans hst.symm]; rfl, by rw [wrap_i64 (by omega) (by omega)]; rfl⟩
  · rw [show decide ((i : Int) < (l.length : Int)) = false from decide_eq_false (by omega)]
    conv => whnf
    rw [show l.take i = l from List.take_of_length_le (by omega)] at hG ⊢
    rw [show IntKind.u32.wrap (4294967295 - (crG (4294967295 - s) l : Int)) = ((4294967295 - crG (4294967295 - s) l : Nat) : Int) from by rw [wrap_u32 (by omega) (by omega)]; omega]
    rfl
theorem rmore_sound : Sound Try.prog 57 cMore := does_sound mixed tabOk_prog GamOk.nil Try.func57 rmore_does
def gSum : List (FuncId × Ctr) := (50, cCrc) :: (57, cMore) :: gMore
theorem gSum_ok : GamOk Try.prog gSum := GamOk.cons (GamOk.cons gMore_ok Try.func57 (by kernel_rfl) (by kernel_rfl) rmore_sound) Try.func50 (by kernel_rfl) (by kernel_rfl) crc_sound
end Go.Proofs.Ytjgmlkogppibfaa.Ev
