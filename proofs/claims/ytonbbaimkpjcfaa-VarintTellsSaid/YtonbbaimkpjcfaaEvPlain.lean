/- Plain laws: numbers in machine words, bytes. No conditions. -/
import Derived.Test.YtonbbaimkpjcfaaEvLaw
import Derived.Laws.BitsLemmas
namespace Go.Proofs.Ytonbbaimkpjcfaa.Ev
open Go
set_option linter.unusedVariables false
set_option linter.unusedSimpArgs false
/-- Numbers of a kind, as a row. -/
def il (k : IntKind) (l : List Int) : List PV := l.map (PV.int k)
theorem il_length (k : IntKind) (l : List Int) : (il k l).length = l.length := by simp [il]
theorem il_getD (k : IntKind) (l : List Int) (i : Nat) : (il k l).getD i (PV.int k 0) = .int k (l.getD i 0) := by
  unfold il
  rw [List.getD_eq_getElem?_getD, List.getElem?_map, List.getD_eq_getElem?_getD]
  cases l[i]? <;> rfl
theorem il_set (k : IntKind) (l : List Int) (i : Nat) (x : Int) : (il k l).set i (.int k x) = il k (l.set i x) := by simp [il, List.map_set]
theorem il_append (k : IntKind) (a b : List Int) : il k (a ++ b) = il k a ++ il k b := by simp [il]
theorem il_zeros (k : IntKind) (n : Nat) : List.replicate n (PV.int k 0) = il k (List.replicate n 0) := by simp [il]
theorem map_getD {α : Type} (f : α → PV) (xs : List α) (i : Nat) (z : PV) (h : i < xs.length) : (xs.map f).getD i z = f xs[i] := by
  rw [List.getD_eq_getElem?_getD, List.getElem?_map, List.getElem?_eq_getElem h]
  rfl
theorem pvle_refl (v : PV) : pvle v v = True := by cases v <;> exact eq_true rfl
theorem bl_length (l : List UInt8) : (bl l).length = l.length := by simp [bl]
theorem bl_getD (l : List UInt8) (i : Nat) : (bl l).getD i (PV.int IntKind.u8 0) = bv (l.getD i 0) := by
  unfold bl
  rw [List.getD_eq_getElem?_getD, List.getElem?_map, List.getD_eq_getElem?_getD]
  cases l[i]? <;> rfl
theorem bl_getD' (l : List UInt8) (i : Nat) (z : PV) (h : i < l.length) : (bl l).getD i z = bv (l.getD i 0) := by
  unfold bl
  rw [List.getD_eq_getElem?_getD, List.getElem?_map, List.getD_eq_getElem?_getD, List.getElem?_eq_getElem h]
  rfl
theorem bv_cells (b : UInt8) : (bv b).cells = [bv b] := rfl
theorem bl_append (a b : List UInt8) : bl (a ++ b) = bl a ++ bl b := by simp [bl]
theorem bl_take (a : List UInt8) (n : Nat) : (bl a).take n = bl (a.take n) := by simp [bl, List.map_take]
theorem bl_drop (a : List UInt8) (n : Nat) : (bl a).drop n = bl (a.drop n) := by simp [bl, List.map_drop]
theorem cut_bl (a : List UInt8) (o n : Nat) : cutEls o n (bl a) = bl ((a.drop o).take n) := by unfold cutEls; rw [bl_drop, bl_take]
theorem bl_cons (x : UInt8) (a : List UInt8) : bl (x :: a) = bv x :: bl a := rfl
theorem bl_nil : bl [] = [] := rfl
theorem bv_inj {a b : UInt8} (h : bv a = bv b) : a = b := by
  unfold bv at h
  injection h with _ h
  exact UInt8.toNat_inj.1 (Int.ofNat.inj h)
theorem bl_inj {a b : List UInt8} (h : bl a = bl b) : a = b := (List.map_inj_right fun x y e => bv_inj e).1 h
theorem strEls_eq (s : ByteArray) : strEls s = bl s.data.toList := rfl
theorem bl_isByte (l : List UInt8) : ∀ v ∈ bl l, v.isByte := by
  intro v hv
  obtain ⟨b, _, rfl⟩ := List.mem_map.1 hv
  trivial
theorem bl_isFlat (l : List UInt8) : ∀ v ∈ bl l, v.isFlat := by
  intro v hv
  obtain ⟨b, _, rfl⟩ := List.mem_map.1 hv
  intro c hc
  obtain rfl : c = bv b := by simpa [PV.cells, bv] using hc
  rfl
theorem toByte_bv (b : UInt8) : (bv b).toByte = b := by
  show UInt8.ofNat ((b.toNat : Int)).toNat = b
  simp
/-- The text of bytes. -/
def strOf (l : List UInt8) : ByteArray := ⟨l.toArray⟩
theorem elsStr_bl (l : List UInt8) : elsStr (bl l) = strOf l := by
  unfold elsStr bl strOf
  rw [List.map_map]
  congr 1
  conv => rhs; rw [← List.map_id l]
  congr 1
  apply List.map_congr_left
  intro b _
  exact toByte_bv b
theorem strOf_size (l : List UInt8) : (strOf l).size = l.length := by
  show l.toArray.size = l.length
  simp
theorem wrap_i64 {x : Int} (h : -9223372036854775808 ≤ x) (h' : x ≤ 9223372036854775807) : IntKind.i64.wrap x = x := by
  rw [IntKind.wrap_i64]; omega
theorem wrap_u64 {x : Int} (h : 0 ≤ x) (h' : x < 18446744073709551616) : IntKind.u64.wrap x = x := by
  rw [IntKind.wrap_u64]; omega
theorem wrap_u32 {x : Int} (h : 0 ≤ x) (h' : x < 4294967296) : IntKind.u32.wrap x = x := by
  rw [IntKind.wrap_u32]; omega
theorem wrap_u16 {x : Int} (h : 0 ≤ x) (h' : x < 65536) : IntKind.u16.wrap x = x := by
  rw [IntKind.wrap_u16]; omega
theorem wrap_u8 {x : Int} (h : 0 ≤ x) (h' : x < 256) : IntKind.u8.wrap x = x := by
  rw [IntKind.wrap_u8]; omega
theorem wrap_u64n {n : Nat} (h : n < 18446744073709551616) : IntKind.u64.wrap ((n : Nat) : Int) = (n : Nat) := wrap_u64 (by omega) (by omega)
theorem wrap_i64n {n : Nat} (h : n < 9223372036854775808) : IntKind.i64.wrap ((n : Nat) : Int) = (n : Nat) := wrap_i64 (by omega) (by omega)
theorem wf_i64 {a : Int} (h : (Lit.int .i64 a).wf = true) : -9223372036854775808 ≤ a ∧ a ≤ 9223372036854775807 := by
  simp only [Lit.wf, Bool.and_eq_true, decide_eq_true_eq] at h
  have h1 : IntKind.i64.min = -9223372036854775808 := by decide
  have h2 : IntKind.i64.max = 9223372036854775807 := by decide
  omega
theorem wf_u64 {a : Int} (h : (Lit.int .u64 a).wf = true) : ∃ n : Nat, a = (n : Nat) ∧ n < 18446744073709551616 := by
  simp only [Lit.wf, Bool.and_eq_true, decide_eq_true_eq] at h
  have h1 : IntKind.u64.min = 0 := by decide
  have h2 : IntKind.u64.max = 18446744073709551615 := by decide
  exact ⟨a.toNat, by omega, by omega⟩
theorem tdiv_nat (a b : Nat) : ((a : Nat) : Int).tdiv (b : Nat) = ((a / b : Nat) : Int) := by
  rw [Int.tdiv_eq_ediv_of_nonneg (Int.natCast_nonneg a)]; rfl
theorem tmod_nat (a b : Nat) : ((a : Nat) : Int).tmod (b : Nat) = ((a % b : Nat) : Int) := by
  rw [Int.tmod_eq_emod_of_nonneg (Int.natCast_nonneg a)]; rfl
theorem byte_mod (v : Nat) : PV.int .u8 (IntKind.u8.wrap (((v : Nat) : Int).tmod 256)) = bv (UInt8.ofNat v) := by
  unfold bv
  congr 1
  rw [show (256 : Int) = ((256 : Nat) : Int) from rfl, tmod_nat, IntKind.wrap_u8, UInt8.toNat_ofNat']
  simp
theorem byte_of (v : Nat) : PV.int .u8 (IntKind.u8.wrap ((v : Nat) : Int)) = bv (UInt8.ofNat v) := by
  unfold bv
  congr 1
theorem u8_lt (b : UInt8) : b.toNat < 256 := b.toNat_lt
/-- A row of bytes grown by one, shifted in. -/
theorem or_join {x b k : Nat} (hb : b < 2 ^ k) (hx : x * 2 ^ k + b < 18446744073709551616) :
    IntKind.u64.wrap ((BitVec.ofInt IntKind.u64.bits ((x * 2 ^ k : Nat) : Int) ||| BitVec.ofInt IntKind.u64.bits ((b : Nat) : Int)).toNat : Nat) = ((x * 2 ^ k + b : Nat) : Int) := by
  have h1 : (BitVec.ofInt IntKind.u64.bits ((x * 2 ^ k : Nat) : Int)).toNat = x * 2 ^ k := by
    rw [BitVec.ofInt_natCast, BitVec.toNat_ofNat]
    exact Nat.mod_eq_of_lt (by show _ < 2 ^ 64; omega)
  have h2 : (BitVec.ofInt IntKind.u64.bits ((b : Nat) : Int)).toNat = b := by
    rw [BitVec.ofInt_natCast, BitVec.toNat_ofNat]
    exact Nat.mod_eq_of_lt (by show _ < 2 ^ 64; omega)
  rw [BitVec.toNat_or, h1, h2, ← Nat.shiftLeft_eq, ← Nat.shiftLeft_add_eq_or_of_lt hb, Nat.shiftLeft_eq]
  exact wrap_u64 (by omega) (by omega)
end Go.Proofs.Ytonbbaimkpjcfaa.Ev
