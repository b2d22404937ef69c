/- Numbers in bytes, the highest one first: their order is the numbers' own. No conditions. -/
import Derived.Test.YtonbbaimkpjcfaaMx1
import Derived.Test.YtonbbaimkpjcfaaAid
namespace Go.Proofs.Ytonbbaimkpjcfaa.Oct
open Go.RowKit Go.Proofs.Ytonbbaimkpjcfaa.M Go.Proofs.YtonbbaimkpjcfaaW.PrintWords Go.Proofs.YtonbbaimkpjcfaaW.PrintLast Go.Proofs.YtonbbaimkpjcfaaW.PrintMore Go.Proofs.Ytonbbaimkpjcfaa.Aid

/-- n bytes of a number, the highest one first. -/
def be : Nat → Nat → List Nat
  | 0, _ => []
  | n + 1, v => v / 256 ^ n % 256 :: be n v
theorem be_length (n v : Nat) : (be n v).length = n := by induction n with
  | zero => rfl
  | succ n ih => simp [be, ih]
theorem be_lt (n v : Nat) : ∀ c ∈ be n v, c < 256 := by
  induction n with
  | zero => intro c hc; cases hc
  | succ n ih =>
    intro c hc
    rcases List.mem_cons.1 hc with rfl | h
    · exact Nat.mod_lt _ (by decide)
    · exact ih c h
theorem pow_256 (k : Nat) : (2 : Int) ^ (8 * k) = ((256 ^ k : Nat) : Int) := by
  rw [Int.pow_mul, Int.natCast_pow]
  rfl
theorem bytes_be (v n : Nat) : octets_add.bytes (v : Int) n n = int (be n v) := by
  have key : ∀ n, octets_add.bytes (v : Int) n n = (List.range n).map fun j => ((v / 256 ^ (n - 1 - j) % 256 : Nat) : Int) := by
    intro n
    unfold octets_add.bytes
    apply List.map_congr_left
    intro j _
    rw [pow_256]
    rfl
  rw [key]
  induction n with
  | zero => rfl
  | succ n ih =>
    rw [List.range_succ_eq_map, List.map_cons, List.map_map]
    show _ = ((v / 256 ^ n % 256 : Nat) : Int) :: int (be n v)
    rw [← ih]
    congr 1
    apply List.map_congr_left
    intro j _
    show ((v / 256 ^ (n + 1 - 1 - (j + 1)) % 256 : Nat) : Int) = _
    rw [show n + 1 - 1 - (j + 1) = n - 1 - j by omega]
theorem split_mod (v n : Nat) : v % 256 ^ (n + 1) = (v / 256 ^ n % 256) * 256 ^ n + v % 256 ^ n := by
  rw [Nat.pow_succ, Nat.mod_mul]
  rw [Nat.mul_comm (256 ^ n), Nat.add_comm]
theorem less_be (n a b : Nat) : Op.bytesLess ((be n a).map UInt8.ofNat) ((be n b).map UInt8.ofNat) = decide (a % 256 ^ n < b % 256 ^ n) := by
  induction n with
  | zero => simp [be, Op.bytesLess, Nat.mod_one]
  | succ n ih =>
    have hx : a / 256 ^ n % 256 < 256 := Nat.mod_lt _ (by decide)
    have hy : b / 256 ^ n % 256 < 256 := Nat.mod_lt _ (by decide)
    have hu : a % 256 ^ n < 256 ^ n := Nat.mod_lt _ (Nat.pow_pos (by decide))
    have hv : b % 256 ^ n < 256 ^ n := Nat.mod_lt _ (Nat.pow_pos (by decide))
    simp only [be, List.map_cons, Op.bytesLess]
    rw [ih, split_mod a n, split_mod b n]
    generalize a / 256 ^ n % 256 = x at *
    generalize b / 256 ^ n % 256 = y at *
    generalize a % 256 ^ n = u at *
    generalize b % 256 ^ n = v at *
    generalize 256 ^ n = p at *
    have e1 : (UInt8.ofNat x < UInt8.ofNat y) ↔ x < y := by
      rw [UInt8.lt_iff_toNat_lt]
      simp only [UInt8.toNat_ofNat']
      rw [Nat.mod_eq_of_lt (by omega), Nat.mod_eq_of_lt (by omega)]
    have e2 : (UInt8.ofNat x == UInt8.ofNat y) = decide (x = y) := by
      rw [Bool.eq_iff_iff, beq_iff_eq, decide_eq_true_eq]
      constructor
      · intro h
        have := congrArg UInt8.toNat h
        simp only [UInt8.toNat_ofNat'] at this
        omega
      · intro h; rw [h]
    rw [e2, Bool.eq_iff_iff]
    simp only [Bool.or_eq_true, Bool.and_eq_true, decide_eq_true_eq, e1]
    constructor
    · rintro (h | ⟨h, h'⟩)
      · have : (x + 1) * p ≤ y * p := Nat.mul_le_mul_right p h
        rw [Nat.add_mul, Nat.one_mul] at this
        omega
      · subst h; omega
    · intro h
      rcases Nat.lt_trichotomy x y with g | g | g
      · exact .inl g
      · subst g; exact .inr ⟨rfl, by omega⟩
      · have : (y + 1) * p ≤ x * p := Nat.mul_le_mul_right p g
        rw [Nat.add_mul, Nat.one_mul] at this
        omega
theorem be_inj (n a b : Nat) (h : be n a = be n b) : a % 256 ^ n = b % 256 ^ n := by
  induction n with
  | zero => simp [Nat.mod_one]
  | succ n ih =>
    simp only [be, List.cons.injEq] at h
    rw [split_mod, split_mod, h.1, ih h.2]
theorem strOf_toList (l : List Nat) : (strOfNums (int l)).toList = l.map UInt8.ofNat := by
  rw [ByteArray.toList_eq, strOfNums_data]
  unfold int
  rw [List.map_map]
  apply List.map_congr_left
  intro c _
  rfl
theorem int_byte {l : List Nat} (h : ∀ c ∈ l, c < 256) : ∀ x ∈ int l, Byte x := by
  intro x hx
  obtain ⟨c, hc, rfl⟩ := List.mem_map.1 hx
  have := h c hc
  show 0 ≤ (c : Int) ∧ (c : Int) < 256
  omega
theorem int_inj {a b : List Nat} (h : int a = int b) : a = b := by
  unfold int at h
  exact (List.map_inj_right (fun x y e => Int.ofNat.inj e)).1 h
theorem add_be (l : List Int) (v : Nat) (n : Nat) (hn : n ≤ 8) (hl : l.length ≤ 140737488351232) : octets_add.f l (v : Int) (n : Int) = some (l ++ int (be n v)) := by
  unfold octets_add.f
  rw [if_pos (by omega), if_pos (by omega), if_pos (by omega), Int.toNat_natCast, bytes_be]
end Go.Proofs.Ytonbbaimkpjcfaa.Oct
