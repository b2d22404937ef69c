/- The sums of the program as the register's numbers. No conditions. -/
import Derived.Test.YtpoladincbkgiaaMx1
import Derived.Test.YtpoladincbkgiaaMx1
import Derived.Test.YtpoladincbkgiaaCrc
import Derived.Test.YtpoladincbkgiaaAid
namespace Go.Proofs.Ytpoladincbkgiaa.CrcAid
open Go.RowKit Go.Proofs.Ytpoladincbkgiaa.M Go.Proofs.YtpoladincbkgiaaW.PrintWords Go.Proofs.YtpoladincbkgiaaW.PrintLast Go.Proofs.Ytpoladincbkgiaa.Aid

theorem turn_nat (n : Nat) (h : n < 2 ^ 32) : crcTurn (n : Int) = (Crc.T n : Nat) := by
  have h1 : Go.bits .and .u32 (n : Int) 1 = ((n % 2 : Nat) : Int) := by
    have := u32_and_nat n 1 (by omega) (by decide)
    rw [Nat.and_one_is_mod] at this
    exact this
  have h2 : Go.bits .xor .u32 ((n : Int) / 2) 2197175160 = ((n / 2 ^^^ Crc.P : Nat) : Int) := by
    have := u32_xor_nat (n / 2) Crc.P (by omega) (by decide)
    rw [← this]
    rfl
  unfold crcTurn Crc.T
  rw [h1, h2]
  by_cases e : n % 2 = 1
  · rw [if_pos e, if_pos (by omega)]
  · rw [if_neg e, if_neg (by omega)]
    rfl
theorem turns_nat (k n : Nat) (h : n < 2 ^ 32) : crcTurns k (n : Int) = (Crc.Ts k n : Nat) := by
  induction k generalizing n with
  | zero => rfl
  | succ k ih =>
    show crcTurns k (crcTurn (n : Int)) = _
    rw [turn_nat n h, ih _ (Crc.T_lt n h)]
    rfl
theorem byte_nat (r c : Nat) (h : r < 2 ^ 32) (hc : c < 256) : crcByte (r : Int) (c : Int) = (Crc.Ts 8 (r ^^^ c) : Nat) := by
  unfold crcByte
  rw [show ((c : Int) % 4294967296) = (c : Int) by omega, u32_xor_nat r c (by omega) (by omega)]
  exact turns_nat 8 _ (Nat.xor_lt_two_pow h (by omega))
theorem fold_nat (l : List Nat) (hl : ∀ c ∈ l, c < 256) : ∀ r : Nat, r < 2 ^ 32 → (int l).foldl crcByte (r : Int) = (Crc.G r l : Nat) := by
  induction l with
  | nil => exact fun r _ => rfl
  | cons c l ih =>
    intro r hr
    have hc := hl c List.mem_cons_self
    show (int l).foldl crcByte (crcByte (r : Int) (c : Int)) = _
    rw [byte_nat r c hr hc, ih (fun x hx => hl x (List.mem_cons_of_mem _ hx)) _ (Crc.Ts_lt _ _ (Nat.xor_lt_two_pow hr (by omega)))]
    rfl
def ones : Nat := 4294967295
theorem not_nat (r : Nat) (h : r < 2 ^ 32) : crcNot (r : Int) = ((ones ^^^ r : Nat) : Int) := by
  have := u32_xor_nat ones r (by decide) (by omega)
  rw [← this]
  rfl
theorem ones_lt : ones < 2 ^ 32 := by decide
/-- More, as numbers. -/
theorem more_nat (s : Nat) (hs : s < 2 ^ 32) (l : List Int) (hl : ∀ x ∈ l, Byte x) : sums_More.f (s : Int) l = some ((ones ^^^ Crc.G (ones ^^^ s) (nat l) : Nat) : Int) := by
  have hx : ones ^^^ s < 2 ^ 32 := Nat.xor_lt_two_pow ones_lt hs
  unfold sums_More.f
  rw [not_nat s hs, ← int_nat hl, fold_nat (nat l) (nat_lt hl) _ hx, not_nat _ (Crc.G_lt _ _ hx (nat_lt hl)), int_nat hl]
theorem crc_nat (l : List Int) (hl : ∀ x ∈ l, Byte x) : sums_Crc.f l = some ((ones ^^^ Crc.G ones (nat l) : Nat) : Int) := by
  have := more_nat 0 (by decide) l hl
  unfold sums_Crc.f
  rw [show (0 : Int) = ((0 : Nat) : Int) from rfl, this]
  simp
theorem ones_inj {a b : Nat} (h : ones ^^^ a = ones ^^^ b) : a = b := by
  have h' := congrArg (ones ^^^ ·) h
  simpa [← Nat.xor_assoc] using h'
end Go.Proofs.Ytpoladincbkgiaa.CrcAid
