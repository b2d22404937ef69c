/- The document's sum, bit by bit, is the program's: SumsTells answers true. No conditions. -/
import Derived.Test.YtpoladincbkgiaaMx2
import Derived.Test.YtpoladincbkgiaaCrcAid
namespace Go.Proofs.Ytpoladincbkgiaa.Pure
open Go.RowKit Go.Proofs.Ytpoladincbkgiaa.M Go.Proofs.YtpoladincbkgiaaW.PrintWords Go.Proofs.YtpoladincbkgiaaW.PrintLast Go.Proofs.YtpoladincbkgiaaW.PrintMore Go.Proofs.Ytpoladincbkgiaa.Aid Go.Proofs.Ytpoladincbkgiaa.CrcAid

theorem ones_sub (x : Nat) (h : x < 2 ^ 32) : ones - x = ones ^^^ x := by
  have e : ones - x = 2 ^ 32 - (x + 1) := by unfold ones; omega
  have e2 : ones = 2 ^ 32 - 1 := by decide
  rw [e]
  apply Nat.eq_of_testBit_eq
  intro i
  rw [Nat.testBit_two_pow_sub_succ h, Nat.testBit_xor, e2, Nat.testBit_two_pow_sub_one]
  by_cases hi : i < 32
  · simp [hi]
  · have hx : x.testBit i = false := Nat.testBit_lt_two_pow (Nat.lt_of_lt_of_le h (Nat.pow_le_pow_right (by decide) (by omega)))
    simp [hi, hx]
theorem ones_int (x : Nat) (h : x < 2 ^ 32) : (4294967295 - (x : Int)) % 4294967296 = ((ones ^^^ x : Nat) : Int) := by
  rw [← ones_sub x h]
  unfold ones
  omega
/-- One turn, as the document has it. -/
def refTurn (x b : Nat) : Nat := if b % 2 = x % 2 then x / 2 else x / 2 ^^^ Crc.P
theorem refTurn_T (x y : Nat) : Crc.T (x ^^^ y) = refTurn x y ^^^ (y / 2) := by
  have hd : (x ^^^ y) / 2 = (x / 2) ^^^ (y / 2) := Nat.xor_div_two
  have hm := Crc.xor_mod_two x y
  unfold Crc.T refTurn
  rw [hd]
  rcases Nat.mod_two_eq_zero_or_one x with hx | hx <;> rcases Nat.mod_two_eq_zero_or_one y with hy | hy
  · rw [if_neg (by omega), if_pos (by omega)]
  · rw [if_pos (by omega), if_neg (by omega), Nat.xor_assoc, Nat.xor_comm (y / 2), ← Nat.xor_assoc]
  · rw [if_pos (by omega), if_neg (by omega), Nat.xor_assoc, Nat.xor_comm (y / 2), ← Nat.xor_assoc]
  · rw [if_neg (by omega), if_pos (by omega)]
theorem refTurn_lt (x b : Nat) (h : x < 2 ^ 32) : refTurn x b < 2 ^ 32 := by
  unfold refTurn
  split
  · omega
  · exact Nat.xor_lt_two_pow (by omega) Crc.P_lt
theorem ref_step (l : List Int) (i k x c K : Nat) (hi : i < l.length) (hc : rd l (i : Int) = (c : Int)) (hc2 : c < 256) (hk : k < 8) (hx : x < 2 ^ 32) :
    conduitref02_More.l1 (K + 1) l (x : Int) (i : Int) (k : Int) = conduitref02_More.l1 K l ((refTurn x (c / 2 ^ k) : Nat) : Int) (i : Int) ((k + 1 : Nat) : Int) := by
  have hw : IntKind.u64.wrap (k : Int) = (k : Int) := u64wrap_id (by omega) (by omega)
  have hs : shr .u32 ((rd l (i : Int)) % 4294967296) (IntKind.u64.wrap (k : Int)) % 2 = ((c / 2 ^ k % 2 : Nat) : Int) := by
    rw [hc, hw, show ((c : Int) % 4294967296) = (c : Int) by omega]
    unfold shr
    rw [Int.toNat_natCast, show min k IntKind.u32.bits = k from Nat.min_eq_left (by show k ≤ 32; omega)]
    push_cast
    rfl
  have hm : Int.tmod (x : Int) 2 = ((x % 2 : Nat) : Int) := by rw [Int.tmod_eq_emod_of_nonneg (by omega)]; rfl
  have hd : (Int.tdiv (x : Int) 2) % 4294967296 = ((x / 2 : Nat) : Int) := by rw [Int.tdiv_eq_ediv_of_nonneg (by omega)]; omega
  have hb : Go.bits .xor .u32 ((x / 2 : Nat) : Int) 2197175160 = ((x / 2 ^^^ Crc.P : Nat) : Int) := by
    have := u32_xor_nat (x / 2) Crc.P (by omega) (by decide)
    rw [← this]
    rfl
  rw [conduitref02_More.l1]
  rw [if_pos (by omega), if_pos (by omega), if_pos (by omega), if_pos (by rw [hw]; omega), hs, hm, hd, hb, wrap64_id (by omega) (by omega)]
  unfold refTurn
  by_cases e : c / 2 ^ k % 2 = x % 2
  · rw [if_pos e, if_pos (by omega)]
    rfl
  · rw [if_neg e, if_neg (by omega)]
    rfl
theorem ref_byte (l : List Int) (i c K : Nat) (hi : i < l.length) (hl : l.length ≤ 20000) (hc : rd l (i : Int) = (c : Int)) (hc2 : c < 256) (d : Nat) :
    ∀ k x : Nat, k + d = 8 → x < 2 ^ 32 → conduitref02_More.l1 (K + d + 1) l (x : Int) (i : Int) (k : Int) = conduitref02_More.l0 K l ((Crc.Ts d (x ^^^ (c / 2 ^ k)) : Nat) : Int) ((i + 1 : Nat) : Int) := by
  induction d with
  | zero =>
    intro k x hk hx
    obtain rfl : k = 8 := by omega
    rw [conduitref02_More.l1]
    rw [if_neg (by omega), wrap64_id (by omega) (by omega), show c / 2 ^ 8 = 0 by omega, Nat.xor_zero]
    rfl
  | succ d ih =>
    intro k x hk hx
    rw [show K + (d + 1) + 1 = (K + d + 1) + 1 by omega, ref_step l i k x c (K + d + 1) hi hc hc2 (by omega) hx, ih (k + 1) _ (by omega) (refTurn_lt _ _ hx)]
    show _ = conduitref02_More.l0 K l ((Crc.Ts d (Crc.T (x ^^^ (c / 2 ^ k))) : Nat) : Int) _
    rw [refTurn_T, Nat.pow_succ, Nat.div_div_eq_div_mul]
theorem ref_loop (l : List Int) (hb : ∀ x ∈ l, Byte x) (hl : l.length ≤ 20000) (d : Nat) : ∀ i x : Nat, i + d = l.length → x < 2 ^ 32 →
    conduitref02_More.l0 (10 * d + 1) l (x : Int) (i : Int) = some ((ones ^^^ Crc.G x ((nat l).drop i) : Nat) : Int) := by
  induction d with
  | zero =>
    intro i x hi hx
    rw [conduitref02_More.l0]
    rw [if_neg (by omega), List.drop_of_length_le (by rw [nat_length]; omega), ones_int x hx]
    rfl
  | succ d ih =>
    intro i x hi hx
    have hlt : i < l.length := by omega
    have hby := byte_rd hb (i : Int)
    unfold Byte at hby
    obtain ⟨c, hc⟩ : ∃ c : Nat, rd l (i : Int) = (c : Int) := ⟨(rd l (i : Int)).toNat, by omega⟩
    have hc2 : c < 256 := by omega
    have hdrop : (nat l).drop i = c :: (nat l).drop (i + 1) := by
      rw [List.drop_eq_getElem_cons (by rw [nat_length]; omega)]
      congr 1
      have := rd_eq hlt
      simp only [nat, List.getElem_map]
      omega
    rw [show 10 * (d + 1) + 1 = ((10 * d + 1) + 8 + 1) + 1 by omega, conduitref02_More.l0]
    rw [if_pos (by omega)]
    have h := ref_byte l i c (10 * d + 1) hlt hl hc hc2 8 0 x (by omega) hx
    rw [show ((0 : Nat) : Int) = 0 from rfl, Nat.pow_zero, Nat.div_one] at h
    rw [h, ih (i + 1) _ (by omega) (Crc.Ts_lt _ _ (Nat.xor_lt_two_pow hx (by omega))), hdrop]
    rfl
theorem ref_more (s : Nat) (hs : s < 2 ^ 32) (l : List Int) (hb : ∀ x ∈ l, Byte x) (hl : l.length ≤ 20000) : conduitref02_More.f (10 * l.length + 1) (s : Int) l = sums_More.f (s : Int) l := by
  unfold conduitref02_More.f
  rw [more_nat s hs l hb, ones_int s hs]
  exact ref_loop l hb hl l.length 0 _ (by omega) (Nat.xor_lt_two_pow ones_lt hs)
theorem SumsTells : conduitlaw02_SumsTells.Pure := by
  intro a0 l wa _ wl
  have hb := bytes_of_wf wl
  have ha := u32_of_wf wa
  obtain ⟨s, rfl⟩ : ∃ s : Nat, a0 = (s : Int) := ⟨a0.toNat, by omega⟩
  refine ⟨by decide +kernel, fun hl => ?_⟩
  have h0 := ref_more 0 (by decide) l hb hl
  have h1 := ref_more s (by omega) l hb hl
  have hm0 := more_nat 0 (by decide) l hb
  rw [Nat.xor_zero] at hm0
  exact ⟨10 * l.length + 1, _, _, crc_nat l hb, h0.trans hm0, more_nat s (by omega) l hb, h1.trans (more_nat s (by omega) l hb)⟩

end Go.Proofs.Ytpoladincbkgiaa.Pure
