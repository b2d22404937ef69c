/- A sum that goes on behind another one is that of both lists together, and three lists held against each other bit by bit have their sums held so: SumsJoin answers true. No conditions. -/
import Derived.Test.YtpoladincbkgiaaMx3
import Derived.Test.YtpoladincbkgiaaCrcAid
namespace Go.Proofs.Ytpoladincbkgiaa.Pure
open Go.RowKit Go.Proofs.Ytpoladincbkgiaa.M Go.Proofs.YtpoladincbkgiaaW.PrintWords Go.Proofs.YtpoladincbkgiaaW.PrintLast Go.Proofs.YtpoladincbkgiaaW.PrintMore Go.Proofs.Ytpoladincbkgiaa.Aid Go.Proofs.Ytpoladincbkgiaa.CrcAid

theorem join_awake : conduitlaw02_awake.f = some true := by decide +kernel
theorem join_more (a b : List Int) (ha : ∀ x ∈ a, Byte x) (hb : ∀ x ∈ b, Byte x) :
    sums_More.f ((ones ^^^ Crc.G ones (nat a) : Nat) : Int) b = some ((ones ^^^ Crc.G ones (nat (a ++ b)) : Nat) : Int) := by
  have h1 : Crc.G ones (nat a) < 2 ^ 32 := Crc.G_lt _ _ ones_lt (nat_lt ha)
  rw [more_nat _ (Nat.xor_lt_two_pow ones_lt h1) b hb, ← Nat.xor_assoc, Nat.xor_self, Nat.zero_xor, ← Crc.G_append]
  congr 4
  simp [nat]
theorem mix_nat (a b c : List Int) (ha : ∀ x ∈ a, Byte x) (hb : ∀ x ∈ b, Byte x) (hc : ∀ x ∈ c, Byte x) (j : Nat) :
    conduitlaw02_SumsJoin.mix a b c j = (((rd a j).toNat ^^^ (rd b j).toNat ^^^ (rd c j).toNat : Nat) : Int) := by
  have h1 := byte_rd ha j
  have h2 := byte_rd hb j
  have h3 := byte_rd hc j
  unfold Byte at h1 h2 h3
  unfold conduitlaw02_SumsJoin.mix
  rw [u8_xor _ _ h1.1 h1.2 h2.1 h2.2]
  have hx : (rd a j).toNat ^^^ (rd b j).toNat < 2 ^ 8 := Nat.xor_lt_two_pow (by omega) (by omega)
  rw [u8_xor _ _ (by omega) (by omega) h3.1 h3.2, Int.toNat_natCast]
theorem mixed_byte (a b c : List Int) (ha : ∀ x ∈ a, Byte x) (hb : ∀ x ∈ b, Byte x) (hc : ∀ x ∈ c, Byte x) (i : Nat) : ∀ x ∈ conduitlaw02_SumsJoin.mixed a b c i, Byte x := by
  intro x hx
  obtain ⟨j, _, rfl⟩ := List.mem_map.1 hx
  have h1 := byte_rd ha j
  have h2 := byte_rd hb j
  have h3 := byte_rd hc j
  unfold Byte at h1 h2 h3 ⊢
  rw [mix_nat a b c ha hb hc]
  have hx : (rd a j).toNat ^^^ (rd b j).toNat ^^^ (rd c j).toNat < 2 ^ 8 := Nat.xor_lt_two_pow (Nat.xor_lt_two_pow (by omega) (by omega)) (by omega)
  omega
theorem mixed_all (a b c : List Int) (ha : ∀ x ∈ a, Byte x) (hb : ∀ x ∈ b, Byte x) (hc : ∀ x ∈ c, Byte x) (n : Nat) (la : a.length = n) (lb : b.length = n) (lc : c.length = n) :
    nat (conduitlaw02_SumsJoin.mixed a b c n) = List.zipWith (· ^^^ ·) (List.zipWith (· ^^^ ·) (nat a) (nat b)) (nat c) := by
  apply List.ext_getElem
  · simp [nat, conduitlaw02_SumsJoin.mixed, la, lb, lc]
  · intro i h1 h2
    have hi : i < n := by simpa [nat, conduitlaw02_SumsJoin.mixed] using h1
    simp only [nat, conduitlaw02_SumsJoin.mixed, List.getElem_map, List.getElem_range, List.getElem_zipWith]
    rw [mix_nat a b c ha hb hc, rd_eq (by omega), rd_eq (by omega), rd_eq (by omega), Int.toNat_natCast]
theorem crc_mixed (a b c : List Int) (ha : ∀ x ∈ a, Byte x) (hb : ∀ x ∈ b, Byte x) (hc : ∀ x ∈ c, Byte x) (n : Nat) (la : a.length = n) (lb : b.length = n) (lc : c.length = n) :
    ((ones ^^^ Crc.G ones (nat (conduitlaw02_SumsJoin.mixed a b c n)) : Nat) : Int) = Go.bits .xor .u32 (Go.bits .xor .u32 ((ones ^^^ Crc.G ones (nat a) : Nat) : Int) ((ones ^^^ Crc.G ones (nat b) : Nat) : Int)) ((ones ^^^ Crc.G ones (nat c) : Nat) : Int) := by
  have g1 : Crc.G ones (nat a) < 2 ^ 32 := Crc.G_lt _ _ ones_lt (nat_lt ha)
  have g2 : Crc.G ones (nat b) < 2 ^ 32 := Crc.G_lt _ _ ones_lt (nat_lt hb)
  have g3 : Crc.G ones (nat c) < 2 ^ 32 := Crc.G_lt _ _ ones_lt (nat_lt hc)
  have k1 := Nat.xor_lt_two_pow ones_lt g1
  have k2 := Nat.xor_lt_two_pow ones_lt g2
  have k3 := Nat.xor_lt_two_pow ones_lt g3
  have k12 := Nat.xor_lt_two_pow k1 k2
  rw [u32_xor_nat _ _ (by omega) (by omega), u32_xor_nat _ _ (by omega) (by omega), mixed_all a b c ha hb hc n la lb lc]
  have e := Crc.G_xor (List.zipWith (· ^^^ ·) (nat a) (nat b)) (nat c) (by simp [nat, la, lb, lc]) (ones ^^^ ones) ones
  rw [Crc.G_xor (nat a) (nat b) (by simp [nat, la, lb]) ones ones, Nat.xor_self, Nat.zero_xor] at e
  rw [e]
  congr 1
  apply Nat.eq_of_testBit_eq
  intro i
  simp only [Nat.testBit_xor]
  cases ones.testBit i <;> cases (Crc.G ones (nat a)).testBit i <;> cases (Crc.G ones (nat b)).testBit i <;> cases (Crc.G ones (nat c)).testBit i <;> rfl
theorem SumsJoin : conduitlaw02_SumsJoin.Pure := by
  intro n a b c hn la lb lc wa wb wc
  have ha := bytes_of_wf wa
  have hb := bytes_of_wf wb
  have hc := bytes_of_wf wc
  have hz : sums_More.f 0 a = some ((ones ^^^ Crc.G ones (nat a) : Nat) : Int) := by
    have := more_nat 0 (by decide) a ha
    rwa [Nat.xor_zero] at this
  exact ⟨⟨_, _, _, _, crc_nat a ha, join_more a b ha hb, crc_nat (a ++ b) (byte_append ha hb), hz, crc_nat b hb, crc_nat c hc,
    (crc_nat _ (mixed_byte a b c ha hb hc n)).trans (congrArg some (crc_mixed a b c ha hb hc n la lb lc))⟩, join_awake⟩

end Go.Proofs.Ytpoladincbkgiaa.Pure
