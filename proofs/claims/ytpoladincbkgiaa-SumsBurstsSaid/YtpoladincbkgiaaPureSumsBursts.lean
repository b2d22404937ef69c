/- A change within four bytes next to each other changes the sum, and nothing else does: SumsBursts answers true. No conditions. -/
import Derived.Test.YtpoladincbkgiaaMx2
import Derived.Test.YtpoladincbkgiaaCrcAid
namespace Go.Proofs.Ytpoladincbkgiaa.Pure
open Go.RowKit Go.Proofs.Ytpoladincbkgiaa.M Go.Proofs.YtpoladincbkgiaaW.PrintWords Go.Proofs.YtpoladincbkgiaaW.PrintLast Go.Proofs.YtpoladincbkgiaaW.PrintMore Go.Proofs.Ytpoladincbkgiaa.Aid Go.Proofs.Ytpoladincbkgiaa.CrcAid

/-- What turns byte j, once i bytes from p on are turned by c. -/
def msk (p c i j : Nat) : Nat := if p ≤ j ∧ j < p + i then c / 2 ^ (8 * (j - p)) % 256 else 0
theorem msk_lt (p c i j : Nat) : msk p c i j < 256 := by unfold msk; split <;> omega
/-- The bytes, so turned. -/
def turned (l : List Int) (p c i : Nat) : List Int := (List.range l.length).map fun j : Nat => (((rd l (j : Int)).toNat ^^^ msk p c i j : Nat) : Int)
theorem turned_length (l : List Int) (p c i : Nat) : (turned l p c i).length = l.length := by simp [turned]
theorem turned_get (l : List Int) (p c i j : Nat) (h : j < l.length) : (turned l p c i)[j]'(by rw [turned_length]; exact h) = (((rd l (j : Int)).toNat ^^^ msk p c i j : Nat) : Int) := by simp [turned]
theorem turned_byte (l : List Int) (hb : ∀ x ∈ l, Byte x) (p c i : Nat) : ∀ x ∈ turned l p c i, Byte x := by
  intro x hx
  obtain ⟨j, _, rfl⟩ := List.mem_map.1 hx
  have h := byte_rd hb j
  unfold Byte at h ⊢
  have := Nat.xor_lt_two_pow (n := 8) (show (rd l (j : Int)).toNat < 2 ^ 8 by omega) (show msk p c i j < 2 ^ 8 from msk_lt p c i j)
  omega
theorem turned_zero (l : List Int) (hb : ∀ x ∈ l, Byte x) (p c : Nat) : turned l p c 0 = l := by
  apply List.ext_getElem (turned_length l p c 0)
  intro j h1 h2
  rw [turned_get l p c 0 j h2]
  have h := hb _ (List.getElem_mem h2)
  unfold Byte at h
  have : msk p c 0 j = 0 := by unfold msk; rw [if_neg (by omega)]
  rw [this, Nat.xor_zero, rd_eq h2]
  omega
theorem turned_succ (l : List Int) (hb : ∀ x ∈ l, Byte x) (p c i : Nat) (hi : p + i < l.length) :
    (turned l p c i).set (p + i) (Go.bits .xor .u8 (rd (turned l p c i) ((p + i : Nat) : Int)) ((c / 2 ^ (8 * i) % 256 : Nat) : Int)) = turned l p c (i + 1) := by
  have h := byte_rd hb ((p + i : Nat) : Int)
  unfold Byte at h
  have hrd : rd (turned l p c i) ((p + i : Nat) : Int) = (((rd l ((p + i : Nat) : Int)).toNat : Nat) : Int) := by
    rw [rd_eq (by rw [turned_length]; exact hi), turned_get l p c i (p + i) hi]
    have : msk p c i (p + i) = 0 := by unfold msk; rw [if_neg (by omega)]
    rw [this, Nat.xor_zero]
  apply List.ext_getElem (by rw [List.length_set, turned_length, turned_length])
  intro j h1 h2
  have hj : j < l.length := by rw [turned_length] at h2; exact h2
  rw [turned_get l p c (i + 1) j hj, List.getElem_set]
  split
  · next e =>
    subst e
    rw [hrd, u8_xor_nat _ _ (by omega) (by omega)]
    have : msk p c (i + 1) (p + i) = c / 2 ^ (8 * i) % 256 := by unfold msk; rw [if_pos (by omega), show p + i - p = i by omega]
    rw [this]
  · next e =>
    rw [turned_get l p c i j hj]
    have : msk p c (i + 1) j = msk p c i j := by
      unfold msk
      by_cases hh : p ≤ j ∧ j < p + i
      · rw [if_pos hh, if_pos (by omega)]
      · rw [if_neg hh, if_neg (by omega)]
    rw [this]
theorem turned_nat (l : List Int) (p c i : Nat) : nat (turned l p c i) = List.zipWith (· ^^^ ·) (nat l) ((List.range l.length).map (msk p c i)) := by
  apply List.ext_getElem (by simp [nat, turned])
  intro j h1 h2
  have hj : j < l.length := by simpa [nat, turned] using h1
  simp only [nat, List.getElem_map, List.getElem_zipWith, List.getElem_range]
  rw [turned_get l p c i j hj, Int.toNat_natCast, rd_eq hj]
theorem msk_parts (n p c i : Nat) (h : p + i ≤ n) : (List.range n).map (msk p c i) = List.replicate p 0 ++ (List.range i).map (fun j => c / 2 ^ (8 * j) % 256) ++ List.replicate (n - p - i) 0 := by
  apply List.ext_getElem (by simp; omega)
  intro j h1 h2
  have hj : j < n := by simpa using h1
  rw [List.getElem_map, List.getElem_range]
  unfold msk
  by_cases a : j < p
  · rw [if_neg (by omega), List.getElem_append_left (by simp; omega), List.getElem_append_left (by simpa using a)]
    simp
  · by_cases b : j < p + i
    · rw [if_pos (by omega), List.getElem_append_left (by simp; omega), List.getElem_append_right (by simpa using a)]
      simp
    · rw [if_neg (by omega), List.getElem_append_right (by simp; omega)]
      simp
theorem sum_turned (l : List Int) (p c i : Nat) (h : p + i ≤ l.length) :
    Crc.G ones (nat (turned l p c i)) = Crc.G ones (nat l) ^^^ Crc.G 0 (List.replicate p 0 ++ (List.range i).map (fun j => c / 2 ^ (8 * j) % 256) ++ List.replicate (l.length - p - i) 0) := by
  have e := Crc.G_xor (nat l) ((List.range l.length).map (msk p c i)) (by simp [nat]) ones 0
  rw [Nat.xor_zero] at e
  rw [turned_nat, e, msk_parts _ p c i h]
/-- The sums agree just if the bytes do. -/
theorem bursts (l : List Int) (hb : ∀ x ∈ l, Byte x) (p c i : Nat) (h : p + i ≤ l.length) (hi : i ≤ 4) : (sums_Crc.f l = sums_Crc.f (turned l p c i)) ↔ l = turned l p c i := by
  constructor
  · intro e
    rw [crc_nat l hb, crc_nat _ (turned_byte l hb p c i)] at e
    have e1 := ones_inj (Int.ofNat.inj (Option.some.inj e))
    rw [sum_turned l p c i h] at e1
    have e2 : Crc.G 0 (List.replicate p 0 ++ (List.range i).map (fun j => c / 2 ^ (8 * j) % 256) ++ List.replicate (l.length - p - i) 0) = 0 := by
      have := congrArg (Crc.G ones (nat l) ^^^ ·) e1
      simpa [← Nat.xor_assoc] using this.symm
    have hz := Crc.G_burst p ((List.range i).map (fun j => c / 2 ^ (8 * j) % 256)) (l.length - p - i) (by intro x hx; obtain ⟨j, _, rfl⟩ := List.mem_map.1 hx; omega) (by simpa using hi) e2
    have hm : ∀ j, msk p c i j = 0 := by
      intro j
      unfold msk
      split
      · next hh => exact hz _ (List.mem_map.2 ⟨j - p, by simp; omega, rfl⟩)
      · rfl
    apply List.ext_getElem (turned_length l p c i).symm
    intro j h1 h2
    rw [turned_get l p c i j h1, hm, Nat.xor_zero, rd_eq h1]
    have := hb _ (List.getElem_mem h1)
    unfold Byte at this
    omega
  · intro e
    rw [← e]
theorem bursts_end (l : List Int) (hb : ∀ x ∈ l, Byte x) (p c i K : Nat) (h : p + i ≤ l.length) (hi : i ≤ 4) : conduitlaw02_SumsBursts.j2 (K + 1) l (turned l p c i) = some true := by
  have hx := bursts l hb p c i h hi
  rw [conduitlaw02_SumsBursts.j2]
  rw [crc_nat l hb, crc_nat _ (turned_byte l hb p c i)] at hx ⊢
  have hs : conduitlow_SameBytes.f l (turned l p c i) = some (decide (l = turned l p c i)) := by
    unfold conduitlow_SameBytes.f
    rw [same_text hb (turned_byte l hb p c i)]
  have ha : conduitlaw02_awake.f = some true := by decide +kernel
  rw [hs, ha]
  have hq : ((((ones ^^^ Crc.G ones (nat l) : Nat) : Int) == ((ones ^^^ Crc.G ones (nat (turned l p c i)) : Nat) : Int)) == decide (l = turned l p c i)) = true := by
    by_cases e : l = turned l p c i
    · rw [← e, beq_self_eq_true, decide_eq_true rfl]
      rfl
    · have := mt hx.1 e
      rw [decide_eq_false e]
      rw [beq_eq_false_iff_ne.2 (fun e' => this (congrArg some e'))]
      rfl
  rw [Option.bind_some, Option.bind_some, Option.bind_some, if_pos hq]
  rfl
theorem bursts_loop (l : List Int) (hb : ∀ x ∈ l, Byte x) (hl : l.length ≤ 20000) (p c : Nat) (hp : p < l.length) (d : Nat) : ∀ i, i + d = 4 → p + i ≤ l.length →
    conduitlaw02_SumsBursts.l0 (d + 2) l (p : Int) (c : Int) (turned l p c i) (i : Int) = some true := by
  induction d with
  | zero =>
    intro i hi hle
    rw [conduitlaw02_SumsBursts.l0]
    rw [if_neg (by omega)]
    exact bursts_end l hb p c i 0 hle (by omega)
  | succ d ih =>
    intro i hi hle
    have hw : wrap64 ((p : Int) + (i : Int)) = ((p + i : Nat) : Int) := by rw [wrap64_id (by omega) (by omega)]; omega
    have h8 : wrap64 (8 * (i : Int)) = ((8 * i : Nat) : Int) := by rw [wrap64_id (by omega) (by omega)]; omega
    have h9 : IntKind.u64.wrap ((8 * i : Nat) : Int) = ((8 * i : Nat) : Int) := u64wrap_id (by omega) (by omega)
    have hs : shr .u32 (c : Int) ((8 * i : Nat) : Int) % 256 = ((c / 2 ^ (8 * i) % 256 : Nat) : Int) := by
      unfold shr
      rw [Int.toNat_natCast, show min (8 * i) IntKind.u32.bits = 8 * i from Nat.min_eq_left (by show 8 * i ≤ 32; omega)]
      rw [Int.natCast_emod, Int.natCast_ediv, Int.natCast_pow]
      rfl
    rw [conduitlaw02_SumsBursts.l0]
    rw [hw, h8, h9, hs, if_pos (by omega)]
    by_cases hlt : p + i < l.length
    · rw [if_pos (by omega), if_pos (by omega), if_pos (by rw [turned_length]; omega), if_pos (by omega), Int.toNat_natCast, turned_succ l hb p c i hlt, wrap64_id (by omega) (by omega)]
      exact ih (i + 1) (by omega) (by omega)
    · rw [if_neg (by omega)]
      exact bursts_end l hb p c i (d + 1) hle (by omega)
theorem pick_nat (a : Int) (n : Nat) (h : 0 < n) (hn : n ≤ 9223372036854775807) : ∃ p : Nat, p < n ∧ conduitlow_Pick.f a (n : Int) = some (p : Int) := by
  have hb := pick_bd a n (by omega)
  have h1 := Int.emod_nonneg a (show (n : Int) ≠ 0 by omega)
  have h2 := Int.emod_lt_of_pos a (show (0 : Int) < n by omega)
  refine ⟨(a % n).toNat, by omega, ?_⟩
  unfold conduitlow_Pick.f
  rw [if_neg (by omega), if_neg (by omega), show (((a % n).toNat : Nat) : Int) = a % n by omega]
  by_cases c : Int.tmod a n < 0
  · rw [if_pos c] at hb ⊢
    rw [hb, wrap64_id (by omega) (by omega)]
  · rw [if_neg c] at hb ⊢
    rw [hb]
theorem SumsBursts : conduitlaw02_SumsBursts.Pure := by
  intro l a1 a2 _ _ wl _ w2
  have hb := bytes_of_wf wl
  have h2 := u32_of_wf w2
  obtain ⟨c, rfl⟩ : ∃ c : Nat, a2 = (c : Int) := ⟨a2.toNat, by omega⟩
  have ha : conduitlaw02_awake.f = some true := by decide +kernel
  unfold conduitlaw02_SumsBursts.f
  by_cases big : (l.length : Int) > 20000
  · refine ⟨1, ?_⟩
    rw [if_pos big, conduitlaw02_SumsBursts.j0, if_pos rfl, ha]
    rfl
  · refine ⟨7, ?_⟩
    rw [if_neg big]
    by_cases z : l.length = 0
    · rw [show ((l.length : Int) == 0) = true by simpa using z, conduitlaw02_SumsBursts.j0, if_pos rfl, ha]
      rfl
    · rw [show ((l.length : Int) == 0) = false by simpa using z, conduitlaw02_SumsBursts.j0, if_neg (by decide)]
      obtain ⟨p, hp, hpick⟩ := pick_nat a1 l.length (by omega) (by omega)
      have hcopy : conduitlow_CopyBytes.f l = some l := by unfold conduitlow_CopyBytes.f; rw [if_pos (by simp; omega)]; rfl
      have h := bursts_loop l hb (by omega) p c hp 4 0 (by omega) (by omega)
      rw [turned_zero l hb] at h
      rw [hpick, Option.bind_some, hcopy, Option.bind_some]
      exact h

end Go.Proofs.Ytpoladincbkgiaa.Pure
