/- Numbers stand in bytes in their own order: OctetsOrder answers true. No conditions. -/
import Derived.Test.YtonbbaimkpjcfaaMx2
import Derived.Test.YtonbbaimkpjcfaaOct
namespace Go.Proofs.Ytonbbaimkpjcfaa.Pure
open Go.RowKit Go.Proofs.Ytonbbaimkpjcfaa.M Go.Proofs.YtonbbaimkpjcfaaW.PrintWords Go.Proofs.YtonbbaimkpjcfaaW.PrintLast Go.Proofs.YtonbbaimkpjcfaaW.PrintMore Go.Proofs.Ytonbbaimkpjcfaa.Aid Go.Proofs.Ytonbbaimkpjcfaa.Oct

theorem OctetsOrder : conduitlaw01_OctetsOrder.Pure := by
  intro a0 a1 w0 w1
  have h0 := u64_of_wf w0
  have h1 := u64_of_wf w1
  obtain ⟨a, rfl⟩ : ∃ a : Nat, a0 = (a : Int) := ⟨a0.toNat, by omega⟩
  obtain ⟨b, rfl⟩ : ∃ b : Nat, a1 = (b : Int) := ⟨a1.toNat, by omega⟩
  have ma : a % 256 ^ 8 = a := Nat.mod_eq_of_lt (by omega)
  have mb : b % 256 ^ 8 = b := Nat.mod_eq_of_lt (by omega)
  have fa : octets_Add64.f [] (a : Int) = some (int (be 8 a)) := by
    unfold octets_Add64.f
    rw [show (8 : Int) = ((8 : Nat) : Int) from rfl, add_be [] a 8 (by decide) (by simp)]
    rfl
  have fb : octets_Add64.f [] (b : Int) = some (int (be 8 b)) := by
    unfold octets_Add64.f
    rw [show (8 : Int) = ((8 : Nat) : Int) from rfl, add_be [] b 8 (by decide) (by simp)]
    rfl
  have hk : conduitlaw01_awake.f = some true := by decide +kernel
  have hs : (((strOfNums (int (be 8 a))).size : Nat) : Int) = 8 := by rw [strOfNums_size, int_length, be_length]; rfl
  have hl := less_be 8 a b
  rw [ma, mb] at hl
  have he : ((a : Int) == (b : Int)) = ((strOfNums (int (be 8 a))).toList == (strOfNums (int (be 8 b))).toList) := by
    rw [same_text (int_byte (be_lt 8 a)) (int_byte (be_lt 8 b)), Bool.eq_iff_iff, beq_iff_eq, decide_eq_true_eq]
    constructor
    · intro e
      rw [Int.ofNat.inj e]
    · intro e
      have := be_inj 8 a b (Oct.int_inj e)
      rw [ma, mb] at this
      rw [this]
  unfold conduitlaw01_OctetsOrder.f
  rw [fa, fb, Option.bind_some, Option.bind_some, strOf_toList, strOf_toList, hl, if_pos (by rw [beq_iff_eq]; exact decide_eq_decide.2 (by omega)), ← strOf_toList, ← strOf_toList, if_pos (by rw [beq_iff_eq]; exact he), if_pos hs, hk]
  rfl

end Go.Proofs.Ytonbbaimkpjcfaa.Pure
