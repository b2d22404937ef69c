/- Small words on bytes and numbers, for the plain halves of the proofs. No conditions. -/
import Derived.Laws.Strings
import Derived.Laws.BytesArg
import Derived.Laws.BitsAllLaws
import Derived.Test.YtonbbaimkpjcfaaWMore
namespace Go.Proofs.Ytonbbaimkpjcfaa.Aid
open Go.RowKit Go.Proofs.YtonbbaimkpjcfaaW.PrintWords Go.Proofs.YtonbbaimkpjcfaaW.PrintLast Go.Proofs.YtonbbaimkpjcfaaW.PrintMore

def Byte (x : Int) : Prop := 0 ≤ x ∧ x < 256
theorem byte_of_wf {x : Int} (h : (Lit.int .u8 x).wf = true) : Byte x := by
  have h1 : IntKind.u8.min = 0 := rfl
  have h2 : IntKind.u8.max = 255 := rfl
  simp only [Lit.wf, Bool.and_eq_true, decide_eq_true_eq] at h
  unfold Byte
  omega
theorem bytes_of_wf {l : List Int} (h : ∀ x ∈ l, (Lit.int .u8 x).wf = true) : ∀ x ∈ l, Byte x := fun x hx => byte_of_wf (h x hx)
theorem i64_of_wf {x : Int} (h : (Lit.int .i64 x).wf = true) : -9223372036854775808 ≤ x ∧ x ≤ 9223372036854775807 := by
  have h1 : IntKind.i64.min = -9223372036854775808 := rfl
  have h2 : IntKind.i64.max = 9223372036854775807 := rfl
  simp only [Lit.wf, Bool.and_eq_true, decide_eq_true_eq] at h
  omega
theorem u64_of_wf {x : Int} (h : (Lit.int .u64 x).wf = true) : 0 ≤ x ∧ x ≤ 18446744073709551615 := by
  have h1 : IntKind.u64.min = 0 := rfl
  have h2 : IntKind.u64.max = 18446744073709551615 := rfl
  simp only [Lit.wf, Bool.and_eq_true, decide_eq_true_eq] at h
  omega
theorem u32_of_wf {x : Int} (h : (Lit.int .u32 x).wf = true) : 0 ≤ x ∧ x ≤ 4294967295 := by
  have h1 : IntKind.u32.min = 0 := rfl
  have h2 : IntKind.u32.max = 4294967295 := rfl
  simp only [Lit.wf, Bool.and_eq_true, decide_eq_true_eq] at h
  omega
theorem wrap64_id {x : Int} (h0 : -9223372036854775808 ≤ x) (h1 : x ≤ 9223372036854775807) : wrap64 x = x := by unfold wrap64; omega
theorem u64wrap_id {x : Int} (h0 : 0 ≤ x) (h1 : x ≤ 18446744073709551615) : IntKind.u64.wrap x = x := by rw [IntKind.wrap_u64]; omega
theorem ofNat_inj {a b : Int} (ha : Byte a) (hb : Byte b) (h : UInt8.ofNat a.toNat = UInt8.ofNat b.toNat) : a = b := by
  have h' := congrArg UInt8.toNat h
  unfold Byte at ha hb
  simp only [UInt8.toNat_ofNat'] at h'
  rw [Nat.mod_eq_of_lt (show a.toNat < 2 ^ 8 by omega), Nat.mod_eq_of_lt (show b.toNat < 2 ^ 8 by omega)] at h'
  omega
theorem map_inj : ∀ {a b : List Int}, (∀ x ∈ a, Byte x) → (∀ x ∈ b, Byte x) → (a.map fun n => UInt8.ofNat n.toNat) = (b.map fun n => UInt8.ofNat n.toNat) → a = b
  | [], [], _, _, _ => rfl
  | [], _ :: _, _, _, h => by simp at h
  | _ :: _, [], _, _, h => by simp at h
  | x :: a, y :: b, ha, hb, h => by
    simp only [List.map_cons, List.cons.injEq] at h
    rw [ofNat_inj (ha x List.mem_cons_self) (hb y List.mem_cons_self) h.1, map_inj (fun z hz => ha z (List.mem_cons_of_mem _ hz)) (fun z hz => hb z (List.mem_cons_of_mem _ hz)) h.2]
/-- Two lists of bytes are the same text just if they are the same. -/
theorem same_text {a b : List Int} (ha : ∀ x ∈ a, Byte x) (hb : ∀ x ∈ b, Byte x) : ((strOfNums a).toList == (strOfNums b).toList) = decide (a = b) := by
  rw [ByteArray.toList_eq, ByteArray.toList_eq, strOfNums_data, strOfNums_data]
  by_cases h : a = b
  · subst h; simp
  · rw [decide_eq_false h, beq_eq_false_iff_ne]
    exact fun e => h (map_inj ha hb e)
theorem same_text_self (a : List Int) : ((strOfNums a).toList == (strOfNums a).toList) = true := by simp
/-- A list of bytes as natural numbers. -/
def nat (l : List Int) : List Nat := l.map Int.toNat
def int (l : List Nat) : List Int := l.map Int.ofNat
theorem nat_length (l : List Int) : (nat l).length = l.length := by simp [nat]
theorem int_length (l : List Nat) : (int l).length = l.length := by simp [int]
theorem int_nat {l : List Int} (h : ∀ x ∈ l, Byte x) : int (nat l) = l := by
  unfold int nat
  rw [List.map_map]
  conv => rhs; rw [← List.map_id l]
  apply List.map_congr_left
  intro x hx
  have := h x hx
  unfold Byte at this
  show ((x.toNat : Nat) : Int) = x
  omega
theorem nat_lt {l : List Int} (h : ∀ x ∈ l, Byte x) : ∀ c ∈ nat l, c < 256 := by
  intro c hc
  obtain ⟨x, hx, rfl⟩ := List.mem_map.1 hc
  have := h x hx
  unfold Byte at this
  omega
theorem byte_rd {l : List Int} (h : ∀ x ∈ l, Byte x) (i : Int) : Byte (rd l i) := by
  unfold rd
  rcases Nat.lt_or_ge i.toNat l.length with hi | hi
  · rw [List.getD_eq_getElem?_getD, List.getElem?_eq_getElem hi]
    exact h _ (List.getElem_mem hi)
  · rw [List.getD_eq_getElem?_getD, List.getElem?_eq_none hi]
    exact ⟨Int.le_refl 0, by decide⟩
theorem byte_append {a b : List Int} (ha : ∀ x ∈ a, Byte x) (hb : ∀ x ∈ b, Byte x) : ∀ x ∈ a ++ b, Byte x := fun x hx => (List.mem_append.1 hx).elim (ha x) (hb x)
theorem byte_take {a : List Int} (ha : ∀ x ∈ a, Byte x) (n : Nat) : ∀ x ∈ a.take n, Byte x := fun x hx => ha x (List.mem_of_mem_take hx)
theorem byte_drop {a : List Int} (ha : ∀ x ∈ a, Byte x) (n : Nat) : ∀ x ∈ a.drop n, Byte x := fun x hx => ha x (List.mem_of_mem_drop hx)
theorem rd_eq {l : List Int} {i : Nat} (h : i < l.length) : rd l (i : Int) = l[i] := by
  unfold rd
  rw [Int.toNat_natCast, List.getD_eq_getElem?_getD, List.getElem?_eq_getElem h]
  rfl
/-- A list's place out of any number. -/
theorem pick_bd (a n : Int) (hn : 0 < n) : (if Int.tmod a n < 0 then Int.tmod a n + n else Int.tmod a n) = a % n := by
  have h1 := Int.tmod_eq_emod (a := a) (b := n)
  have h2 := Int.emod_nonneg a (show n ≠ 0 by omega)
  have h3 := Int.emod_lt_of_pos a hn
  have hn' : (n.natAbs : Int) = n := by omega
  rw [h1]
  split <;> split <;> omega
end Go.Proofs.Ytonbbaimkpjcfaa.Aid
