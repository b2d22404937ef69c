/- Numbers and texts behind bytes are read back where they stand. No conditions. -/
import Derived.Test.YtonbbaimkpjcfaaMx1
import Derived.Test.YtonbbaimkpjcfaaMx1
import Derived.Test.YtonbbaimkpjcfaaMx3
import Derived.Test.YtonbbaimkpjcfaaOct
namespace Go.Proofs.Ytonbbaimkpjcfaa.Num
open Go.RowKit Go.Proofs.Ytonbbaimkpjcfaa.M Go.Proofs.YtonbbaimkpjcfaaW.PrintWords Go.Proofs.YtonbbaimkpjcfaaW.PrintLast Go.Proofs.YtonbbaimkpjcfaaW.PrintMore Go.Proofs.Ytonbbaimkpjcfaa.Aid Go.Proofs.Ytonbbaimkpjcfaa.Oct

theorem isBytes_of {l : List Int} (h : ∀ x ∈ l, Byte x) : isBytes l = true := by
  unfold isBytes
  rw [List.all_eq_true]
  intro x hx
  have := h x hx
  unfold Byte at this
  simp only [Bool.and_eq_true, decide_eq_true_eq]
  exact this
theorem bytesOf_byte (s : ByteArray) : ∀ x ∈ bytesOf s, Byte x := by
  intro x hx
  obtain ⟨b, _, rfl⟩ := List.mem_map.1 hx
  have := b.toNat_lt
  show 0 ≤ (b.toNat : Int) ∧ (b.toNat : Int) < 256
  omega
theorem str_bytesOf (s : ByteArray) : strOfNums (bytesOf s) = s := by
  rcases s with ⟨a⟩
  have h : (strOfNums (bytesOf ⟨a⟩)).data.toList = a.toList := by
    rw [strOfNums_data]
    unfold bytesOf
    rw [List.map_map]
    conv => rhs; rw [← List.map_id a.toList]
    apply List.map_congr_left
    intro b _
    show UInt8.ofNat ((b.toNat : Int)).toNat = b
    rw [Int.toNat_natCast, UInt8.ofNat_toNat]
  generalize strOfNums (bytesOf ⟨a⟩) = x at h ⊢
  rcases x with ⟨c⟩
  have : c = a := Array.toList_inj.1 h
  rw [this]
theorem be_get (n v j : Nat) (h : j < n) : (be n v)[j]? = some (v / 256 ^ (n - 1 - j) % 256) := by
  induction n generalizing j with
  | zero => omega
  | succ n ih =>
    cases j with
    | zero => rfl
    | succ j =>
      show (be n v)[j]? = _
      rw [ih j (by omega), show n + 1 - 1 - (j + 1) = n - 1 - j by omega]
theorem rd_mid (pre post : List Int) (m : List Nat) (j c : Nat) (h : m[j]? = some c) : rd (pre ++ int m ++ post) ((pre.length + j : Nat) : Int) = (c : Int) := by
  have hj := (List.getElem?_eq_some_iff.1 h).1
  unfold rd
  rw [Int.toNat_natCast, List.getD_eq_getElem?_getD, List.append_assoc, List.getElem?_append_right (by omega), Nat.add_sub_cancel_left, List.getElem?_append_left (by rw [int_length]; exact hj)]
  unfold int
  rw [List.getElem?_map, h]
  rfl
theorem oNum_be (pre post : List Int) (v n : Nat) : ∀ k, k ≤ n → oNum (pre ++ int (be n v) ++ post) pre.length k = ((v / 256 ^ (n - k) % 256 ^ k : Nat) : Int)
  | 0, _ => by simp [oNum, Nat.mod_one]
  | k + 1, h => by
    rw [oNum, oNum_be pre post v n k (by omega), rd_mid pre post _ k _ (be_get n v k (by omega))]
    have e1 : v / 256 ^ (n - k) = v / 256 ^ (n - 1 - k) / 256 := by rw [Nat.div_div_eq_div_mul, ← Nat.pow_succ, Nat.succ_eq_add_one, show n - 1 - k + 1 = n - k by omega]
    rw [e1, show n - (k + 1) = n - 1 - k by omega]
    generalize v / 256 ^ (n - 1 - k) = u
    have e2 : u % 256 ^ (k + 1) = u % 256 + 256 * (u / 256 % 256 ^ k) := by rw [Nat.pow_succ, Nat.mul_comm, Nat.mod_mul]
    rw [e2]
    omega
theorem number_be {pre post : List Int} {v n : Nat} (hn : n ≤ 8) (hb : isBytes (pre ++ int (be n v) ++ post) = true) : octets_number.f (pre ++ int (be n v) ++ post) (pre.length : Int) (n : Int) = some (((v % 256 ^ n : Nat) : Int), true) := by
  unfold octets_number.f
  rw [if_pos hb, if_pos (by omega), if_pos (by omega), if_pos ⟨by omega, by simp only [List.length_append, int_length, be_length]; omega⟩, Int.toNat_natCast, Int.toNat_natCast, oNum_be pre post v n n (Nat.le_refl n), Nat.sub_self, Nat.pow_zero, Nat.div_one]
theorem addText_be {l : List Int} {s : ByteArray} (h : s.size ≤ 65535) (hl : l.length ≤ 1000000000000) : octets_AddText.f l s = some (l ++ int (be 2 s.size) ++ bytesOf s, 0) := by
  unfold octets_AddText.f
  rw [if_neg (by omega), u64wrap_id (by omega) (by omega), show (2 : Int) = ((2 : Nat) : Int) from rfl, add_be l s.size 2 (by decide) (by omega), Option.bind_some, if_pos (by simp only [List.length_append, int_length, be_length]; omega)]
theorem text_be {pre post : List Int} {s : ByteArray} (h : s.size ≤ 65535) (hb : isBytes (pre ++ int (be 2 s.size) ++ bytesOf s ++ post) = true) :
    octets_Text.f (pre ++ int (be 2 s.size) ++ bytesOf s ++ post) (pre.length : Int) = some (s, (pre.length : Int) + 2 + (s.size : Int), true) := by
  have ho : oNum (pre ++ int (be 2 s.size) ++ bytesOf s ++ post) pre.length 2 = (s.size : Int) := by
    rw [List.append_assoc _ (bytesOf s) post, oNum_be pre (bytesOf s ++ post) s.size 2 2 (Nat.le_refl 2), Nat.sub_self, Nat.pow_zero, Nat.div_one, Nat.mod_eq_of_lt (by omega)]
  unfold octets_Text.f
  rw [if_pos hb, Int.toNat_natCast, ho, if_pos ⟨by omega, by simp only [List.length_append, int_length, be_length]; omega, by simp only [List.length_append, int_length, be_length, bytesOf_length]; omega⟩, Int.toNat_natCast]
  have hc : ((pre ++ int (be 2 s.size) ++ bytesOf s ++ post).take (pre.length + 2 + s.size)).drop (pre.length + 2) = bytesOf s := by
    rw [List.take_append_of_le_length (by simp only [List.length_append, int_length, be_length, bytesOf_length]; omega), List.take_of_length_le (by simp only [List.length_append, int_length, be_length, bytesOf_length]; omega)]
    rw [List.drop_append_of_le_length (by simp only [List.length_append, int_length, be_length]; omega), List.drop_of_length_le (by simp only [List.length_append, int_length, be_length]; omega), List.nil_append]
  rw [hc, str_bytesOf]
end Go.Proofs.Ytonbbaimkpjcfaa.Num
