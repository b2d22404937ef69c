/- What is put behind bytes is read back where it stands: OctetsBack answers true. No conditions. -/
import Derived.Test.YtonbbaimkpjcfaaMx3
import Derived.Test.YtonbbaimkpjcfaaNum
namespace Go.Proofs.Ytonbbaimkpjcfaa.Pure
open Go.RowKit Go.Proofs.Ytonbbaimkpjcfaa.M Go.Proofs.YtonbbaimkpjcfaaW.PrintWords Go.Proofs.YtonbbaimkpjcfaaW.PrintLast Go.Proofs.YtonbbaimkpjcfaaW.PrintMore Go.Proofs.Ytonbbaimkpjcfaa.Aid Go.Proofs.Ytonbbaimkpjcfaa.Oct Go.Proofs.Ytonbbaimkpjcfaa.Num

theorem OctetsBack : conduitlaw01_OctetsBack.Pure := by
  intro l p q w ww wl hl hp hq
  refine ⟨by decide +kernel, fun hp1 hq1 => ?_⟩
  have hw := u64_of_wf ww
  have bl := bytes_of_wf wl
  obtain ⟨v, rfl⟩ : ∃ v : Nat, w = (v : Int) := ⟨w.toNat, by omega⟩
  have w16 : ∀ x : Nat, IntKind.u16.wrap (x : Int) = ((x % 256 ^ 2 : Nat) : Int) := fun x => by rw [show IntKind.u16.wrap (x : Int) = (x : Int) % 65536 from rfl]; omega
  have w32 : ∀ x : Nat, IntKind.u32.wrap (x : Int) = ((x % 256 ^ 4 : Nat) : Int) := fun x => by rw [show IntKind.u32.wrap (x : Int) = (x : Int) % 4294967296 from rfl]; omega
  have hmod : ∀ n x, n ≤ 8 → be n (x % 256 ^ n) = be n x := by
    have key : ∀ m n x, n ≤ m → be n (x % 256 ^ m) = be n x := by
      intro m n
      induction n with
      | zero => intros; rfl
      | succ n ih =>
        intro x hn
        show _ :: _ = _ :: _
        rw [ih x (by omega)]
        congr 1
        rw [show m = n + (m - n - 1 + 1) by omega, Nat.pow_add, Nat.mod_mul_right_div_self, Nat.pow_succ, Nat.mul_comm, Nat.mod_mul_right_mod]
    exact fun n x _ => key n n x (Nat.le_refl n)
  have b8 : octets_Add8.f l ((v : Int) / 2048 % 256) = some (l ++ int (be 1 (v / 2048))) := by
    unfold octets_Add8.f
    rw [show (v : Int) / 2048 % 256 = ((v / 2048 % 256 ^ 1 : Nat) : Int) by omega, u64wrap_id (by omega) (by omega), show (1 : Int) = ((1 : Nat) : Int) from rfl, add_be _ _ 1 (by decide) (by omega), hmod 1 _ (by decide)]
    rfl
  generalize hL1 : l ++ int (be 1 (v / 2048)) = L1 at b8
  have n1 : L1.length = l.length + 1 := by rw [← hL1, List.length_append, int_length, be_length]
  have b16 : octets_Add16.f L1 (IntKind.u16.wrap ((v : Int) / 128)) = some (L1 ++ int (be 2 (v / 128))) := by
    unfold octets_Add16.f
    rw [show (v : Int) / 128 = ((v / 128 : Nat) : Int) by omega, w16, u64wrap_id (by omega) (by omega), show (2 : Int) = ((2 : Nat) : Int) from rfl, add_be _ _ 2 (by decide) (by omega), hmod 2 _ (by decide)]
    rfl
  generalize hL2 : L1 ++ int (be 2 (v / 128)) = L2 at b16
  have n2 : L2.length = l.length + 3 := by rw [← hL2, List.length_append, int_length, be_length, n1]
  have b32 : octets_Add32.f L2 (IntKind.u32.wrap ((v : Int) / 8)) = some (L2 ++ int (be 4 (v / 8))) := by
    unfold octets_Add32.f
    rw [show (v : Int) / 8 = ((v / 8 : Nat) : Int) by omega, w32, u64wrap_id (by omega) (by omega), show (4 : Int) = ((4 : Nat) : Int) from rfl, add_be _ _ 4 (by decide) (by omega), hmod 4 _ (by decide)]
    rfl
  generalize hL3 : L2 ++ int (be 4 (v / 8)) = L3 at b32
  have n3 : L3.length = l.length + 7 := by rw [← hL3, List.length_append, int_length, be_length, n2]
  have b64 : octets_Add64.f L3 (v : Int) = some (L3 ++ int (be 8 v)) := by
    unfold octets_Add64.f
    rw [show (8 : Int) = ((8 : Nat) : Int) from rfl, add_be _ _ 8 (by decide) (by omega)]
    rfl
  generalize hL4 : L3 ++ int (be 8 v) = L4 at b64
  have n4 : L4.length = l.length + 15 := by rw [← hL4, List.length_append, int_length, be_length, n3]
  have t1 := addText_be (l := L4) hp1 (by omega)
  generalize hL5 : L4 ++ int (be 2 p.size) ++ bytesOf p = L5 at t1
  have n5 : L5.length = l.length + 17 + p.size := by rw [← hL5]; have e := (show (L4 ++ int (be 2 p.size) ++ bytesOf p).length = L4.length + 2 + p.size by simp only [List.length_append, int_length, be_length, bytesOf_length]); omega
  have t2 := addText_be (l := L5) hq1 (by omega)
  generalize hL6 : L5 ++ int (be 2 q.size) ++ bytesOf q = L6 at t2
  have n6 : L6.length = l.length + 19 + p.size + q.size := by rw [← hL6]; have e := (show (L5 ++ int (be 2 q.size) ++ bytesOf q).length = L5.length + 2 + q.size by simp only [List.length_append, int_length, be_length, bytesOf_length]); omega
  have bi : ∀ n x, ∀ y ∈ int (be n x), Byte y := fun n x => int_byte (be_lt n x)
  have by1 : ∀ x ∈ L1, Byte x := hL1 ▸ byte_append bl (bi _ _)
  have by2 : ∀ x ∈ L2, Byte x := hL2 ▸ byte_append by1 (bi _ _)
  have by3 : ∀ x ∈ L3, Byte x := hL3 ▸ byte_append by2 (bi _ _)
  have by4 : ∀ x ∈ L4, Byte x := hL4 ▸ byte_append by3 (bi _ _)
  have by5 : ∀ x ∈ L5, Byte x := hL5 ▸ byte_append (byte_append by4 (bi _ _)) (bytesOf_byte _)
  have by6 : ∀ x ∈ L6, Byte x := hL6 ▸ byte_append (byte_append by5 (bi _ _)) (bytesOf_byte _)
  have hb := isBytes_of by6
  have s5 : L6 = L5 ++ int (be 2 q.size) ++ bytesOf q ++ [] := by rw [List.append_nil, hL6]
  have s4 : L6 = L4 ++ int (be 2 p.size) ++ bytesOf p ++ (int (be 2 q.size) ++ bytesOf q) := by rw [hL5, ← hL6]; simp only [List.append_assoc]
  have s3 : L6 = L3 ++ int (be 8 v) ++ (int (be 2 p.size) ++ bytesOf p ++ (int (be 2 q.size) ++ bytesOf q)) := by rw [s4, ← hL4]; simp only [List.append_assoc]
  have s2 : L6 = L2 ++ int (be 4 (v / 8)) ++ (int (be 8 v) ++ (int (be 2 p.size) ++ bytesOf p ++ (int (be 2 q.size) ++ bytesOf q))) := by rw [s3, ← hL3]; simp only [List.append_assoc]
  have s1 : L6 = L1 ++ int (be 2 (v / 128)) ++ (int (be 4 (v / 8)) ++ (int (be 8 v) ++ (int (be 2 p.size) ++ bytesOf p ++ (int (be 2 q.size) ++ bytesOf q)))) := by rw [s2, ← hL2]; simp only [List.append_assoc]
  have s0 : L6 = l ++ int (be 1 (v / 2048)) ++ (int (be 2 (v / 128)) ++ (int (be 4 (v / 8)) ++ (int (be 8 v) ++ (int (be 2 p.size) ++ bytesOf p ++ (int (be 2 q.size) ++ bytesOf q))))) := by rw [s1, ← hL1]; simp only [List.append_assoc]
  have g0 := number_be (pre := l) (v := v / 2048) (n := 1) (by decide) (s0 ▸ hb)
  have g1 := number_be (pre := L1) (v := v / 128) (n := 2) (by decide) (s1 ▸ hb)
  have g2 := number_be (pre := L2) (v := v / 8) (n := 4) (by decide) (s2 ▸ hb)
  have g3 := number_be (pre := L3) (v := v) (n := 8) (by decide) (s3 ▸ hb)
  have g4 := text_be (pre := L4) hp1 (s4 ▸ hb)
  have g5 := text_be (pre := L5) hq1 (s5 ▸ hb)
  rw [← s0] at g0
  rw [← s1, n1] at g1
  rw [← s2, n2] at g2
  rw [← s3, n3] at g3
  rw [← s4, n4] at g4
  rw [← s5] at g5
  refine ⟨L1, L2, L3, L4, L5, L6, (L5.length : Int), b8, b16, b32, b64, t1, t2, ?_, ?_, ?_, ?_, ?_, ?_, by omega, by omega, ?_⟩
  · unfold octets_U8.f
    rw [show (1 : Int) = ((1 : Nat) : Int) from rfl, g0, Option.bind_some]
    simp only [Option.some.injEq, Prod.mk.injEq, and_true]
    omega
  · unfold octets_U16.f
    rw [show (2 : Int) = ((2 : Nat) : Int) from rfl, show ((l.length : Int) + 1) = ((l.length + 1 : Nat) : Int) by omega, g1, Option.bind_some, w16, show (v : Int) / 128 = ((v / 128 : Nat) : Int) by omega, w16]
    simp only [Option.some.injEq, Prod.mk.injEq, and_true]
    omega
  · unfold octets_U32.f
    rw [show (4 : Int) = ((4 : Nat) : Int) from rfl, show ((l.length : Int) + 3) = ((l.length + 3 : Nat) : Int) by omega, g2, Option.bind_some, show (v : Int) / 8 = ((v / 8 : Nat) : Int) by omega, w32]
    simp only [Option.some.injEq, Prod.mk.injEq, and_true]
    omega
  · unfold octets_U64.f
    rw [show (8 : Int) = ((8 : Nat) : Int) from rfl, show ((l.length : Int) + 7) = ((l.length + 7 : Nat) : Int) by omega, g3, Option.bind_some]
    simp only [Option.some.injEq, Prod.mk.injEq, and_true]
    omega
  · rw [show ((l.length : Int) + 15) = ((l.length + 15 : Nat) : Int) by omega, g4]
    simp only [Option.some.injEq, Prod.mk.injEq, and_true, true_and]
    omega
  · rw [g5]
    simp only [Option.some.injEq, Prod.mk.injEq, and_true, true_and]
    omega
  · rw [s0, List.append_assoc, List.take_left]
set_option linter.unusedVariables false in
theorem OctetsBack_walk (W : World) (A0 : Option Addr) (c0 : Nat) (l0 : (List Int)) (hc0 : l0.length ≤ c0) (h0 : (Kd.int .u8).C W A0 l0.length l0) (ok0 : (l0.length * 1 ≤ 140737488351232 ∧ l0.length ≤ 9223372036854775807 ∧ ∀ x ∈ l0, (Lit.int .u8 x).wf = true)) (a1 : ByteArray) (ok1 : a1.size ≤ 140737488351232) (a2 : ByteArray) (ok2 : a2.size ≤ 140737488351232) (a3 : Int) (ok3 : (Lit.int .u64 a3).wf = true) (bulk : ((l0.map fun x => 1).sum + 1) + (a1.size + 1) + (a2.size + 1) + 1 ≤ 1048576) :
    Calls Try.prog 7 #[.slice A0 l0.length c0, .string a1, .string a2, .int .u64 a3] W fun e w' => e = .returned (.bool true) ∧ Below W.heap.size W w' :=
  conduitlaw01_OctetsBack.walk OctetsBack W A0 c0 l0 hc0 h0 ok0 a1 ok1 a2 ok2 a3 ok3 bulk
end Go.Proofs.Ytonbbaimkpjcfaa.Pure
