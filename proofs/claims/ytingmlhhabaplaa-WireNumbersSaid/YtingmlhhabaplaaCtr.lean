/- Structs among the laws' arguments, and what the laws are to answer. No conditions. -/
import Derived.Test.YtingmlhhabaplaaEvLaw
import Derived.Test.YtingmlhhabaplaaProg
namespace Go.Proofs.Ytingmlhhabaplaa.Ev
open Go Go.ChangeShapes Go.WideShapes
set_option maxRecDepth 100000
set_option linter.unusedVariables false
abbrev S25 : Type := Int × Int × Int × (List (List UInt8))
def pv25 (y : S25) : List PV := [.int .i64 y.1] ++ ([.int .i64 y.2.1] ++ ([.int .i64 y.2.2.1] ++ ([.sl 1 (y.2.2.2.map fun x => elOf [.sl 1 (bl x)])])))
def ok25 (y : S25) : Prop := (Lit.int .i64 y.1).wf = true ∧ (Lit.int .i64 y.2.1).wf = true ∧ (Lit.int .i64 y.2.2.1).wf = true ∧ (y.2.2.2.length * 24 ≤ 140737488351232 ∧ y.2.2.2.length ≤ 9223372036854775807 ∧ ∀ e7 ∈ y.2.2.2, (e7.length * 1 ≤ 140737488351232 ∧ e7.length ≤ 9223372036854775807 ∧ ∀ e2 ∈ e7, True))
def ms25 (y : S25) : Nat := 1 + 1 + 1 + ((y.2.2.2.map fun x => ((x.map fun x => 1).sum + 1)).sum + 1) + 1
theorem open25 : Opens Try.prog 25 4 pv25 ok25 ms25 := by
  have h := opens_struct Try.underlying25 (by kernel_rfl) (opensF_cons rfl (opens_int Try.underlying2 (by kernel_rfl)) (opensF_cons rfl (opens_int Try.underlying3 (by kernel_rfl)) (opensF_cons rfl (opens_int Try.underlying2 (by kernel_rfl)) (opensF_one rfl (opens_slice Try.underlying23 (by kernel_rfl) (opens_slice Try.underlying34 (by kernel_rfl) (opens_u8 Try.underlying5 (by kernel_rfl)) (B := 1) (by kernel_rfl) (by decide)) (B := 24) (by kernel_rfl) (by decide))))))
  exact opens_mono h (fun _ => rfl) (fun _ h => h) (fun _ => by first | exact Nat.le_refl _ | (simp only [ms25]; omega))
abbrev S27 : Type := UInt8 × S25 × Int
def pv27 (y : S27) : List PV := [bv y.1] ++ ((pv25 y.2.1) ++ ([.int .i64 y.2.2]))
def ok27 (y : S27) : Prop := True ∧ ok25 y.2.1 ∧ (Lit.int .i64 y.2.2).wf = true
def ms27 (y : S27) : Nat := 1 + ms25 y.2.1 + 1 + 1
theorem open27 : Opens Try.prog 27 6 pv27 ok27 ms27 := by
  have h := opens_struct Try.underlying27 (by kernel_rfl) (opensF_cons rfl (opens_u8 Try.underlying22 (by kernel_rfl)) (opensF_cons rfl open25 (opensF_one rfl (opens_int Try.underlying2 (by kernel_rfl)))))
  exact opens_mono h (fun _ => rfl) (fun _ h => h) (fun _ => by first | exact Nat.le_refl _ | (simp only [ms27]; omega))
abbrev S31 : Type := ByteArray × Int
def pv31 (y : S31) : List PV := [.str y.1] ++ ([.int .i64 y.2])
def ok31 (y : S31) : Prop := y.1.size ≤ 140737488351232 ∧ (Lit.int .i64 y.2).wf = true
def ms31 (y : S31) : Nat := (y.1.size + 1) + 1 + 1
theorem open31 : Opens Try.prog 31 2 pv31 ok31 ms31 := by
  have h := opens_struct Try.underlying31 (by kernel_rfl) (opensF_cons rfl (opens_string Try.underlying9 (by kernel_rfl)) (opensF_one rfl (opens_int Try.underlying3 (by kernel_rfl))))
  exact opens_mono h (fun _ => rfl) (fun _ h => h) (fun _ => by first | exact Nat.le_refl _ | (simp only [ms31]; omega))
abbrev S33 : Type := UInt8 × ByteArray × ByteArray × Int × (List ByteArray) × S31 × Int × Int × Int × Int
def pv33 (y : S33) : List PV := [bv y.1] ++ ([.str y.2.1] ++ ([.str y.2.2.1] ++ ([.int .i64 y.2.2.2.1] ++ ([.sl 1 (y.2.2.2.2.1.map fun x => elOf [.str x])] ++ ((pv31 y.2.2.2.2.2.1) ++ ([.int .i64 y.2.2.2.2.2.2.1] ++ ([.int .i64 y.2.2.2.2.2.2.2.1] ++ ([.int .i64 y.2.2.2.2.2.2.2.2.1] ++ ([.int .i64 y.2.2.2.2.2.2.2.2.2])))))))))
def ok33 (y : S33) : Prop := True ∧ y.2.1.size ≤ 140737488351232 ∧ y.2.2.1.size ≤ 140737488351232 ∧ (Lit.int .i64 y.2.2.2.1).wf = true ∧ (y.2.2.2.2.1.length * 16 ≤ 140737488351232 ∧ y.2.2.2.2.1.length ≤ 9223372036854775807 ∧ ∀ e11 ∈ y.2.2.2.2.1, e11.size ≤ 140737488351232) ∧ ok31 y.2.2.2.2.2.1 ∧ (Lit.int .i64 y.2.2.2.2.2.2.1).wf = true ∧ (Lit.int .i64 y.2.2.2.2.2.2.2.1).wf = true ∧ (Lit.int .i64 y.2.2.2.2.2.2.2.2.1).wf = true ∧ (Lit.int .i64 y.2.2.2.2.2.2.2.2.2).wf = true
def ms33 (y : S33) : Nat := 1 + (y.2.1.size + 1) + (y.2.2.1.size + 1) + 1 + ((y.2.2.2.2.1.map fun x => (x.size + 1)).sum + 1) + ms31 y.2.2.2.2.2.1 + 1 + 1 + 1 + 1 + 1
theorem open33 : Opens Try.prog 33 11 pv33 ok33 ms33 := by
  have h := opens_struct Try.underlying33 (by kernel_rfl) (opensF_cons rfl (opens_u8 Try.underlying28 (by kernel_rfl)) (opensF_cons rfl (opens_string Try.underlying9 (by kernel_rfl)) (opensF_cons rfl (opens_string Try.underlying9 (by kernel_rfl)) (opensF_cons rfl (opens_int Try.underlying3 (by kernel_rfl)) (opensF_cons rfl (opens_slice Try.underlying29 (by kernel_rfl) (opens_string Try.underlying9 (by kernel_rfl)) (B := 16) (by kernel_rfl) (by decide)) (opensF_cons rfl open31 (opensF_cons rfl (opens_int Try.underlying2 (by kernel_rfl)) (opensF_cons rfl (opens_int Try.underlying2 (by kernel_rfl)) (opensF_cons rfl (opens_int Try.underlying3 (by kernel_rfl)) (opensF_one rfl (opens_int Try.underlying3 (by kernel_rfl))))))))))))
  exact opens_mono h (fun _ => rfl) (fun _ h => h) (fun _ => by first | exact Nat.le_refl _ | (simp only [ms33]; omega))
abbrev S47 : Type := UInt8 × Int × Int × ByteArray × Int × S25 × Int × Int × Int × S33
def pv47 (y : S47) : List PV := [bv y.1] ++ ([.int .i64 y.2.1] ++ ([.int .i64 y.2.2.1] ++ ([.str y.2.2.2.1] ++ ([.int .i64 y.2.2.2.2.1] ++ ((pv25 y.2.2.2.2.2.1) ++ ([.int .i64 y.2.2.2.2.2.2.1] ++ ([.int .i64 y.2.2.2.2.2.2.2.1] ++ ([.int .i64 y.2.2.2.2.2.2.2.2.1] ++ ((pv33 y.2.2.2.2.2.2.2.2.2))))))))))
def ok47 (y : S47) : Prop := True ∧ (Lit.int .i64 y.2.1).wf = true ∧ (Lit.int .i64 y.2.2.1).wf = true ∧ y.2.2.2.1.size ≤ 140737488351232 ∧ (Lit.int .i64 y.2.2.2.2.1).wf = true ∧ ok25 y.2.2.2.2.2.1 ∧ (Lit.int .i64 y.2.2.2.2.2.2.1).wf = true ∧ (Lit.int .i64 y.2.2.2.2.2.2.2.1).wf = true ∧ (Lit.int .i64 y.2.2.2.2.2.2.2.2.1).wf = true ∧ ok33 y.2.2.2.2.2.2.2.2.2
def ms47 (y : S47) : Nat := 1 + 1 + 1 + (y.2.2.2.1.size + 1) + 1 + ms25 y.2.2.2.2.2.1 + 1 + 1 + 1 + ms33 y.2.2.2.2.2.2.2.2.2 + 1
theorem open47 : Opens Try.prog 47 23 pv47 ok47 ms47 := by
  have h := opens_struct Try.underlying47 (by kernel_rfl) (opensF_cons rfl (opens_u8 Try.underlying45 (by kernel_rfl)) (opensF_cons rfl (opens_int Try.underlying3 (by kernel_rfl)) (opensF_cons rfl (opens_int Try.underlying3 (by kernel_rfl)) (opensF_cons rfl (opens_string Try.underlying9 (by kernel_rfl)) (opensF_cons rfl (opens_int Try.underlying3 (by kernel_rfl)) (opensF_cons rfl open25 (opensF_cons rfl (opens_int Try.underlying2 (by kernel_rfl)) (opensF_cons rfl (opens_int Try.underlying3 (by kernel_rfl)) (opensF_cons rfl (opens_int Try.underlying3 (by kernel_rfl)) (opensF_one rfl open33))))))))))
  exact opens_mono h (fun _ => rfl) (fun _ h => h) (fun _ => by first | exact Nat.le_refl _ | (simp only [ms47]; omega))
abbrev S51 : Type := Int × Int × Int × Int × UInt8 × (List S31)
def pv51 (y : S51) : List PV := [.int .i64 y.1] ++ ([.int .i64 y.2.1] ++ ([.int .i64 y.2.2.1] ++ ([.int .i64 y.2.2.2.1] ++ ([bv y.2.2.2.2.1] ++ ([.sl 2 (y.2.2.2.2.2.map fun x => elOf (pv31 x))])))))
def ok51 (y : S51) : Prop := (Lit.int .i64 y.1).wf = true ∧ (Lit.int .i64 y.2.1).wf = true ∧ (Lit.int .i64 y.2.2.1).wf = true ∧ (Lit.int .i64 y.2.2.2.1).wf = true ∧ True ∧ (y.2.2.2.2.2.length * 24 ≤ 140737488351232 ∧ y.2.2.2.2.2.length ≤ 9223372036854775807 ∧ ∀ e11 ∈ y.2.2.2.2.2, ok31 e11)
def ms51 (y : S51) : Nat := 1 + 1 + 1 + 1 + 1 + ((y.2.2.2.2.2.map ms31).sum + 1) + 1
theorem open51 : Opens Try.prog 51 6 pv51 ok51 ms51 := by
  have h := opens_struct Try.underlying51 (by kernel_rfl) (opensF_cons rfl (opens_int Try.underlying35 (by kernel_rfl)) (opensF_cons rfl (opens_int Try.underlying2 (by kernel_rfl)) (opensF_cons rfl (opens_int Try.underlying3 (by kernel_rfl)) (opensF_cons rfl (opens_int Try.underlying3 (by kernel_rfl)) (opensF_cons rfl (opens_u8 Try.underlying48 (by kernel_rfl)) (opensF_one rfl (opens_slice Try.underlying49 (by kernel_rfl) open31 (B := 24) (by kernel_rfl) (by decide))))))))
  exact opens_mono h (fun _ => rfl) (fun _ h => h) (fun _ => by first | exact Nat.le_refl _ | (simp only [ms51]; omega))
abbrev S53 : Type := UInt8 × Int × Int × Int × Int × Int × Int × Int × Bool × (List (List UInt8)) × S51
def pv53 (y : S53) : List PV := [bv y.1] ++ ([.int .i64 y.2.1] ++ ([.int .i64 y.2.2.1] ++ ([.int .i64 y.2.2.2.1] ++ ([.int .i64 y.2.2.2.2.1] ++ ([.int .i64 y.2.2.2.2.2.1] ++ ([.int .i64 y.2.2.2.2.2.2.1] ++ ([.int .i64 y.2.2.2.2.2.2.2.1] ++ ([.bool y.2.2.2.2.2.2.2.2.1] ++ ([.sl 1 (y.2.2.2.2.2.2.2.2.2.1.map fun x => elOf [.sl 1 (bl x)])] ++ ((pv51 y.2.2.2.2.2.2.2.2.2.2)))))))))))
def ok53 (y : S53) : Prop := True ∧ (Lit.int .i64 y.2.1).wf = true ∧ (Lit.int .i64 y.2.2.1).wf = true ∧ (Lit.int .i64 y.2.2.2.1).wf = true ∧ (Lit.int .i64 y.2.2.2.2.1).wf = true ∧ (Lit.int .i64 y.2.2.2.2.2.1).wf = true ∧ (Lit.int .i64 y.2.2.2.2.2.2.1).wf = true ∧ (Lit.int .i64 y.2.2.2.2.2.2.2.1).wf = true ∧ True ∧ (y.2.2.2.2.2.2.2.2.2.1.length * 24 ≤ 140737488351232 ∧ y.2.2.2.2.2.2.2.2.2.1.length ≤ 9223372036854775807 ∧ ∀ e21 ∈ y.2.2.2.2.2.2.2.2.2.1, (e21.length * 1 ≤ 140737488351232 ∧ e21.length ≤ 9223372036854775807 ∧ ∀ e3 ∈ e21, True)) ∧ ok51 y.2.2.2.2.2.2.2.2.2.2
def ms53 (y : S53) : Nat := 1 + 1 + 1 + 1 + 1 + 1 + 1 + 1 + 1 + ((y.2.2.2.2.2.2.2.2.2.1.map fun x => ((x.map fun x => 1).sum + 1)).sum + 1) + ms51 y.2.2.2.2.2.2.2.2.2.2 + 1
theorem open53 : Opens Try.prog 53 16 pv53 ok53 ms53 := by
  have h := opens_struct Try.underlying53 (by kernel_rfl) (opensF_cons rfl (opens_u8 Try.underlying45 (by kernel_rfl)) (opensF_cons rfl (opens_int Try.underlying3 (by kernel_rfl)) (opensF_cons rfl (opens_int Try.underlying3 (by kernel_rfl)) (opensF_cons rfl (opens_int Try.underlying35 (by kernel_rfl)) (opensF_cons rfl (opens_int Try.underlying3 (by kernel_rfl)) (opensF_cons rfl (opens_int Try.underlying2 (by kernel_rfl)) (opensF_cons rfl (opens_int Try.underlying2 (by kernel_rfl)) (opensF_cons rfl (opens_int Try.underlying2 (by kernel_rfl)) (opensF_cons rfl (opens_bool Try.underlying4 (by kernel_rfl)) (opensF_cons rfl (opens_slice Try.underlying23 (by kernel_rfl) (opens_slice Try.underlying34 (by kernel_rfl) (opens_u8 Try.underlying5 (by kernel_rfl)) (B := 1) (by kernel_rfl) (by decide)) (B := 24) (by kernel_rfl) (by decide)) (opensF_one rfl open51)))))))))))
  exact opens_mono h (fun _ => rfl) (fun _ h => h) (fun _ => by first | exact Nat.le_refl _ | (simp only [ms53]; omega))
abbrev S70 : Type := Int × (List UInt8)
def pv70 (y : S70) : List PV := [.int .i64 y.1] ++ ([.sl 1 (bl y.2)])
def ok70 (y : S70) : Prop := (Lit.int .i64 y.1).wf = true ∧ (y.2.length * 1 ≤ 140737488351232 ∧ y.2.length ≤ 9223372036854775807 ∧ ∀ e3 ∈ y.2, True)
def ms70 (y : S70) : Nat := 1 + ((y.2.map fun x => 1).sum + 1) + 1
theorem open70 : Opens Try.prog 70 2 pv70 ok70 ms70 := by
  have h := opens_struct Try.underlying70 (by kernel_rfl) (opensF_cons rfl (opens_int Try.underlying3 (by kernel_rfl)) (opensF_one rfl (opens_slice Try.underlying34 (by kernel_rfl) (opens_u8 Try.underlying5 (by kernel_rfl)) (B := 1) (by kernel_rfl) (by decide))))
  exact opens_mono h (fun _ => rfl) (fun _ h => h) (fun _ => by first | exact Nat.le_refl _ | (simp only [ms70]; omega))
abbrev S57 : Type := ByteArray × UInt8 × Int × Int × Int × Int × Int × Int × Int × Bool × (List S70) × (List UInt8)
def pv57 (y : S57) : List PV := [.str y.1] ++ ([bv y.2.1] ++ ([.int .i64 y.2.2.1] ++ ([.int .i64 y.2.2.2.1] ++ ([.int .i64 y.2.2.2.2.1] ++ ([.int .i64 y.2.2.2.2.2.1] ++ ([.int .i64 y.2.2.2.2.2.2.1] ++ ([.int .i64 y.2.2.2.2.2.2.2.1] ++ ([.int .i64 y.2.2.2.2.2.2.2.2.1] ++ ([.bool y.2.2.2.2.2.2.2.2.2.1] ++ ([.sl 2 (y.2.2.2.2.2.2.2.2.2.2.1.map fun x => elOf (pv70 x))] ++ ([.sl 1 (bl y.2.2.2.2.2.2.2.2.2.2.2)])))))))))))
def ok57 (y : S57) : Prop := y.1.size ≤ 140737488351232 ∧ True ∧ (Lit.int .i64 y.2.2.1).wf = true ∧ (Lit.int .i64 y.2.2.2.1).wf = true ∧ (Lit.int .i64 y.2.2.2.2.1).wf = true ∧ (Lit.int .i64 y.2.2.2.2.2.1).wf = true ∧ (Lit.int .i64 y.2.2.2.2.2.2.1).wf = true ∧ (Lit.int .i64 y.2.2.2.2.2.2.2.1).wf = true ∧ (Lit.int .i64 y.2.2.2.2.2.2.2.2.1).wf = true ∧ True ∧ (y.2.2.2.2.2.2.2.2.2.2.1.length * 32 ≤ 140737488351232 ∧ y.2.2.2.2.2.2.2.2.2.2.1.length ≤ 9223372036854775807 ∧ ∀ e23 ∈ y.2.2.2.2.2.2.2.2.2.2.1, ok70 e23) ∧ (y.2.2.2.2.2.2.2.2.2.2.2.length * 1 ≤ 140737488351232 ∧ y.2.2.2.2.2.2.2.2.2.2.2.length ≤ 9223372036854775807 ∧ ∀ e23 ∈ y.2.2.2.2.2.2.2.2.2.2.2, True)
def ms57 (y : S57) : Nat := (y.1.size + 1) + 1 + 1 + 1 + 1 + 1 + 1 + 1 + 1 + 1 + ((y.2.2.2.2.2.2.2.2.2.2.1.map ms70).sum + 1) + ((y.2.2.2.2.2.2.2.2.2.2.2.map fun x => 1).sum + 1) + 1
theorem open57 : Opens Try.prog 57 12 pv57 ok57 ms57 := by
  have h := opens_struct Try.underlying57 (by kernel_rfl) (opensF_cons rfl (opens_string Try.underlying9 (by kernel_rfl)) (opensF_cons rfl (opens_u8 Try.underlying54 (by kernel_rfl)) (opensF_cons rfl (opens_int Try.underlying3 (by kernel_rfl)) (opensF_cons rfl (opens_int Try.underlying3 (by kernel_rfl)) (opensF_cons rfl (opens_int Try.underlying3 (by kernel_rfl)) (opensF_cons rfl (opens_int Try.underlying3 (by kernel_rfl)) (opensF_cons rfl (opens_int Try.underlying3 (by kernel_rfl)) (opensF_cons rfl (opens_int Try.underlying3 (by kernel_rfl)) (opensF_cons rfl (opens_int Try.underlying3 (by kernel_rfl)) (opensF_cons rfl (opens_bool Try.underlying4 (by kernel_rfl)) (opensF_cons rfl (opens_slice Try.underlying55 (by kernel_rfl) open70 (B := 32) (by kernel_rfl) (by decide)) (opensF_one rfl (opens_slice Try.underlying34 (by kernel_rfl) (opens_u8 Try.underlying5 (by kernel_rfl)) (B := 1) (by kernel_rfl) (by decide))))))))))))))
  exact opens_mono h (fun _ => rfl) (fun _ h => h) (fun _ => by first | exact Nat.le_refl _ | (simp only [ms57]; omega))
abbrev S124 : Type := Int × Int × Int
def pv124 (y : S124) : List PV := [.int .i64 y.1] ++ ([.int .i64 y.2.1] ++ ([.int .i64 y.2.2]))
def ok124 (y : S124) : Prop := (Lit.int .i64 y.1).wf = true ∧ (Lit.int .i64 y.2.1).wf = true ∧ (Lit.int .i64 y.2.2).wf = true
def ms124 (y : S124) : Nat := 1 + 1 + 1 + 1
theorem open124 : Opens Try.prog 124 3 pv124 ok124 ms124 := by
  have h := opens_struct Try.underlying124 (by kernel_rfl) (opensF_cons rfl (opens_int Try.underlying2 (by kernel_rfl)) (opensF_cons rfl (opens_int Try.underlying3 (by kernel_rfl)) (opensF_one rfl (opens_int Try.underlying2 (by kernel_rfl)))))
  exact opens_mono h (fun _ => rfl) (fun _ h => h) (fun _ => by first | exact Nat.le_refl _ | (simp only [ms124]; omega))
abbrev S122 : Type := Int × Int × Int × (List S124)
def pv122 (y : S122) : List PV := [.int .i64 y.1] ++ ([.int .i64 y.2.1] ++ ([.int .i64 y.2.2.1] ++ ([.sl 3 (y.2.2.2.map fun x => elOf (pv124 x))])))
def ok122 (y : S122) : Prop := (Lit.int .i64 y.1).wf = true ∧ (Lit.int .i64 y.2.1).wf = true ∧ (Lit.int .i64 y.2.2.1).wf = true ∧ (y.2.2.2.length * 24 ≤ 140737488351232 ∧ y.2.2.2.length ≤ 9223372036854775807 ∧ ∀ e7 ∈ y.2.2.2, ok124 e7)
def ms122 (y : S122) : Nat := 1 + 1 + 1 + ((y.2.2.2.map ms124).sum + 1) + 1
theorem open122 : Opens Try.prog 122 4 pv122 ok122 ms122 := by
  have h := opens_struct Try.underlying122 (by kernel_rfl) (opensF_cons rfl (opens_int Try.underlying2 (by kernel_rfl)) (opensF_cons rfl (opens_int Try.underlying3 (by kernel_rfl)) (opensF_cons rfl (opens_int Try.underlying2 (by kernel_rfl)) (opensF_one rfl (opens_slice Try.underlying120 (by kernel_rfl) open124 (B := 24) (by kernel_rfl) (by decide))))))
  exact opens_mono h (fun _ => rfl) (fun _ h => h) (fun _ => by first | exact Nat.le_refl _ | (simp only [ms122]; omega))
abbrev S76 : Type := Int × Int × (List (List UInt8)) × (List S122)
def pv76 (y : S76) : List PV := [.int .i64 y.1] ++ ([.int .i64 y.2.1] ++ ([.sl 1 (y.2.2.1.map fun x => elOf [.sl 1 (bl x)])] ++ ([.sl 4 (y.2.2.2.map fun x => elOf (pv122 x))])))
def ok76 (y : S76) : Prop := (Lit.int .i64 y.1).wf = true ∧ (Lit.int .i64 y.2.1).wf = true ∧ (y.2.2.1.length * 24 ≤ 140737488351232 ∧ y.2.2.1.length ≤ 9223372036854775807 ∧ ∀ e7 ∈ y.2.2.1, (e7.length * 1 ≤ 140737488351232 ∧ e7.length ≤ 9223372036854775807 ∧ ∀ e2 ∈ e7, True)) ∧ (y.2.2.2.length * 48 ≤ 140737488351232 ∧ y.2.2.2.length ≤ 9223372036854775807 ∧ ∀ e7 ∈ y.2.2.2, ok122 e7)
def ms76 (y : S76) : Nat := 1 + 1 + ((y.2.2.1.map fun x => ((x.map fun x => 1).sum + 1)).sum + 1) + ((y.2.2.2.map ms122).sum + 1) + 1
theorem open76 : Opens Try.prog 76 4 pv76 ok76 ms76 := by
  have h := opens_struct Try.underlying76 (by kernel_rfl) (opensF_cons rfl (opens_int Try.underlying2 (by kernel_rfl)) (opensF_cons rfl (opens_int Try.underlying2 (by kernel_rfl)) (opensF_cons rfl (opens_slice Try.underlying23 (by kernel_rfl) (opens_slice Try.underlying34 (by kernel_rfl) (opens_u8 Try.underlying5 (by kernel_rfl)) (B := 1) (by kernel_rfl) (by decide)) (B := 24) (by kernel_rfl) (by decide)) (opensF_one rfl (opens_slice Try.underlying74 (by kernel_rfl) open122 (B := 48) (by kernel_rfl) (by decide))))))
  exact opens_mono h (fun _ => rfl) (fun _ h => h) (fun _ => by first | exact Nat.le_refl _ | (simp only [ms76]; omega))
abbrev S127 : Type := ByteArray × Int
def pv127 (y : S127) : List PV := [.str y.1] ++ ([.int .i64 y.2])
def ok127 (y : S127) : Prop := y.1.size ≤ 140737488351232 ∧ (Lit.int .i64 y.2).wf = true
def ms127 (y : S127) : Nat := (y.1.size + 1) + 1 + 1
theorem open127 : Opens Try.prog 127 2 pv127 ok127 ms127 := by
  have h := opens_struct Try.underlying127 (by kernel_rfl) (opensF_cons rfl (opens_string Try.underlying9 (by kernel_rfl)) (opensF_one rfl (opens_int Try.underlying3 (by kernel_rfl))))
  exact opens_mono h (fun _ => rfl) (fun _ h => h) (fun _ => by first | exact Nat.le_refl _ | (simp only [ms127]; omega))
abbrev S129 : Type := ByteArray × Int × Int
def pv129 (y : S129) : List PV := [.str y.1] ++ ([.int .i64 y.2.1] ++ ([.int .i64 y.2.2]))
def ok129 (y : S129) : Prop := y.1.size ≤ 140737488351232 ∧ (Lit.int .i64 y.2.1).wf = true ∧ (Lit.int .i64 y.2.2).wf = true
def ms129 (y : S129) : Nat := (y.1.size + 1) + 1 + 1 + 1
theorem open129 : Opens Try.prog 129 3 pv129 ok129 ms129 := by
  have h := opens_struct Try.underlying129 (by kernel_rfl) (opensF_cons rfl (opens_string Try.underlying9 (by kernel_rfl)) (opensF_cons rfl (opens_int Try.underlying2 (by kernel_rfl)) (opensF_one rfl (opens_int Try.underlying3 (by kernel_rfl)))))
  exact opens_mono h (fun _ => rfl) (fun _ h => h) (fun _ => by first | exact Nat.le_refl _ | (simp only [ms129]; omega))
abbrev S189 : Type := ByteArray × (List ByteArray)
def pv189 (y : S189) : List PV := [.str y.1] ++ ([.sl 1 (y.2.map fun x => elOf [.str x])])
def ok189 (y : S189) : Prop := y.1.size ≤ 140737488351232 ∧ (y.2.length * 16 ≤ 140737488351232 ∧ y.2.length ≤ 9223372036854775807 ∧ ∀ e3 ∈ y.2, e3.size ≤ 140737488351232)
def ms189 (y : S189) : Nat := (y.1.size + 1) + ((y.2.map fun x => (x.size + 1)).sum + 1) + 1
theorem open189 : Opens Try.prog 189 2 pv189 ok189 ms189 := by
  have h := opens_struct Try.underlying189 (by kernel_rfl) (opensF_cons rfl (opens_string Try.underlying9 (by kernel_rfl)) (opensF_one rfl (opens_slice Try.underlying29 (by kernel_rfl) (opens_string Try.underlying9 (by kernel_rfl)) (B := 16) (by kernel_rfl) (by decide))))
  exact opens_mono h (fun _ => rfl) (fun _ h => h) (fun _ => by first | exact Nat.le_refl _ | (simp only [ms189]; omega))
abbrev S191 : Type := S189 × Int × Bool
def pv191 (y : S191) : List PV := (pv189 y.1) ++ ([.int .i64 y.2.1] ++ ([.bool y.2.2]))
def ok191 (y : S191) : Prop := ok189 y.1 ∧ (Lit.int .i64 y.2.1).wf = true ∧ True
def ms191 (y : S191) : Nat := ms189 y.1 + 1 + 1 + 1
theorem open191 : Opens Try.prog 191 4 pv191 ok191 ms191 := by
  have h := opens_struct Try.underlying191 (by kernel_rfl) (opensF_cons rfl open189 (opensF_cons rfl (opens_int Try.underlying2 (by kernel_rfl)) (opensF_one rfl (opens_bool Try.underlying4 (by kernel_rfl)))))
  exact opens_mono h (fun _ => rfl) (fun _ h => h) (fun _ => by first | exact Nat.le_refl _ | (simp only [ms191]; omega))
abbrev S193 : Type := ByteArray × (List S31)
def pv193 (y : S193) : List PV := [.str y.1] ++ ([.sl 2 (y.2.map fun x => elOf (pv31 x))])
def ok193 (y : S193) : Prop := y.1.size ≤ 140737488351232 ∧ (y.2.length * 24 ≤ 140737488351232 ∧ y.2.length ≤ 9223372036854775807 ∧ ∀ e3 ∈ y.2, ok31 e3)
def ms193 (y : S193) : Nat := (y.1.size + 1) + ((y.2.map ms31).sum + 1) + 1
theorem open193 : Opens Try.prog 193 2 pv193 ok193 ms193 := by
  have h := opens_struct Try.underlying193 (by kernel_rfl) (opensF_cons rfl (opens_string Try.underlying9 (by kernel_rfl)) (opensF_one rfl (opens_slice Try.underlying49 (by kernel_rfl) open31 (B := 24) (by kernel_rfl) (by decide))))
  exact opens_mono h (fun _ => rfl) (fun _ h => h) (fun _ => by first | exact Nat.le_refl _ | (simp only [ms193]; omega))
abbrev S195 : Type := S31 × Int
def pv195 (y : S195) : List PV := (pv31 y.1) ++ ([.int .i64 y.2])
def ok195 (y : S195) : Prop := ok31 y.1 ∧ (Lit.int .i64 y.2).wf = true
def ms195 (y : S195) : Nat := ms31 y.1 + 1 + 1
theorem open195 : Opens Try.prog 195 3 pv195 ok195 ms195 := by
  have h := opens_struct Try.underlying195 (by kernel_rfl) (opensF_cons rfl open31 (opensF_one rfl (opens_int Try.underlying2 (by kernel_rfl))))
  exact opens_mono h (fun _ => rfl) (fun _ h => h) (fun _ => by first | exact Nat.le_refl _ | (simp only [ms195]; omega))
abbrev S135 : Type := ByteArray × Int × UInt8 × Int × (List S191) × (List S193) × (List S195)
def pv135 (y : S135) : List PV := [.str y.1] ++ ([.int .i64 y.2.1] ++ ([bv y.2.2.1] ++ ([.int .i64 y.2.2.2.1] ++ ([.sl 4 (y.2.2.2.2.1.map fun x => elOf (pv191 x))] ++ ([.sl 2 (y.2.2.2.2.2.1.map fun x => elOf (pv193 x))] ++ ([.sl 3 (y.2.2.2.2.2.2.map fun x => elOf (pv195 x))]))))))
def ok135 (y : S135) : Prop := y.1.size ≤ 140737488351232 ∧ (Lit.int .i64 y.2.1).wf = true ∧ True ∧ (Lit.int .i64 y.2.2.2.1).wf = true ∧ (y.2.2.2.2.1.length * 56 ≤ 140737488351232 ∧ y.2.2.2.2.1.length ≤ 9223372036854775807 ∧ ∀ e11 ∈ y.2.2.2.2.1, ok191 e11) ∧ (y.2.2.2.2.2.1.length * 40 ≤ 140737488351232 ∧ y.2.2.2.2.2.1.length ≤ 9223372036854775807 ∧ ∀ e13 ∈ y.2.2.2.2.2.1, ok193 e13) ∧ (y.2.2.2.2.2.2.length * 32 ≤ 140737488351232 ∧ y.2.2.2.2.2.2.length ≤ 9223372036854775807 ∧ ∀ e13 ∈ y.2.2.2.2.2.2, ok195 e13)
def ms135 (y : S135) : Nat := (y.1.size + 1) + 1 + 1 + 1 + ((y.2.2.2.2.1.map ms191).sum + 1) + ((y.2.2.2.2.2.1.map ms193).sum + 1) + ((y.2.2.2.2.2.2.map ms195).sum + 1) + 1
theorem open135 : Opens Try.prog 135 7 pv135 ok135 ms135 := by
  have h := opens_struct Try.underlying135 (by kernel_rfl) (opensF_cons rfl (opens_string Try.underlying9 (by kernel_rfl)) (opensF_cons rfl (opens_int Try.underlying3 (by kernel_rfl)) (opensF_cons rfl (opens_u8 Try.underlying48 (by kernel_rfl)) (opensF_cons rfl (opens_int Try.underlying2 (by kernel_rfl)) (opensF_cons rfl (opens_slice Try.underlying131 (by kernel_rfl) open191 (B := 56) (by kernel_rfl) (by decide)) (opensF_cons rfl (opens_slice Try.underlying132 (by kernel_rfl) open193 (B := 40) (by kernel_rfl) (by decide)) (opensF_one rfl (opens_slice Try.underlying133 (by kernel_rfl) open195 (B := 32) (by kernel_rfl) (by decide)))))))))
  exact opens_mono h (fun _ => rfl) (fun _ h => h) (fun _ => by first | exact Nat.le_refl _ | (simp only [ms135]; omega))
abbrev S140 : Type := Int × S51
def pv140 (y : S140) : List PV := [.int .i64 y.1] ++ ((pv51 y.2))
def ok140 (y : S140) : Prop := (Lit.int .i64 y.1).wf = true ∧ ok51 y.2
def ms140 (y : S140) : Nat := 1 + ms51 y.2 + 1
theorem open140 : Opens Try.prog 140 7 pv140 ok140 ms140 := by
  have h := opens_struct Try.underlying140 (by kernel_rfl) (opensF_cons rfl (opens_int Try.underlying3 (by kernel_rfl)) (opensF_one rfl open51))
  exact opens_mono h (fun _ => rfl) (fun _ h => h) (fun _ => by first | exact Nat.le_refl _ | (simp only [ms140]; omega))
abbrev S138 : Type := Int × Int × (List S140)
def pv138 (y : S138) : List PV := [.int .i64 y.1] ++ ([.int .i64 y.2.1] ++ ([.sl 7 (y.2.2.map fun x => elOf (pv140 x))]))
def ok138 (y : S138) : Prop := (Lit.int .i64 y.1).wf = true ∧ (Lit.int .i64 y.2.1).wf = true ∧ (y.2.2.length * 72 ≤ 140737488351232 ∧ y.2.2.length ≤ 9223372036854775807 ∧ ∀ e5 ∈ y.2.2, ok140 e5)
def ms138 (y : S138) : Nat := 1 + 1 + ((y.2.2.map ms140).sum + 1) + 1
theorem open138 : Opens Try.prog 138 3 pv138 ok138 ms138 := by
  have h := opens_struct Try.underlying138 (by kernel_rfl) (opensF_cons rfl (opens_int Try.underlying3 (by kernel_rfl)) (opensF_cons rfl (opens_int Try.underlying3 (by kernel_rfl)) (opensF_one rfl (opens_slice Try.underlying136 (by kernel_rfl) open140 (B := 72) (by kernel_rfl) (by decide)))))
  exact opens_mono h (fun _ => rfl) (fun _ h => h) (fun _ => by first | exact Nat.le_refl _ | (simp only [ms138]; omega))
abbrev S87 : Type := Int × (List S127) × (List S129) × (List S135) × (List S138)
def pv87 (y : S87) : List PV := [.int .i64 y.1] ++ ([.sl 2 (y.2.1.map fun x => elOf (pv127 x))] ++ ([.sl 3 (y.2.2.1.map fun x => elOf (pv129 x))] ++ ([.sl 7 (y.2.2.2.1.map fun x => elOf (pv135 x))] ++ ([.sl 3 (y.2.2.2.2.map fun x => elOf (pv138 x))]))))
def ok87 (y : S87) : Prop := (Lit.int .i64 y.1).wf = true ∧ (y.2.1.length * 24 ≤ 140737488351232 ∧ y.2.1.length ≤ 9223372036854775807 ∧ ∀ e5 ∈ y.2.1, ok127 e5) ∧ (y.2.2.1.length * 32 ≤ 140737488351232 ∧ y.2.2.1.length ≤ 9223372036854775807 ∧ ∀ e7 ∈ y.2.2.1, ok129 e7) ∧ (y.2.2.2.1.length * 112 ≤ 140737488351232 ∧ y.2.2.2.1.length ≤ 9223372036854775807 ∧ ∀ e9 ∈ y.2.2.2.1, ok135 e9) ∧ (y.2.2.2.2.length * 40 ≤ 140737488351232 ∧ y.2.2.2.2.length ≤ 9223372036854775807 ∧ ∀ e9 ∈ y.2.2.2.2, ok138 e9)
def ms87 (y : S87) : Nat := 1 + ((y.2.1.map ms127).sum + 1) + ((y.2.2.1.map ms129).sum + 1) + ((y.2.2.2.1.map ms135).sum + 1) + ((y.2.2.2.2.map ms138).sum + 1) + 1
theorem open87 : Opens Try.prog 87 5 pv87 ok87 ms87 := by
  have h := opens_struct Try.underlying87 (by kernel_rfl) (opensF_cons rfl (opens_int Try.underlying2 (by kernel_rfl)) (opensF_cons rfl (opens_slice Try.underlying82 (by kernel_rfl) open127 (B := 24) (by kernel_rfl) (by decide)) (opensF_cons rfl (opens_slice Try.underlying83 (by kernel_rfl) open129 (B := 32) (by kernel_rfl) (by decide)) (opensF_cons rfl (opens_slice Try.underlying84 (by kernel_rfl) open135 (B := 112) (by kernel_rfl) (by decide)) (opensF_one rfl (opens_slice Try.underlying85 (by kernel_rfl) open138 (B := 40) (by kernel_rfl) (by decide)))))))
  exact opens_mono h (fun _ => rfl) (fun _ h => h) (fun _ => by first | exact Nat.le_refl _ | (simp only [ms87]; omega))
abbrev lawWireCommands : Ctr := ⟨S27 × S33, 0, fun x => [.agg ((pv27 x.1).map avOf), .agg ((pv33 x.2).map avOf)], fun _ => [], fun x => (ok27 x.1) ∧ (ok33 x.2), fun _ => isB true, fun _ => []⟩
abbrev lawWireCommandsU : Ctr := ⟨S27 × S33, 0, fun x => [.agg ((pv27 x.1).map avOf), .agg ((pv33 x.2).map avOf)], fun _ => [], fun x => (ok27 x.1) ∧ (ok33 x.2) ∧ ms27 x.1 + ms33 x.2 ≤ 1048576, fun _ => isB true, fun _ => []⟩
abbrev lawWireCalls : Ctr := ⟨S47 × S53 × S57, 0, fun x => [.agg ((pv47 x.1).map avOf), .agg ((pv53 x.2.1).map avOf), .agg ((pv57 x.2.2).map avOf)], fun _ => [], fun x => (ok47 x.1) ∧ (ok53 x.2.1) ∧ (ok57 x.2.2), fun _ => isB true, fun _ => []⟩
abbrev lawWireCallsU : Ctr := ⟨S47 × S53 × S57, 0, fun x => [.agg ((pv47 x.1).map avOf), .agg ((pv53 x.2.1).map avOf), .agg ((pv57 x.2.2).map avOf)], fun _ => [], fun x => (ok47 x.1) ∧ (ok53 x.2.1) ∧ (ok57 x.2.2) ∧ ms47 x.1 + ms53 x.2.1 + ms57 x.2.2 ≤ 1048576, fun _ => isB true, fun _ => []⟩
abbrev lawWireStates : Ctr := ⟨S76 × S87, 0, fun x => [.agg ((pv76 x.1).map avOf), .agg ((pv87 x.2).map avOf)], fun _ => [], fun x => (ok76 x.1) ∧ (ok87 x.2), fun _ => isB true, fun _ => []⟩
abbrev lawWireStatesU : Ctr := ⟨S76 × S87, 0, fun x => [.agg ((pv76 x.1).map avOf), .agg ((pv87 x.2).map avOf)], fun _ => [], fun x => (ok76 x.1) ∧ (ok87 x.2) ∧ ms76 x.1 + ms87 x.2 ≤ 1048576, fun _ => isB true, fun _ => []⟩
abbrev lawWireNumbers : Ctr := ⟨Unit, 0, fun x => [], fun _ => [], fun x => True, fun _ => isB true, fun _ => []⟩
abbrev lawWireNumbersU : Ctr := ⟨Unit, 0, fun x => [], fun _ => [], fun x => 0 ≤ 1048576, fun _ => isB true, fun _ => []⟩
end Go.Proofs.Ytingmlhhabaplaa.Ev
