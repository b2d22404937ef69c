/- Structs among the laws' arguments, and what the laws are to answer. No conditions. -/
import Derived.Test.YtpoladincbkgiaaEvLaw
import Derived.Test.YtpoladincbkgiaaProg
namespace Go.Proofs.Ytpoladincbkgiaa.Ev
open Go Go.ChangeShapes Go.WideShapes
set_option maxRecDepth 100000
set_option linter.unusedVariables false
abbrev S68 : Type := Int × (List UInt8)
def pv68 (y : S68) : List PV := [.int .i64 y.1] ++ ([.sl 1 (bl y.2)])
def ok68 (y : S68) : Prop := (Lit.int .i64 y.1).wf = true ∧ (y.2.length * 1 ≤ 140737488351232 ∧ y.2.length ≤ 9223372036854775807 ∧ ∀ e3 ∈ y.2, True)
def ms68 (y : S68) : Nat := 1 + ((y.2.map fun x => 1).sum + 1) + 1
theorem open68 : Opens Try.prog 68 2 pv68 ok68 ms68 := by
  have h := opens_struct Try.underlying68 (by kernel_rfl) (opensF_cons rfl (opens_int Try.underlying3 (by kernel_rfl)) (opensF_one rfl (opens_slice Try.underlying26 (by kernel_rfl) (opens_u8 Try.underlying5 (by kernel_rfl)) (B := 1) (by kernel_rfl) (by decide))))
  exact opens_mono h (fun _ => rfl) (fun _ h => h) (fun _ => by first | exact Nat.le_refl _ | (simp only [ms68]; omega))
abbrev S28 : Type := ByteArray × UInt8 × Int × Int × Int × Int × Int × Int × Int × Bool × (List S68) × (List UInt8)
def pv28 (y : S28) : List PV := [.str y.1] ++ ([bv y.2.1] ++ ([.int .i64 y.2.2.1] ++ ([.int .i64 y.2.2.2.1] ++ ([.int .i64 y.2.2.2.2.1] ++ ([.int .i64 y.2.2.2.2.2.1] ++ ([.int .i64 y.2.2.2.2.2.2.1] ++ ([.int .i64 y.2.2.2.2.2.2.2.1] ++ ([.int .i64 y.2.2.2.2.2.2.2.2.1] ++ ([.bool y.2.2.2.2.2.2.2.2.2.1] ++ ([.sl 2 (y.2.2.2.2.2.2.2.2.2.2.1.map fun x => elOf (pv68 x))] ++ ([.sl 1 (bl y.2.2.2.2.2.2.2.2.2.2.2)])))))))))))
def ok28 (y : S28) : Prop := y.1.size ≤ 140737488351232 ∧ True ∧ (Lit.int .i64 y.2.2.1).wf = true ∧ (Lit.int .i64 y.2.2.2.1).wf = true ∧ (Lit.int .i64 y.2.2.2.2.1).wf = true ∧ (Lit.int .i64 y.2.2.2.2.2.1).wf = true ∧ (Lit.int .i64 y.2.2.2.2.2.2.1).wf = true ∧ (Lit.int .i64 y.2.2.2.2.2.2.2.1).wf = true ∧ (Lit.int .i64 y.2.2.2.2.2.2.2.2.1).wf = true ∧ True ∧ (y.2.2.2.2.2.2.2.2.2.2.1.length * 32 ≤ 140737488351232 ∧ y.2.2.2.2.2.2.2.2.2.2.1.length ≤ 9223372036854775807 ∧ ∀ e23 ∈ y.2.2.2.2.2.2.2.2.2.2.1, ok68 e23) ∧ (y.2.2.2.2.2.2.2.2.2.2.2.length * 1 ≤ 140737488351232 ∧ y.2.2.2.2.2.2.2.2.2.2.2.length ≤ 9223372036854775807 ∧ ∀ e23 ∈ y.2.2.2.2.2.2.2.2.2.2.2, True)
def ms28 (y : S28) : Nat := (y.1.size + 1) + 1 + 1 + 1 + 1 + 1 + 1 + 1 + 1 + 1 + ((y.2.2.2.2.2.2.2.2.2.2.1.map ms68).sum + 1) + ((y.2.2.2.2.2.2.2.2.2.2.2.map fun x => 1).sum + 1) + 1
theorem open28 : Opens Try.prog 28 12 pv28 ok28 ms28 := by
  have h := opens_struct Try.underlying28 (by kernel_rfl) (opensF_cons rfl (opens_string Try.underlying9 (by kernel_rfl)) (opensF_cons rfl (opens_u8 Try.underlying24 (by kernel_rfl)) (opensF_cons rfl (opens_int Try.underlying3 (by kernel_rfl)) (opensF_cons rfl (opens_int Try.underlying3 (by kernel_rfl)) (opensF_cons rfl (opens_int Try.underlying3 (by kernel_rfl)) (opensF_cons rfl (opens_int Try.underlying3 (by kernel_rfl)) (opensF_cons rfl (opens_int Try.underlying3 (by kernel_rfl)) (opensF_cons rfl (opens_int Try.underlying3 (by kernel_rfl)) (opensF_cons rfl (opens_int Try.underlying3 (by kernel_rfl)) (opensF_cons rfl (opens_bool Try.underlying4 (by kernel_rfl)) (opensF_cons rfl (opens_slice Try.underlying25 (by kernel_rfl) open68 (B := 32) (by kernel_rfl) (by decide)) (opensF_one rfl (opens_slice Try.underlying26 (by kernel_rfl) (opens_u8 Try.underlying5 (by kernel_rfl)) (B := 1) (by kernel_rfl) (by decide))))))))))))))
  exact opens_mono h (fun _ => rfl) (fun _ h => h) (fun _ => by first | exact Nat.le_refl _ | (simp only [ms28]; omega))
abbrev lawBallotOnce : Ctr := ⟨Int × Int × (List S28), 0, fun x => [.p true (.int .i64 x.1), .p true (.int .i64 x.2.1), .p false (.sl 12 (x.2.2.map fun x => elOf (pv28 x)))], fun _ => [], fun x => ((Lit.int .i64 x.1).wf = true) ∧ ((Lit.int .i64 x.2.1).wf = true) ∧ ((x.2.2.length * 136 ≤ 140737488351232 ∧ x.2.2.length ≤ 9223372036854775807 ∧ ∀ e5 ∈ x.2.2, ok28 e5)), fun _ => isB true, fun _ => []⟩
abbrev lawBallotOnceU : Ctr := ⟨Int × Int × (List S28), 0, fun x => [.p true (.int .i64 x.1), .p true (.int .i64 x.2.1), .p false (.sl 12 (x.2.2.map fun x => elOf (pv28 x)))], fun _ => [], fun x => ((Lit.int .i64 x.1).wf = true) ∧ ((Lit.int .i64 x.2.1).wf = true) ∧ ((x.2.2.length * 136 ≤ 140737488351232 ∧ x.2.2.length ≤ 9223372036854775807 ∧ ∀ e5 ∈ x.2.2, ok28 e5)) ∧ 1 + 1 + ((x.2.2.map ms28).sum + 1) ≤ 1048576, fun _ => isB true, fun _ => []⟩
end Go.Proofs.Ytpoladincbkgiaa.Ev
