/- Structs among the arguments: what reads as data is of the printed kinds, its numbers are of their types, its rows are no longer than they may be. No conditions. -/
import Derived.Test.YtpoladincbkgiaaMx0
import Derived.Test.YtpoladincbkgiaaOpens
namespace Go.Proofs.Ytpoladincbkgiaa.Ok
open Go.RowKit Go.Proofs.YtpoladincbkgiaaW.PrintWords Go.Proofs.Ytpoladincbkgiaa.Opens Go.Proofs.Ytpoladincbkgiaa
set_option maxRecDepth 100000
def ok68 (y : M.S68) : Prop := (Lit.int .i64 y.f0).wf = true ∧ (y.f1.length * 1 ≤ 140737488351232 ∧ y.f1.length ≤ 9223372036854775807 ∧ ∀ x ∈ y.f1, (Lit.int .u8 x).wf = true)
theorem open68 : Opens Try.prog 68 M.k68 ok68 := by
  refine opens_mono (opens_iso (opens_struct Try.underlying68 (by kernel_rfl) (opensF_cons rfl (opens_int Try.underlying3 (by kernel_rfl)) (opensF_one rfl (opens_slice Try.underlying26 (by kernel_rfl) (opens_int Try.underlying5 (by kernel_rfl)) (B := 1) (by kernel_rfl))))) (fun x : M.S68 => (x.f0, x.f1)) (fun y => ⟨y.1, y.2⟩) (fun _ => rfl)) ?_
  intro _ h
  exact h
def ok28 (y : M.S28) : Prop := y.f0.size ≤ 140737488351232 ∧ (Lit.int .u8 y.f1).wf = true ∧ (Lit.int .i64 y.f2).wf = true ∧ (Lit.int .i64 y.f3).wf = true ∧ (Lit.int .i64 y.f4).wf = true ∧ (Lit.int .i64 y.f5).wf = true ∧ (Lit.int .i64 y.f6).wf = true ∧ (Lit.int .i64 y.f7).wf = true ∧ (Lit.int .i64 y.f8).wf = true ∧ True ∧ (y.f10.length * 32 ≤ 140737488351232 ∧ y.f10.length ≤ 9223372036854775807 ∧ ∀ x ∈ y.f10, Ok.ok68 x) ∧ (y.f11.length * 1 ≤ 140737488351232 ∧ y.f11.length ≤ 9223372036854775807 ∧ ∀ x ∈ y.f11, (Lit.int .u8 x).wf = true)
theorem open28 : Opens Try.prog 28 M.k28 ok28 := by
  refine opens_mono (opens_iso (opens_struct Try.underlying28 (by kernel_rfl) (opensF_cons rfl (opens_string Try.underlying9 (by kernel_rfl)) (opensF_cons rfl (opens_int Try.underlying24 (by kernel_rfl)) (opensF_cons rfl (opens_int Try.underlying3 (by kernel_rfl)) (opensF_cons rfl (opens_int Try.underlying3 (by kernel_rfl)) (opensF_cons rfl (opens_int Try.underlying3 (by kernel_rfl)) (opensF_cons rfl (opens_int Try.underlying3 (by kernel_rfl)) (opensF_cons rfl (opens_int Try.underlying3 (by kernel_rfl)) (opensF_cons rfl (opens_int Try.underlying3 (by kernel_rfl)) (opensF_cons rfl (opens_int Try.underlying3 (by kernel_rfl)) (opensF_cons rfl (opens_bool Try.underlying4 (by kernel_rfl)) (opensF_cons rfl (opens_slice Try.underlying25 (by kernel_rfl) open68 (B := 32) (by kernel_rfl)) (opensF_one rfl (opens_slice Try.underlying26 (by kernel_rfl) (opens_int Try.underlying5 (by kernel_rfl)) (B := 1) (by kernel_rfl))))))))))))))) (fun x : M.S28 => (x.f0, x.f1, x.f2, x.f3, x.f4, x.f5, x.f6, x.f7, x.f8, x.f9, x.f10, x.f11)) (fun y => ⟨y.1, y.2.1, y.2.2.1, y.2.2.2.1, y.2.2.2.2.1, y.2.2.2.2.2.1, y.2.2.2.2.2.2.1, y.2.2.2.2.2.2.2.1, y.2.2.2.2.2.2.2.2.1, y.2.2.2.2.2.2.2.2.2.1, y.2.2.2.2.2.2.2.2.2.2.1, y.2.2.2.2.2.2.2.2.2.2.2⟩) (fun _ => rfl)) ?_
  intro _ h
  exact h
end Go.Proofs.Ytpoladincbkgiaa.Ok
