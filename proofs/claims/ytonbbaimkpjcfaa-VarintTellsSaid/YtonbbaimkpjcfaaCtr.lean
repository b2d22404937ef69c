/- Structs among the laws' arguments, and what the laws are to answer. No conditions. -/
import Derived.Test.YtonbbaimkpjcfaaEvLaw
import Derived.Test.YtonbbaimkpjcfaaProg
namespace Go.Proofs.Ytonbbaimkpjcfaa.Ev
open Go Go.ChangeShapes Go.WideShapes
set_option maxRecDepth 100000
set_option linter.unusedVariables false
abbrev lawVarintTells : Ctr := ⟨(List UInt8) × Int × Int, 0, fun x => [.p false (.sl 1 (bl x.1)), .p true (.int .i64 x.2.1), .p true (.int .u64 x.2.2)], fun _ => [], fun x => ((x.1.length * 1 ≤ 140737488351232 ∧ x.1.length ≤ 9223372036854775807 ∧ ∀ e3 ∈ x.1, True)) ∧ ((Lit.int .i64 x.2.1).wf = true) ∧ ((Lit.int .u64 x.2.2).wf = true), fun _ => isB true, fun _ => []⟩
abbrev lawVarintTellsU : Ctr := ⟨(List UInt8) × Int × Int, 0, fun x => [.p false (.sl 1 (bl x.1)), .p true (.int .i64 x.2.1), .p true (.int .u64 x.2.2)], fun _ => [], fun x => ((x.1.length * 1 ≤ 140737488351232 ∧ x.1.length ≤ 9223372036854775807 ∧ ∀ e3 ∈ x.1, True)) ∧ ((Lit.int .i64 x.2.1).wf = true) ∧ ((Lit.int .u64 x.2.2).wf = true) ∧ ((x.1.map fun x => 1).sum + 1) + 1 + 1 ≤ 1048576, fun _ => isB true, fun _ => []⟩
end Go.Proofs.Ytonbbaimkpjcfaa.Ev
