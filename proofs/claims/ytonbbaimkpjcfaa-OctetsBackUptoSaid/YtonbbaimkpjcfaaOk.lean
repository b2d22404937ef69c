/- Structs among the arguments: what reads as data is of the printed kinds, its numbers are of their types, its rows are no longer than they may be. No conditions. -/
import Derived.Test.YtonbbaimkpjcfaaMx0
import Derived.Test.YtonbbaimkpjcfaaOpens
namespace Go.Proofs.Ytonbbaimkpjcfaa.Ok
open Go.RowKit Go.Proofs.YtonbbaimkpjcfaaW.PrintWords Go.Proofs.Ytonbbaimkpjcfaa.Opens Go.Proofs.Ytonbbaimkpjcfaa
set_option maxRecDepth 100000
end Go.Proofs.Ytonbbaimkpjcfaa.Ok
