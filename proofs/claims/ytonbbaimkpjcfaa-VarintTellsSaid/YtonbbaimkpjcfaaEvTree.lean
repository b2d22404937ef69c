/- The table of types in which lists of lists own their lists; ApartBytes among the known functions. No conditions. -/
import Derived.Test.YtonbbaimkpjcfaaEvBase
import Derived.Test.YtonbbaimkpjcfaaEvApart
namespace Go.Proofs.Ytonbbaimkpjcfaa.Ev
open Go
def tabT : Tab := (59, ⟨.slice 23, 1, 24, [.nilsl], [(0, .slice 5)]⟩) :: tab
theorem tabOk_T : tabOk Try.prog tabT = true := by kernel_rfl
theorem apart_gam {g : List (FuncId × Ctr)} (h : GamOk Try.prog g) : GamOk Try.prog ((42, Apart.cApart) :: g) := GamOk.cons h Try.func42 (by kernel_rfl) (by kernel_rfl) Apart.apart_sound
end Go.Proofs.Ytonbbaimkpjcfaa.Ev
