/- The fixed examples of the chapter on sums come out as written: SumsNumbers answers true. No conditions. -/
import Derived.Test.YtpoladincbkgiaaMx11
namespace Go.Proofs.Ytpoladincbkgiaa.Pure
open Go.RowKit Go.Proofs.Ytpoladincbkgiaa.M Go.Proofs.YtpoladincbkgiaaW.PrintWords Go.Proofs.YtpoladincbkgiaaW.PrintLast

theorem SumsNumbers : conduitlaw02_SumsNumbers.Pure :=
  ⟨by decide +kernel, by decide +kernel, by decide +kernel, ⟨40, [0, 0, 0, 0, 0, 0, 0, 0, 0, 0, 0, 0, 0, 0, 0, 0, 0, 0, 0, 0, 0, 0, 0, 0, 0, 0, 0, 0, 0, 0, 0, 0], by decide +kernel, by decide +kernel⟩, ⟨40, [255, 255, 255, 255, 255, 255, 255, 255, 255, 255, 255, 255, 255, 255, 255, 255, 255, 255, 255, 255, 255, 255, 255, 255, 255, 255, 255, 255, 255, 255, 255, 255], by decide +kernel, by decide +kernel⟩, ⟨40, [0, 1, 2, 3, 4, 5, 6, 7, 8, 9, 10, 11, 12, 13, 14, 15, 16, 17, 18, 19, 20, 21, 22, 23, 24, 25, 26, 27, 28, 29, 30, 31], by decide +kernel, by decide +kernel⟩, by decide +kernel⟩

end Go.Proofs.Ytpoladincbkgiaa.Pure
