/- The fixed examples of the chapter on ballots come out as written: BallotNumbers answers true. No conditions. -/
import Derived.Test.YtpoladincbkgiaaMBallotNumbersx1
namespace Go.Proofs.Ytpoladincbkgiaa.Pure
open Go.RowKit Go.Proofs.Ytpoladincbkgiaa.MBallotNumbers Go.Proofs.YtpoladincbkgiaaW.PrintWords Go.Proofs.YtpoladincbkgiaaW.PrintLast

/-- YOURS: ∃ k, conduitlaw20_BallotNumbers.f k  = some true
What it reaches (each with k first where it has rounds; `.mono`: more rounds tell the same; `.l0`, ..: its loops, with `.mono_l`): ballot_Newer.f, ballot_Vote.f, conduitlaw20_asks.f, conduitlaw20_awake.f, ballot_Majority.f, ballot_Timeout.f, conduitlaw20_BallotNumbers.f -/
theorem BallotNumbers : conduitlaw20_BallotNumbers.Pure := by
  exact ⟨5, by decide +kernel⟩

end Go.Proofs.Ytpoladincbkgiaa.Pure
