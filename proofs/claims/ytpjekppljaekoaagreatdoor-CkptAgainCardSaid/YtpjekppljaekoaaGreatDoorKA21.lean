/- Closed facts of the row of CkptAgain, part 5. -/
import Derived.Test.YtpjekppljaekoaaGreatDoorKA14
import Derived.SevenTiedAt
namespace Go.Proofs.YtpjekppljaekoaaGreatDoor
open Go Go.RowKit Go.ChangeShapes Go.WideShapes Go.ChangeAt
theorem again_wf : Rows.ckptAgainRow.wfByText (OpenSpec.ofChange Rows.ckptAgainSpec) = true := by kernel_rfl
theorem again_goes : false = Rows.ckptAgainRow.goesBy Tryz.prog := by kernel_rfl
end Go.Proofs.YtpjekppljaekoaaGreatDoor
