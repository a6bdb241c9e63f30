/- Closed facts of the row of CkptDrops, part 5. -/
import Derived.Test.YtpjekppljaekoaaGreatDoorKD14
import Derived.SevenTiedAt
namespace Go.Proofs.YtpjekppljaekoaaGreatDoor
open Go Go.RowKit Go.ChangeShapes Go.WideShapes Go.ChangeAt
theorem drops_wf : Rows.ckptDropsRow.wfByText (OpenSpec.ofChange Rows.ckptDropsSpec) = true := by kernel_rfl
theorem drops_goes : false = Rows.ckptDropsRow.goesBy Tryz.prog := by kernel_rfl
end Go.Proofs.YtpjekppljaekoaaGreatDoor
