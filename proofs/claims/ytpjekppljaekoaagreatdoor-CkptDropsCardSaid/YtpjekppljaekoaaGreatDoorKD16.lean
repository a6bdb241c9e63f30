/- Closed facts of the row of CkptDrops, part 1. -/
import Derived.Test.YtpjekppljaekoaaGreatDoorKD14
import Derived.SevenTiedAt
namespace Go.Proofs.YtpjekppljaekoaaGreatDoor
open Go Go.RowKit Go.ChangeShapes Go.WideShapes Go.ChangeAt
theorem drops_inPlace : Tryz.prog.inPlace 6 = Rows.ckptDropsRow.inPlace := by kernel_rfl
theorem drops_named : Tryz.prog.funcNamed "treadwheel/treadwheellaw19.CkptDrops" = some 6 := by kernel_rfl
end Go.Proofs.YtpjekppljaekoaaGreatDoor
