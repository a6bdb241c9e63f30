/- Closed facts of the row of CkptAgain, part 1. -/
import Derived.Test.YtpjekppljaekoaaGreatDoorKA14
import Derived.SevenTiedAt
namespace Go.Proofs.YtpjekppljaekoaaGreatDoor
open Go Go.RowKit Go.ChangeShapes Go.WideShapes Go.ChangeAt
theorem again_inPlace : Tryz.prog.inPlace 5 = Rows.ckptAgainRow.inPlace := by kernel_rfl
theorem again_named : Tryz.prog.funcNamed "treadwheel/treadwheellaw19.CkptAgain" = some 5 := by kernel_rfl
end Go.Proofs.YtpjekppljaekoaaGreatDoor
