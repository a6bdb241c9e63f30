/- Closed facts of the row of CkptAgain, part 4. -/
import Derived.Test.YtpjekppljaekoaaGreatDoorKA14
import Derived.SevenTiedAt
namespace Go.Proofs.YtpjekppljaekoaaGreatDoor
open Go Go.RowKit Go.ChangeShapes Go.WideShapes Go.ChangeAt
theorem again_varsNamed : Tryz.prog.varsNamed 5 = Rows.ckptAgainRow.named := by kernel_rfl
end Go.Proofs.YtpjekppljaekoaaGreatDoor
