/- Closed facts of the row of CkptAgain, part 2. -/
import Derived.Test.YtpjekppljaekoaaGreatDoorKA14
import Derived.SevenTiedAt
namespace Go.Proofs.YtpjekppljaekoaaGreatDoor
open Go Go.RowKit Go.ChangeShapes Go.WideShapes Go.ChangeAt
theorem again_unfollowed : Tryz.prog.unfollowed 5 = true := by kernel_rfl
end Go.Proofs.YtpjekppljaekoaaGreatDoor
