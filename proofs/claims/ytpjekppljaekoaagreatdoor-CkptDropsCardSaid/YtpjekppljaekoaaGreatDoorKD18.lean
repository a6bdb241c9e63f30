/- Closed facts of the row of CkptDrops, part 3. -/
import Derived.Test.YtpjekppljaekoaaGreatDoorKD14
import Derived.SevenTiedAt
namespace Go.Proofs.YtpjekppljaekoaaGreatDoor
open Go Go.RowKit Go.ChangeShapes Go.WideShapes Go.ChangeAt
theorem drops_recurses : Tryz.prog.recurses 6 = true := by kernel_rfl
end Go.Proofs.YtpjekppljaekoaaGreatDoor
