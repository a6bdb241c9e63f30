/- Closed facts of the row of CkptDrops, part 4. -/
import Derived.Test.YtpjekppljaekoaaGreatDoorKD14
import Derived.SevenTiedAt
namespace Go.Proofs.YtpjekppljaekoaaGreatDoor
open Go Go.RowKit Go.ChangeShapes Go.WideShapes Go.ChangeAt
theorem drops_varsNamed : Tryz.prog.varsNamed 6 = Rows.ckptDropsRow.named := by kernel_rfl
end Go.Proofs.YtpjekppljaekoaaGreatDoor
