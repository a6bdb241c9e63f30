/- A closed fact of the program, for the cards. -/
import Derived.Test.YtpjekppljaekoaaGreatDoorKA14
import Derived.SevenTiedAt
namespace Go.Proofs.YtpjekppljaekoaaGreatDoor
open Go Go.RowKit
theorem looks_on : true = Tryz.prog.looks [] := by kernel_rfl
end Go.Proofs.YtpjekppljaekoaaGreatDoor
