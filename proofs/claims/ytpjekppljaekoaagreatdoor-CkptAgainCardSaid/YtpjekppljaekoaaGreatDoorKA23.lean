/- The world that start-up leaves meets the checkpoints' statements' list. -/
import Derived.Test.YtpjekppljaekoaaGreatDoorKA14
import Derived.LaidMore
namespace Go.Proofs.YtpjekppljaekoaaGreatDoor
open Go Go.RowKit
theorem door_met (os : Os) (args : Array Value) : laidMetH Tryz.prog laid5 ((World.doorLaid Tryz.prog 67 os).forCall (fun _ _ => 0) ⟨#[], args, []⟩).memory :=
  laidMetH_of_parts3 (fuel := 8) (laidMet_of_run' 8 (by kernel_rfl) (by kernel_rfl)) (by kernel_rfl) (by kernel_rfl)
end Go.Proofs.YtpjekppljaekoaaGreatDoor
