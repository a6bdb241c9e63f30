/-
  DERIVED. GIVEN WITH THE SEED: THE CARDS: each row of YtpjekppljaekoaaGreatDoorRows.lean that lists a variable, with what it lists TIED to the program's text (the seventh form; the later family's looks); each row that meets fmt, with fmt's text TOLD by the authors' own Lean function (tested against real Go, not proved from fmt's source: count such statements apart). THE CARD IS WHAT COUNTS. Prove the row's statement (the work); the ties are given (YtpjekppljaekoaaGreatDoorTie.lean); close each card by the builder's one call (the guide's Derived/Test/ToyasCard.lean, 'card_holds'). Laid BY PROGRAM, IN A SANDBOX (cutbox-door.mjs). By AI agents, Wed Nov 11 2026. No macro, syntax, notation, axiom, sorry.
-/
import Derived.Test.YtpjekppljaekoaaGreatDoorRows
import GoSem.ClaimSeven
namespace Go.Proofs.YtpjekppljaekoaaGreatDoor
namespace Rows

/-- THE TIED CARD OF 'treadwheellaw24.MasterAlike'. -/
def masterAlikeCard : Claim7 := { stood := { row := masterAlikeRow, standIns := [], harness := (true, "db958443d00a4f9ac8b9b0340ad5cd635faa7da403e61d31589e12118e507bde"), looks := true }, kinds := [], alts := [], laidByText := true, laidKinds := [.data, .data, .data, .data], laidTests := true, laidLooks := .later }
def MasterAlikeCardSaid : Prop := Claim7.holds Tryz.pinned (.plain (OpenSpec.ofChange masterAlikeSpec)) masterAlikeCard

/-- THE TIED CARD OF 'treadwheellaw24.MasterFollows'. -/
def masterFollowsCard : Claim7 := { stood := { row := masterFollowsRow, standIns := [], harness := (true, "db958443d00a4f9ac8b9b0340ad5cd635faa7da403e61d31589e12118e507bde"), looks := true }, kinds := [], alts := [], laidByText := true, laidKinds := [.data, .data, .data, .data], laidTests := true, laidLooks := .later }
def MasterFollowsCardSaid : Prop := Claim7.holds Tryz.pinned (.plain (OpenSpec.ofChange masterFollowsSpec)) masterFollowsCard

/-- THE TIED CARD OF 'treadwheellaw19.CkptAgain'. -/
def ckptAgainCard : Claim7 := { stood := { row := ckptAgainRow, standIns := [], harness := (true, "db958443d00a4f9ac8b9b0340ad5cd635faa7da403e61d31589e12118e507bde"), looks := true }, kinds := [], alts := [], laidByText := true, laidKinds := [.data, .data, .data, .sentinel, .sentinel], laidTests := true, laidLooks := .later }
def CkptAgainCardSaid : Prop := Claim7.holds Tryz.pinned (.plain (OpenSpec.ofChange ckptAgainSpec)) ckptAgainCard

/-- THE TIED CARD OF 'treadwheellaw19.CkptDrops'. -/
def ckptDropsCard : Claim7 := { stood := { row := ckptDropsRow, standIns := [], harness := (true, "db958443d00a4f9ac8b9b0340ad5cd635faa7da403e61d31589e12118e507bde"), looks := true }, kinds := [], alts := [], laidByText := true, laidKinds := [.data, .data, .data, .sentinel, .sentinel], laidTests := true, laidLooks := .later }
def CkptDropsCardSaid : Prop := Claim7.holds Tryz.pinned (.plain (OpenSpec.ofChange ckptDropsSpec)) ckptDropsCard

/-- THE TIED CARD OF 'treadwheellaw24.MasterKnown'. -/
def masterKnownCard : Claim7 := { stood := { row := masterKnownRow, standIns := [], harness := (true, "db958443d00a4f9ac8b9b0340ad5cd635faa7da403e61d31589e12118e507bde"), looks := true }, kinds := [], alts := [], laidByText := true, laidKinds := [.data, .data, .data, .data], laidTests := true, laidLooks := .later }
def MasterKnownCardSaid : Prop := Claim7.holds Tryz.pinned (.plain (OpenSpec.ofChange masterKnownSpec)) masterKnownCard

/-- THE TIED CARD OF 'treadwheellaw19.CkptKeeps'. -/
def ckptKeepsCard : Claim7 := { stood := { row := ckptKeepsRow, standIns := [], harness := (true, "db958443d00a4f9ac8b9b0340ad5cd635faa7da403e61d31589e12118e507bde"), looks := true }, kinds := [], alts := [], laidByText := true, laidKinds := [.data, .data, .data, .sentinel, .sentinel], laidTests := true, laidLooks := .later }
def CkptKeepsCardSaid : Prop := Claim7.holds Tryz.pinned (.plain (OpenSpec.ofChange ckptKeepsSpec)) ckptKeepsCard

/-- THE TIED CARD OF 'treadwheellaw19.CkptPlays'. -/
def ckptPlaysCard : Claim7 := { stood := { row := ckptPlaysRow, standIns := [], harness := (true, "db958443d00a4f9ac8b9b0340ad5cd635faa7da403e61d31589e12118e507bde"), looks := true }, kinds := [], alts := [], laidByText := true, laidKinds := [.data, .data, .data, .sentinel, .sentinel], laidTests := true, laidLooks := .later }
def CkptPlaysCardSaid : Prop := Claim7.holds Tryz.pinned (.plain (OpenSpec.ofChange ckptPlaysSpec)) ckptPlaysCard

/-- THE TIED CARD OF 'treadwheellaw19.CkptKnown'. -/
def ckptKnownCard : Claim7 := { stood := { row := ckptKnownRow, standIns := [], harness := (true, "db958443d00a4f9ac8b9b0340ad5cd635faa7da403e61d31589e12118e507bde"), looks := true }, kinds := [], alts := [], laidByText := true, laidKinds := [.data, .data, .data, .sentinel, .sentinel], laidTests := true, laidLooks := .later }
def CkptKnownCardSaid : Prop := Claim7.holds Tryz.pinned (.plain (OpenSpec.ofChange ckptKnownSpec)) ckptKnownCard

/-- THE SECOND FORM's CARD OF 'treadwheellaw24.MasterAlike'. -/
def masterAlikeUptoCard : Claim7 := { stood := { row := masterAlikeUptoRow, standIns := [], harness := (true, "db958443d00a4f9ac8b9b0340ad5cd635faa7da403e61d31589e12118e507bde"), looks := true }, kinds := [], alts := [], laidByText := true, laidKinds := [.data, .data, .data, .data], laidTests := true, laidLooks := .later }
def MasterAlikeUptoCardSaid : Prop := Claim7.holds Tryz.pinned (.plain (OpenSpec.upto masterAlikeSpec)) masterAlikeUptoCard

/-- THE SECOND FORM's CARD OF 'treadwheellaw24.MasterFollows'. -/
def masterFollowsUptoCard : Claim7 := { stood := { row := masterFollowsUptoRow, standIns := [], harness := (true, "db958443d00a4f9ac8b9b0340ad5cd635faa7da403e61d31589e12118e507bde"), looks := true }, kinds := [], alts := [], laidByText := true, laidKinds := [.data, .data, .data, .data], laidTests := true, laidLooks := .later }
def MasterFollowsUptoCardSaid : Prop := Claim7.holds Tryz.pinned (.plain (OpenSpec.upto masterFollowsSpec)) masterFollowsUptoCard

/-- THE SECOND FORM's CARD OF 'treadwheellaw19.CkptAgain'. -/
def ckptAgainUptoCard : Claim7 := { stood := { row := ckptAgainUptoRow, standIns := [], harness := (true, "db958443d00a4f9ac8b9b0340ad5cd635faa7da403e61d31589e12118e507bde"), looks := true }, kinds := [], alts := [], laidByText := true, laidKinds := [.data, .data, .data, .sentinel, .sentinel], laidTests := true, laidLooks := .later }
def CkptAgainUptoCardSaid : Prop := Claim7.holds Tryz.pinned (.plain (OpenSpec.upto ckptAgainSpec)) ckptAgainUptoCard

/-- THE SECOND FORM's CARD OF 'treadwheellaw19.CkptDrops'. -/
def ckptDropsUptoCard : Claim7 := { stood := { row := ckptDropsUptoRow, standIns := [], harness := (true, "db958443d00a4f9ac8b9b0340ad5cd635faa7da403e61d31589e12118e507bde"), looks := true }, kinds := [], alts := [], laidByText := true, laidKinds := [.data, .data, .data, .sentinel, .sentinel], laidTests := true, laidLooks := .later }
def CkptDropsUptoCardSaid : Prop := Claim7.holds Tryz.pinned (.plain (OpenSpec.upto ckptDropsSpec)) ckptDropsUptoCard

/-- THE SECOND FORM's CARD OF 'treadwheellaw24.MasterKnown'. -/
def masterKnownUptoCard : Claim7 := { stood := { row := masterKnownUptoRow, standIns := [], harness := (true, "db958443d00a4f9ac8b9b0340ad5cd635faa7da403e61d31589e12118e507bde"), looks := true }, kinds := [], alts := [], laidByText := true, laidKinds := [.data, .data, .data, .data], laidTests := true, laidLooks := .later }
def MasterKnownUptoCardSaid : Prop := Claim7.holds Tryz.pinned (.plain (OpenSpec.upto masterKnownSpec)) masterKnownUptoCard

/-- THE SECOND FORM's CARD OF 'treadwheellaw19.CkptKeeps'. -/
def ckptKeepsUptoCard : Claim7 := { stood := { row := ckptKeepsUptoRow, standIns := [], harness := (true, "db958443d00a4f9ac8b9b0340ad5cd635faa7da403e61d31589e12118e507bde"), looks := true }, kinds := [], alts := [], laidByText := true, laidKinds := [.data, .data, .data, .sentinel, .sentinel], laidTests := true, laidLooks := .later }
def CkptKeepsUptoCardSaid : Prop := Claim7.holds Tryz.pinned (.plain (OpenSpec.upto ckptKeepsSpec)) ckptKeepsUptoCard

/-- THE SECOND FORM's CARD OF 'treadwheellaw19.CkptPlays'. -/
def ckptPlaysUptoCard : Claim7 := { stood := { row := ckptPlaysUptoRow, standIns := [], harness := (true, "db958443d00a4f9ac8b9b0340ad5cd635faa7da403e61d31589e12118e507bde"), looks := true }, kinds := [], alts := [], laidByText := true, laidKinds := [.data, .data, .data, .sentinel, .sentinel], laidTests := true, laidLooks := .later }
def CkptPlaysUptoCardSaid : Prop := Claim7.holds Tryz.pinned (.plain (OpenSpec.upto ckptPlaysSpec)) ckptPlaysUptoCard

/-- THE SECOND FORM's CARD OF 'treadwheellaw19.CkptKnown'. -/
def ckptKnownUptoCard : Claim7 := { stood := { row := ckptKnownUptoRow, standIns := [], harness := (true, "db958443d00a4f9ac8b9b0340ad5cd635faa7da403e61d31589e12118e507bde"), looks := true }, kinds := [], alts := [], laidByText := true, laidKinds := [.data, .data, .data, .sentinel, .sentinel], laidTests := true, laidLooks := .later }
def CkptKnownUptoCardSaid : Prop := Claim7.holds Tryz.pinned (.plain (OpenSpec.upto ckptKnownSpec)) ckptKnownUptoCard
end Rows
end Go.Proofs.YtpjekppljaekoaaGreatDoor
